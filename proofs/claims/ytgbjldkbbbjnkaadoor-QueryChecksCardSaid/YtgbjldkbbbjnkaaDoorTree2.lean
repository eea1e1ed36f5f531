/-
  What Nodes of the reference, Depth and texts return. Printed by gen_tree.py.
-/
import Derived.Test.YtgbjldkbbbjnkaaDoorTree
namespace Go.Proofs.YtgbjldkbbbjnkaaDoor
open Go.RowKit Go.PlainAid Pl

theorem wrap_in {x : Int} (h : -9223372036854775808 ≤ x ∧ x ≤ 9223372036854775807) : IntKind.i64.wrap x = x := by rw [Go.PlainAid.i64_is]; exact Go.IntWalk.wrap64_in _ h
theorem max_if (m n : Nat) : Value.int .i64 (if m < n then (n : Int) else (m : Int)) = .int .i64 ((max m n : Nat) : Int) := by
  congr 1
  split <;> omega
def BoolIs (b : Bool) (w : World) (e : Ending) (w' : World) : Prop := e = .returned (.bool b) ∧ Below w.heap.size w w'
set_option maxHeartbeats 800000 in
set_option maxRecDepth 100000 in
theorem nodes20_ (m : Nat) : ∀ (n : Nat) (q : Qt) (v : Value) (w : World), sz q ≤ n → n ≤ m → m ≤ 4194304 → QAt w w.heap.size q v → Calls Tryd.prog 20 #[v] w (IntOut (sz q) w) := by
  intro n
  induction n with
  | zero => intro q v w h; have := sz_pos q; omega
  | succ n ih =>
    intro q v w hn hm hmm hq
    obtain ⟨o, r, t, ks⟩ := q
    obtain ⟨A, cap, rfl, _⟩ := hq.inv
    have X0 := Lib.hid (Bx.start hq)
    have IH := Lib.hid ih
    have hsz : sz (.mk o r t ks) = 1 + szs ks := by rw [sz]
    rw [hsz] at hn
    clear hq ih hsz
    obtain ⟨W0, hW0⟩ : ∃ W0, w.alloc (.cells #[.int .i64 o, .int .i64 r, .string t, .slice A ks.length cap] 25) = W0 := ⟨_, rfl⟩
    rw [hW0] at X0
    have HW := Lib.hid hW0
    have c3 := X0.out.c3
    clear hW0
    have hlen : ks.length ≤ szs ks := len_szs ks
    have hv : sz (.mk o r t ks) = 1 + szs ks := by rw [sz]
    rw [hv]
    clear hv
    go_enter Tryd.func20, Tryd.ntmps20
    go_wp2_with fail
    rw [HW.out]
    clear HW
    go_loopw [3, 4, 8] (fun s _ i wr => ∃ k : Nat, k ≤ ks.length ∧ i = .int .i64 k ∧ s = .int .i64 ((1 + szs (ks.take k) : Nat) : Int) ∧ Below W0.heap.size W0 wr) (fun _ _ i _ => ks.length - (intOf i).toNat)
    case atStart => exact ⟨0, Nat.zero_le _, rfl, by simp [szs], Below.refl _ _⟩
    case round =>
      obtain ⟨k, hk, rfl, rfl, hb⟩ := hrel
      have X1 := Lib.hid (X0.out.next hb)
      have c3' := X1.out.c3
      have hle := szs_le ks k
      by_cases hlt : k < ks.length
      · obtain ⟨kid, hkid⟩ := get_lt hlt
        have HS := Lib.hid (szs_take hkid)
        have hle2 := szs_le ks (k + 1)
        have hkm : sz kid ≤ n := by have := szs_mem (List.mem_of_getElem? hkid); omega
        rw [HS.out] at hle2
        obtain ⟨o', r', t', ks'⟩ := kid
        obtain ⟨ad, A', cap', rfl, x0, x1, x2, x3, hq'⟩ := X1.out.kid hkid
        obtain ⟨kid, hkd⟩ : ∃ kid, Qt.mk o' r' t' ks' = kid := ⟨_, rfl⟩
        rw [hkd] at hq' HS hkm hle2
        have HQ := Lib.hid hq'
        clear hkid hq' hkd
        have hwr : IntKind.i64.wrap (((1 + szs (ks.take k) : Nat) : Int) + (sz kid : Int)) = ((1 + szs (ks.take k) : Nat) : Int) + (sz kid : Int) := wrap_in (by omega)
        go_wp2_with fail
        refine (IH.out kid _ _ hkm (by omega) hmm HQ.out).mono ?_
        rintro e w1 ⟨rfl, hb1⟩
        have hb2 := hb.trans (hb1.mono hb.size)
        go_wp2_with fail
        go_roundw
        case rel => exact ⟨k + 1, by omega, by go_num, by rw [HS.out]; congr 1; omega, hb2⟩
        case measure => simp [intOf]; omega
      · obtain rfl : ks.length = k := by omega
        rw [List.take_length]
        go_wp2_with fail
        go_ret
        exact ⟨rfl, X1.out.k⟩
set_option maxHeartbeats 800000 in
set_option maxRecDepth 100000 in
theorem depth16_ (m : Nat) : ∀ (n : Nat) (q : Qt) (v : Value) (w : World), sz q ≤ n → n ≤ m → m ≤ 4194304 → QAt w w.heap.size q v → Calls Tryd.prog 16 #[v] w (IntOut (dp q) w) := by
  intro n
  induction n with
  | zero => intro q v w h; have := sz_pos q; omega
  | succ n ih =>
    intro q v w hn hm hmm hq
    obtain ⟨o, r, t, ks⟩ := q
    obtain ⟨A, cap, rfl, _⟩ := hq.inv
    have X0 := Lib.hid (Bx.start hq)
    have IH := Lib.hid ih
    have hsz : sz (.mk o r t ks) = 1 + szs ks := by rw [sz]
    rw [hsz] at hn
    clear hq ih hsz
    obtain ⟨W0, hW0⟩ : ∃ W0, w.alloc (.cells #[.int .i64 o, .int .i64 r, .string t, .slice A ks.length cap] 25) = W0 := ⟨_, rfl⟩
    rw [hW0] at X0
    have HW := Lib.hid hW0
    have c3 := X0.out.c3
    clear hW0
    have hlen : ks.length ≤ szs ks := len_szs ks
    have hv : dp (.mk o r t ks) = dps ks + 1 := by rw [dp]
    rw [hv]
    clear hv
    have hds : dps ks ≤ szs ks := dps_sz ks
    go_enter Tryd.func16, Tryd.ntmps16
    go_wp2_with fail
    rw [HW.out]
    clear HW
    go_loopw [3, 5, 9] (fun s _ i wr => ∃ k : Nat, k ≤ ks.length ∧ i = .int .i64 k ∧ s = .int .i64 ((dps (ks.take k) : Nat) : Int) ∧ Below W0.heap.size W0 wr) (fun _ _ i _ => ks.length - (intOf i).toNat)
    case atStart => exact ⟨0, Nat.zero_le _, rfl, by simp [dps], Below.refl _ _⟩
    case round =>
      obtain ⟨k, hk, rfl, rfl, hb⟩ := hrel
      have X1 := Lib.hid (X0.out.next hb)
      have c3' := X1.out.c3
      by_cases hlt : k < ks.length
      · obtain ⟨kid, hkid⟩ := get_lt hlt
        have HS := Lib.hid (dps_take hkid)
        have hkm : sz kid ≤ n := by have := szs_mem (List.mem_of_getElem? hkid); omega
        obtain ⟨o', r', t', ks'⟩ := kid
        obtain ⟨ad, A', cap', rfl, x0, x1, x2, x3, hq'⟩ := X1.out.kid hkid
        obtain ⟨kid, hkd⟩ : ∃ kid, Qt.mk o' r' t' ks' = kid := ⟨_, rfl⟩
        rw [hkd] at hq' HS hkm
        have HQ := Lib.hid (hq'.step (below_one wr (.cells #[.int .i64 o', .int .i64 r', .string t', .slice A' ks'.length cap'] 25)))
        have HB1 := Lib.hid (below_one wr (.cells #[.int .i64 o', .int .i64 r', .string t', .slice A' ks'.length cap'] 25))
        clear hkid hq' hkd
        go_wp2_with fail
        refine (IH.out kid _ _ hkm (by omega) hmm HQ.out).mono ?_
        rintro e w1 ⟨rfl, hb1⟩
        have hb2 := hb.trans ((HB1.out.trans (hb1.mono HB1.out.size)).mono hb.size)
        go_wp2_with fail
        go_roundw
        case rel => exact ⟨k + 1, by omega, by go_num, by rw [HS.out]; first | exact max_if _ _ | (congr 1; omega) | (simp only [max_if]), hb2⟩
        case measure => simp [intOf]; omega
      · obtain rfl : ks.length = k := by omega
        rw [List.take_length]
        have hwr : IntKind.i64.wrap ((dps ks : Int) + 1) = (dps ks : Int) + 1 := wrap_in (by omega)
        go_wp2_with fail
        go_ret
        exact ⟨by go_num, X1.out.k⟩
set_option maxHeartbeats 800000 in
set_option maxRecDepth 100000 in
theorem depth21_ (m : Nat) : ∀ (n : Nat) (q : Qt) (v : Value) (w : World), sz q ≤ n → n ≤ m → m ≤ 4194304 → QAt w w.heap.size q v → Calls Tryd.prog 21 #[v] w (IntOut (dp q) w) := by
  intro n
  induction n with
  | zero => intro q v w h; have := sz_pos q; omega
  | succ n ih =>
    intro q v w hn hm hmm hq
    obtain ⟨o, r, t, ks⟩ := q
    obtain ⟨A, cap, rfl, _⟩ := hq.inv
    have X0 := Lib.hid (Bx.start hq)
    have IH := Lib.hid ih
    have hsz : sz (.mk o r t ks) = 1 + szs ks := by rw [sz]
    rw [hsz] at hn
    clear hq ih hsz
    obtain ⟨W0, hW0⟩ : ∃ W0, w.alloc (.cells #[.int .i64 o, .int .i64 r, .string t, .slice A ks.length cap] 25) = W0 := ⟨_, rfl⟩
    rw [hW0] at X0
    have HW := Lib.hid hW0
    have c3 := X0.out.c3
    clear hW0
    have hlen : ks.length ≤ szs ks := len_szs ks
    have hv : dp (.mk o r t ks) = dps ks + 1 := by rw [dp]
    rw [hv]
    clear hv
    have hds : dps ks ≤ szs ks := dps_sz ks
    go_enter Tryd.func21, Tryd.ntmps21
    go_wp2_with fail
    rw [HW.out]
    clear HW
    go_loopw [3, 4, 8] (fun s _ i wr => ∃ k : Nat, k ≤ ks.length ∧ i = .int .i64 k ∧ s = .int .i64 ((dps (ks.take k) : Nat) : Int) ∧ Below W0.heap.size W0 wr) (fun _ _ i _ => ks.length - (intOf i).toNat)
    case atStart => exact ⟨0, Nat.zero_le _, rfl, by simp [dps], Below.refl _ _⟩
    case round =>
      obtain ⟨k, hk, rfl, rfl, hb⟩ := hrel
      have X1 := Lib.hid (X0.out.next hb)
      have c3' := X1.out.c3
      by_cases hlt : k < ks.length
      · obtain ⟨kid, hkid⟩ := get_lt hlt
        have HS := Lib.hid (dps_take hkid)
        have hkm : sz kid ≤ n := by have := szs_mem (List.mem_of_getElem? hkid); omega
        obtain ⟨o', r', t', ks'⟩ := kid
        obtain ⟨ad, A', cap', rfl, x0, x1, x2, x3, hq'⟩ := X1.out.kid hkid
        obtain ⟨kid, hkd⟩ : ∃ kid, Qt.mk o' r' t' ks' = kid := ⟨_, rfl⟩
        rw [hkd] at hq' HS hkm
        have HQ := Lib.hid hq'
        clear hkid hq' hkd
        go_wp2_with fail
        refine (IH.out kid _ _ hkm (by omega) hmm HQ.out).mono ?_
        rintro e w1 ⟨rfl, hb1⟩
        have hb2 := hb.trans (hb1.mono hb.size)
        go_wp2_with fail
        go_roundw
        case rel => exact ⟨k + 1, by omega, by go_num, by rw [HS.out]; first | exact max_if _ _ | (congr 1; omega) | (simp only [max_if]), hb2⟩
        case measure => simp [intOf]; omega
      · obtain rfl : ks.length = k := by omega
        rw [List.take_length]
        have hwr : IntKind.i64.wrap ((dps ks : Int) + 1) = (dps ks : Int) + 1 := wrap_in (by omega)
        go_wp2_with fail
        go_ret
        exact ⟨by go_num, X1.out.k⟩
set_option maxHeartbeats 800000 in
set_option maxRecDepth 100000 in
theorem texts28_ (m : Nat) : ∀ (n : Nat) (q : Qt) (v : Value) (w : World), sz q ≤ n → n ≤ m → m ≤ 4194304 → QAt w w.heap.size q v → Calls Tryd.prog 28 #[v] w (BoolIs (short q) w) := by
  intro n
  induction n with
  | zero => intro q v w h; have := sz_pos q; omega
  | succ n ih =>
    intro q v w hn hm hmm hq
    obtain ⟨o, r, t, ks⟩ := q
    obtain ⟨A, cap, rfl, _⟩ := hq.inv
    have X0 := Lib.hid (Bx.start hq)
    have IH := Lib.hid ih
    have hsz : sz (.mk o r t ks) = 1 + szs ks := by rw [sz]
    rw [hsz] at hn
    clear hq ih hsz
    obtain ⟨W0, hW0⟩ : ∃ W0, w.alloc (.cells #[.int .i64 o, .int .i64 r, .string t, .slice A ks.length cap] 25) = W0 := ⟨_, rfl⟩
    rw [hW0] at X0
    have HW := Lib.hid hW0
    have c3 := X0.out.c3
    clear hW0
    have hlen : ks.length ≤ szs ks := len_szs ks
    have hv : short (.mk o r t ks) = (shorts ks && decide (t.size ≤ 300)) := by rw [short]
    rw [hv]
    clear hv
    have HV := Lib.hid (fun (kid : Qt) (k : Nat) (h : ks[k]? = some kid) (hs : short kid = false) => shorts_no h hs)
    go_enter Tryd.func28, Tryd.ntmps28
    go_wp2_with fail
    rw [HW.out]
    clear HW
    go_loopw [3, 7] (fun _ i wr => ∃ k : Nat, k ≤ ks.length ∧ i = .int .i64 k ∧ shorts (ks.take k) = true ∧ Below W0.heap.size W0 wr) (fun _ i _ => ks.length - (intOf i).toNat)
    case atStart => exact ⟨0, Nat.zero_le _, rfl, by simp [shorts], Below.refl _ _⟩
    case round =>
      obtain ⟨k, hk, rfl, hall, hb⟩ := hrel
      have HALL := Lib.hid hall
      clear hall
      have X1 := Lib.hid (X0.out.next hb)
      have c3' := X1.out.c3
      have c2' := X1.out.c2
      by_cases hlt : k < ks.length
      · obtain ⟨kid, hkid⟩ := get_lt hlt
        have HS := Lib.hid (shorts_take hkid)
        have HKD := Lib.hid hkid
        have hkm : sz kid ≤ n := by have := szs_mem (List.mem_of_getElem? hkid); omega
        obtain ⟨o', r', t', ks'⟩ := kid
        obtain ⟨ad, A', cap', rfl, x0, x1, x2, x3, hq'⟩ := X1.out.kid hkid
        obtain ⟨kid, hkd⟩ : ∃ kid, Qt.mk o' r' t' ks' = kid := ⟨_, rfl⟩
        rw [hkd] at hq' HS hkm HKD
        have HQ := Lib.hid hq'
        clear hkid hq' hkd
        go_wp2_with fail
        refine (IH.out kid _ _ hkm (by omega) hmm HQ.out).mono ?_
        rintro e w1 ⟨rfl, hb1⟩
        have hb2 := hb.trans (hb1.mono hb.size)
        cases hsk : short kid
        · have HN := Lib.hid (HV.out kid k HKD.out hsk)
          go_wp2_with fail
          go_ret
          refine ⟨?_, (X0.out.next hb2).k⟩
          rw [HN.out]
          rfl
        · have HY := Lib.hid hsk
          clear hsk
          go_wp2_with fail
          go_roundw
          case rel => exact ⟨k + 1, by omega, by go_num, by rw [HS.out, HALL.out, HY.out]; rfl, hb2⟩
          case measure => simp [intOf]; omega
      · obtain rfl : ks.length = k := by omega
        have HA := Lib.hid (show shorts ks = true by have := HALL.out; rw [List.take_length] at this; exact this)
        go_wp2_with fail
        go_ret
        refine ⟨?_, X1.out.k⟩
        rw [HA.out, Bool.true_and]
        congr 2
        simp
        omega
/-- For a query that is not too great. -/
theorem nodes15 (q : Qt) (v : Value) (w : World) (hn : sz q ≤ 4194304) (h : QAt w w.heap.size q v) : Calls Tryd.prog 15 #[v] w (IntOut (sz q) w) := nodes15_ (sz q) (sz q) q v w (Nat.le_refl _) (Nat.le_refl _) hn h
theorem nodes20 (q : Qt) (v : Value) (w : World) (hn : sz q ≤ 4194304) (h : QAt w w.heap.size q v) : Calls Tryd.prog 20 #[v] w (IntOut (sz q) w) := nodes20_ (sz q) (sz q) q v w (Nat.le_refl _) (Nat.le_refl _) hn h
theorem depth16 (q : Qt) (v : Value) (w : World) (hn : sz q ≤ 4194304) (h : QAt w w.heap.size q v) : Calls Tryd.prog 16 #[v] w (IntOut (dp q) w) := depth16_ (sz q) (sz q) q v w (Nat.le_refl _) (Nat.le_refl _) hn h
theorem depth21 (q : Qt) (v : Value) (w : World) (hn : sz q ≤ 4194304) (h : QAt w w.heap.size q v) : Calls Tryd.prog 21 #[v] w (IntOut (dp q) w) := depth21_ (sz q) (sz q) q v w (Nat.le_refl _) (Nat.le_refl _) hn h
theorem texts28 (q : Qt) (v : Value) (w : World) (hn : sz q ≤ 4194304) (h : QAt w w.heap.size q v) : Calls Tryd.prog 28 #[v] w (BoolIs (short q) w) := texts28_ (sz q) (sz q) q v w (Nat.le_refl _) (Nat.le_refl _) hn h
end Go.Proofs.YtgbjldkbbbjnkaaDoor
