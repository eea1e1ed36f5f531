/-
  Nodes, Depth, texts and Same for queries of any size. Printed by gen_wide.py.
-/
import Derived.Test.YtgbjldkbbbjnkaaDoorLaws
namespace Go.Proofs.YtgbjldkbbbjnkaaDoor
open Go.RowKit Go.PlainAid Pl

mutual
/-- The rows of a query are no longer than a slice can be. -/
def lb : Qt → Prop
  | .mk _ _ _ ks => ks.length ≤ 9223372036854775807 ∧ lbs ks
def lbs : List Qt → Prop
  | [] => True
  | k :: ks => lb k ∧ lbs ks
end
theorem lbs_mem : ∀ {ks : List Qt} {k : Qt}, lbs ks → k ∈ ks → lb k
  | [], k, _, h => by simp at h
  | x :: ks, k, hs, h => by
    rw [lbs] at hs
    rcases List.mem_cons.1 h with rfl | h
    · exact hs.1
    · exact lbs_mem hs.2 h
theorem lbs_all : ∀ {ks : List Qt}, (∀ k ∈ ks, lb k) → lbs ks
  | [], _ => by rw [lbs]; trivial
  | k :: ks, h => by
    rw [lbs]
    exact ⟨h k (List.mem_cons_self ..), lbs_all fun x hx => h x (List.mem_cons_of_mem _ hx)⟩
theorem lbs_get {ks : List Qt} {j : Nat} {k : Qt} (h : lbs ks) (hj : ks[j]? = some k) : lb k := lbs_mem h (List.mem_of_getElem? hj)
theorem wrap_sum (x y : Int) : IntKind.i64.wrap (IntKind.i64.wrap x + IntKind.i64.wrap y) = IntKind.i64.wrap (x + y) := by
  rw [i64_is, i64_is, i64_is, i64_is]
  unfold wrap64
  omega
theorem wrap_rng (x : Int) : -9223372036854775808 ≤ IntKind.i64.wrap x ∧ IntKind.i64.wrap x ≤ 9223372036854775807 := by
  rw [i64_is]
  unfold wrap64
  omega
/-- What nodes counts, in int. -/
def nw (q : Qt) : Int := IntKind.i64.wrap (sz q : Int)
mutual
/-- What depth counts, in int. -/
def dw : Qt → Int
  | .mk _ _ _ ks => IntKind.i64.wrap (dws ks + 1)
def dws : List Qt → Int
  | [] => 0
  | k :: ks => max (dw k) (dws ks)
end
theorem dws_pos : ∀ ks : List Qt, 0 ≤ dws ks
  | [] => by rw [dws]; omega
  | k :: ks => by rw [dws]; have := dws_pos ks; omega
theorem dws_take : ∀ {ks : List Qt} {i : Nat} {k : Qt}, ks[i]? = some k → dws (ks.take (i + 1)) = max (dws (ks.take i)) (dw k)
  | [], i, k, h => by simp at h
  | x :: ks, 0, k, h => by
    simp at h
    subst h
    simp only [List.take_succ_cons, List.take_zero, dws]
    omega
  | x :: ks, i + 1, k, h => by
    have h' : ks[i]? = some k := by simpa using h
    rw [List.take_succ_cons, List.take_succ_cons, dws, dws, dws_take h']
    omega
theorem max_ifI (m n : Int) : Value.int .i64 (if m < n then n else m) = .int .i64 (max m n) := by
  congr 1
  split <;> omega
set_option maxHeartbeats 800000 in
set_option maxRecDepth 100000 in
theorem nodes15W_ : ∀ (n : Nat) (q : Qt) (v : Value) (w : World), sz q ≤ n → lb q → QAt w w.heap.size q v → Calls Tryd.prog 15 #[v] w (IntOut (nw q) w) := by
  intro n
  induction n with
  | zero => intro q v w h; have := sz_pos q; omega
  | succ n ih =>
    intro q v w hn hlb hq
    obtain ⟨o, r, t, ks⟩ := q
    obtain ⟨A, cap, rfl, _⟩ := hq.inv
    have X0 := Lib.hid (Bx.start hq)
    have IH := Lib.hid ih
    have hsz : sz (.mk o r t ks) = 1 + szs ks := by rw [sz]
    have hnw : nw (.mk o r t ks) = IntKind.i64.wrap ((1 + szs ks : Nat) : Int) := by rw [nw, hsz]
    rw [hsz] at hn
    rw [hnw]
    clear hnw
    clear hq ih hsz
    obtain ⟨W0, hW0⟩ : ∃ W0, w.alloc (.cells #[.int .i64 o, .int .i64 r, .string t, .slice A ks.length cap] 25) = W0 := ⟨_, rfl⟩
    rw [hW0] at X0
    have HW := Lib.hid hW0
    have c3 := X0.out.c3
    clear hW0
    rw [lb] at hlb
    obtain ⟨hlen, hks⟩ := hlb
    have HLB := Lib.hid hks
    clear hks
    go_enter Tryd.func15, Tryd.ntmps15
    go_wp2_with fail
    rw [HW.out]
    clear HW
    go_loopw [3, 5, 9] (fun s _ i wr => ∃ (k : Nat) (S : Int), k ≤ ks.length ∧ i = .int .i64 k ∧ s = .int .i64 S ∧ S = IntKind.i64.wrap ((1 + szs (ks.take k) : Nat) : Int) ∧ Below W0.heap.size W0 wr) (fun _ _ i _ => ks.length - (intOf i).toNat)
    case atStart => exact ⟨0, 1, Nat.zero_le _, rfl, rfl, by rw [List.take_zero, szs]; rfl, Below.refl _ _⟩
    case round =>
      obtain ⟨k, S, hk, rfl, rfl, hS, hb⟩ := hrel
      have HSS := Lib.hid hS
      clear hS
      have X1 := Lib.hid (X0.out.next hb)
      have c3' := X1.out.c3
      by_cases hlt : k < ks.length
      · obtain ⟨kid, hkid⟩ := get_lt hlt
        have HS := Lib.hid (szs_take hkid)
        have HKL := Lib.hid (lbs_get HLB.out hkid)
        have hkm : sz kid ≤ n := by have := szs_mem (List.mem_of_getElem? hkid); omega
        obtain ⟨o', r', t', ks'⟩ := kid
        obtain ⟨ad, A', cap', rfl, x0, x1, x2, x3, hq'⟩ := X1.out.kid hkid
        obtain ⟨kid, hkd⟩ : ∃ kid, Qt.mk o' r' t' ks' = kid := ⟨_, rfl⟩
        rw [hkd] at hq' HS hkm HKL
        have HQ := Lib.hid (hq'.step (below_one wr (.cells #[.int .i64 o', .int .i64 r', .string t', .slice A' ks'.length cap'] 25)))
        have HB1 := Lib.hid (below_one wr (.cells #[.int .i64 o', .int .i64 r', .string t', .slice A' ks'.length cap'] 25))
        clear hkid hq' hkd
        obtain ⟨R, hR⟩ : ∃ R, nw kid = R := ⟨_, rfl⟩
        have HRR := Lib.hid hR
        clear hR
        go_wp2_with fail
        refine (IH.out kid _ _ hkm HKL.out HQ.out).mono ?_
        rintro e w1 ⟨rfl, hb1⟩
        rw [HRR.out]
        have hb2 := hb.trans ((HB1.out.trans (hb1.mono HB1.out.size)).mono hb.size)
        go_wp2_with fail
        go_roundw
        case rel => exact ⟨k + 1, _, by omega, by go_num, rfl, by rw [HSS.out, ← HRR.out, HS.out, nw, ← i64_is, wrap_sum]; congr 1; omega, hb2⟩
        case measure => simp [intOf]; omega
      · obtain rfl : ks.length = k := by omega
        have hfin := Lib.hid (show S = IntKind.i64.wrap ((1 + szs ks : Nat) : Int) by have := HSS.out; rw [List.take_length] at this; exact this)
        go_wp2_with fail
        go_ret
        exact ⟨by rw [hfin.out]; rfl, X1.out.k⟩
set_option maxHeartbeats 800000 in
set_option maxRecDepth 100000 in
theorem nodes20W_ : ∀ (n : Nat) (q : Qt) (v : Value) (w : World), sz q ≤ n → lb q → QAt w w.heap.size q v → Calls Tryd.prog 20 #[v] w (IntOut (nw q) w) := by
  intro n
  induction n with
  | zero => intro q v w h; have := sz_pos q; omega
  | succ n ih =>
    intro q v w hn hlb hq
    obtain ⟨o, r, t, ks⟩ := q
    obtain ⟨A, cap, rfl, _⟩ := hq.inv
    have X0 := Lib.hid (Bx.start hq)
    have IH := Lib.hid ih
    have hsz : sz (.mk o r t ks) = 1 + szs ks := by rw [sz]
    rw [hsz] at hn
    clear hq ih hsz
    obtain ⟨W0, hW0⟩ : ∃ W0, w.alloc (.cells #[.int .i64 o, .int .i64 r, .string t, .slice A ks.length cap] 25) = W0 := ⟨_, rfl⟩
    rw [hW0] at X0
    have HW := Lib.hid hW0
    have c3 := X0.out.c3
    clear hW0
    rw [lb] at hlb
    obtain ⟨hlen, hks⟩ := hlb
    have HLB := Lib.hid hks
    clear hks
    have hv : nw (.mk o r t ks) = IntKind.i64.wrap ((1 + szs ks : Nat) : Int) := by rw [nw, sz]
    rw [hv]
    clear hv
    go_enter Tryd.func20, Tryd.ntmps20
    go_wp2_with fail
    rw [HW.out]
    clear HW
    go_loopw [3, 4, 8] (fun s _ i wr => ∃ (k : Nat) (S : Int), k ≤ ks.length ∧ i = .int .i64 k ∧ s = .int .i64 S ∧ S = IntKind.i64.wrap ((1 + szs (ks.take k) : Nat) : Int) ∧ Below W0.heap.size W0 wr) (fun _ _ i _ => ks.length - (intOf i).toNat)
    case atStart => exact ⟨0, 1, Nat.zero_le _, rfl, rfl, by rw [List.take_zero, szs]; rfl, Below.refl _ _⟩
    case round =>
      obtain ⟨k, S, hk, rfl, rfl, hS, hb⟩ := hrel
      have HSS := Lib.hid hS
      clear hS
      have X1 := Lib.hid (X0.out.next hb)
      have c3' := X1.out.c3
      by_cases hlt : k < ks.length
      · obtain ⟨kid, hkid⟩ := get_lt hlt
        have HS := Lib.hid (szs_take hkid)
        have HKL := Lib.hid (lbs_get HLB.out hkid)
        have hkm : sz kid ≤ n := by have := szs_mem (List.mem_of_getElem? hkid); omega
        obtain ⟨o', r', t', ks'⟩ := kid
        obtain ⟨ad, A', cap', rfl, x0, x1, x2, x3, hq'⟩ := X1.out.kid hkid
        obtain ⟨kid, hkd⟩ : ∃ kid, Qt.mk o' r' t' ks' = kid := ⟨_, rfl⟩
        rw [hkd] at hq' HS hkm HKL
        have HQ := Lib.hid hq'
        clear hkid hq' hkd
        obtain ⟨R, hR⟩ : ∃ R, nw kid = R := ⟨_, rfl⟩
        have HRR := Lib.hid hR
        clear hR
        go_wp2_with fail
        refine (IH.out kid _ _ hkm HKL.out HQ.out).mono ?_
        rintro e w1 ⟨rfl, hb1⟩
        rw [HRR.out]
        have hb2 := hb.trans (hb1.mono hb.size)
        go_wp2_with fail
        go_roundw
        case rel => exact ⟨k + 1, _, by omega, by go_num, rfl, by rw [HSS.out, ← HRR.out, HS.out, nw, ← i64_is, wrap_sum]; congr 1; omega, hb2⟩
        case measure => simp [intOf]; omega
      · obtain rfl : ks.length = k := by omega
        have hfin := Lib.hid (show S = IntKind.i64.wrap ((1 + szs ks : Nat) : Int) by have := HSS.out; rw [List.take_length] at this; exact this)
        go_wp2_with fail
        go_ret
        exact ⟨by rw [hfin.out]; rfl, X1.out.k⟩
set_option maxHeartbeats 800000 in
set_option maxRecDepth 100000 in
theorem depth16W_ : ∀ (n : Nat) (q : Qt) (v : Value) (w : World), sz q ≤ n → lb q → QAt w w.heap.size q v → Calls Tryd.prog 16 #[v] w (IntOut (dw q) w) := by
  intro n
  induction n with
  | zero => intro q v w h; have := sz_pos q; omega
  | succ n ih =>
    intro q v w hn hlb hq
    obtain ⟨o, r, t, ks⟩ := q
    obtain ⟨A, cap, rfl, _⟩ := hq.inv
    have X0 := Lib.hid (Bx.start hq)
    have IH := Lib.hid ih
    have hsz : sz (.mk o r t ks) = 1 + szs ks := by rw [sz]
    rw [hsz] at hn
    clear hq ih hsz
    obtain ⟨W0, hW0⟩ : ∃ W0, w.alloc (.cells #[.int .i64 o, .int .i64 r, .string t, .slice A ks.length cap] 25) = W0 := ⟨_, rfl⟩
    rw [hW0] at X0
    have HW := Lib.hid hW0
    have c3 := X0.out.c3
    clear hW0
    rw [lb] at hlb
    obtain ⟨hlen, hks⟩ := hlb
    have HLB := Lib.hid hks
    clear hks
    have hv : dw (.mk o r t ks) = IntKind.i64.wrap (dws ks + 1) := by rw [dw]
    rw [hv]
    clear hv
    go_enter Tryd.func16, Tryd.ntmps16
    go_wp2_with fail
    rw [HW.out]
    clear HW
    go_loopw [3, 5, 9] (fun s _ i wr => ∃ (k : Nat) (S : Int), k ≤ ks.length ∧ i = .int .i64 k ∧ s = .int .i64 S ∧ S = dws (ks.take k) ∧ Below W0.heap.size W0 wr) (fun _ _ i _ => ks.length - (intOf i).toNat)
    case atStart => exact ⟨0, 0, Nat.zero_le _, rfl, rfl, by rw [List.take_zero, dws], Below.refl _ _⟩
    case round =>
      obtain ⟨k, S, hk, rfl, rfl, hS, hb⟩ := hrel
      have HSS := Lib.hid hS
      clear hS
      have X1 := Lib.hid (X0.out.next hb)
      have c3' := X1.out.c3
      by_cases hlt : k < ks.length
      · obtain ⟨kid, hkid⟩ := get_lt hlt
        have HS := Lib.hid (dws_take hkid)
        have HKL := Lib.hid (lbs_get HLB.out hkid)
        have hkm : sz kid ≤ n := by have := szs_mem (List.mem_of_getElem? hkid); omega
        obtain ⟨o', r', t', ks'⟩ := kid
        obtain ⟨ad, A', cap', rfl, x0, x1, x2, x3, hq'⟩ := X1.out.kid hkid
        obtain ⟨kid, hkd⟩ : ∃ kid, Qt.mk o' r' t' ks' = kid := ⟨_, rfl⟩
        rw [hkd] at hq' HS hkm HKL
        have HQ := Lib.hid (hq'.step (below_one wr (.cells #[.int .i64 o', .int .i64 r', .string t', .slice A' ks'.length cap'] 25)))
        have HB1 := Lib.hid (below_one wr (.cells #[.int .i64 o', .int .i64 r', .string t', .slice A' ks'.length cap'] 25))
        clear hkid hq' hkd
        obtain ⟨R, hR⟩ : ∃ R, dw kid = R := ⟨_, rfl⟩
        have HRR := Lib.hid hR
        clear hR
        go_wp2_with fail
        refine (IH.out kid _ _ hkm HKL.out HQ.out).mono ?_
        rintro e w1 ⟨rfl, hb1⟩
        rw [HRR.out]
        have hb2 := hb.trans ((HB1.out.trans (hb1.mono HB1.out.size)).mono hb.size)
        go_wp2_with fail
        go_roundw
        case rel => exact ⟨k + 1, max S R, by omega, by go_num, rfl, by rw [HSS.out, ← HRR.out, HS.out], hb2⟩
        case measure => simp [intOf]; omega
      · obtain rfl : ks.length = k := by omega
        have hfin := Lib.hid (show S = dws ks by have := HSS.out; rw [List.take_length] at this; exact this)
        go_wp2_with fail
        go_ret
        exact ⟨by rw [← hfin.out, i64_is]; rfl, X1.out.k⟩
set_option maxHeartbeats 800000 in
set_option maxRecDepth 100000 in
theorem depth21W_ : ∀ (n : Nat) (q : Qt) (v : Value) (w : World), sz q ≤ n → lb q → QAt w w.heap.size q v → Calls Tryd.prog 21 #[v] w (IntOut (dw q) w) := by
  intro n
  induction n with
  | zero => intro q v w h; have := sz_pos q; omega
  | succ n ih =>
    intro q v w hn hlb hq
    obtain ⟨o, r, t, ks⟩ := q
    obtain ⟨A, cap, rfl, _⟩ := hq.inv
    have X0 := Lib.hid (Bx.start hq)
    have IH := Lib.hid ih
    have hsz : sz (.mk o r t ks) = 1 + szs ks := by rw [sz]
    rw [hsz] at hn
    clear hq ih hsz
    obtain ⟨W0, hW0⟩ : ∃ W0, w.alloc (.cells #[.int .i64 o, .int .i64 r, .string t, .slice A ks.length cap] 25) = W0 := ⟨_, rfl⟩
    rw [hW0] at X0
    have HW := Lib.hid hW0
    have c3 := X0.out.c3
    clear hW0
    rw [lb] at hlb
    obtain ⟨hlen, hks⟩ := hlb
    have HLB := Lib.hid hks
    clear hks
    have hv : dw (.mk o r t ks) = IntKind.i64.wrap (dws ks + 1) := by rw [dw]
    rw [hv]
    clear hv
    go_enter Tryd.func21, Tryd.ntmps21
    go_wp2_with fail
    rw [HW.out]
    clear HW
    go_loopw [3, 4, 8] (fun s _ i wr => ∃ (k : Nat) (S : Int), k ≤ ks.length ∧ i = .int .i64 k ∧ s = .int .i64 S ∧ S = dws (ks.take k) ∧ Below W0.heap.size W0 wr) (fun _ _ i _ => ks.length - (intOf i).toNat)
    case atStart => exact ⟨0, 0, Nat.zero_le _, rfl, rfl, by rw [List.take_zero, dws], Below.refl _ _⟩
    case round =>
      obtain ⟨k, S, hk, rfl, rfl, hS, hb⟩ := hrel
      have HSS := Lib.hid hS
      clear hS
      have X1 := Lib.hid (X0.out.next hb)
      have c3' := X1.out.c3
      by_cases hlt : k < ks.length
      · obtain ⟨kid, hkid⟩ := get_lt hlt
        have HS := Lib.hid (dws_take hkid)
        have HKL := Lib.hid (lbs_get HLB.out hkid)
        have hkm : sz kid ≤ n := by have := szs_mem (List.mem_of_getElem? hkid); omega
        obtain ⟨o', r', t', ks'⟩ := kid
        obtain ⟨ad, A', cap', rfl, x0, x1, x2, x3, hq'⟩ := X1.out.kid hkid
        obtain ⟨kid, hkd⟩ : ∃ kid, Qt.mk o' r' t' ks' = kid := ⟨_, rfl⟩
        rw [hkd] at hq' HS hkm HKL
        have HQ := Lib.hid hq'
        clear hkid hq' hkd
        obtain ⟨R, hR⟩ : ∃ R, dw kid = R := ⟨_, rfl⟩
        have HRR := Lib.hid hR
        clear hR
        go_wp2_with fail
        refine (IH.out kid _ _ hkm HKL.out HQ.out).mono ?_
        rintro e w1 ⟨rfl, hb1⟩
        rw [HRR.out]
        have hb2 := hb.trans (hb1.mono hb.size)
        go_wp2_with fail
        go_roundw
        case rel => exact ⟨k + 1, max S R, by omega, by go_num, rfl, by rw [HSS.out, ← HRR.out, HS.out], hb2⟩
        case measure => simp [intOf]; omega
      · obtain rfl : ks.length = k := by omega
        have hfin := Lib.hid (show S = dws ks by have := HSS.out; rw [List.take_length] at this; exact this)
        go_wp2_with fail
        go_ret
        exact ⟨by rw [← hfin.out, i64_is]; rfl, X1.out.k⟩
set_option maxHeartbeats 800000 in
set_option maxRecDepth 100000 in
theorem texts28W_ : ∀ (n : Nat) (q : Qt) (v : Value) (w : World), sz q ≤ n → lb q → QAt w w.heap.size q v → Calls Tryd.prog 28 #[v] w (BoolIs (short q) w) := by
  intro n
  induction n with
  | zero => intro q v w h; have := sz_pos q; omega
  | succ n ih =>
    intro q v w hn hlb hq
    obtain ⟨o, r, t, ks⟩ := q
    obtain ⟨A, cap, rfl, _⟩ := hq.inv
    have X0 := Lib.hid (Bx.start hq)
    have IH := Lib.hid ih
    have hsz : sz (.mk o r t ks) = 1 + szs ks := by rw [sz]
    rw [hsz] at hn
    clear hq ih hsz
    obtain ⟨W0, hW0⟩ : ∃ W0, w.alloc (.cells #[.int .i64 o, .int .i64 r, .string t, .slice A ks.length cap] 25) = W0 := ⟨_, rfl⟩
    rw [hW0] at X0
    have HW := Lib.hid hW0
    have c3 := X0.out.c3
    clear hW0
    rw [lb] at hlb
    obtain ⟨hlen, hks⟩ := hlb
    have HLB := Lib.hid hks
    clear hks
    have hv : short (.mk o r t ks) = (shorts ks && decide (t.size ≤ 300)) := by rw [short]
    rw [hv]
    clear hv
    have HV := Lib.hid (fun (kid : Qt) (k : Nat) (h : ks[k]? = some kid) (hs : short kid = false) => shorts_no h hs)
    go_enter Tryd.func28, Tryd.ntmps28
    go_wp2_with fail
    rw [HW.out]
    clear HW
    go_loopw [3, 7] (fun _ i wr => ∃ k : Nat, k ≤ ks.length ∧ i = .int .i64 k ∧ shorts (ks.take k) = true ∧ Below W0.heap.size W0 wr) (fun _ i _ => ks.length - (intOf i).toNat)
    case atStart => exact ⟨0, Nat.zero_le _, rfl, by simp [shorts], Below.refl _ _⟩
    case round =>
      obtain ⟨k, hk, rfl, hall, hb⟩ := hrel
      have HALL := Lib.hid hall
      clear hall
      have X1 := Lib.hid (X0.out.next hb)
      have c3' := X1.out.c3
      have c2' := X1.out.c2
      by_cases hlt : k < ks.length
      · obtain ⟨kid, hkid⟩ := get_lt hlt
        have HS := Lib.hid (shorts_take hkid)
        have HKD := Lib.hid hkid
        have HKL := Lib.hid (lbs_get HLB.out hkid)
        have hkm : sz kid ≤ n := by have := szs_mem (List.mem_of_getElem? hkid); omega
        obtain ⟨o', r', t', ks'⟩ := kid
        obtain ⟨ad, A', cap', rfl, x0, x1, x2, x3, hq'⟩ := X1.out.kid hkid
        obtain ⟨kid, hkd⟩ : ∃ kid, Qt.mk o' r' t' ks' = kid := ⟨_, rfl⟩
        rw [hkd] at hq' HS hkm HKD HKL
        have HQ := Lib.hid hq'
        clear hkid hq' hkd
        go_wp2_with fail
        refine (IH.out kid _ _ hkm HKL.out HQ.out).mono ?_
        rintro e w1 ⟨rfl, hb1⟩
        have hb2 := hb.trans (hb1.mono hb.size)
        cases hsk : short kid
        · have HN := Lib.hid (HV.out kid k HKD.out hsk)
          go_wp2_with fail
          go_ret
          refine ⟨?_, (X0.out.next hb2).k⟩
          rw [HN.out]
          rfl
        · have HY := Lib.hid hsk
          clear hsk
          go_wp2_with fail
          go_roundw
          case rel => exact ⟨k + 1, by omega, by go_num, by rw [HS.out, HALL.out, HY.out]; rfl, hb2⟩
          case measure => simp [intOf]; omega
      · obtain rfl : ks.length = k := by omega
        have HA := Lib.hid (show shorts ks = true by have := HALL.out; rw [List.take_length] at this; exact this)
        go_wp2_with fail
        go_ret
        refine ⟨?_, X1.out.k⟩
        rw [HA.out, Bool.true_and]
        congr 2
        simp
        omega
set_option maxHeartbeats 1600000 in
set_option maxRecDepth 100000 in
theorem same24W_ : ∀ (n : Nat) (a b : Qt) (va vb : Value) (w : World), sz a ≤ n → lb a → QAt w w.heap.size a va → QAt w w.heap.size b vb → Calls Tryd.prog 24 #[va, vb] w (BoolIs (sameB a b) w) := by
  intro n
  induction n with
  | zero => intro a b va vb w h; have := sz_pos a; omega
  | succ n ih =>
    intro a b va vb w hn hlb ha hb
    obtain ⟨o, r, t, ks⟩ := a
    obtain ⟨o', r', t', ks'⟩ := b
    obtain ⟨A, cap, rfl, _⟩ := ha.inv
    obtain ⟨A', cap', rfl, _⟩ := hb.inv
    have hsz : sz (.mk o r t ks) = 1 + szs ks := by rw [sz]
    rw [hsz] at hn
    rw [lb] at hlb
    obtain ⟨hlen, hks⟩ := hlb
    have HLB := Lib.hid hks
    clear hks
    have IH := Lib.hid ih
    obtain ⟨W1, hW1⟩ : ∃ W1, w.alloc (.cells #[.int .i64 o, .int .i64 r, .string t, .slice A ks.length cap] 25) = W1 := ⟨_, rfl⟩
    have X0 := Bx.start ha
    have hz1 := size_one w (.cells #[.int .i64 o, .int .i64 r, .string t, .slice A ks.length cap] 25)
    have hb1 := hb.step (below_one w (.cells #[.int .i64 o, .int .i64 r, .string t, .slice A ks.length cap] 25))
    rw [hW1] at X0 hz1 hb1
    have Y0 := Lib.hid (Bx.start hb1)
    have X1 := Lib.hid (X0.next Y0.out.k)
    obtain ⟨W0, hW0⟩ : ∃ W0, W1.alloc (.cells #[.int .i64 o', .int .i64 r', .string t', .slice A' ks'.length cap'] 25) = W0 := ⟨_, rfl⟩
    rw [hW0] at Y0 X1
    have HW1 := Lib.hid hW1
    have HW := Lib.hid hW0
    have HZ := Lib.hid hz1
    have a0 := X1.out.c0
    have a1 := X1.out.c1
    have a2 := X1.out.c2
    have a3 := X1.out.c3
    have b0 := Y0.out.c0
    have b1 := Y0.out.c1
    have b2 := Y0.out.c2
    have b3 := Y0.out.c3
    rw [hz1] at b0 b1 b2 b3
    clear ha hb ih hsz hW1 hW0 hz1 hb1 X0
    have FN := Lib.hid (fun (h : ¬ (o = o' ∧ r = r' ∧ t = t' ∧ ks.length = ks'.length)) => same_no (a := .mk o r t ks) (b := .mk o' r' t' ks') (fun e => h (by cases e; exact ⟨rfl, rfl, rfl, rfl⟩)))
    by_cases e0 : o = o'
    case neg =>
      have f := Lib.hid (FN.out (fun h => e0 h.1))
      have g : (o != o') = true := by simp [e0]
      go_enter Tryd.func24, Tryd.ntmps24
      go_wp2_with fail
      rw [HW1.out, HW.out]
      go_wp2_with fail
      go_ret
      exact ⟨by rw [f.out]; rfl, X1.out.k⟩
    subst e0
    by_cases e1 : r = r'
    case neg =>
      have f := Lib.hid (FN.out (fun h => e1 h.2.1))
      have g : (r != r') = true := by simp [e1]
      go_enter Tryd.func24, Tryd.ntmps24
      go_wp2_with fail
      rw [HW1.out, HW.out]
      go_wp2_with fail
      go_ret
      exact ⟨by rw [f.out]; rfl, X1.out.k⟩
    subst e1
    cases e2 : (t.toList == t'.toList)
    case false =>
      have f := Lib.hid (FN.out (fun h => by rw [h.2.2.1] at e2; simp at e2))
      have g : (!t.toList == t'.toList) = true := by rw [e2]; rfl
      go_enter Tryd.func24, Tryd.ntmps24
      go_wp2_with fail
      rw [HW1.out, HW.out]
      go_wp2_with fail
      go_ret
      exact ⟨by rw [f.out]; rfl, X1.out.k⟩
    obtain rfl := bytes_eq e2
    clear e2
    by_cases e3 : ks.length = ks'.length
    case neg =>
      have f := Lib.hid (FN.out (fun h => e3 h.2.2.2))
      have g : ((ks.length : Int) != (ks'.length : Int)) = true := by simp; omega
      go_enter Tryd.func24, Tryd.ntmps24
      go_wp2_with fail
      rw [HW1.out, HW.out]
      go_wp2_with fail
      go_ret
      exact ⟨by rw [f.out]; rfl, X1.out.k⟩
    have g : ((ks.length : Int) != (ks'.length : Int)) = false := by simp; omega
    have E3 := Lib.hid e3
    clear e3
    have gr : (r != r) = false := by simp
    have go' : (o != o) = false := by simp
    have gt : (!t.toList == t.toList) = false := by simp
    clear FN
    go_enter Tryd.func24, Tryd.ntmps24
    go_wp2_with fail
    rw [HW1.out, HW.out]
    clear HW1 HW
    go_wp2_with fail
    go_loopw [5, 37] (fun _ i wr => ∃ k : Nat, k ≤ ks.length ∧ i = .int .i64 k ∧ (∀ j, j < k → ks[j]? = ks'[j]?) ∧ Below W0.heap.size W0 wr) (fun _ i _ => ks.length - (intOf i).toNat)
    case atStart => exact ⟨0, Nat.zero_le _, rfl, fun j hj => by omega, Below.refl _ _⟩
    case round =>
      obtain ⟨k, hk, rfl, hall, hb⟩ := hrel
      have HALL := Lib.hid hall
      have X2 := Lib.hid (X1.out.next hb)
      have Y2 := Lib.hid (Y0.out.next hb)
      clear hall
      by_cases hlt : k < ks.length
      · obtain ⟨ka, hka⟩ := get_lt hlt
        obtain ⟨kb, hkb⟩ := get_lt (show k < ks'.length by have := E3.out; omega)
        have hkm : sz ka ≤ n := by have := szs_mem (List.mem_of_getElem? hka); omega
        obtain ⟨oa, ra, ta, ksa⟩ := ka
        obtain ⟨ob, rb, tb, ksb⟩ := kb
        obtain ⟨ad, Aa, ca, rfl, x0, x1, x2, x3, hqa⟩ := X2.out.kid hka
        obtain ⟨ad', Ab, cb, rfl, y0, y1, y2, y3, hqb⟩ := Y2.out.kid hkb
        have HKA := Lib.hid hka
        have HKB := Lib.hid hkb
        clear hka hkb
        have hl' : k < ks'.length := by have := E3.out; omega
        have inst : Nonempty (WS (Below wr.heap.size wr)) := ⟨⟨_, Below.refl _ _⟩⟩
        have p3 : ∀ x : WS (Below wr.heap.size wr), x.w.cell? ⟨w.heap.size, 3, none⟩ = some (.slice (some ad) ks.length cap) := fun x => (X2.out.next x.h).c3
        have p4 : ∀ x : WS (Below wr.heap.size wr), x.w.cell? ⟨w.heap.size + 1, 3, none⟩ = some (.slice (some ad') ks'.length cap') := fun x => by
          have := (Y2.out.next x.h).c3
          rw [HZ.out] at this
          exact this
        have xblk := Lib.hid (X2.out.blk HKA.out)
        have yblk := Lib.hid (Y2.out.blk HKB.out)
        have xf0 : ∀ x : WS (Below wr.heap.size wr), x.w.cell? (ad.add (k * 4)) = some (.int .i64 oa) := fun x => (x.h.cell (p := (ad.add (k * 4))) (by show (ad.add (k * 4)).block < _; rw [block_of_add]; exact xblk.out)).trans x0
        have xf1 : ∀ x : WS (Below wr.heap.size wr), x.w.cell? ⟨(ad.add (k * 4)).block, (ad.add (k * 4)).off + 1, none⟩ = some (.int .i64 ra) := fun x => (x.h.cell (p := ⟨(ad.add (k * 4)).block, (ad.add (k * 4)).off + 1, none⟩) (by show (ad.add (k * 4)).block < _; rw [block_of_add]; exact xblk.out)).trans x1
        have xf2 : ∀ x : WS (Below wr.heap.size wr), x.w.cell? ⟨(ad.add (k * 4)).block, (ad.add (k * 4)).off + 2, none⟩ = some (.string ta) := fun x => (x.h.cell (p := ⟨(ad.add (k * 4)).block, (ad.add (k * 4)).off + 2, none⟩) (by show (ad.add (k * 4)).block < _; rw [block_of_add]; exact xblk.out)).trans x2
        have xf3 : ∀ x : WS (Below wr.heap.size wr), x.w.cell? ⟨(ad.add (k * 4)).block, (ad.add (k * 4)).off + 3, none⟩ = some (.slice Aa ksa.length ca) := fun x => (x.h.cell (p := ⟨(ad.add (k * 4)).block, (ad.add (k * 4)).off + 3, none⟩) (by show (ad.add (k * 4)).block < _; rw [block_of_add]; exact xblk.out)).trans x3
        have yf0 : ∀ x : WS (Below wr.heap.size wr), x.w.cell? (ad'.add (k * 4)) = some (.int .i64 ob) := fun x => (x.h.cell (p := (ad'.add (k * 4))) (by show (ad'.add (k * 4)).block < _; rw [block_of_add]; exact yblk.out)).trans y0
        have yf1 : ∀ x : WS (Below wr.heap.size wr), x.w.cell? ⟨(ad'.add (k * 4)).block, (ad'.add (k * 4)).off + 1, none⟩ = some (.int .i64 rb) := fun x => (x.h.cell (p := ⟨(ad'.add (k * 4)).block, (ad'.add (k * 4)).off + 1, none⟩) (by show (ad'.add (k * 4)).block < _; rw [block_of_add]; exact yblk.out)).trans y1
        have yf2 : ∀ x : WS (Below wr.heap.size wr), x.w.cell? ⟨(ad'.add (k * 4)).block, (ad'.add (k * 4)).off + 2, none⟩ = some (.string tb) := fun x => (x.h.cell (p := ⟨(ad'.add (k * 4)).block, (ad'.add (k * 4)).off + 2, none⟩) (by show (ad'.add (k * 4)).block < _; rw [block_of_add]; exact yblk.out)).trans y2
        have yf3 : ∀ x : WS (Below wr.heap.size wr), x.w.cell? ⟨(ad'.add (k * 4)).block, (ad'.add (k * 4)).off + 3, none⟩ = some (.slice Ab ksb.length cb) := fun x => (x.h.cell (p := ⟨(ad'.add (k * 4)).block, (ad'.add (k * 4)).off + 3, none⟩) (by show (ad'.add (k * 4)).block < _; rw [block_of_add]; exact yblk.out)).trans y3
        have HC := Lib.hid (show ∀ x : WS (Below wr.heap.size wr), Calls Tryd.prog 24 #[.agg #[.int .i64 oa, .int .i64 ra, .string ta, .slice Aa ksa.length ca], .agg #[.int .i64 ob, .int .i64 rb, .string tb, .slice Ab ksb.length cb]] x.w fun e w' => e = .returned (.bool (sameB (.mk oa ra ta ksa) (.mk ob rb tb ksb))) ∧ ∃ y : WS (Below wr.heap.size wr), w' = y.w from fun x =>
          (IH.out _ _ _ _ x.w hkm (lbs_get HLB.out HKA.out) (hqa.step x.h) (hqb.step x.h)).mono fun e w' ⟨he, hb'⟩ => ⟨he, ⟨w', x.h.trans (hb'.mono x.h.size)⟩, rfl⟩)
        have q0 : (0 : Int) ≤ (k : Int) := by omega
        have q1 : (k : Int) < (ks.length : Int) := by omega
        have q2 : (k : Int) < (ks'.length : Int) := by omega
        have hD0 := Lib.hid (Below.refl wr.heap.size wr)
        have hsz24 := X2.out.k
        cases hs : sameB (.mk oa ra ta ksa) (.mk ob rb tb ksb)
        · rw [hs] at HC
          have hno := Lib.hid (same_no (a := .mk o r t ks) (b := .mk o r t ks') (fun e => by
            have e' : ks = ks' := by cases e; rfl
            have h1 := HKA.out
            rw [e', HKB.out] at h1
            exact same_false.1 hs (Option.some.inj h1).symm))
          clear hs x0 x1 x2 x3 y0 y1 y2 y3
          go_wp2_with fail
          refine region_sub (Below wr.heap.size wr) (by kernel_rfl) (by kernel_rfl) hD0.out.drew ?_
          repeat (first | go_big_quiet_step ((go_at_call 24; exact HC.out _)) | quiet_step ((go_at_call 24; exact HC.out _)))
          refine wpQuiet_nil ?_
          intro _ hw'
          obtain ⟨x, hw''⟩ := hw'
          subst hw''
          have hbx := x.h
          go_wp2_with fail
          go_ret
          exact ⟨by rw [hno.out]; rfl, (X2.out.next hbx).k⟩
        · rw [hs] at HC
          have hyes := Lib.hid (same_iff.1 hs)
          clear hs x0 x1 x2 x3 y0 y1 y2 y3
          go_wp2_with fail
          refine region_sub (Below wr.heap.size wr) (by kernel_rfl) (by kernel_rfl) hD0.out.drew ?_
          repeat (first | go_big_quiet_step ((go_at_call 24; exact HC.out _)) | quiet_step ((go_at_call 24; exact HC.out _)))
          refine wpQuiet_nil ?_
          intro _ hw'
          obtain ⟨x, hw''⟩ := hw'
          subst hw''
          have hbx := x.h
          go_wp2_with fail
          go_roundw
          case rel =>
            refine ⟨k + 1, by omega, by go_num, fun j hj => ?_, hb.trans (hbx.mono hb.size)⟩
            by_cases e : j = k
            · subst e
              rw [HKA.out, HKB.out, hyes.out]
            · exact HALL.out j (by omega)
          case measure => simp [intOf]; omega
      · obtain rfl : ks.length = k := by omega
        have hy := Lib.hid (same_yes (show Qt.mk o r t ks = .mk o r t ks' by rw [kids_eq E3.out HALL.out]))
        go_wp2_with fail
        go_ret
        exact ⟨by rw [hy.out]; rfl, X2.out.k⟩
set_option maxHeartbeats 1600000 in
set_option maxRecDepth 100000 in
theorem equal34W (n : Nat) (ih : ∀ (a b : Qt) (va vb : Value) (w : World), sz a ≤ n → lb a → QAt w w.heap.size a va → QAt w w.heap.size b vb → Calls Tryd.prog 25 #[va, vb] w (BoolIs (sameB a b) w))
    (ks ks' : List Qt) (A A' : Option Addr) (cap cap' : Nat) (w : World) (hk : ∀ k ∈ ks, sz k ≤ n) (hlb : lbs ks) (hlen : ks.length ≤ 9223372036854775807) (hA : Ks w A ks) (hB : Ks w A' ks') :
    Calls Tryd.prog 34 #[.slice A ks.length cap, .slice A' ks'.length cap', .func (Fn.func 25) #[] #[]] w (BoolIs (listB ks ks') w) := by
  have IH := Lib.hid ih
  have HLB := Lib.hid hlb
  clear hlb
  have HK := Lib.hid hk
  have KA := Lib.hid hA
  have KB := Lib.hid hB
  clear ih hk hA hB
  by_cases e3 : ks.length = ks'.length
  case neg =>
    have f := Lib.hid (list_no (a := ks) (b := ks') (fun e => e3 (by rw [e])))
    have g : ((ks.length : Int) != (ks'.length : Int)) = true := by simp; omega
    go_enter Tryd.func34, Tryd.ntmps34
    go_wp2_with fail
    go_ret
    exact ⟨by rw [f.out]; rfl, Below.refl _ _⟩
  have g : ((ks.length : Int) != (ks'.length : Int)) = false := by simp; omega
  have E3 := Lib.hid e3
  clear e3
  go_enter Tryd.func34, Tryd.ntmps34
  go_wp2_with fail
  go_loopw [7, 8, 9, 17] (fun _ _ _ i wr => ∃ k : Nat, k ≤ ks.length ∧ i = .int .i64 k ∧ (∀ j, j < k → ks[j]? = ks'[j]?) ∧ Below w.heap.size w wr) (fun _ _ _ i _ => ks.length - (intOf i).toNat)
  case atStart => exact ⟨0, Nat.zero_le _, rfl, fun j hj => by omega, Below.refl _ _⟩
  case round =>
    obtain ⟨k, hk, rfl, hall, hb⟩ := hrel
    have HALL := Lib.hid hall
    clear hall
    by_cases hlt : k < ks.length
    · obtain ⟨ka, hka⟩ := get_lt hlt
      have hl' : k < ks'.length := by have := E3.out; omega
      obtain ⟨kb, hkb⟩ := get_lt hl'
      have hkm := HK.out ka (List.mem_of_getElem? hka)
      obtain ⟨oa, ra, ta, ksa⟩ := ka
      obtain ⟨ob, rb, tb, ksb⟩ := kb
      obtain ⟨ad, Aa, ca, rfl, xb, x0, x1, x2, x3, hqa⟩ := (KA.out.step hb).kid hka
      obtain ⟨ad', Ab, cb, rfl, yb, y0, y1, y2, y3, hqb⟩ := (KB.out.step hb).kid hkb
      have HKA := Lib.hid hka
      have HKB := Lib.hid hkb
      have B1 := Lib.hid (below_one wr (.cells #[.int .i64 oa, .int .i64 ra, .string ta, .slice Aa ksa.length ca] 25))
      have lift : ∀ p : Addr, p.block < wr.heap.size → (wr.alloc (.cells #[.int .i64 oa, .int .i64 ra, .string ta, .slice Aa ksa.length ca] 25)).cell? p = wr.cell? p := fun p hp => B1.out.cell (p := p) hp
      have z0 := (lift (ad'.add (k * 4)) (by rw [block_of_add]; exact yb)).trans y0
      have z1 := (lift ⟨(ad'.add (k * 4)).block, (ad'.add (k * 4)).off + 1, none⟩ (by show (ad'.add (k * 4)).block < _; rw [block_of_add]; exact yb)).trans y1
      have z2 := (lift ⟨(ad'.add (k * 4)).block, (ad'.add (k * 4)).off + 2, none⟩ (by show (ad'.add (k * 4)).block < _; rw [block_of_add]; exact yb)).trans y2
      have z3 := (lift ⟨(ad'.add (k * 4)).block, (ad'.add (k * 4)).off + 3, none⟩ (by show (ad'.add (k * 4)).block < _; rw [block_of_add]; exact yb)).trans y3
      have B2 := Lib.hid (B1.out.trans ((below_one (wr.alloc (.cells #[.int .i64 oa, .int .i64 ra, .string ta, .slice Aa ksa.length ca] 25)) (.cells #[.int .i64 ob, .int .i64 rb, .string tb, .slice Ab ksb.length cb] 25)).mono B1.out.size))
      have QA := Lib.hid (hqa.step B2.out)
      have QB := Lib.hid (hqb.step B2.out)
      clear hka hkb hqa hqb lift
      go_wp2_with fail
      refine (IH.out _ _ _ _ _ hkm (lbs_get HLB.out HKA.out) QA.out QB.out).mono ?_
      rintro e w1 ⟨rfl, hb1⟩
      have hb2 := hb.trans ((B2.out.trans (hb1.mono B2.out.size)).mono hb.size)
      cases hs : sameB (.mk oa ra ta ksa) (.mk ob rb tb ksb)
      · have hno := Lib.hid (list_no (a := ks) (b := ks') (fun e => by
          have h1 := HKA.out
          rw [e, HKB.out] at h1
          exact same_false.1 hs (Option.some.inj h1).symm))
        clear hs
        go_wp2_with fail
        go_ret
        exact ⟨by rw [hno.out]; rfl, hb2⟩
      · have hyes := Lib.hid (same_iff.1 hs)
        clear hs
        go_wp2_with fail
        go_roundw
        case rel =>
          refine ⟨k + 1, by omega, by go_num, fun j hj => ?_, hb2⟩
          by_cases e : j = k
          · subst e
            rw [HKA.out, HKB.out, hyes.out]
          · exact HALL.out j (by omega)
        case measure => simp [intOf]; omega
    · obtain rfl : ks.length = k := by omega
      have hy := Lib.hid (list_yes (kids_eq E3.out HALL.out))
      go_wp2_with fail
      go_ret
      exact ⟨by rw [hy.out]; rfl, hb⟩
set_option maxHeartbeats 1600000 in
set_option maxRecDepth 100000 in
theorem same25W_ : ∀ (n : Nat) (a b : Qt) (va vb : Value) (w : World), sz a ≤ n → lb a → QAt w w.heap.size a va → QAt w w.heap.size b vb → Calls Tryd.prog 25 #[va, vb] w (BoolIs (sameB a b) w) := by
  intro n
  induction n with
  | zero => intro a b va vb w h; have := sz_pos a; omega
  | succ n ih =>
    intro a b va vb w hn hlb ha hb
    obtain ⟨o, r, t, ks⟩ := a
    obtain ⟨o', r', t', ks'⟩ := b
    obtain ⟨A, cap, rfl, _⟩ := ha.inv
    obtain ⟨A', cap', rfl, _⟩ := hb.inv
    have hsz : sz (.mk o r t ks) = 1 + szs ks := by rw [sz]
    rw [hsz] at hn
    rw [lb] at hlb
    obtain ⟨hlen, hks⟩ := hlb
    have HLB := Lib.hid hks
    clear hks
    have IH := Lib.hid ih
    obtain ⟨W1, hW1⟩ : ∃ W1, w.alloc (.cells #[.int .i64 o, .int .i64 r, .string t, .slice A ks.length cap] 25) = W1 := ⟨_, rfl⟩
    have X0 := Bx.start ha
    have hz1 := size_one w (.cells #[.int .i64 o, .int .i64 r, .string t, .slice A ks.length cap] 25)
    have hb1 := hb.step (below_one w (.cells #[.int .i64 o, .int .i64 r, .string t, .slice A ks.length cap] 25))
    rw [hW1] at X0 hz1 hb1
    have Y0 := Lib.hid (Bx.start hb1)
    have X1 := Lib.hid (X0.next Y0.out.k)
    obtain ⟨W0, hW0⟩ : ∃ W0, W1.alloc (.cells #[.int .i64 o', .int .i64 r', .string t', .slice A' ks'.length cap'] 25) = W0 := ⟨_, rfl⟩
    rw [hW0] at Y0 X1
    have HW1 := Lib.hid hW1
    have HW := Lib.hid hW0
    have HZ := Lib.hid hz1
    have a0 := X1.out.c0
    have a1 := X1.out.c1
    have a2 := X1.out.c2
    have a3 := X1.out.c3
    have b0 := Y0.out.c0
    have b1 := Y0.out.c1
    have b2 := Y0.out.c2
    have b3 := Y0.out.c3
    rw [hz1] at b0 b1 b2 b3
    clear ha hb ih hsz hW1 hW0 hz1 hb1 X0
    have FN := Lib.hid (fun (h : ¬ (o = o' ∧ r = r' ∧ t = t' ∧ ks.length = ks'.length)) => same_no (a := .mk o r t ks) (b := .mk o' r' t' ks') (fun e => h (by cases e; exact ⟨rfl, rfl, rfl, rfl⟩)))
    by_cases e0 : o = o'
    case neg =>
      have f := Lib.hid (FN.out (fun h => e0 h.1))
      have g : (o == o') = false := by simp [e0]
      go_enter Tryd.func25, Tryd.ntmps25
      go_wp2_with fail
      rw [HW1.out, HW.out]
      go_wp2_with fail
      go_ret
      exact ⟨by rw [f.out]; rfl, X1.out.k⟩
    subst e0
    by_cases e1 : r = r'
    case neg =>
      have f := Lib.hid (FN.out (fun h => e1 h.2.1))
      have g : (r == r') = false := by simp [e1]
      have g0 : (o == o) = true := by simp
      go_enter Tryd.func25, Tryd.ntmps25
      go_wp2_with fail
      rw [HW1.out, HW.out]
      go_wp2_with fail
      go_ret
      exact ⟨by rw [f.out]; rfl, X1.out.k⟩
    subst e1
    have g0 : (o == o) = true := by simp
    have g1 : (r == r) = true := by simp
    cases e2 : (t.toList == t'.toList)
    case false =>
      have f := Lib.hid (FN.out (fun h => by rw [h.2.2.1] at e2; simp at e2))
      go_enter Tryd.func25, Tryd.ntmps25
      go_wp2_with fail
      rw [HW1.out, HW.out]
      go_wp2_with fail
      go_ret
      exact ⟨by rw [f.out]; rfl, X1.out.k⟩
    obtain rfl := bytes_eq e2
    rw [same_list]
    clear FN
    have KA := Lib.hid (show Ks W0 A ks from X1.out.q)
    have KB := Lib.hid (show Ks W0 A' ks' from Y0.out.q)
    have HC := Lib.hid (equal34W n (fun a b va vb w h1 h4 h2 h3 => IH.out a b va vb w h1 h4 h2 h3) ks ks' A A' cap cap' W0 (fun k hk => by have := szs_mem hk; omega) HLB.out hlen KA.out KB.out)
    go_enter Tryd.func25, Tryd.ntmps25
    go_wp2_with fail
    rw [HW1.out, HW.out]
    clear HW1 HW
    go_wp2_with fail
    refine HC.out.mono ?_
    rintro e w1 ⟨rfl, hb1⟩
    go_wp2_with fail
    go_ret
    exact ⟨rfl, (X1.out.next hb1).k⟩
theorem nodes15W (q : Qt) (v : Value) (w : World) (hl : lb q) (h : QAt w w.heap.size q v) : Calls Tryd.prog 15 #[v] w (IntOut (nw q) w) := nodes15W_ (sz q) q v w (Nat.le_refl _) hl h
theorem nodes20W (q : Qt) (v : Value) (w : World) (hl : lb q) (h : QAt w w.heap.size q v) : Calls Tryd.prog 20 #[v] w (IntOut (nw q) w) := nodes20W_ (sz q) q v w (Nat.le_refl _) hl h
theorem depth16W (q : Qt) (v : Value) (w : World) (hl : lb q) (h : QAt w w.heap.size q v) : Calls Tryd.prog 16 #[v] w (IntOut (dw q) w) := depth16W_ (sz q) q v w (Nat.le_refl _) hl h
theorem depth21W (q : Qt) (v : Value) (w : World) (hl : lb q) (h : QAt w w.heap.size q v) : Calls Tryd.prog 21 #[v] w (IntOut (dw q) w) := depth21W_ (sz q) q v w (Nat.le_refl _) hl h
theorem texts28W (q : Qt) (v : Value) (w : World) (hl : lb q) (h : QAt w w.heap.size q v) : Calls Tryd.prog 28 #[v] w (BoolIs (short q) w) := texts28W_ (sz q) q v w (Nat.le_refl _) hl h
theorem same24W (a b : Qt) (va vb : Value) (w : World) (hl : lb a) (ha : QAt w w.heap.size a va) (hb : QAt w w.heap.size b vb) : Calls Tryd.prog 24 #[va, vb] w (BoolIs (sameB a b) w) := same24W_ (sz a) a b va vb w (Nat.le_refl _) hl ha hb
theorem same25W (a b : Qt) (va vb : Value) (w : World) (hl : lb a) (ha : QAt w w.heap.size a va) (hb : QAt w w.heap.size b vb) : Calls Tryd.prog 25 #[va, vb] w (BoolIs (sameB a b) w) := same25W_ (sz a) a b va vb w (Nat.le_refl _) hl ha hb
end Go.Proofs.YtgbjldkbbbjnkaaDoor
