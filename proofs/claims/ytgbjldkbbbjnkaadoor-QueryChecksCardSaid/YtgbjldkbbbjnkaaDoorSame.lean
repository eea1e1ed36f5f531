/-
  What Same of the reference and of the program return.
-/
import Derived.Test.YtgbjldkbbbjnkaaDoorTree2
namespace Go.Proofs.YtgbjldkbbbjnkaaDoor
open Go.RowKit Go.PlainAid Pl

/-- A world of a class. -/
structure WS (D : World → Prop) where
  w : World
  h : D w
/-- A region that draws its order, whose callees may make memory: one walk of the text's order, for every world of a class. -/
theorem region_sub {P : Program} {id : Nat} {Q : Exit → Act → World → Prop} {a : Act} {w : World} {l : List Oper} (D : World → Prop) (hm : P.follows .mixedOrders = true) (hB : Region.lexB .any l.toArray = true) (hC : D w.drew)
    (h : wpQuiet P l.toArray (fun w' => ∃ x : WS D, w' = x.w) (fun a' => ∀ w', (∃ x : WS D, w' = x.w) → Q .normal a' w') l a) : (Code.region id l.toArray true).wp P Q a w :=
  wp_region_quiet (C := fun w' => ∃ x : WS D, w' = x.w) hm hB ⟨⟨_, hC⟩, rfl⟩ (by simpa using h)
theorem Bx.blk {o r : Int} {t : ByteArray} {ks : List Qt} {ad : Addr} {cap : Nat} {w W : World} (h : Bx o r t ks (some ad) cap w W) {j : Nat} {k : Qt} (hj : ks[j]? = some k) : ad.block < W.heap.size := by
  obtain ⟨v, ⟨ad', a, b, c, d, h1, h2, _⟩, _⟩ := h.q j k hj
  cases h1
  exact h2
noncomputable def sameB (a b : Qt) : Bool := @decide (a = b) (Classical.propDecidable _)
theorem same_no {a b : Qt} (h : a ≠ b) : sameB a b = false := @decide_eq_false _ (Classical.propDecidable _) h
theorem same_yes {a b : Qt} (h : a = b) : sameB a b = true := @decide_eq_true _ (Classical.propDecidable _) h
theorem same_iff {a b : Qt} : sameB a b = true ↔ a = b := ⟨(fun h => Classical.byContradiction fun hn => by rw [same_no hn] at h; cases h), same_yes⟩
theorem same_false {a b : Qt} : sameB a b = false ↔ a ≠ b := ⟨(fun h e => by rw [same_yes e] at h; cases h), same_no⟩
theorem bytes_ne {s t : ByteArray} (h : (!s.toList == t.toList) = true) : s ≠ t := fun e => by
  subst e
  simp at h
theorem bytes_eq {s t : ByteArray} (h : (s.toList == t.toList) = true) : s = t := by
  rw [Lib.toList_data, Lib.toList_data, beq_iff_eq] at h
  cases s; cases t
  congr 1
  exact Array.toList_inj.1 h
theorem kids_eq {ks ks' : List Qt} (hl : ks.length = ks'.length) (h : ∀ j, j < ks.length → ks[j]? = ks'[j]?) : ks = ks' := by
  apply List.ext_getElem?
  intro j
  rcases Nat.lt_or_ge j ks.length with hj | hj
  · exact h j hj
  · rw [List.getElem?_eq_none hj, List.getElem?_eq_none (by omega)]
set_option maxHeartbeats 1600000 in
set_option maxRecDepth 100000 in
theorem same24_ (m : Nat) : ∀ (n : Nat) (a b : Qt) (va vb : Value) (w : World), sz a ≤ n → n ≤ m → m ≤ 4194304 → QAt w w.heap.size a va → QAt w w.heap.size b vb → Calls Tryd.prog 24 #[va, vb] w (BoolIs (sameB a b) w) := by
  intro n
  induction n with
  | zero => intro a b va vb w h; have := sz_pos a; omega
  | succ n ih =>
    intro a b va vb w hn hm hmm ha hb
    obtain ⟨o, r, t, ks⟩ := a
    obtain ⟨o', r', t', ks'⟩ := b
    obtain ⟨A, cap, rfl, _⟩ := ha.inv
    obtain ⟨A', cap', rfl, _⟩ := hb.inv
    have hsz : sz (.mk o r t ks) = 1 + szs ks := by rw [sz]
    rw [hsz] at hn
    have hlen : ks.length ≤ szs ks := len_szs ks
    have IH := Lib.hid ih
    obtain ⟨W1, hW1⟩ : ∃ W1, w.alloc (.cells #[.int .i64 o, .int .i64 r, .string t, .slice A ks.length cap] 25) = W1 := ⟨_, rfl⟩
    have X0 := Bx.start ha
    have hz1 := size_one w (.cells #[.int .i64 o, .int .i64 r, .string t, .slice A ks.length cap] 25)
    have hb1 := hb.step (below_one w (.cells #[.int .i64 o, .int .i64 r, .string t, .slice A ks.length cap] 25))
    rw [hW1] at X0 hz1 hb1
    have Y0 := Lib.hid (Bx.start hb1)
    have X1 := Lib.hid (X0.next Y0.out.k)
    obtain ⟨W0, hW0⟩ : ∃ W0, W1.alloc (.cells #[.int .i64 o', .int .i64 r', .string t', .slice A' ks'.length cap'] 25) = W0 := ⟨_, rfl⟩
    rw [hW0] at Y0 X1
    have HW1 := Lib.hid hW1
    have HW := Lib.hid hW0
    have HZ := Lib.hid hz1
    have a0 := X1.out.c0
    have a1 := X1.out.c1
    have a2 := X1.out.c2
    have a3 := X1.out.c3
    have b0 := Y0.out.c0
    have b1 := Y0.out.c1
    have b2 := Y0.out.c2
    have b3 := Y0.out.c3
    rw [hz1] at b0 b1 b2 b3
    clear ha hb ih hsz hW1 hW0 hz1 hb1 X0
    have FN := Lib.hid (fun (h : ¬ (o = o' ∧ r = r' ∧ t = t' ∧ ks.length = ks'.length)) => same_no (a := .mk o r t ks) (b := .mk o' r' t' ks') (fun e => h (by cases e; exact ⟨rfl, rfl, rfl, rfl⟩)))
    by_cases e0 : o = o'
    case neg =>
      have f := Lib.hid (FN.out (fun h => e0 h.1))
      have g : (o != o') = true := by simp [e0]
      go_enter Tryd.func24, Tryd.ntmps24
      go_wp2_with fail
      rw [HW1.out, HW.out]
      go_wp2_with fail
      go_ret
      exact ⟨by rw [f.out]; rfl, X1.out.k⟩
    subst e0
    by_cases e1 : r = r'
    case neg =>
      have f := Lib.hid (FN.out (fun h => e1 h.2.1))
      have g : (r != r') = true := by simp [e1]
      go_enter Tryd.func24, Tryd.ntmps24
      go_wp2_with fail
      rw [HW1.out, HW.out]
      go_wp2_with fail
      go_ret
      exact ⟨by rw [f.out]; rfl, X1.out.k⟩
    subst e1
    cases e2 : (t.toList == t'.toList)
    case false =>
      have f := Lib.hid (FN.out (fun h => by rw [h.2.2.1] at e2; simp at e2))
      have g : (!t.toList == t'.toList) = true := by rw [e2]; rfl
      go_enter Tryd.func24, Tryd.ntmps24
      go_wp2_with fail
      rw [HW1.out, HW.out]
      go_wp2_with fail
      go_ret
      exact ⟨by rw [f.out]; rfl, X1.out.k⟩
    obtain rfl := bytes_eq e2
    clear e2
    by_cases e3 : ks.length = ks'.length
    case neg =>
      have f := Lib.hid (FN.out (fun h => e3 h.2.2.2))
      have g : ((ks.length : Int) != (ks'.length : Int)) = true := by simp; omega
      go_enter Tryd.func24, Tryd.ntmps24
      go_wp2_with fail
      rw [HW1.out, HW.out]
      go_wp2_with fail
      go_ret
      exact ⟨by rw [f.out]; rfl, X1.out.k⟩
    have g : ((ks.length : Int) != (ks'.length : Int)) = false := by simp; omega
    have E3 := Lib.hid e3
    clear e3
    have gr : (r != r) = false := by simp
    have go' : (o != o) = false := by simp
    have gt : (!t.toList == t.toList) = false := by simp
    clear FN
    go_enter Tryd.func24, Tryd.ntmps24
    go_wp2_with fail
    rw [HW1.out, HW.out]
    clear HW1 HW
    go_wp2_with fail
    go_loopw [5, 37] (fun _ i wr => ∃ k : Nat, k ≤ ks.length ∧ i = .int .i64 k ∧ (∀ j, j < k → ks[j]? = ks'[j]?) ∧ Below W0.heap.size W0 wr) (fun _ i _ => ks.length - (intOf i).toNat)
    case atStart => exact ⟨0, Nat.zero_le _, rfl, fun j hj => by omega, Below.refl _ _⟩
    case round =>
      obtain ⟨k, hk, rfl, hall, hb⟩ := hrel
      have HALL := Lib.hid hall
      have X2 := Lib.hid (X1.out.next hb)
      have Y2 := Lib.hid (Y0.out.next hb)
      clear hall
      by_cases hlt : k < ks.length
      · obtain ⟨ka, hka⟩ := get_lt hlt
        obtain ⟨kb, hkb⟩ := get_lt (show k < ks'.length by have := E3.out; omega)
        have hkm : sz ka ≤ n := by have := szs_mem (List.mem_of_getElem? hka); omega
        obtain ⟨oa, ra, ta, ksa⟩ := ka
        obtain ⟨ob, rb, tb, ksb⟩ := kb
        obtain ⟨ad, Aa, ca, rfl, x0, x1, x2, x3, hqa⟩ := X2.out.kid hka
        obtain ⟨ad', Ab, cb, rfl, y0, y1, y2, y3, hqb⟩ := Y2.out.kid hkb
        have HKA := Lib.hid hka
        have HKB := Lib.hid hkb
        clear hka hkb
        have hl' : k < ks'.length := by have := E3.out; omega
        have inst : Nonempty (WS (Below wr.heap.size wr)) := ⟨⟨_, Below.refl _ _⟩⟩
        have p3 : ∀ x : WS (Below wr.heap.size wr), x.w.cell? ⟨w.heap.size, 3, none⟩ = some (.slice (some ad) ks.length cap) := fun x => (X2.out.next x.h).c3
        have p4 : ∀ x : WS (Below wr.heap.size wr), x.w.cell? ⟨w.heap.size + 1, 3, none⟩ = some (.slice (some ad') ks'.length cap') := fun x => by
          have := (Y2.out.next x.h).c3
          rw [HZ.out] at this
          exact this
        have xblk := Lib.hid (X2.out.blk HKA.out)
        have yblk := Lib.hid (Y2.out.blk HKB.out)
        have xf0 : ∀ x : WS (Below wr.heap.size wr), x.w.cell? (ad.add (k * 4)) = some (.int .i64 oa) := fun x => (x.h.cell (p := (ad.add (k * 4))) (by show (ad.add (k * 4)).block < _; rw [block_of_add]; exact xblk.out)).trans x0
        have xf1 : ∀ x : WS (Below wr.heap.size wr), x.w.cell? ⟨(ad.add (k * 4)).block, (ad.add (k * 4)).off + 1, none⟩ = some (.int .i64 ra) := fun x => (x.h.cell (p := ⟨(ad.add (k * 4)).block, (ad.add (k * 4)).off + 1, none⟩) (by show (ad.add (k * 4)).block < _; rw [block_of_add]; exact xblk.out)).trans x1
        have xf2 : ∀ x : WS (Below wr.heap.size wr), x.w.cell? ⟨(ad.add (k * 4)).block, (ad.add (k * 4)).off + 2, none⟩ = some (.string ta) := fun x => (x.h.cell (p := ⟨(ad.add (k * 4)).block, (ad.add (k * 4)).off + 2, none⟩) (by show (ad.add (k * 4)).block < _; rw [block_of_add]; exact xblk.out)).trans x2
        have xf3 : ∀ x : WS (Below wr.heap.size wr), x.w.cell? ⟨(ad.add (k * 4)).block, (ad.add (k * 4)).off + 3, none⟩ = some (.slice Aa ksa.length ca) := fun x => (x.h.cell (p := ⟨(ad.add (k * 4)).block, (ad.add (k * 4)).off + 3, none⟩) (by show (ad.add (k * 4)).block < _; rw [block_of_add]; exact xblk.out)).trans x3
        have yf0 : ∀ x : WS (Below wr.heap.size wr), x.w.cell? (ad'.add (k * 4)) = some (.int .i64 ob) := fun x => (x.h.cell (p := (ad'.add (k * 4))) (by show (ad'.add (k * 4)).block < _; rw [block_of_add]; exact yblk.out)).trans y0
        have yf1 : ∀ x : WS (Below wr.heap.size wr), x.w.cell? ⟨(ad'.add (k * 4)).block, (ad'.add (k * 4)).off + 1, none⟩ = some (.int .i64 rb) := fun x => (x.h.cell (p := ⟨(ad'.add (k * 4)).block, (ad'.add (k * 4)).off + 1, none⟩) (by show (ad'.add (k * 4)).block < _; rw [block_of_add]; exact yblk.out)).trans y1
        have yf2 : ∀ x : WS (Below wr.heap.size wr), x.w.cell? ⟨(ad'.add (k * 4)).block, (ad'.add (k * 4)).off + 2, none⟩ = some (.string tb) := fun x => (x.h.cell (p := ⟨(ad'.add (k * 4)).block, (ad'.add (k * 4)).off + 2, none⟩) (by show (ad'.add (k * 4)).block < _; rw [block_of_add]; exact yblk.out)).trans y2
        have yf3 : ∀ x : WS (Below wr.heap.size wr), x.w.cell? ⟨(ad'.add (k * 4)).block, (ad'.add (k * 4)).off + 3, none⟩ = some (.slice Ab ksb.length cb) := fun x => (x.h.cell (p := ⟨(ad'.add (k * 4)).block, (ad'.add (k * 4)).off + 3, none⟩) (by show (ad'.add (k * 4)).block < _; rw [block_of_add]; exact yblk.out)).trans y3
        have HC := Lib.hid (show ∀ x : WS (Below wr.heap.size wr), Calls Tryd.prog 24 #[.agg #[.int .i64 oa, .int .i64 ra, .string ta, .slice Aa ksa.length ca], .agg #[.int .i64 ob, .int .i64 rb, .string tb, .slice Ab ksb.length cb]] x.w fun e w' => e = .returned (.bool (sameB (.mk oa ra ta ksa) (.mk ob rb tb ksb))) ∧ ∃ y : WS (Below wr.heap.size wr), w' = y.w from fun x =>
          (IH.out _ _ _ _ x.w hkm (by omega) hmm (hqa.step x.h) (hqb.step x.h)).mono fun e w' ⟨he, hb'⟩ => ⟨he, ⟨w', x.h.trans (hb'.mono x.h.size)⟩, rfl⟩)
        have q0 : (0 : Int) ≤ (k : Int) := by omega
        have q1 : (k : Int) < (ks.length : Int) := by omega
        have q2 : (k : Int) < (ks'.length : Int) := by omega
        have hD0 := Lib.hid (Below.refl wr.heap.size wr)
        have hsz24 := X2.out.k
        cases hs : sameB (.mk oa ra ta ksa) (.mk ob rb tb ksb)
        · rw [hs] at HC
          have hno := Lib.hid (same_no (a := .mk o r t ks) (b := .mk o r t ks') (fun e => by
            have e' : ks = ks' := by cases e; rfl
            have h1 := HKA.out
            rw [e', HKB.out] at h1
            exact same_false.1 hs (Option.some.inj h1).symm))
          clear hs x0 x1 x2 x3 y0 y1 y2 y3
          go_wp2_with fail
          refine region_sub (Below wr.heap.size wr) (by kernel_rfl) (by kernel_rfl) hD0.out.drew ?_
          repeat (first | go_big_quiet_step ((go_at_call 24; exact HC.out _)) | quiet_step ((go_at_call 24; exact HC.out _)))
          refine wpQuiet_nil ?_
          intro _ hw'
          obtain ⟨x, hw''⟩ := hw'
          subst hw''
          have hbx := x.h
          go_wp2_with fail
          go_ret
          exact ⟨by rw [hno.out]; rfl, (X2.out.next hbx).k⟩
        · rw [hs] at HC
          have hyes := Lib.hid (same_iff.1 hs)
          clear hs x0 x1 x2 x3 y0 y1 y2 y3
          go_wp2_with fail
          refine region_sub (Below wr.heap.size wr) (by kernel_rfl) (by kernel_rfl) hD0.out.drew ?_
          repeat (first | go_big_quiet_step ((go_at_call 24; exact HC.out _)) | quiet_step ((go_at_call 24; exact HC.out _)))
          refine wpQuiet_nil ?_
          intro _ hw'
          obtain ⟨x, hw''⟩ := hw'
          subst hw''
          have hbx := x.h
          go_wp2_with fail
          go_roundw
          case rel =>
            refine ⟨k + 1, by omega, by go_num, fun j hj => ?_, hb.trans (hbx.mono hb.size)⟩
            by_cases e : j = k
            · subst e
              rw [HKA.out, HKB.out, hyes.out]
            · exact HALL.out j (by omega)
          case measure => simp [intOf]; omega
      · obtain rfl : ks.length = k := by omega
        have hy := Lib.hid (same_yes (show Qt.mk o r t ks = .mk o r t ks' by rw [kids_eq E3.out HALL.out]))
        go_wp2_with fail
        go_ret
        exact ⟨by rw [hy.out]; rfl, X2.out.k⟩
theorem same24 (a b : Qt) (va vb : Value) (w : World) (hn : sz a ≤ 4194304) (ha : QAt w w.heap.size a va) (hb : QAt w w.heap.size b vb) : Calls Tryd.prog 24 #[va, vb] w (BoolIs (sameB a b) w) := same24_ (sz a) (sz a) a b va vb w (Nat.le_refl _) (Nat.le_refl _) hn ha hb
end Go.Proofs.YtgbjldkbbbjnkaaDoor
