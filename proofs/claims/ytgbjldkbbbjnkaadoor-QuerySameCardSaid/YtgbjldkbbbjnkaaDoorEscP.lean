/-
  The parser of the program: its box, and what escape does.
-/
import Derived.Test.YtgbjldkbbbjnkaaDoorKids
import Derived.Laws.BitsAllLaws
namespace Go.Proofs.YtgbjldkbbbjnkaaDoor
open Go.RowKit Go.PlainAid Pl

/-! A box of three cells, and worlds that differ in it alone. -/
section
variable {w w' w'' : World} {B g : Nat} {a b c x : Value} {T : TypeId}
theorem tri_cells (h : w.heap[B]? = some (.cells #[a, b, c] T)) : w.cell? ⟨B, 0, none⟩ = some a ∧ w.cell? ⟨B, 1, none⟩ = some b ∧ w.cell? ⟨B, 2, none⟩ = some c := by
  unfold World.cell?
  simp [h]
theorem tri_soft (h : w.heap[B]? = some (.cells #[a, b, c] T)) : w.frozen? ⟨B, 0, none⟩ = false ∧ w.frozen? ⟨B, 1, none⟩ = false ∧ w.frozen? ⟨B, 2, none⟩ = false := by
  unfold World.frozen?
  simp [h]
theorem tri_set1 (h : w.heap[B]? = some (.cells #[a, b, c] T)) : (w.setCell ⟨B, 1, none⟩ x).heap[B]? = some (.cells #[a, x, c] T) := by
  unfold World.setCell
  simp [Array.getElem?_modify, h]
theorem tri_set2 (h : w.heap[B]? = some (.cells #[a, b, c] T)) : (w.setCell ⟨B, 2, none⟩ x).heap[B]? = some (.cells #[a, b, x] T) := by
  unfold World.setCell
  simp [Array.getElem?_modify, h]
theorem tri_new (w : World) (a b c : Value) (T : TypeId) : (w.alloc (.cells #[a, b, c] T)).heap[w.heap.size]? = some (.cells #[a, b, c] T) := by
  show (w.heap.push _)[w.heap.size]? = _
  simp
/-- The parser's box. -/
def PS (w : World) (g : Nat) (s : ByteArray) (k : Nat) (f : Bool) : Prop := w.heap[g]? = some (.cells #[.string s, .int .i64 (k : Int), .bool f] 45)
/-- A world that differs in new blocks and in the box alone. -/
def Onl (g : Nat) (w w' : World) : Prop := w.grownBy w' (some g)
theorem Onl.refl (g : Nat) (w : World) : Onl g w w := World.grownBy.refl w _
theorem Onl.trans (h1 : Onl g w w') (h2 : Onl g w' w'') : Onl g w w'' :=
  ⟨h2.os.trans h1.os, h2.tape.trans h1.tape, h2.output.trans h1.output, Nat.le_trans h1.size h2.size, fun k hk hn => (h2.block k (Nat.lt_of_lt_of_le hk h1.size) hn).trans (h1.block k hk hn)⟩
theorem Onl.below (h : Below w.heap.size w w') : Onl g w w' := only_of_below h _
theorem Onl.set (h : Onl g w w') (o : Nat) (u : Value) : Onl g w (w'.setCell ⟨g, o, none⟩ u) :=
  ⟨h.os, h.tape, h.output, by simpa using h.size, fun k hk hn => by
    rw [← h.block k hk hn]
    have hne : k ≠ g := fun e => hn (by rw [e])
    unfold World.setCell
    simp [Array.getElem?_modify, Ne.symm hne]⟩
theorem Onl.drewN (h : Onl g w w') (n : Nat) : Onl g w (w'.drewN n) := ⟨h.os, h.tape, h.output, h.size, h.block⟩
theorem Onl.alloc (h : Onl g w w') (o : Obj) : Onl g w (w'.alloc o) := h.trans (Onl.below (below_one w' o))
theorem Onl.to (h : Onl g w w') (hb : B ≤ g) (hB : B ≤ w.heap.size) : Below B w w' := ⟨h.os, h.tape, h.output, h.size, fun i hi => h.block i (by omega) (fun e => by cases e; omega)⟩
theorem PS.below {s : ByteArray} {k : Nat} {f : Bool} (h : PS w g s k f) (hb : Below w.heap.size w w') : PS w' g s k f := heap_below h hb
theorem PS.lt {s : ByteArray} {k : Nat} {f : Bool} (h : PS w g s k f) : g < w.heap.size := (Array.getElem?_eq_some_iff.1 h).1
theorem PS.drewN {s : ByteArray} {k : Nat} {f : Bool} (h : PS w g s k f) (n : Nat) : PS (w.drewN n) g s k f := h
theorem PS.at_ {s : ByteArray} {k k' : Nat} {f : Bool} {j : Int} (h : PS w g s k f) (hj : j = (k' : Int)) : PS (w.setCell ⟨g, 1, none⟩ (.int .i64 j)) g s k' f := by
  subst hj
  exact tri_set1 h
theorem PS.fail {s : ByteArray} {k : Nat} {f : Bool} (h : PS w g s k f) (f' : Bool) : PS (w.setCell ⟨g, 2, none⟩ (.bool f')) g s k f' := tri_set2 h
end
/-! slices.Contains of the four first digits. -/
def first4 (x : Int) : Int := if x = 0 then 0 else if x = 1 then 1 else if x = 2 then 2 else if x = 7 then 3 else -1
theorem index76 (x : Int) (g : Nat) (w : World) (c0 : w.cell? ⟨g, 0, none⟩ = some (.int .u8 0)) (c1 : w.cell? ⟨g, 1, none⟩ = some (.int .u8 1)) (c2 : w.cell? ⟨g, 2, none⟩ = some (.int .u8 2)) (c3 : w.cell? ⟨g, 3, none⟩ = some (.int .u8 7)) :
    Calls Tryd.prog 76 #[.slice (some ⟨g, 0, none⟩) 4 4, .int .u8 x] w fun e w' => e = .returned (.int .i64 (first4 x)) ∧ w = w' := by
  cases a0 : (x == 0)
  case true =>
    have f := Lib.hid (show first4 x = 0 by simp at a0; simp [first4, a0])
    go_enter Tryd.func76, Tryd.ntmps76
    go_wp2_with fail
    go_rounds 1
    go_ret
    exact ⟨by rw [f.out]; rfl, rfl⟩
  cases a1 : (x == 1)
  case true =>
    have f := Lib.hid (show first4 x = 1 by simp at a0 a1; simp [first4, a1])
    go_enter Tryd.func76, Tryd.ntmps76
    go_wp2_with fail
    go_rounds 2
    go_ret
    exact ⟨by rw [f.out]; rfl, rfl⟩
  cases a2 : (x == 2)
  case true =>
    have f := Lib.hid (show first4 x = 2 by simp at a0 a1 a2; simp [first4, a2])
    go_enter Tryd.func76, Tryd.ntmps76
    go_wp2_with fail
    go_rounds 3
    go_ret
    exact ⟨by rw [f.out]; rfl, rfl⟩
  cases a7 : (x == 7)
  case true =>
    have f := Lib.hid (show first4 x = 3 by simp at a0 a1 a2 a7; simp [first4, a7])
    go_enter Tryd.func76, Tryd.ntmps76
    go_wp2_with fail
    go_rounds 4
    go_ret
    exact ⟨by rw [f.out]; rfl, rfl⟩
  have f := Lib.hid (show first4 x = -1 by simp at a0 a1 a2 a7; simp [first4, a0, a1, a2, a7])
  go_enter Tryd.func76, Tryd.ntmps76
  go_wp2_with fail
  go_rounds 5
  go_ret
  exact ⟨by rw [f.out]; rfl, rfl⟩
theorem first4_hi (x : Int) : decide (0 ≤ first4 x) = hiB x := by
  unfold first4 hiB
  by_cases h0 : x = 0
  · simp [h0]
  · by_cases h1 : x = 1
    · simp [h1]
    · by_cases h2 : x = 2
      · simp [h2]
      · by_cases h7 : x = 7
        · simp [h7]
        · simp [h0, h1, h2, h7]
theorem contains64 (x : Int) (w : World) : Calls Tryd.prog 64 #[.slice (some ⟨w.heap.size, 0, none⟩) 4 4, .int .u8 x] (w.alloc (.cells #[.int .u8 0, .int .u8 1, .int .u8 2, .int .u8 7] 5)) fun e w' => e = .returned (.bool (hiB x)) ∧ w.alloc (.cells #[.int .u8 0, .int .u8 1, .int .u8 2, .int .u8 7] 5) = w' := by
  obtain ⟨c0, c1, c2, c3⟩ := quad_cells (quad_new w (.int .u8 0) (.int .u8 1) (.int .u8 2) (.int .u8 7) 5)
  generalize w.alloc (.cells #[.int .u8 0, .int .u8 1, .int .u8 2, .int .u8 7] 5) = w1 at c0 c1 c2 c3 ⊢
  have H := Lib.hid (index76 x w.heap.size w1 c0 c1 c2 c3)
  have F := Lib.hid (first4_hi x)
  clear c0 c1 c2 c3
  go_enter Tryd.func64, Tryd.ntmps64
  go_wp2_with fail
  refine H.out.mono ?_
  rintro e w' ⟨rfl, rfl⟩
  go_wp2_with fail
  go_ret
  exact ⟨by rw [← F.out]; rfl, rfl⟩
theorem or_digits8 {x y : Int} (x0 : 0 ≤ x) (x1 : x ≤ 15) (y0 : 0 ≤ y) (y1 : y ≤ 15) : bits .or .u8 (x * 16) y = x * 16 + y := by
  obtain ⟨a, rfl⟩ := Int.eq_ofNat_of_zero_le x0
  obtain ⟨b, rfl⟩ := Int.eq_ofNat_of_zero_le y0
  have e : ((a : Int) * 16) = ((a * 16 : Nat) : Int) := by omega
  rw [e, u8_or_nat _ _ (by omega) (by omega)]
  have h := Nat.two_pow_add_eq_or_of_lt (i := 4) (b := b) (by omega) a
  rw [show 2 ^ 4 * a = a * 16 by omega] at h
  rw [← h]
  omega
/-- What escape does: the byte, whether the word is that of the empty string, and where the parser stands. -/
def escS (b : Bool) (r : List UInt8) : Bool := b && (r.take 1 == [45])
def EscPOut (b : Bool) (g : Nat) (s : ByteArray) (k : Nat) (w : World) (e : Ending) (w' : World) : Prop :=
  Onl g w w' ∧ ((escS b (rest s k) = true ∧ e = .returned (.tuple #[.int .u8 0, .bool true]) ∧ PS w' g s (k + 1) false) ∨
    (escS b (rest s k) = false ∧ ∃ n, esc (rest s k) = .bad n ∧ e = .returned (.tuple #[.int .u8 0, .bool false]) ∧ PS w' g s (k + n) true) ∨
    (escS b (rest s k) = false ∧ ∃ v, esc (rest s k) = .ok v 2 ∧ e = .returned (.tuple #[.int .u8 (v.toNat : Int), .bool false]) ∧ PS w' g s (k + 2) false))
theorem escS_no {s : ByteArray} {k : Nat} (b : Bool) (hk : s.size ≤ k) : escS b (rest s k) = false := by
  rw [rest_nil s k hk]
  cases b <;> rfl
theorem escS_at {s : ByteArray} {k : Nat} (b : Bool) (hk : k < s.size) : escS b (rest s k) = (b && (bt s k == 45)) := by
  unfold escS
  rw [rest_cons s k hk]
  congr 1
  rw [Bool.eq_iff_iff]
  simp
  exact (bt_at hk (c := 45)).symm
theorem escP_bad {b : Bool} {g : Nat} {s : ByteArray} {k n : Nat} {w w' : World} (h1 : escS b (rest s k) = false) (h2 : esc (rest s k) = .bad n) (h3 : Onl g w w') (h4 : PS w' g s (k + n) true) : EscPOut b g s k w (.returned (.tuple #[.int .u8 0, .bool false])) w' :=
  ⟨h3, .inr (.inl ⟨h1, n, h2, rfl, h4⟩)⟩
theorem hiB_no {c : Int} (h : hxB c = false) : hiB (hvI c) = false := by
  have hb := hvI_bd c
  unfold hxB at h
  simp at h
  have : hvI c = -1 := by omega
  rw [this]
  rfl
theorem hx_at {c : Int} (h : hxB c = true) : ∃ x, hvI c = x ∧ 0 ≤ x ∧ hxV c = x := by
  unfold hxB at h
  simp at h
  exact ⟨_, rfl, h, by rw [hxV, if_pos h]⟩
set_option maxHeartbeats 6400000 in
set_option maxRecDepth 100000 in
theorem escape52 (b : Bool) (g : Nat) (s : ByteArray) (k : Nat) (w : World) (hk : k ≤ s.size) (hs : s.size ≤ 4194304) (hp : PS w g s k false) : Calls Tryd.prog 52 #[.pointer (some ⟨g, 0, none⟩), .bool b] w (EscPOut b g s k w) := by
  have hbt := get_bt s
  obtain ⟨c0, c1, c2⟩ := tri_cells hp
  obtain ⟨f0, f1, f2⟩ := tri_soft hp
  have HPw := Lib.hid hp
  have HOw := Lib.hid (Onl.refl g w)
  clear hp
  by_cases h1 : k < s.size
  case neg =>
    have hE := Lib.hid (escS_no (k := k) (s := s) b (by omega))
    have he := Lib.hid (esc_at (s := s) (k := k) (by omega))
    have d1 : decide ((k : Int) < (s.size : Int)) = false := by simp; omega
    have d2 : ¬ ((k : Int) < (s.size : Int)) := by omega
    go_enter Tryd.func52, Tryd.ntmps52
    go_wp2_with fail
    go_quiet (fail)
    go_wp2_with fail
    go_ret2
    exact escP_bad hE.out he.out ((HOw.out.set 2 _).drewN _) (HPw.out.fail true)
  have e1 : (k : Int) < (s.size : Int) := by omega
  have e0 : (0 : Int) ≤ (k : Int) := by omega
  have b0 := bt_nonneg s k
  have b1 := bt_le s k
  cases hS : (b && (bt s k == 45))
  case true =>
    have hE := Lib.hid ((escS_at b h1).trans hS)
    simp only [Bool.and_eq_true] at hS
    obtain ⟨hb, h45⟩ := hS
    subst hb
    go_enter Tryd.func52, Tryd.ntmps52
    go_wp2_with fail
    go_quiet (fail)
    go_wp2_with fail
    go_quiet (fail)
    go_wp2_with fail
    go_ret2
    exact ⟨(HOw.out.drewN _).set 1 _, .inl ⟨hE.out, rfl, HPw.out.at_ (by omega)⟩⟩
  have hE := Lib.hid ((escS_at b h1).trans hS)
  have hcase : (bt s k == 45) = false ∨ ((bt s k == 45) = true ∧ b = false) := by
    cases h : (bt s k == 45)
    · exact .inl rfl
    · rw [h] at hS; simp at hS; exact .inr ⟨rfl, hS⟩
  clear hS
  have D1 := Lib.hid (fun w => hex63 (bt s k) w b0 b1)
  have c0' := bt_nonneg s (k + 1)
  have c1' := bt_le s (k + 1)
  have D2 := Lib.hid (fun w => hex63 (bt s (k + 1)) w c0' c1')
  have hvb := hvI_bd (bt s k)
  have hvb2 := hvI_bd (bt s (k + 1))
  cases hx : hxB (bt s k)
  · have he := Lib.hid (esc_hi h1 (hiB_no hx))
    rw [hx] at D1
    clear hx hvb hvb2
    rcases hcase with h45 | ⟨h45, rfl⟩
    all_goals
      go_enter Tryd.func52, Tryd.ntmps52
      go_wp2_with fail
      go_quiet (fail)
      have HPw1 := Lib.hid (show PS (w.drewN nq) g s k false from HPw.out)
      have HOw1 := Lib.hid (show Onl g w (w.drewN nq) from HOw.out.drewN nq)
      clear c0 c1 c2 f0 f1 f2
      generalize w.drewN nq = w1 at HPw1 HOw1 ⊢
      obtain ⟨c0, c1, c2⟩ := tri_cells HPw1.out
      obtain ⟨f0, f1, f2⟩ := tri_soft HPw1.out
      go_wp2_with fail
      go_quiet (fail)
      have HPw2 := Lib.hid (show PS (w1.drewN nq) g s k false from HPw1.out)
      have HOw2 := Lib.hid (show Onl g w (w1.drewN nq) from HOw1.out.drewN nq)
      clear c0 c1 c2 f0 f1 f2
      generalize w1.drewN nq = w2 at HPw2 HOw2 ⊢
      obtain ⟨c0, c1, c2⟩ := tri_cells HPw2.out
      obtain ⟨f0, f1, f2⟩ := tri_soft HPw2.out
      go_wp2_with fail
      go_quiet ((go_at_call 63; with_reducible exact Calls.quiet_of_same (D1.out _)))
      have HPw3 := Lib.hid (show PS (w2.drewN nq) g s k false from HPw2.out)
      have HOw3 := Lib.hid (show Onl g w (w2.drewN nq) from HOw2.out.drewN nq)
      clear c0 c1 c2 f0 f1 f2
      generalize w2.drewN nq = w3 at HPw3 HOw3 ⊢
      obtain ⟨c0, c1, c2⟩ := tri_cells HPw3.out
      obtain ⟨f0, f1, f2⟩ := tri_soft HPw3.out
      go_wp2_with fail
      go_ret2
      exact escP_bad hE.out he.out (HOw3.out.set 2 _) (HPw3.out.fail true)
  obtain ⟨x, hvx, x0, hxv⟩ := hx_at hx
  have HVX := Lib.hid hvx
  rw [hx, hxv] at D1
  rw [hvx] at hvb
  clear hx hxv hvx
  cases hi : hiB x
  · have he := Lib.hid (esc_hi h1 (by rw [HVX.out]; exact hi))
    have HI := Lib.hid hi
    clear hi hvb2
    rcases hcase with h45 | ⟨h45, rfl⟩
    all_goals
      go_enter Tryd.func52, Tryd.ntmps52
      go_wp2_with fail
      go_quiet (fail)
      have HPw1 := Lib.hid (show PS (w.drewN nq) g s k false from HPw.out)
      have HOw1 := Lib.hid (show Onl g w (w.drewN nq) from HOw.out.drewN nq)
      clear c0 c1 c2 f0 f1 f2
      generalize w.drewN nq = w1 at HPw1 HOw1 ⊢
      obtain ⟨c0, c1, c2⟩ := tri_cells HPw1.out
      obtain ⟨f0, f1, f2⟩ := tri_soft HPw1.out
      go_wp2_with fail
      go_quiet (fail)
      have HPw2 := Lib.hid (show PS (w1.drewN nq) g s k false from HPw1.out)
      have HOw2 := Lib.hid (show Onl g w (w1.drewN nq) from HOw1.out.drewN nq)
      clear c0 c1 c2 f0 f1 f2
      generalize w1.drewN nq = w2 at HPw2 HOw2 ⊢
      obtain ⟨c0, c1, c2⟩ := tri_cells HPw2.out
      obtain ⟨f0, f1, f2⟩ := tri_soft HPw2.out
      go_wp2_with fail
      go_quiet ((go_at_call 63; with_reducible exact Calls.quiet_of_same (D1.out _)))
      have HPw3 := Lib.hid (show PS (w2.drewN nq) g s k false from HPw2.out)
      have HOw3 := Lib.hid (show Onl g w (w2.drewN nq) from HOw2.out.drewN nq)
      clear c0 c1 c2 f0 f1 f2
      generalize w2.drewN nq = w3 at HPw3 HOw3 ⊢
      obtain ⟨c0, c1, c2⟩ := tri_cells HPw3.out
      obtain ⟨f0, f1, f2⟩ := tri_soft HPw3.out
      go_wp2_with fail
      refine (contains64 _ _).mono ?_
      rintro e w' ⟨rfl, hw4⟩
      rw [HI.out]
      have HP4 := Lib.hid (show PS w' g s k false by rw [← hw4]; exact HPw3.out.below (below_one _ _))
      have HO4 := Lib.hid (show Onl g w w' by rw [← hw4]; exact HOw3.out.alloc _)
      clear hw4 c0 c1 c2 f0 f1 f2
      obtain ⟨c0, c1, c2⟩ := tri_cells HP4.out
      obtain ⟨f0, f1, f2⟩ := tri_soft HP4.out
      go_wp2_with fail
      go_ret2
      exact escP_bad hE.out he.out (HO4.out.set 2 _) (HP4.out.fail true)
  have x7 : x ≤ 7 := (by have := hi_yes hi; omega)
  have HI := Lib.hid hi
  clear hi
  have g1 : IntKind.i64.wrap ((k : Int) + 1) = (k : Int) + 1 := wrap_in (by omega)
  have j0 : (0 : Int) ≤ (k : Int) + 1 := by omega
  have j1 : ((k : Int) + 1).toNat = k + 1 := by omega
  by_cases h2 : k + 1 < s.size
  case neg =>
    have he := Lib.hid (esc_short h1 (by rw [HVX.out]; exact HI.out) (by omega))
    have d1 : decide ((k : Int) + 1 < (s.size : Int)) = false := by simp; omega
    have d2 : ¬ ((k : Int) + 1 < (s.size : Int)) := by omega
    clear hvb2
    rcases hcase with h45 | ⟨h45, rfl⟩
    all_goals
      go_enter Tryd.func52, Tryd.ntmps52
      go_wp2_with fail
      go_quiet (fail)
      have HPw1 := Lib.hid (show PS (w.drewN nq) g s k false from HPw.out)
      have HOw1 := Lib.hid (show Onl g w (w.drewN nq) from HOw.out.drewN nq)
      clear c0 c1 c2 f0 f1 f2
      generalize w.drewN nq = w1 at HPw1 HOw1 ⊢
      obtain ⟨c0, c1, c2⟩ := tri_cells HPw1.out
      obtain ⟨f0, f1, f2⟩ := tri_soft HPw1.out
      go_wp2_with fail
      go_quiet (fail)
      have HPw2 := Lib.hid (show PS (w1.drewN nq) g s k false from HPw1.out)
      have HOw2 := Lib.hid (show Onl g w (w1.drewN nq) from HOw1.out.drewN nq)
      clear c0 c1 c2 f0 f1 f2
      generalize w1.drewN nq = w2 at HPw2 HOw2 ⊢
      obtain ⟨c0, c1, c2⟩ := tri_cells HPw2.out
      obtain ⟨f0, f1, f2⟩ := tri_soft HPw2.out
      go_wp2_with fail
      go_quiet ((go_at_call 63; with_reducible exact Calls.quiet_of_same (D1.out _)))
      have HPw3 := Lib.hid (show PS (w2.drewN nq) g s k false from HPw2.out)
      have HOw3 := Lib.hid (show Onl g w (w2.drewN nq) from HOw2.out.drewN nq)
      clear c0 c1 c2 f0 f1 f2
      generalize w2.drewN nq = w3 at HPw3 HOw3 ⊢
      obtain ⟨c0, c1, c2⟩ := tri_cells HPw3.out
      obtain ⟨f0, f1, f2⟩ := tri_soft HPw3.out
      go_wp2_with fail
      refine (contains64 _ _).mono ?_
      rintro e w' ⟨rfl, hw4⟩
      rw [HI.out]
      have HP4 := Lib.hid (show PS w' g s k false by rw [← hw4]; exact HPw3.out.below (below_one _ _))
      have HO4 := Lib.hid (show Onl g w w' by rw [← hw4]; exact HOw3.out.alloc _)
      clear hw4 c0 c1 c2 f0 f1 f2
      obtain ⟨c0, c1, c2⟩ := tri_cells HP4.out
      obtain ⟨f0, f1, f2⟩ := tri_soft HP4.out
      go_upto_region 13 with (fail)
      have HPw5 := Lib.hid (show PS (w'.setCell ⟨g, 1, none⟩ (.int .i64 ((k : Int) + 1))) g s (k + 1) false from HP4.out.at_ (by omega))
      have HOw5 := Lib.hid (show Onl g w (w'.setCell ⟨g, 1, none⟩ (.int .i64 ((k : Int) + 1))) from HO4.out.set 1 _)
      clear c0 c1 c2 f0 f1 f2
      generalize w'.setCell ⟨g, 1, none⟩ (.int .i64 ((k : Int) + 1)) = w5 at HPw5 HOw5 ⊢
      obtain ⟨c0, c1, c2⟩ := tri_cells HPw5.out
      obtain ⟨f0, f1, f2⟩ := tri_soft HPw5.out
      rw [show ((k + 1 : Nat) : Int) = (k : Int) + 1 from rfl] at c1
      go_quiet (fail)
      have HPw6 := Lib.hid (show PS (w5.drewN nq) g s (k + 1) false from HPw5.out)
      have HOw6 := Lib.hid (show Onl g w (w5.drewN nq) from HOw5.out.drewN nq)
      clear c0 c1 c2 f0 f1 f2
      generalize w5.drewN nq = w6 at HPw6 HOw6 ⊢
      obtain ⟨c0, c1, c2⟩ := tri_cells HPw6.out
      obtain ⟨f0, f1, f2⟩ := tri_soft HPw6.out
      rw [show ((k + 1 : Nat) : Int) = (k : Int) + 1 from rfl] at c1
      go_wp2_with fail
      go_ret2
      exact escP_bad hE.out he.out (HOw6.out.set 2 _) (HPw6.out.fail true)
  have h2i : (k : Int) + 1 < (s.size : Int) := by omega
  cases hy : hxB (bt s (k + 1))
  · have he := Lib.hid (esc_lo h1 (by rw [HVX.out]; exact HI.out) h2 (by unfold hxB at hy; simp at hy; exact hy))
    rw [hy] at D2
    clear hy hvb2
    rcases hcase with h45 | ⟨h45, rfl⟩
    all_goals
      go_enter Tryd.func52, Tryd.ntmps52
      go_wp2_with fail
      go_quiet (fail)
      have HPw1 := Lib.hid (show PS (w.drewN nq) g s k false from HPw.out)
      have HOw1 := Lib.hid (show Onl g w (w.drewN nq) from HOw.out.drewN nq)
      clear c0 c1 c2 f0 f1 f2
      generalize w.drewN nq = w1 at HPw1 HOw1 ⊢
      obtain ⟨c0, c1, c2⟩ := tri_cells HPw1.out
      obtain ⟨f0, f1, f2⟩ := tri_soft HPw1.out
      go_wp2_with fail
      go_quiet (fail)
      have HPw2 := Lib.hid (show PS (w1.drewN nq) g s k false from HPw1.out)
      have HOw2 := Lib.hid (show Onl g w (w1.drewN nq) from HOw1.out.drewN nq)
      clear c0 c1 c2 f0 f1 f2
      generalize w1.drewN nq = w2 at HPw2 HOw2 ⊢
      obtain ⟨c0, c1, c2⟩ := tri_cells HPw2.out
      obtain ⟨f0, f1, f2⟩ := tri_soft HPw2.out
      go_wp2_with fail
      go_quiet ((go_at_call 63; with_reducible exact Calls.quiet_of_same (D1.out _)))
      have HPw3 := Lib.hid (show PS (w2.drewN nq) g s k false from HPw2.out)
      have HOw3 := Lib.hid (show Onl g w (w2.drewN nq) from HOw2.out.drewN nq)
      clear c0 c1 c2 f0 f1 f2
      generalize w2.drewN nq = w3 at HPw3 HOw3 ⊢
      obtain ⟨c0, c1, c2⟩ := tri_cells HPw3.out
      obtain ⟨f0, f1, f2⟩ := tri_soft HPw3.out
      go_wp2_with fail
      refine (contains64 _ _).mono ?_
      rintro e w' ⟨rfl, hw4⟩
      rw [HI.out]
      have HP4 := Lib.hid (show PS w' g s k false by rw [← hw4]; exact HPw3.out.below (below_one _ _))
      have HO4 := Lib.hid (show Onl g w w' by rw [← hw4]; exact HOw3.out.alloc _)
      clear hw4 c0 c1 c2 f0 f1 f2
      obtain ⟨c0, c1, c2⟩ := tri_cells HP4.out
      obtain ⟨f0, f1, f2⟩ := tri_soft HP4.out
      go_upto_region 13 with (fail)
      have HPw5 := Lib.hid (show PS (w'.setCell ⟨g, 1, none⟩ (.int .i64 ((k : Int) + 1))) g s (k + 1) false from HP4.out.at_ (by omega))
      have HOw5 := Lib.hid (show Onl g w (w'.setCell ⟨g, 1, none⟩ (.int .i64 ((k : Int) + 1))) from HO4.out.set 1 _)
      clear c0 c1 c2 f0 f1 f2
      generalize w'.setCell ⟨g, 1, none⟩ (.int .i64 ((k : Int) + 1)) = w5 at HPw5 HOw5 ⊢
      obtain ⟨c0, c1, c2⟩ := tri_cells HPw5.out
      obtain ⟨f0, f1, f2⟩ := tri_soft HPw5.out
      rw [show ((k + 1 : Nat) : Int) = (k : Int) + 1 from rfl] at c1
      go_quiet (fail)
      have HPw6 := Lib.hid (show PS (w5.drewN nq) g s (k + 1) false from HPw5.out)
      have HOw6 := Lib.hid (show Onl g w (w5.drewN nq) from HOw5.out.drewN nq)
      clear c0 c1 c2 f0 f1 f2
      generalize w5.drewN nq = w6 at HPw6 HOw6 ⊢
      obtain ⟨c0, c1, c2⟩ := tri_cells HPw6.out
      obtain ⟨f0, f1, f2⟩ := tri_soft HPw6.out
      rw [show ((k + 1 : Nat) : Int) = (k : Int) + 1 from rfl] at c1
      go_wp2_with fail
      go_quiet ((go_at_call 63; with_reducible exact Calls.quiet_of_same (D2.out _)))
      have HPw7 := Lib.hid (show PS (w6.drewN nq) g s (k + 1) false from HPw6.out)
      have HOw7 := Lib.hid (show Onl g w (w6.drewN nq) from HOw6.out.drewN nq)
      clear c0 c1 c2 f0 f1 f2
      generalize w6.drewN nq = w7 at HPw7 HOw7 ⊢
      obtain ⟨c0, c1, c2⟩ := tri_cells HPw7.out
      obtain ⟨f0, f1, f2⟩ := tri_soft HPw7.out
      rw [show ((k + 1 : Nat) : Int) = (k : Int) + 1 from rfl] at c1
      go_wp2_with fail
      go_ret2
      exact escP_bad hE.out he.out (HOw7.out.set 2 _) (HPw7.out.fail true)
  obtain ⟨y, hvy, y0, hyv⟩ := hx_at hy
  have HVY := Lib.hid hvy
  rw [hy, hyv] at D2
  rw [hvy] at hvb2
  clear hy hyv hvy
  have he := Lib.hid (esc_both h1 (by rw [HVX.out]; exact HI.out) h2 (by rw [HVY.out]; exact y0))
  rw [HVX.out, HVY.out] at he
  have hor := or_digits8 x0 (by omega) y0 (by omega)
  have g5 : (x * 16) % 256 = x * 16 := by omega
  have ev : ((UInt8.ofNat (x * 16 + y).toNat).toNat : Int) = x * 16 + y := by rw [UInt8.toNat_ofNat']; omega
  have EV := Lib.hid ev
  clear ev
  cases hq : qI (x * 16 + y)
  · have HQ := Lib.hid hq
    clear hq
    rcases hcase with h45 | ⟨h45, rfl⟩
    all_goals
      go_enter Tryd.func52, Tryd.ntmps52
      go_wp2_with fail
      go_quiet (fail)
      have HPw1 := Lib.hid (show PS (w.drewN nq) g s k false from HPw.out)
      have HOw1 := Lib.hid (show Onl g w (w.drewN nq) from HOw.out.drewN nq)
      clear c0 c1 c2 f0 f1 f2
      generalize w.drewN nq = w1 at HPw1 HOw1 ⊢
      obtain ⟨c0, c1, c2⟩ := tri_cells HPw1.out
      obtain ⟨f0, f1, f2⟩ := tri_soft HPw1.out
      go_wp2_with fail
      go_quiet (fail)
      have HPw2 := Lib.hid (show PS (w1.drewN nq) g s k false from HPw1.out)
      have HOw2 := Lib.hid (show Onl g w (w1.drewN nq) from HOw1.out.drewN nq)
      clear c0 c1 c2 f0 f1 f2
      generalize w1.drewN nq = w2 at HPw2 HOw2 ⊢
      obtain ⟨c0, c1, c2⟩ := tri_cells HPw2.out
      obtain ⟨f0, f1, f2⟩ := tri_soft HPw2.out
      go_wp2_with fail
      go_quiet ((go_at_call 63; with_reducible exact Calls.quiet_of_same (D1.out _)))
      have HPw3 := Lib.hid (show PS (w2.drewN nq) g s k false from HPw2.out)
      have HOw3 := Lib.hid (show Onl g w (w2.drewN nq) from HOw2.out.drewN nq)
      clear c0 c1 c2 f0 f1 f2
      generalize w2.drewN nq = w3 at HPw3 HOw3 ⊢
      obtain ⟨c0, c1, c2⟩ := tri_cells HPw3.out
      obtain ⟨f0, f1, f2⟩ := tri_soft HPw3.out
      go_wp2_with fail
      refine (contains64 _ _).mono ?_
      rintro e w' ⟨rfl, hw4⟩
      rw [HI.out]
      have HP4 := Lib.hid (show PS w' g s k false by rw [← hw4]; exact HPw3.out.below (below_one _ _))
      have HO4 := Lib.hid (show Onl g w w' by rw [← hw4]; exact HOw3.out.alloc _)
      clear hw4 c0 c1 c2 f0 f1 f2
      obtain ⟨c0, c1, c2⟩ := tri_cells HP4.out
      obtain ⟨f0, f1, f2⟩ := tri_soft HP4.out
      go_upto_region 13 with (fail)
      have HPw5 := Lib.hid (show PS (w'.setCell ⟨g, 1, none⟩ (.int .i64 ((k : Int) + 1))) g s (k + 1) false from HP4.out.at_ (by omega))
      have HOw5 := Lib.hid (show Onl g w (w'.setCell ⟨g, 1, none⟩ (.int .i64 ((k : Int) + 1))) from HO4.out.set 1 _)
      clear c0 c1 c2 f0 f1 f2
      generalize w'.setCell ⟨g, 1, none⟩ (.int .i64 ((k : Int) + 1)) = w5 at HPw5 HOw5 ⊢
      obtain ⟨c0, c1, c2⟩ := tri_cells HPw5.out
      obtain ⟨f0, f1, f2⟩ := tri_soft HPw5.out
      rw [show ((k + 1 : Nat) : Int) = (k : Int) + 1 from rfl] at c1
      go_quiet (fail)
      have HPw6 := Lib.hid (show PS (w5.drewN nq) g s (k + 1) false from HPw5.out)
      have HOw6 := Lib.hid (show Onl g w (w5.drewN nq) from HOw5.out.drewN nq)
      clear c0 c1 c2 f0 f1 f2
      generalize w5.drewN nq = w6 at HPw6 HOw6 ⊢
      obtain ⟨c0, c1, c2⟩ := tri_cells HPw6.out
      obtain ⟨f0, f1, f2⟩ := tri_soft HPw6.out
      rw [show ((k + 1 : Nat) : Int) = (k : Int) + 1 from rfl] at c1
      go_wp2_with fail
      go_quiet ((go_at_call 63; with_reducible exact Calls.quiet_of_same (D2.out _)))
      have HPw7 := Lib.hid (show PS (w6.drewN nq) g s (k + 1) false from HPw6.out)
      have HOw7 := Lib.hid (show Onl g w (w6.drewN nq) from HOw6.out.drewN nq)
      clear c0 c1 c2 f0 f1 f2
      generalize w6.drewN nq = w7 at HPw7 HOw7 ⊢
      obtain ⟨c0, c1, c2⟩ := tri_cells HPw7.out
      obtain ⟨f0, f1, f2⟩ := tri_soft HPw7.out
      rw [show ((k + 1 : Nat) : Int) = (k : Int) + 1 from rfl] at c1
      go_wp2_with fail
      refine (written53 _ _).mono ?_
      rintro e w8 ⟨rfl, rfl⟩
      rw [HQ.out]
      go_wp2_with fail
      go_ret2
      exact escP_bad hE.out (he.out.trans (if_neg (by rw [HQ.out]; decide))) (HOw7.out.set 2 _) (HPw7.out.fail true)
  · have HQ := Lib.hid hq
    clear hq
    rcases hcase with h45 | ⟨h45, rfl⟩
    all_goals
      go_enter Tryd.func52, Tryd.ntmps52
      go_wp2_with fail
      go_quiet (fail)
      have HPw1 := Lib.hid (show PS (w.drewN nq) g s k false from HPw.out)
      have HOw1 := Lib.hid (show Onl g w (w.drewN nq) from HOw.out.drewN nq)
      clear c0 c1 c2 f0 f1 f2
      generalize w.drewN nq = w1 at HPw1 HOw1 ⊢
      obtain ⟨c0, c1, c2⟩ := tri_cells HPw1.out
      obtain ⟨f0, f1, f2⟩ := tri_soft HPw1.out
      go_wp2_with fail
      go_quiet (fail)
      have HPw2 := Lib.hid (show PS (w1.drewN nq) g s k false from HPw1.out)
      have HOw2 := Lib.hid (show Onl g w (w1.drewN nq) from HOw1.out.drewN nq)
      clear c0 c1 c2 f0 f1 f2
      generalize w1.drewN nq = w2 at HPw2 HOw2 ⊢
      obtain ⟨c0, c1, c2⟩ := tri_cells HPw2.out
      obtain ⟨f0, f1, f2⟩ := tri_soft HPw2.out
      go_wp2_with fail
      go_quiet ((go_at_call 63; with_reducible exact Calls.quiet_of_same (D1.out _)))
      have HPw3 := Lib.hid (show PS (w2.drewN nq) g s k false from HPw2.out)
      have HOw3 := Lib.hid (show Onl g w (w2.drewN nq) from HOw2.out.drewN nq)
      clear c0 c1 c2 f0 f1 f2
      generalize w2.drewN nq = w3 at HPw3 HOw3 ⊢
      obtain ⟨c0, c1, c2⟩ := tri_cells HPw3.out
      obtain ⟨f0, f1, f2⟩ := tri_soft HPw3.out
      go_wp2_with fail
      refine (contains64 _ _).mono ?_
      rintro e w' ⟨rfl, hw4⟩
      rw [HI.out]
      have HP4 := Lib.hid (show PS w' g s k false by rw [← hw4]; exact HPw3.out.below (below_one _ _))
      have HO4 := Lib.hid (show Onl g w w' by rw [← hw4]; exact HOw3.out.alloc _)
      clear hw4 c0 c1 c2 f0 f1 f2
      obtain ⟨c0, c1, c2⟩ := tri_cells HP4.out
      obtain ⟨f0, f1, f2⟩ := tri_soft HP4.out
      go_upto_region 13 with (fail)
      have HPw5 := Lib.hid (show PS (w'.setCell ⟨g, 1, none⟩ (.int .i64 ((k : Int) + 1))) g s (k + 1) false from HP4.out.at_ (by omega))
      have HOw5 := Lib.hid (show Onl g w (w'.setCell ⟨g, 1, none⟩ (.int .i64 ((k : Int) + 1))) from HO4.out.set 1 _)
      clear c0 c1 c2 f0 f1 f2
      generalize w'.setCell ⟨g, 1, none⟩ (.int .i64 ((k : Int) + 1)) = w5 at HPw5 HOw5 ⊢
      obtain ⟨c0, c1, c2⟩ := tri_cells HPw5.out
      obtain ⟨f0, f1, f2⟩ := tri_soft HPw5.out
      rw [show ((k + 1 : Nat) : Int) = (k : Int) + 1 from rfl] at c1
      go_quiet (fail)
      have HPw6 := Lib.hid (show PS (w5.drewN nq) g s (k + 1) false from HPw5.out)
      have HOw6 := Lib.hid (show Onl g w (w5.drewN nq) from HOw5.out.drewN nq)
      clear c0 c1 c2 f0 f1 f2
      generalize w5.drewN nq = w6 at HPw6 HOw6 ⊢
      obtain ⟨c0, c1, c2⟩ := tri_cells HPw6.out
      obtain ⟨f0, f1, f2⟩ := tri_soft HPw6.out
      rw [show ((k + 1 : Nat) : Int) = (k : Int) + 1 from rfl] at c1
      go_wp2_with fail
      go_quiet ((go_at_call 63; with_reducible exact Calls.quiet_of_same (D2.out _)))
      have HPw7 := Lib.hid (show PS (w6.drewN nq) g s (k + 1) false from HPw6.out)
      have HOw7 := Lib.hid (show Onl g w (w6.drewN nq) from HOw6.out.drewN nq)
      clear c0 c1 c2 f0 f1 f2
      generalize w6.drewN nq = w7 at HPw7 HOw7 ⊢
      obtain ⟨c0, c1, c2⟩ := tri_cells HPw7.out
      obtain ⟨f0, f1, f2⟩ := tri_soft HPw7.out
      rw [show ((k + 1 : Nat) : Int) = (k : Int) + 1 from rfl] at c1
      go_wp2_with fail
      refine (written53 _ _).mono ?_
      rintro e w8 ⟨rfl, rfl⟩
      rw [HQ.out]
      go_wp2_with fail
      go_ret2
      exact ⟨HOw7.out.set 1 _, .inr (.inr ⟨hE.out, _, he.out.trans (if_pos HQ.out), by rw [EV.out]; rfl, HPw7.out.at_ (by omega)⟩)⟩
end Go.Proofs.YtgbjldkbbbjnkaaDoor
