/-
  The walk of the law DatesYears: it returns true for every number.
-/
import Derived.Test.YtjdfdkanojjebaaDoorFrame
namespace Go.Proofs.YtjdfdkanojjebaaDoor.datesYears
open Go.RowKit
abbrev True_ (w : World) : Ending → World → Prop := fun e w' => e = .returned (.bool true) ∧ Below w.heap.size w w'
structure Facts (y a b z x : Int) (ok long lp : Bool) (w : World) : Prop where
  first : Calls Tryd.prog 15 #[.int .i64 y, .int .i64 1, .int .i64 1] w (TwoOut a ok w)
  last : Calls Tryd.prog 15 #[.int .i64 y, .int .i64 12, .int .i64 31] w (TwoOut b ok w)
  feb : Calls Tryd.prog 15 #[.int .i64 y, .int .i64 2, .int .i64 29] w (TwoOut z long w)
  feb8 : Calls Tryd.prog 15 #[.int .i64 y, .int .i64 2, .int .i64 28] w (TwoOut x ok w)
  leap : Calls Tryd.prog 12 #[.int .i64 y] w fun e w' => e = .returned (.bool lp) ∧ w = w'
  wake : Calls Tryd.prog 14 #[] w (True_ w)
set_option maxHeartbeats 1600000 in
set_option maxRecDepth 100000 in
theorem out (y a b z x : Int) (lp : Bool) (w : World) (h : y < 1900 ∨ 2199 < y) (F : Facts y a b z x false false lp w) : Calls Tryd.prog 10 #[.int .i64 y] w (True_ w) := by
  by_cases h1 : y < 1900
  · go_enter Tryd.func10, Tryd.ntmps10
    go_wp2_with fail
    refine F.first.mono ?_
    rintro e w' ⟨rfl, rfl⟩
    go_wp2_with fail
    refine F.last.mono ?_
    rintro e w' ⟨rfl, rfl⟩
    go_wp2_with fail
    refine F.feb.mono ?_
    rintro e w' ⟨rfl, rfl⟩
    go_wp2_with fail
    refine F.feb8.mono ?_
    rintro e w' ⟨rfl, rfl⟩
    go_wp2_with fail
    refine F.wake.mono ?_
    rintro e w1 ⟨rfl, hb1⟩
    go_wp2_with fail
    go_ret
    exact ⟨rfl, hb1⟩
  · have h2 : 2199 < y := by omega
    go_enter Tryd.func10, Tryd.ntmps10
    go_wp2_with fail
    refine F.first.mono ?_
    rintro e w' ⟨rfl, rfl⟩
    go_wp2_with fail
    refine F.last.mono ?_
    rintro e w' ⟨rfl, rfl⟩
    go_wp2_with fail
    refine F.feb.mono ?_
    rintro e w' ⟨rfl, rfl⟩
    go_wp2_with fail
    refine F.feb8.mono ?_
    rintro e w' ⟨rfl, rfl⟩
    go_wp2_with fail
    refine F.wake.mono ?_
    rintro e w1 ⟨rfl, hb1⟩
    go_wp2_with fail
    go_ret
    exact ⟨rfl, hb1⟩
set_option maxHeartbeats 1600000 in
set_option maxRecDepth 100000 in
theorem long_ (y a b z x : Int) (w : World) (h1 : 1900 ≤ y) (h2 : y ≤ 2199) (a0 : 0 ≤ a) (a1 : a ≤ 200000) (b0 : 0 ≤ b) (b1 : b ≤ 200000) (hb : (b - a == 365) = true) (F : Facts y a b z x true true true w) : Calls Tryd.prog 10 #[.int .i64 y] w (True_ w) := by
  go_enter Tryd.func10, Tryd.ntmps10
  go_wp2_with fail
  refine F.first.mono ?_
  rintro e w' ⟨rfl, rfl⟩
  go_wp2_with fail
  refine F.last.mono ?_
  rintro e w' ⟨rfl, rfl⟩
  go_wp2_with fail
  refine F.feb.mono ?_
  rintro e w' ⟨rfl, rfl⟩
  go_wp2_with fail
  refine F.feb8.mono ?_
  rintro e w' ⟨rfl, rfl⟩
  go_wp2_with fail
  refine F.leap.mono ?_
  rintro e w' ⟨rfl, rfl⟩
  go_wp2_with fail
  refine F.leap.mono ?_
  rintro e w' ⟨rfl, rfl⟩
  go_wp2_with fail
  refine F.wake.mono ?_
  rintro e w1 ⟨rfl, hb1⟩
  go_wp2_with fail
  go_ret
  exact ⟨rfl, hb1⟩
set_option maxHeartbeats 1600000 in
set_option maxRecDepth 100000 in
theorem short_ (y a b z x : Int) (w : World) (h1 : 1900 ≤ y) (h2 : y ≤ 2199) (a0 : 0 ≤ a) (a1 : a ≤ 200000) (b0 : 0 ≤ b) (b1 : b ≤ 200000) (hb : (b - a == 364) = true) (F : Facts y a b z x true false false w) : Calls Tryd.prog 10 #[.int .i64 y] w (True_ w) := by
  go_enter Tryd.func10, Tryd.ntmps10
  go_wp2_with fail
  refine F.first.mono ?_
  rintro e w' ⟨rfl, rfl⟩
  go_wp2_with fail
  refine F.last.mono ?_
  rintro e w' ⟨rfl, rfl⟩
  go_wp2_with fail
  refine F.feb.mono ?_
  rintro e w' ⟨rfl, rfl⟩
  go_wp2_with fail
  refine F.feb8.mono ?_
  rintro e w' ⟨rfl, rfl⟩
  go_wp2_with fail
  refine F.leap.mono ?_
  rintro e w' ⟨rfl, rfl⟩
  go_wp2_with fail
  refine F.leap.mono ?_
  rintro e w' ⟨rfl, rfl⟩
  go_wp2_with fail
  refine F.wake.mono ?_
  rintro e w1 ⟨rfl, hb1⟩
  go_wp2_with fail
  go_ret
  exact ⟨rfl, hb1⟩
theorem law (y : Int) (hy : I64 y) (w : World) (ht : Tab w) : Calls Tryd.prog 10 #[.int .i64 y] w (True_ w) := by
  have hk := awake14 w ht
  have hl := leap12 y w hy
  by_cases ho : y < 1900 ∨ 2199 < y
  · have hn : ∀ m d, ¬ Dt.Valid y m d := fun m d h => by have := h.1; have := h.2.1; omega
    exact out y 0 0 0 0 _ w ho ⟨day15_no y 1 1 w hy (hn _ _) ht, day15_no y 12 31 w hy (hn _ _) ht, day15_no y 2 29 w hy (hn _ _) ht, day15_no y 2 28 w hy (hn _ _) ht, hl, hk⟩
  · have h1 : Dt.dim y 1 = 31 := by simp [Dt.dim]
    have h12 : Dt.dim y 12 = 31 := by simp [Dt.dim]
    have h2 := dim_two y
    have v1 : Dt.Valid y 1 1 := ⟨by omega, by omega, by omega, by omega, by omega, by omega⟩
    have v12 : Dt.Valid y 12 31 := ⟨by omega, by omega, by omega, by omega, by omega, by omega⟩
    have vf : Dt.Valid y 2 28 := ⟨by omega, by omega, by omega, by omega, by omega, by rw [h2]; split <;> omega⟩
    have c11 := Dt.cum_dim y 12 (by omega)
    have hall := Dt.cum_all y
    have e12 : (12 : Int).toNat = 12 := rfl
    rw [e12, hall, h12] at c11
    have n1 : Dt.num y 12 31 - Dt.num y 1 1 = Dt.whole y - 1 := by
      have e : ((1 : Int) - 1).toNat = 0 := by omega
      have e0 : Dt.cum y 0 = 0 := rfl
      unfold Dt.num
      rw [e, e0]; omega
    have bd1 := Dt.num_bd v1
    have bd2 := Dt.num_bd v12
    cases hlp : Dt.leap y
    · rw [hlp] at hl h2
      have vn : ¬ Dt.Valid y 2 29 := fun h => by have := h.2.2.2.2.2; rw [h2] at this; simp at this
      have hw : Dt.whole y = 365 := by simp [Dt.whole, hlp]
      exact short_ y _ _ _ _ w (by omega) (by omega) (by omega) (by omega) (by omega) (by omega) (by rw [beq_iff_eq]; omega) ⟨day15_yes y 1 1 w v1 ht, day15_yes y 12 31 w v12 ht, day15_no y 2 29 w hy vn ht, day15_yes y 2 28 w vf ht, hl, hk⟩
    · rw [hlp] at hl h2
      have vl : Dt.Valid y 2 29 := ⟨by omega, by omega, by omega, by omega, by omega, by rw [h2]; simp⟩
      have hw : Dt.whole y = 366 := by simp [Dt.whole, hlp]
      exact long_ y _ _ _ _ w (by omega) (by omega) (by omega) (by omega) (by omega) (by omega) (by rw [beq_iff_eq]; omega) ⟨day15_yes y 1 1 w v1 ht, day15_yes y 12 31 w v12 ht, day15_yes y 2 29 w vl ht, day15_yes y 2 28 w vf ht, hl, hk⟩
end Go.Proofs.YtjdfdkanojjebaaDoor.datesYears
