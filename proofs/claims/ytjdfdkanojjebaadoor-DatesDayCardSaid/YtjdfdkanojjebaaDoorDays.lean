/-
  What the small functions of dates and of its reference return: Leap, days, whole, length, Weekday, and Day, for all numbers; the table of the lengths of the months is a premise.
-/
import Derived.Test.YtjdfdkanojjebaaDoorChecked
import Derived.Test.YtjdfdkanojjebaaDoorDigits
import Derived.WalkKit
import Derived.WalkSpells
import Derived.WalkLawsBesides
import Derived.Deep.QuietTactic
import Derived.BigQuiet
import Derived.Handy
import Derived.Lib.Hide
namespace Go.Proofs.YtjdfdkanojjebaaDoor
open Go.RowKit

/-- An int of Go's. -/
def I64 (y : Int) : Prop := -9223372036854775808 ≤ y ∧ y ≤ 9223372036854775807

theorem leap12 (y : Int) (w : World) (hy : I64 y) : Calls Tryd.prog 12 #[.int .i64 y] w fun e w' => e = .returned (.bool (Dt.leap y)) ∧ w = w' := by
  obtain ⟨h0, h1⟩ := hy
  go_enter Tryd.func12, Tryd.ntmps12
  go_wp2
  all_goals (go_ret; exact ⟨by simp [Dt.leap, *], rfl⟩)
theorem leap13 (y : Int) (w : World) (hy : I64 y) : Calls Tryd.prog 13 #[.int .i64 y] w fun e w' => e = .returned (.bool (Dt.leap y)) ∧ w = w' := by
  obtain ⟨h0, h1⟩ := hy
  go_enter Tryd.func13, Tryd.ntmps13
  go_wp2
  all_goals (go_ret; exact ⟨by simp [Dt.leap, *], rfl⟩)

/-- The table of the lengths of the months. -/
def Tab (w : World) : Prop := ∀ k, k < 12 → w.cell? ⟨0, k, none⟩ = some (.int .i64 (Dt.dim 1900 ((k : Int) + 1)))

theorem dim_other (y : Int) {m : Int} (h : ¬ m = 2) : Dt.dim 1900 m = Dt.dim y m := by simp [Dt.dim, h]
theorem dim_two (y : Int) : Dt.dim y 2 = if Dt.leap y = true then 29 else 28 := by simp [Dt.dim]
theorem dim_1900 : Dt.dim 1900 2 = 28 := by decide
theorem days25 (y m : Int) (w : World) (hy : I64 y) (m0 : 1 ≤ m) (m1 : m ≤ 12) (ht : Tab w) :
    Calls Tryd.prog 25 #[.int .i64 y, .int .i64 m] w fun e w' => e = .returned (.int .i64 (Dt.dim y m)) ∧ w = w' := by
  obtain ⟨k, rfl⟩ : ∃ k : Nat, m = (k : Int) + 1 := ⟨(m - 1).toNat, by omega⟩
  have hc := ht k (by omega)
  clear ht
  by_cases hm : (k : Int) + 1 = 2
  · obtain rfl : k = 1 := by omega
    have hc' : w.cell? ⟨0, 1, none⟩ = some (.int .i64 28) := by rw [hc]; rfl
    clear hc hm
    have hl := leap12 y w hy
    cases hlp : Dt.leap y
    · rw [hlp] at hl
      have H := Lib.hid hl
      have HP := Lib.hid hlp
      clear hl hlp
      go_enter Tryd.func25, Tryd.ntmps25
      go_wp2_with (go_at_call 12; refine H.out.mono ?_; rintro e w' ⟨rfl, rfl⟩)
      go_ret
      exact ⟨by simp [dim_two, HP.out], rfl⟩
    · rw [hlp] at hl
      have H := Lib.hid hl
      have HP := Lib.hid hlp
      clear hl hlp
      go_enter Tryd.func25, Tryd.ntmps25
      go_wp2_with (go_at_call 12; refine H.out.mono ?_; rintro e w' ⟨rfl, rfl⟩)
      go_ret
      exact ⟨by simp [dim_two, HP.out], rfl⟩
  · have hb : ((k : Int) + 1 == 2) = false := by simpa using hm
    go_enter Tryd.func25, Tryd.ntmps25
    go_wp2
    go_ret
    exact ⟨by rw [← dim_other y hm]; rfl, rfl⟩

theorem whole26 (y : Int) (w : World) (hy : I64 y) : Calls Tryd.prog 26 #[.int .i64 y] w fun e w' => e = .returned (.int .i64 (Dt.whole y)) ∧ w = w' := by
  have hl := leap12 y w hy
  cases hlp : Dt.leap y
  all_goals
    rw [hlp] at hl
    have H := Lib.hid hl
    have HP := Lib.hid hlp
    clear hl hlp
    go_enter Tryd.func26, Tryd.ntmps26
    go_wp2_with (go_at_call 12; refine H.out.mono ?_; rintro e w' ⟨rfl, rfl⟩)
    go_ret
    exact ⟨by simp [Dt.whole, HP.out], rfl⟩
theorem length27 (y m : Int) (w : World) (hy : I64 y) : Calls Tryd.prog 27 #[.int .i64 y, .int .i64 m] w fun e w' => e = .returned (.int .i64 (Dt.dim y m)) ∧ w = w' := by
  have hl := leap13 y w hy
  by_cases hm : m = 2
  · subst hm
    cases hlp : Dt.leap y
    all_goals
      rw [hlp] at hl
      have H := Lib.hid hl
      have HP := Lib.hid hlp
      clear hl hlp
      go_enter Tryd.func27, Tryd.ntmps27
      go_wp2_with (go_at_call 13; refine H.out.mono ?_; rintro e w' ⟨rfl, rfl⟩)
      go_ret
      exact ⟨by simp [Dt.dim, HP.out], rfl⟩
  · have hb : (m == 2) = false := by simpa using hm
    clear hl
    by_cases h11 : m = 11
    · subst h11
      go_enter Tryd.func27, Tryd.ntmps27
      go_wp2
      go_ret
      exact ⟨by simp [Dt.dim], rfl⟩
    · have hb2 : (m == 11) = false := by simpa using h11
      go_enter Tryd.func27, Tryd.ntmps27
      go_wp2
      all_goals (go_ret; exact ⟨by first | (simp [Dt.dim, *]; done) | simp_all, rfl⟩)
theorem weekday19 (n : Int) (w : World) (hn : I64 n) : Calls Tryd.prog 19 #[.int .i64 n] w fun e w' => e = .returned (.int .i64 (if n < 1 ∨ 109573 < n then -1 else (n - 1) % 7)) ∧ w = w' := by
  obtain ⟨h0, h1⟩ := hn
  go_enter Tryd.func19, Tryd.ntmps19
  go_wp2
  all_goals (go_ret; exact ⟨by simp [*], rfl⟩)
theorem weekday20 (n : Int) (w : World) (hn : I64 n) : Calls Tryd.prog 20 #[.int .i64 n] w fun e w' => e = .returned (.int .i64 (if n < 1 ∨ 109573 < n then -1 else (n - 1) % 7)) ∧ w = w' := by
  obtain ⟨h0, h1⟩ := hn
  go_enter Tryd.func20, Tryd.ntmps20
  go_wp2
  all_goals (go_ret; exact ⟨by simp [*], rfl⟩)

theorem day15_no (y m d : Int) (w : World) (hy : I64 y) (hv : ¬ Dt.Valid y m d) (ht : Tab w) :
    Calls Tryd.prog 15 #[.int .i64 y, .int .i64 m, .int .i64 d] w fun e w' => e = .returned (.tuple #[.int .i64 0, .bool false]) ∧ w = w' := by
  have HT := Lib.hid ht
  have HV := Lib.hid hv
  clear ht hv
  go_enter Tryd.func15, Tryd.ntmps15
  go_wp2_with (go_at_call 25; refine (days25 _ _ _ hy (by omega) (by omega) HT.out).mono ?_; rintro e w' ⟨rfl, rfl⟩)
  all_goals first | (go_ret2; exact ⟨rfl, rfl⟩) | (exfalso; exact HV.out ⟨by omega, by omega, by omega, by omega, by omega, by omega⟩)
set_option maxHeartbeats 800000 in
theorem day15_yes (y m d : Int) (w : World) (hv : Dt.Valid y m d) (ht : Tab w) :
    Calls Tryd.prog 15 #[.int .i64 y, .int .i64 m, .int .i64 d] w fun e w' => e = .returned (.tuple #[.int .i64 (Dt.num y m d), .bool true]) ∧ w = w' := by
  obtain ⟨y0, y1, m0, m1, d0, d1⟩ := hv
  have hy : I64 y := ⟨by omega, by omega⟩
  have db := Dt.dim_bd y m
  have HT := Lib.hid ht
  clear ht
  go_enter Tryd.func15, Tryd.ntmps15
  go_wp2_with (go_at_call 25; refine (days25 _ _ _ hy (by omega) (by omega) HT.out).mono ?_; rintro e w' ⟨rfl, rfl⟩)
  go_loop [8, 9] (fun n i => ∃ k : Nat, (k : Int) ≤ y - 1900 ∧ i = .int .i64 (1900 + (k : Int)) ∧ n = .int .i64 (d + Dt.yrs k)) (fun _ i => (2200 - intOf i).toNat)
  case atStart => exact ⟨0, by omega, by simp, by simp [Dt.yrs]⟩
  case round =>
    obtain ⟨k, hk, rfl, rfl⟩ := hrel
    have yb := Dt.yrs_bd k (by omega)
    by_cases hlt : 1900 + (k : Int) < y
    · have wb := Dt.whole_bd (1900 + (k : Int))
      go_wp2_with (go_at_call 26; refine (whole26 _ _ ⟨by omega, by omega⟩).mono ?_; rintro e w' ⟨rfl, rfl⟩)
      go_round
      case rel => exact ⟨k + 1, by omega, by go_num, by rw [Dt.yrs_succ]; go_num⟩
      case measure => simp [intOf]; omega
    · obtain rfl : y = 1900 + (k : Int) := by omega
      go_wp2_with fail
      go_loop [8, 10] (fun n i => ∃ j : Nat, (j : Int) ≤ m - 1 ∧ i = .int .i64 (1 + (j : Int)) ∧ n = .int .i64 (d + Dt.yrs k + Dt.cum (1900 + (k : Int)) j)) (fun _ i => (13 - intOf i).toNat)
      case atStart => exact ⟨0, by omega, by simp, by simp [Dt.cum]⟩
      case round =>
        obtain ⟨j, hj, rfl, rfl⟩ := hrel
        have cb := Dt.cum_bd (1900 + (k : Int)) j (by omega)
        have wb := Dt.whole_bd (1900 + (k : Int))
        by_cases hlt' : 1 + (j : Int) < m
        · have db' := Dt.dim_bd (1900 + (k : Int)) (1 + (j : Int))
          go_wp2_with (go_at_call 25; refine (days25 _ _ _ hy (by omega) (by omega) HT.out).mono ?_; rintro e w' ⟨rfl, rfl⟩)
          go_round
          case rel => exact ⟨j + 1, by omega, by go_num, by rw [Dt.cum_succ, Int.add_comm (j : Int) 1]; go_num⟩
          case measure => simp [intOf]; omega
        · have hm' : m = 1 + (j : Int) := by omega
          have HM := Lib.hid hm'
          clear hm'
          go_wp2_with fail
          go_ret2
          exact ⟨by rw [HM.out]; unfold Dt.num; have e1 : (1900 + (k : Int) - 1900).toNat = k := by omega
                    have e2 : (1 + (j : Int) - 1).toNat = j := by omega
                    rw [e1, e2]; go_num, rfl⟩
end Go.Proofs.YtjdfdkanojjebaaDoor
