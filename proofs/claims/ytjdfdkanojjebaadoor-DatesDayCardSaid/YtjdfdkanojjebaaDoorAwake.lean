/-
  The examples of the chapter hold: awake returns true.
-/
import Derived.Test.YtjdfdkanojjebaaDoorText
namespace Go.Proofs.YtjdfdkanojjebaaDoor
open Go.RowKit

theorem valid_of (y m d : Int) (h : (decide (1900 ≤ y) && decide (y ≤ 2199) && decide (1 ≤ m) && decide (m ≤ 12) && decide (1 ≤ d) && decide (d ≤ Dt.dim y m)) = true) : Dt.Valid y m d := by
  simp only [Bool.and_eq_true, decide_eq_true_eq] at h
  obtain ⟨⟨⟨⟨⟨h1, h2⟩, h3⟩, h4⟩, h5⟩, h6⟩ := h
  exact ⟨h1, h2, h3, h4, h5, h6⟩
theorem num_last : Dt.num 2199 12 31 = 109573 := by decide +kernel
theorem num_first : Dt.num 1900 1 1 = 1 := by decide +kernel
theorem num_sixty : Dt.num 1900 3 1 = 60 := by decide +kernel
theorem civil_sixty (w : World) (ht : Tab w) : Calls Tryd.prog 17 #[.int .i64 60] w fun e w' => e = .returned (.tuple #[.int .i64 1900, .int .i64 3, .int .i64 1, .bool true]) ∧ w = w' :=
  (civil17_yes 60 w (by decide) (by decide) ht).mono fun e w' ⟨y, m, d, hv, hn, he, hw⟩ => by
    obtain ⟨rfl, rfl, rfl⟩ := Dt.num_inj hv (valid_of 1900 3 1 (by decide +kernel)) (by rw [hn, num_sixty])
    exact ⟨he, hw⟩
theorem text_last (w : World) (ht : Tab w) : Calls Tryd.prog 23 #[.int .i64 109573] w fun e w' => e = .returned (.string ⟨#[50, 49, 57, 57, 45, 49, 50, 45, 51, 49]⟩) ∧ Below w.heap.size w w' :=
  (text23_yes 109573 w (by decide) (by decide) ht).mono fun e w' ⟨y, m, d, hv, hn, he, hw⟩ => by
    obtain ⟨rfl, rfl, rfl⟩ := Dt.num_inj hv (valid_of 2199 12 31 (by decide +kernel)) (by rw [hn, num_last])
    refine ⟨?_, hw⟩
    rw [he]
    exact ret_string (congrArg (fun l : List UInt8 => (⟨l.toArray⟩ : ByteArray)) (by decide +kernel))
theorem parse_last (w : World) (ht : Tab w) : Calls Tryd.prog 21 #[.string ⟨#[50, 49, 57, 57, 45, 49, 50, 45, 51, 49]⟩] w (TwoOut 109573 true w) := by
  have h := parse21_yes (s := ⟨#[50, 49, 57, 57, 45, 49, 50, 45, 51, 49]⟩) (valid_of 2199 12 31 (by decide +kernel)) (by decide +kernel) w ht
  rw [num_last] at h
  exact h
theorem parse_eight (w : World) : Calls Tryd.prog 21 #[.string ⟨#[49, 57, 48, 48, 45, 49, 45, 49]⟩] w (TwoOut 0 false w) := parse21_short _ w (by decide +kernel)
theorem day_first (w : World) (ht : Tab w) : Calls Tryd.prog 15 #[.int .i64 1900, .int .i64 1, .int .i64 1] w (TwoOut 1 true w) := by
  have h := day15_yes 1900 1 1 w (valid_of 1900 1 1 (by decide +kernel)) ht
  rw [num_first] at h
  exact h
theorem day_sixty (w : World) (ht : Tab w) : Calls Tryd.prog 15 #[.int .i64 1900, .int .i64 3, .int .i64 1] w (TwoOut 60 true w) := by
  have h := day15_yes 1900 3 1 w (valid_of 1900 3 1 (by decide +kernel)) ht
  rw [num_sixty] at h
  exact h
theorem day_none (w : World) (ht : Tab w) : Calls Tryd.prog 15 #[.int .i64 1900, .int .i64 2, .int .i64 29] w (TwoOut 0 false w) :=
  day15_no 1900 2 29 w ⟨by decide, by decide⟩ (fun h => absurd h.2.2.2.2.2 (by decide +kernel)) ht
theorem weekday_1 (w : World) : Calls Tryd.prog 19 #[.int .i64 1] w fun e w' => e = .returned (.int .i64 0) ∧ w = w' := weekday19 1 w ⟨by decide, by decide⟩
theorem weekday_7 (w : World) : Calls Tryd.prog 19 #[.int .i64 7] w fun e w' => e = .returned (.int .i64 6) ∧ w = w' := weekday19 7 w ⟨by decide, by decide⟩
theorem weekday_0 (w : World) : Calls Tryd.prog 19 #[.int .i64 0] w fun e w' => e = .returned (.int .i64 (-1)) ∧ w = w' := weekday19 0 w ⟨by decide, by decide⟩
theorem leap_2000 (w : World) : Calls Tryd.prog 12 #[.int .i64 2000] w fun e w' => e = .returned (.bool true) ∧ w = w' := leap12 2000 w ⟨by decide, by decide⟩
theorem leap_1900 (w : World) : Calls Tryd.prog 12 #[.int .i64 1900] w fun e w' => e = .returned (.bool false) ∧ w = w' := leap12 1900 w ⟨by decide, by decide⟩

set_option maxHeartbeats 1600000 in
set_option maxRecDepth 100000 in
theorem awake14 (w : World) (ht : Tab w) : Calls Tryd.prog 14 #[] w fun e w' => e = .returned (.bool true) ∧ Below w.heap.size w w' := by
  have c1 := Lib.hid (day_first w ht)
  have c2 := Lib.hid (day_none w ht)
  have c3 := Lib.hid (day_sixty w ht)
  have c4 := Lib.hid (parse_last w ht)
  have c5 := Lib.hid (civil_sixty w ht)
  have c6 := Lib.hid (text_last w ht)
  clear ht
  go_enter Tryd.func14, Tryd.ntmps14
  go_wp2_with fail
  refine c1.out.mono ?_
  rintro e w' ⟨rfl, rfl⟩
  go_wp2_with fail
  refine c2.out.mono ?_
  rintro e w' ⟨rfl, rfl⟩
  go_wp2_with fail
  refine c3.out.mono ?_
  rintro e w' ⟨rfl, rfl⟩
  go_wp2_with fail
  refine (parse_eight w).mono ?_
  rintro e w' ⟨rfl, rfl⟩
  go_wp2_with fail
  refine c4.out.mono ?_
  rintro e w' ⟨rfl, rfl⟩
  go_wp2_with fail
  refine c5.out.mono ?_
  rintro e w' ⟨rfl, rfl⟩
  go_wp2_with fail
  refine c6.out.mono ?_
  rintro e w1 ⟨rfl, hb⟩
  go_wp2_with fail
  refine (weekday_1 w1).mono ?_
  rintro e w' ⟨rfl, rfl⟩
  go_wp2_with fail
  refine (weekday_7 w1).mono ?_
  rintro e w' ⟨rfl, rfl⟩
  go_wp2_with fail
  refine (weekday_0 w1).mono ?_
  rintro e w' ⟨rfl, rfl⟩
  go_wp2_with fail
  refine (leap_2000 w1).mono ?_
  rintro e w' ⟨rfl, rfl⟩
  go_wp2_with fail
  refine (leap_1900 w1).mono ?_
  rintro e w' ⟨rfl, rfl⟩
  go_wp2_with fail
  go_ret
  exact ⟨rfl, hb⟩
end Go.Proofs.YtjdfdkanojjebaaDoor
