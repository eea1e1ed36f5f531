/-
  What Civil of dates and of its reference return, for all numbers: for a day the date whose number it is.
-/
import Derived.Test.YtjdfdkanojjebaaDoorDayR
namespace Go.Proofs.YtjdfdkanojjebaaDoor
open Go.RowKit

theorem results_tmp4 {fn : Func} {t u v x : Tmp} (h : fn.results = #[.tmp t, .tmp u, .tmp v, .tmp x]) (tmps : Array Value) (P : Program) (w : World) :
    (results fn tmps).run P w = .ok (.tuple #[tmps.getD t undef, tmps.getD u undef, tmps.getD v undef, tmps.getD x undef]) w := by simp [results, h]

/-- The date of a day, handed back. -/
def Dated (n : Int) (w : World) (e : Ending) (w' : World) : Prop :=
  ∃ y m d : Int, Dt.Valid y m d ∧ Dt.num y m d = n ∧ e = .returned (.tuple #[.int .i64 y, .int .i64 m, .int .i64 d, .bool true]) ∧ w = w'

theorem civil17_no (n : Int) (w : World) (h : n < 1 ∨ 109573 < n) :
    Calls Tryd.prog 17 #[.int .i64 n] w fun e w' => e = .returned (.tuple #[.int .i64 0, .int .i64 0, .int .i64 0, .bool false]) ∧ w = w' := by
  go_enter Tryd.func17, Tryd.ntmps17
  go_wp2_with fail
  all_goals first | (refine bodyPost_ret (results_tmp4 rfl _ _ _) rfl ?_; exact ⟨rfl, rfl⟩) | (exfalso; omega)
theorem civil18_no (n : Int) (w : World) (h : n < 1 ∨ 109573 < n) :
    Calls Tryd.prog 18 #[.int .i64 n] w fun e w' => e = .returned (.tuple #[.int .i64 0, .int .i64 0, .int .i64 0, .bool false]) ∧ w = w' := by
  go_enter Tryd.func18, Tryd.ntmps18
  go_wp2_with fail
  all_goals first | (refine bodyPost_ret (results_tmp4 rfl _ _ _) rfl ?_; exact ⟨rfl, rfl⟩) | (exfalso; omega)

theorem dated_of {n : Int} {k j : Nat} {w : World} (hk : k ≤ 299) (hj : j ≤ 11) (h1 : 1 ≤ n - Dt.yrs k - Dt.cum (1900 + (k : Int)) j)
    (h2 : n - Dt.yrs k - Dt.cum (1900 + (k : Int)) j ≤ Dt.dim (1900 + (k : Int)) (1 + (j : Int))) :
    Dated n w (.returned (.tuple #[.int .i64 (1900 + (k : Int)), .int .i64 (1 + (j : Int)), .int .i64 (n - Dt.yrs k - Dt.cum (1900 + (k : Int)) j), .bool true])) w := by
  refine ⟨_, _, _, ⟨by omega, by omega, by omega, by omega, h1, h2⟩, ?_, rfl, rfl⟩
  unfold Dt.num
  have e1 : (1900 + (k : Int) - 1900).toNat = k := by omega
  have e2 : (1 + (j : Int) - 1).toNat = j := by omega
  rw [e1, e2]; omega
theorem yrs_room {n : Int} {k : Nat} (hn : n ≤ 109573) (hk : k ≤ 299) (h : Dt.whole (1900 + (k : Int)) < n - Dt.yrs k) : k + 1 ≤ 299 := by
  rcases Nat.lt_or_ge k 299 with h' | h'
  · omega
  · obtain rfl : k = 299 := by omega
    have := Dt.yrs_all
    rw [Dt.yrs_succ] at this
    omega
theorem cum_room {r : Int} {y : Int} {j : Nat} (hr : r ≤ Dt.whole y) (hj : j ≤ 11) (h : Dt.dim y (1 + (j : Int)) < r - Dt.cum y j) : j + 1 ≤ 11 := by
  rcases Nat.lt_or_ge j 11 with h' | h'
  · omega
  · obtain rfl : j = 11 := by omega
    have := Dt.cum_all y
    rw [Dt.cum_succ, Int.add_comm] at this
    have e : ((11 : Nat) : Int) + 1 = 1 + ((11 : Nat) : Int) := by omega
    rw [e] at this
    omega

set_option maxHeartbeats 1600000 in
theorem civil17_yes (n : Int) (w : World) (h1 : 1 ≤ n) (h2 : n ≤ 109573) (ht : Tab w) : Calls Tryd.prog 17 #[.int .i64 n] w (Dated n w) := by
  have HT := Lib.hid ht
  clear ht
  go_enter Tryd.func17, Tryd.ntmps17
  go_wp2_with fail
  go_loop [0, 6] (fun r i => ∃ k : Nat, k ≤ 299 ∧ i = .int .i64 (1900 + (k : Int)) ∧ r = .int .i64 (n - Dt.yrs k) ∧ 1 ≤ n - Dt.yrs k) (fun _ i => (2200 - intOf i).toNat)
  case atStart => exact ⟨0, by omega, by simp, by simp [Dt.yrs], by simp [Dt.yrs]; omega⟩
  case round =>
    obtain ⟨k, hk, rfl, rfl, hr⟩ := hrel
    have yb := Dt.yrs_bd k (by omega)
    have wb := Dt.whole_bd (1900 + (k : Int))
    by_cases hc : Dt.whole (1900 + (k : Int)) < n - Dt.yrs k
    · have hk' := yrs_room h2 hk hc
      go_wp2_with (go_at_call 26; refine (whole26 _ _ ⟨by omega, by omega⟩).mono ?_; rintro e w' ⟨rfl, rfl⟩)
      go_round
      case rel => exact ⟨k + 1, hk', by go_num, by rw [Dt.yrs_succ]; go_num, by rw [Dt.yrs_succ]; omega⟩
      case measure => simp [intOf]; omega
    · go_wp2_with (go_at_call 26; refine (whole26 _ _ ⟨by omega, by omega⟩).mono ?_; rintro e w' ⟨rfl, rfl⟩)
      go_loop [0, 7] (fun r i => ∃ j : Nat, j ≤ 11 ∧ i = .int .i64 (1 + (j : Int)) ∧ r = .int .i64 (n - Dt.yrs k - Dt.cum (1900 + (k : Int)) j) ∧ 1 ≤ n - Dt.yrs k - Dt.cum (1900 + (k : Int)) j) (fun _ i => (13 - intOf i).toNat)
      case atStart => exact ⟨0, by omega, by simp, by simp [Dt.cum], by simp [Dt.cum]; omega⟩
      case round =>
        obtain ⟨j, hj, rfl, rfl, hr'⟩ := hrel
        have cb := Dt.cum_bd (1900 + (k : Int)) j (by omega)
        have db := Dt.dim_bd (1900 + (k : Int)) (1 + (j : Int))
        by_cases hc' : Dt.dim (1900 + (k : Int)) (1 + (j : Int)) < n - Dt.yrs k - Dt.cum (1900 + (k : Int)) j
        · have hj' := cum_room (by omega) hj hc'
          go_wp2_with (go_at_call 25; refine (days25 _ _ _ ⟨by omega, by omega⟩ (by omega) (by omega) HT.out).mono ?_; rintro e w' ⟨rfl, rfl⟩)
          go_round
          case rel => exact ⟨j + 1, hj', by go_num, by rw [Dt.cum_succ, Int.add_comm (j : Int) 1]; go_num, by rw [Dt.cum_succ, Int.add_comm (j : Int) 1]; omega⟩
          case measure => simp [intOf]; omega
        · go_wp2_with (go_at_call 25; refine (days25 _ _ _ ⟨by omega, by omega⟩ (by omega) (by omega) HT.out).mono ?_; rintro e w' ⟨rfl, rfl⟩)
          refine bodyPost_ret (results_tmp4 rfl _ _ _) rfl ?_
          exact dated_of hk hj hr' (by omega)

theorem year_over (n : Int) (k j : Nat) (hj : j ≤ 11) (hj' : 11 ≤ j) : n - Dt.yrs k - Dt.cum (1900 + (k : Int)) j - Dt.dim (1900 + (k : Int)) (1 + (j : Int)) = n - Dt.yrs (k + 1) - Dt.cum (1900 + ((k + 1 : Nat) : Int)) 0 := by
  obtain rfl : j = 11 := by omega
  have h := Dt.cum_all (1900 + (k : Int))
  have h' := Dt.yrs_succ k
  rw [Dt.cum_succ] at h
  have e : ((11 : Nat) : Int) + 1 = 1 + ((11 : Nat) : Int) := by omega
  rw [e] at h
  have h0 : Dt.cum (1900 + ((k + 1 : Nat) : Int)) 0 = 0 := rfl
  omega
theorem year_room {n : Int} {k j : Nat} (hn : n ≤ 109573) (hk : k ≤ 299) (hj : j ≤ 11) (hj' : 11 ≤ j) (h : Dt.dim (1900 + (k : Int)) (1 + (j : Int)) < n - Dt.yrs k - Dt.cum (1900 + (k : Int)) j) : k + 1 ≤ 299 := by
  refine yrs_room hn hk ?_
  have a := year_over n k j hj hj'
  have b := Dt.yrs_succ k
  have h0 : Dt.cum (1900 + ((k + 1 : Nat) : Int)) 0 = 0 := rfl
  omega
set_option maxHeartbeats 1600000 in
theorem civil18_yes (n : Int) (w : World) (h1 : 1 ≤ n) (h2 : n ≤ 109573) : Calls Tryd.prog 18 #[.int .i64 n] w (Dated n w) := by
  go_enter Tryd.func18, Tryd.ntmps18
  go_wp2_with fail
  go_loop [0, 6, 7] (fun r i q => ∃ k j : Nat, k ≤ 299 ∧ j ≤ 11 ∧ i = .int .i64 (1900 + (k : Int)) ∧ q = .int .i64 (1 + (j : Int)) ∧ r = .int .i64 (n - Dt.yrs k - Dt.cum (1900 + (k : Int)) j) ∧ 1 ≤ n - Dt.yrs k - Dt.cum (1900 + (k : Int)) j) (fun r _ _ => (intOf r).toNat)
  case atStart => exact ⟨0, 0, by omega, by omega, by simp, by simp, by simp [Dt.yrs, Dt.cum], by simp [Dt.yrs, Dt.cum]; omega⟩
  case round =>
    obtain ⟨k, j, hk, hj, rfl, rfl, rfl, hr⟩ := hrel
    have yb := Dt.yrs_bd k (by omega)
    have wb := Dt.whole_bd (1900 + (k : Int))
    have cb := Dt.cum_bd (1900 + (k : Int)) j (by omega)
    have db := Dt.dim_bd (1900 + (k : Int)) (1 + (j : Int))
    by_cases hc : Dt.dim (1900 + (k : Int)) (1 + (j : Int)) < n - Dt.yrs k - Dt.cum (1900 + (k : Int)) j
    · by_cases hj' : j < 11
      · go_wp2_with (go_at_call 27; refine (length27 _ _ _ ⟨by omega, by omega⟩).mono ?_; rintro e w' ⟨rfl, rfl⟩)
        go_round
        case rel => exact ⟨k, j + 1, by omega, by omega, rfl, by go_num, by rw [Dt.cum_succ, Int.add_comm (j : Int) 1]; go_num, by rw [Dt.cum_succ, Int.add_comm (j : Int) 1]; omega⟩
        case measure => simp [intOf]; omega
      · have hk' := year_room h2 hk hj (by omega) hc
        have hy' := year_over n k j hj (by omega)
        have HY := Lib.hid hy'
        clear hy'
        go_wp2_with (go_at_call 27; refine (length27 _ _ _ ⟨by omega, by omega⟩).mono ?_; rintro e w' ⟨rfl, rfl⟩)
        go_round
        case rel =>
          refine ⟨k + 1, 0, hk', by omega, by go_num, by simp, ?_, ?_⟩
          · rw [← HY.out]
          · rw [← HY.out]; omega
        case measure => simp [intOf]; omega
    · go_wp2_with (go_at_call 27; refine (length27 _ _ _ ⟨by omega, by omega⟩).mono ?_; rintro e w' ⟨rfl, rfl⟩)
      refine bodyPost_ret (results_tmp4 rfl _ _ _) rfl ?_
      exact dated_of hk hj hr (by omega)
end Go.Proofs.YtjdfdkanojjebaaDoor
