/-
  What the reference's Day returns, for all numbers.
-/
import Derived.Test.YtjdfdkanojjebaaDoorDays
namespace Go.Proofs.YtjdfdkanojjebaaDoor
open Go.RowKit

/-- What the reference's loop holds ahead of its year number k. -/
def acc (y m d : Int) (k : Nat) : Int := if (k : Int) ≤ y - 1900 then d + Dt.yrs k else Dt.num y m d
/-- What it has added of that year behind j months. -/
def inn (y m : Int) (k j : Nat) : Int := if 1900 + (k : Int) < y then Dt.cum (1900 + (k : Int)) j else Dt.cum y (min j (m - 1).toNat)

theorem acc_bd {y m d : Int} (hv : Dt.Valid y m d) (k : Nat) : 0 ≤ acc y m d k ∧ acc y m d k ≤ 109604 := by
  have hn := Dt.num_bd hv
  obtain ⟨y0, y1, m0, m1, d0, d1⟩ := hv
  have := Dt.dim_bd y m
  unfold acc
  split
  · have := Dt.yrs_bd k (by omega); omega
  · omega
theorem inn_bd {y m d : Int} (hv : Dt.Valid y m d) (k j : Nat) (hj : j ≤ 12) : 0 ≤ inn y m k j ∧ inn y m k j ≤ 366 := by
  obtain ⟨y0, y1, m0, m1, d0, d1⟩ := hv
  unfold inn
  split
  · have := Dt.cum_bd (1900 + (k : Int)) j hj; have := Dt.whole_bd (1900 + (k : Int)); omega
  · have := Dt.cum_bd y (min j (m - 1).toNat) (by omega); have := Dt.whole_bd y; omega
theorem inn_zero (y m : Int) (k : Nat) : inn y m k 0 = 0 := by unfold inn; split <;> simp [Dt.cum]
theorem inn_in {y m : Int} {k j : Nat} (hy : 1900 + (k : Int) ≤ y) (h : 1900 + (k : Int) < y ∨ 1 + (j : Int) < m) : inn y m k (j + 1) = inn y m k j + Dt.dim (1900 + (k : Int)) (1 + (j : Int)) := by
  unfold inn
  split
  · rw [Dt.cum_succ, Int.add_comm (j : Int) 1]
  · obtain rfl : y = 1900 + (k : Int) := by omega
    have e1 : min (j + 1) (m - 1).toNat = j + 1 := by omega
    have e2 : min j (m - 1).toNat = j := by omega
    rw [e1, e2, Dt.cum_succ, Int.add_comm (j : Int) 1]
theorem inn_out {y m : Int} {k j : Nat} (h : y ≤ 1900 + (k : Int)) (h' : m ≤ 1 + (j : Int)) : inn y m k (j + 1) = inn y m k j := by
  unfold inn
  rw [if_neg (by omega), if_neg (by omega)]
  have e1 : min (j + 1) (m - 1).toNat = (m - 1).toNat := by omega
  have e2 : min j (m - 1).toNat = (m - 1).toNat := by omega
  rw [e1, e2]
theorem acc_succ {y m d : Int} (hv : Dt.Valid y m d) {k : Nat} (hy : 1900 + (k : Int) ≤ y) : acc y m d (k + 1) = acc y m d k + inn y m k 12 := by
  obtain ⟨y0, y1, m0, m1, d0, d1⟩ := hv
  unfold acc inn
  by_cases h : 1900 + (k : Int) < y
  · rw [if_pos (by omega), if_pos (by omega), if_pos h, Dt.yrs_succ, Dt.cum_all]; omega
  · obtain rfl : y = 1900 + (k : Int) := by omega
    rw [if_neg (by omega), if_pos (by omega), if_neg h]
    have e1 : min 12 (m - 1).toNat = (m - 1).toNat := by omega
    have e2 : (1900 + (k : Int) - 1900).toNat = k := by omega
    unfold Dt.num
    rw [e1, e2]; omega

theorem day16_no (y m d : Int) (w : World) (hy : I64 y) (hv : ¬ Dt.Valid y m d) :
    Calls Tryd.prog 16 #[.int .i64 y, .int .i64 m, .int .i64 d] w fun e w' => e = .returned (.tuple #[.int .i64 0, .bool false]) ∧ w = w' := by
  have HV := Lib.hid hv
  clear hv
  go_enter Tryd.func16, Tryd.ntmps16
  go_wp2_with (go_at_call 27; refine (length27 _ _ _ hy).mono ?_; rintro e w' ⟨rfl, rfl⟩)
  all_goals first | (go_ret2; exact ⟨rfl, rfl⟩) | (exfalso; exact HV.out ⟨by omega, by omega, by omega, by omega, by omega, by omega⟩)

set_option maxHeartbeats 1600000 in
theorem day16_yes (y m d : Int) (w : World) (hv : Dt.Valid y m d) :
    Calls Tryd.prog 16 #[.int .i64 y, .int .i64 m, .int .i64 d] w fun e w' => e = .returned (.tuple #[.int .i64 (Dt.num y m d), .bool true]) ∧ w = w' := by
  have HV := Lib.hid hv
  obtain ⟨y0, y1, m0, m1, d0, d1⟩ := hv
  have hy : I64 y := ⟨by omega, by omega⟩
  have db := Dt.dim_bd y m
  go_enter Tryd.func16, Tryd.ntmps16
  go_wp2_with (go_at_call 27; refine (length27 _ _ _ hy).mono ?_; rintro e w' ⟨rfl, rfl⟩)
  go_loop [8, 9] (fun n i => ∃ k : Nat, (k : Int) ≤ y - 1900 + 1 ∧ i = .int .i64 (1900 + (k : Int)) ∧ n = .int .i64 (acc y m d k)) (fun _ i => (2201 - intOf i).toNat)
  case atStart => exact ⟨0, by omega, by simp, by unfold acc; rw [if_pos (by omega)]; simp [Dt.yrs]⟩
  case round =>
    obtain ⟨k, hk, rfl, rfl⟩ := hrel
    have ab := acc_bd HV.out k
    by_cases hle : 1900 + (k : Int) ≤ y
    · go_wp2_with fail
      go_loop [8, 10] (fun n i => ∃ j : Nat, j ≤ 12 ∧ i = .int .i64 (1 + (j : Int)) ∧ n = .int .i64 (acc y m d k + inn y m k j)) (fun _ i => (13 - intOf i).toNat)
      case atStart => exact ⟨0, by omega, by simp, by rw [inn_zero]; simp⟩
      case round =>
        obtain ⟨j, hj, rfl, rfl⟩ := hrel
        have ib := inn_bd HV.out k j hj
        by_cases hj' : j < 12
        · have db' := Dt.dim_bd (1900 + (k : Int)) (1 + (j : Int))
          have hky : I64 (1900 + (k : Int)) := ⟨by omega, by omega⟩
          by_cases hc : 1900 + (k : Int) < y
          · go_wp2_with (go_at_call 27; refine (length27 _ _ _ hky).mono ?_; rintro e w' ⟨rfl, rfl⟩)
            go_round
            case rel => exact ⟨j + 1, by omega, by go_num, by rw [inn_in hle (.inl hc)]; go_num⟩
            case measure => simp [intOf]; omega
          · by_cases hc' : 1 + (j : Int) < m
            · go_wp2_with (go_at_call 27; refine (length27 _ _ _ hky).mono ?_; rintro e w' ⟨rfl, rfl⟩)
              go_round
              case rel => exact ⟨j + 1, by omega, by go_num, by rw [inn_in hle (.inr hc')]; go_num⟩
              case measure => simp [intOf]; omega
            · go_wp2_with fail
              go_round
              case rel => exact ⟨j + 1, by omega, by go_num, by rw [inn_out (by omega) (by omega)]⟩
              case measure => simp [intOf]; omega
        · obtain rfl : j = 12 := by omega
          go_wp2_with fail
          go_round
          case rel => exact ⟨k + 1, by omega, by go_num, by rw [acc_succ HV.out hle]⟩
          case measure => simp [intOf]; omega
    · have hacc : acc y m d k = Dt.num y m d := by unfold acc; rw [if_neg (by omega)]
      have HA := Lib.hid hacc
      clear hacc
      go_wp2_with fail
      go_ret2
      exact ⟨by rw [HA.out]; rfl, rfl⟩
end Go.Proofs.YtjdfdkanojjebaaDoor
