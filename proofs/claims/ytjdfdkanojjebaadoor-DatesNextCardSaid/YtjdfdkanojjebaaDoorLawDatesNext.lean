/-
  The walk of the law DatesNext: it returns true for every number.
-/
import Derived.Test.YtjdfdkanojjebaaDoorFrame
namespace Go.Proofs.YtjdfdkanojjebaaDoor.datesNext
open Go.RowKit
abbrev FourOut (y m d : Int) (b : Bool) (w : World) : Ending → World → Prop := fun e w' => e = .returned (.tuple #[.int .i64 y, .int .i64 m, .int .i64 d, .bool b]) ∧ w = w'
abbrev IntOut (n : Int) (w : World) : Ending → World → Prop := fun e w' => e = .returned (.int .i64 n) ∧ w = w'
abbrev True_ (w : World) : Ending → World → Prop := fun e w' => e = .returned (.bool true) ∧ Below w.heap.size w w'
theorem out (n : Int) (w : World) (ht : Tab w) (h : n < 1 ∨ 109573 ≤ n) : Calls Tryd.prog 9 #[.int .i64 n] w (True_ w) := by
  have c := Lib.hid (awake14 w ht)
  clear ht
  rcases h with h | h
  · go_enter Tryd.func9, Tryd.ntmps9
    go_wp2_with fail
    refine c.out.mono ?_
    rintro e w1 ⟨rfl, hb1⟩
    go_wp2_with fail
    go_ret
    exact ⟨rfl, hb1⟩
  · have h' : 1 ≤ n := by omega
    go_enter Tryd.func9, Tryd.ntmps9
    go_wp2_with fail
    refine c.out.mono ?_
    rintro e w1 ⟨rfl, hb1⟩
    go_wp2_with fail
    go_ret
    exact ⟨rfl, hb1⟩
structure Facts (n y m d a b c r1 r2 z : Int) (more : Bool) (w : World) : Prop where
  one : Calls Tryd.prog 17 #[.int .i64 n] w (FourOut y m d true w)
  two : Calls Tryd.prog 17 #[.int .i64 (n + 1)] w (FourOut a b c true w)
  week : Calls Tryd.prog 19 #[.int .i64 n] w (IntOut r1 w)
  next : Calls Tryd.prog 19 #[.int .i64 (n + 1)] w (IntOut r2 w)
  day : Calls Tryd.prog 15 #[.int .i64 y, .int .i64 m, .int .i64 (d + 1)] w (TwoOut z more w)
  wake : Calls Tryd.prog 14 #[] w (True_ w)
set_option maxHeartbeats 1600000 in
set_option maxRecDepth 100000 in
theorem more_ (n y m d r1 r2 z : Int) (w : World) (h1 : 1 ≤ n) (h2 : n < 109573) (d1 : 1 ≤ d) (d2 : d ≤ 31) (k1 : 0 ≤ r1) (k2 : r1 ≤ 6) (hr : (r2 != (r1 + 1) % 7) = false) (F : Facts n y m d y m (d + 1) r1 r2 z true w) :
    Calls Tryd.prog 9 #[.int .i64 n] w (True_ w) := by
  go_enter Tryd.func9, Tryd.ntmps9
  go_wp2_with fail
  refine F.one.mono ?_
  rintro e w' ⟨rfl, rfl⟩
  go_wp2_with fail
  refine F.two.mono ?_
  rintro e w' ⟨rfl, rfl⟩
  go_wp2_with fail
  refine F.next.mono ?_
  rintro e w' ⟨rfl, rfl⟩
  go_wp2_with fail
  refine F.week.mono ?_
  rintro e w' ⟨rfl, rfl⟩
  go_wp2_with fail
  refine F.day.mono ?_
  rintro e w' ⟨rfl, rfl⟩
  go_wp2_with fail
  refine F.wake.mono ?_
  rintro e w1 ⟨rfl, hb1⟩
  go_wp2_with fail
  go_ret
  exact ⟨rfl, hb1⟩
set_option maxHeartbeats 1600000 in
set_option maxRecDepth 100000 in
theorem month_ (n y m d r1 r2 z : Int) (w : World) (h1 : 1 ≤ n) (h2 : n < 109573) (d1 : 1 ≤ d) (d2 : d ≤ 31) (m1 : 1 ≤ m) (m2 : m < 12) (k1 : 0 ≤ r1) (k2 : r1 ≤ 6) (hr : (r2 != (r1 + 1) % 7) = false) (F : Facts n y m d y (m + 1) 1 r1 r2 z false w) :
    Calls Tryd.prog 9 #[.int .i64 n] w (True_ w) := by
  go_enter Tryd.func9, Tryd.ntmps9
  go_wp2_with fail
  refine F.one.mono ?_
  rintro e w' ⟨rfl, rfl⟩
  go_wp2_with fail
  refine F.two.mono ?_
  rintro e w' ⟨rfl, rfl⟩
  go_wp2_with fail
  refine F.next.mono ?_
  rintro e w' ⟨rfl, rfl⟩
  go_wp2_with fail
  refine F.week.mono ?_
  rintro e w' ⟨rfl, rfl⟩
  go_wp2_with fail
  refine F.day.mono ?_
  rintro e w' ⟨rfl, rfl⟩
  go_wp2_with fail
  refine F.wake.mono ?_
  rintro e w1 ⟨rfl, hb1⟩
  go_wp2_with fail
  go_ret
  exact ⟨rfl, hb1⟩
set_option maxHeartbeats 1600000 in
set_option maxRecDepth 100000 in
theorem year_ (n y r1 r2 z : Int) (w : World) (h1 : 1 ≤ n) (h2 : n < 109573) (y1 : 1900 ≤ y) (y2 : y ≤ 2199) (k1 : 0 ≤ r1) (k2 : r1 ≤ 6) (hr : (r2 != (r1 + 1) % 7) = false) (F : Facts n y 12 31 (y + 1) 1 1 r1 r2 z false w) :
    Calls Tryd.prog 9 #[.int .i64 n] w (True_ w) := by
  go_enter Tryd.func9, Tryd.ntmps9
  go_wp2_with fail
  refine F.one.mono ?_
  rintro e w' ⟨rfl, rfl⟩
  go_wp2_with fail
  refine F.two.mono ?_
  rintro e w' ⟨rfl, rfl⟩
  go_wp2_with fail
  refine F.next.mono ?_
  rintro e w' ⟨rfl, rfl⟩
  go_wp2_with fail
  refine F.week.mono ?_
  rintro e w' ⟨rfl, rfl⟩
  go_wp2_with fail
  refine F.day.mono ?_
  rintro e w' ⟨rfl, rfl⟩
  go_wp2_with fail
  refine F.wake.mono ?_
  rintro e w1 ⟨rfl, hb1⟩
  go_wp2_with fail
  go_ret
  exact ⟨rfl, hb1⟩
theorem civil_of {n y m d : Int} (hv : Dt.Valid y m d) (hn : Dt.num y m d = n) (w : World) (ht : Tab w) : Calls Tryd.prog 17 #[.int .i64 n] w (FourOut y m d true w) := by
  subst hn
  exact (civil17_yes _ w (Dt.num_bd hv).1 (Dt.num_bd hv).2 ht).mono fun e w' ⟨y', m', d', hv', hn', he', hw'⟩ => by
    obtain ⟨rfl, rfl, rfl⟩ := Dt.num_inj hv' hv hn'
    exact ⟨he', hw'⟩
theorem week_of {n : Int} (h1 : 1 ≤ n) (h2 : n ≤ 109573) (w : World) : Calls Tryd.prog 19 #[.int .i64 n] w (IntOut ((n - 1) % 7) w) :=
  (weekday19 n w ⟨by omega, by omega⟩).mono fun e w' ⟨he, hw⟩ => ⟨by rw [he, if_neg (by omega)], hw⟩
theorem law (n : Int) (_ : I64 n) (w : World) (ht : Tab w) : Calls Tryd.prog 9 #[.int .i64 n] w (True_ w) := by
  by_cases ho : n < 1 ∨ 109573 ≤ n
  · exact out n w ht ho
  · obtain ⟨y, m, d, hv, hn⟩ := Dt.date_of (n := n) (by omega) (by omega)
    have hw1 := week_of (n := n) (by omega) (by omega) w
    have hw2 := week_of (n := n + 1) (by omega) (by omega) w
    have hr : ((n + 1 - 1) % 7 != ((n - 1) % 7 + 1) % 7) = false := by rw [bne_eq_false_iff_eq]; omega
    have hc := civil_of hv hn w ht
    have hk := awake14 w ht
    obtain ⟨y0, y1, m0, m1, d0, d1⟩ := hv
    have db := Dt.dim_bd y m
    by_cases hmore : Dt.Valid y m (d + 1)
    · have hn2 : Dt.num y m (d + 1) = n + 1 := by unfold Dt.num at *; omega
      exact more_ n y m d _ _ _ w (by omega) (by omega) d0 (by omega) (by omega) (by omega) hr ⟨hc, civil_of hmore hn2 w ht, hw1, hw2, day15_yes y m (d + 1) w hmore ht, hk⟩
    · have hd : d = Dt.dim y m := by
        have : ¬ (d + 1 ≤ Dt.dim y m) := fun h => hmore ⟨y0, y1, m0, m1, by omega, h⟩
        omega
      have hno := day15_no y m (d + 1) w ⟨by omega, by omega⟩ hmore ht
      have hcd := Dt.cum_dim y m m0
      by_cases hm : m < 12
      · have hn2 : Dt.num y (m + 1) 1 = n + 1 := by
          have e : (m + 1 - 1).toNat = m.toNat := by omega
          unfold Dt.num at *; rw [e]; omega
        have hv2 : Dt.Valid y (m + 1) 1 := ⟨y0, y1, by omega, by omega, by omega, by have := Dt.dim_bd y (m + 1); omega⟩
        exact month_ n y m d _ _ _ w (by omega) (by omega) d0 (by omega) m0 hm (by omega) (by omega) hr ⟨hc, civil_of hv2 hn2 w ht, hw1, hw2, hno, hk⟩
      · obtain rfl : m = 12 := by omega
        have h31 : Dt.dim y 12 = 31 := by simp [Dt.dim]
        obtain rfl : d = 31 := by omega
        have hall := Dt.cum_all y
        have hyw := Dt.yrs_whole y y0
        have hy2 : y + 1 ≤ 2199 := by
          rcases Int.lt_or_le y 2199 with h | h
          · omega
          · obtain rfl : y = 2199 := by omega
            rw [num_last] at hn
            omega
        have e12 : (12 : Int).toNat = 12 := rfl
        rw [e12, hall] at hcd
        have hn2 : Dt.num (y + 1) 1 1 = n + 1 := by
          have e : ((1 : Int) - 1).toNat = 0 := by omega
          have e0 : Dt.cum (y + 1) 0 = 0 := rfl
          unfold Dt.num at *
          rw [e, e0, ← hyw]; omega
        have hv2 : Dt.Valid (y + 1) 1 1 := ⟨by omega, hy2, by omega, by omega, by omega, by have := Dt.dim_bd (y + 1) 1; omega⟩
        exact year_ n y _ _ _ w (by omega) (by omega) y0 y1 (by omega) (by omega) hr ⟨hc, civil_of hv2 hn2 w ht, hw1, hw2, hno, hk⟩
end Go.Proofs.YtjdfdkanojjebaaDoor.datesNext
