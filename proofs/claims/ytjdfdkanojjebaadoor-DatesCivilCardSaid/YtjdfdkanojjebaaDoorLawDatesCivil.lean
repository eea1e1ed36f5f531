/-
  The walk of the law DatesCivil: it returns true for every number.
-/
import Derived.Test.YtjdfdkanojjebaaDoorFrame
namespace Go.Proofs.YtjdfdkanojjebaaDoor.datesCivil
open Go.RowKit

abbrev FourOut (y m d : Int) (b : Bool) (w : World) : Ending → World → Prop := fun e w' => e = .returned (.tuple #[.int .i64 y, .int .i64 m, .int .i64 d, .bool b]) ∧ w = w'
theorem core (n y m d : Int) (b : Bool) (w : World) (c1 : Hid (Calls Tryd.prog 17 #[.int .i64 n] w (FourOut y m d b w))) (c2 : Hid (Calls Tryd.prog 18 #[.int .i64 n] w (FourOut y m d b w)))
    (c : Hid (Calls Tryd.prog 14 #[] w fun e w' => e = .returned (.bool true) ∧ Below w.heap.size w w')) : Calls Tryd.prog 5 #[.int .i64 n] w fun e w' => e = .returned (.bool true) ∧ Below w.heap.size w w' := by
  have hb : (b == b) = true := by simp
  go_enter Tryd.func5, Tryd.ntmps5
  go_wp2_with fail
  refine c1.out.mono ?_
  rintro e w' ⟨rfl, rfl⟩
  go_wp2_with fail
  refine c2.out.mono ?_
  rintro e w' ⟨rfl, rfl⟩
  go_wp2_with fail
  refine c.out.mono ?_
  rintro e w1 ⟨rfl, hb1⟩
  go_wp2_with fail
  go_ret
  exact ⟨rfl, hb1⟩
theorem law (n : Int) (_ : I64 n) (w : World) (ht : Tab w) : Calls Tryd.prog 5 #[.int .i64 n] w fun e w' => e = .returned (.bool true) ∧ Below w.heap.size w w' := by
  by_cases hn : 1 ≤ n ∧ n ≤ 109573
  · obtain ⟨y, m, d, hv, he⟩ := Dt.date_of hn.1 hn.2
    have k : ∀ e w', Dated n w e w' → FourOut y m d true w e w' := fun e w' ⟨y', m', d', hv', hn', he', hw'⟩ => by
      obtain ⟨rfl, rfl, rfl⟩ := Dt.num_inj hv' hv (hn'.trans he.symm)
      exact ⟨he', hw'⟩
    exact core n y m d true w (Lib.hid ((civil17_yes n w hn.1 hn.2 ht).mono k)) (Lib.hid ((civil18_yes n w hn.1 hn.2).mono k)) (Lib.hid (awake14 w ht))
  · exact core n 0 0 0 false w (Lib.hid (civil17_no n w (by omega))) (Lib.hid (civil18_no n w (by omega))) (Lib.hid (awake14 w ht))
end Go.Proofs.YtjdfdkanojjebaaDoor.datesCivil
