/-
  The walk of the law DatesLeap: it returns true for every number.
-/
import Derived.Test.YtjdfdkanojjebaaDoorFrame
namespace Go.Proofs.YtjdfdkanojjebaaDoor.datesLeap
open Go.RowKit
theorem law (y : Int) (hy : I64 y) (w : World) (ht : Tab w) : Calls Tryd.prog 3 #[.int .i64 y] w fun e w' => e = .returned (.bool true) ∧ Below w.heap.size w w' := by
  have c := Lib.hid (awake14 w ht)
  clear ht
  have c1 := Lib.hid (leap12 y w hy)
  have c2 := Lib.hid (leap13 y w hy)
  generalize Dt.leap y = b at *
  have hb : (b == b) = true := by simp
  go_enter Tryd.func3, Tryd.ntmps3
  go_wp2_with fail
  refine c1.out.mono ?_
  rintro e w' ⟨rfl, rfl⟩
  go_wp2_with fail
  refine c2.out.mono ?_
  rintro e w' ⟨rfl, rfl⟩
  go_wp2_with fail
  refine c.out.mono ?_
  rintro e w1 ⟨rfl, hb1⟩
  go_wp2_with fail
  go_ret
  exact ⟨rfl, hb1⟩
end Go.Proofs.YtjdfdkanojjebaaDoor.datesLeap
