/-
  The program's tables and operators: what of returns, and the methods of the operators.
-/
import Derived.Test.YtgbjldkbbbjnkaaDoorCho2
namespace Go.Proofs.YtgbjldkbbbjnkaaDoor
open Go.RowKit Go.PlainAid Pl

/-- The names of the pairs. -/
def pairsN : List (List UInt8) := [[], [97, 110, 100], [111, 114], [], [116, 104, 101, 110], [119, 105, 116, 104, 105, 110], [104, 97, 115]]
/-- The package-level tables, as the program's text lays them. -/
structure Tab (w : World) : Prop where
  z : 5 ≤ w.heap.size
  r : ∀ i v, rolesN[i]? = some v → w.cell? ⟨0, i, none⟩ = some (.string (str v))
  p : ∀ i v, pairsN[i]? = some v → w.cell? ⟨1, i, none⟩ = some (.string (str v))
  u : Lib.Utf8Tabs 2 3 w
  m : ∃ m, w.cell? ⟨4, 0, none⟩ = some (.int .i64 m)
theorem Tab.below {w w' : World} (h : Tab w) (hb : Below w.heap.size w w') : Tab w' := by
  have hz := h.z
  refine ⟨Nat.le_trans h.z hb.size, fun i v hi => (hb.cell (p := ⟨0, i, none⟩) (by show 0 < _; omega)).trans (h.r i v hi), fun i v hi => (hb.cell (p := ⟨1, i, none⟩) (by show 1 < _; omega)).trans (h.p i v hi), Utf8Tabs_below h.u hb, ?_⟩
  obtain ⟨m, hm⟩ := h.m
  exact ⟨m, (hb.cell (p := ⟨4, 0, none⟩) (by show 4 < _; omega)).trans hm⟩
theorem utf8_low {g3 g4 B : Nat} {w w' : World} (h : Lib.Utf8Tabs g3 g4 w) (hb : Below B w w') (h3 : g3 < B) (h4 : g4 < B) : Lib.Utf8Tabs g3 g4 w' :=
  ⟨fun c hc => (hb.cell (p := ⟨g3, _, none⟩) h3).trans (h.1 c hc), fun i hi => ⟨(hb.cell (p := ⟨g4, _, none⟩) h4).trans (h.2 i hi).1, (hb.cell (p := ⟨g4, _, none⟩) h4).trans (h.2 i hi).2⟩⟩
theorem Tab.low {w w' : World} (h : Tab w) (hb : Below 5 w w') : Tab w' := by
  refine ⟨Nat.le_trans h.z hb.size, fun i v hi => (hb.cell (p := ⟨0, i, none⟩) (by show 0 < 5; omega)).trans (h.r i v hi), fun i v hi => (hb.cell (p := ⟨1, i, none⟩) (by show 1 < 5; omega)).trans (h.p i v hi), utf8_low h.u hb (by omega) (by omega), ?_⟩
  obtain ⟨m, hm⟩ := h.m
  exact ⟨m, (hb.cell (p := ⟨4, 0, none⟩) (by show 4 < 5; omega)).trans hm⟩
theorem Tab.onl {w w' : World} {g : Nat} (h : Tab w) (ho : Onl g w w') (hg : 5 ≤ g) : Tab w' := h.low (ho.to hg h.z)
theorem Tab.drew {w : World} (h : Tab w) : Tab w.drew := ⟨h.z, h.r, h.p, h.u, h.m⟩
/-- What of returns. -/
def ofV (o : Int) : Value := if o = 3 then .iface 61 (.agg #[]) else if 0 < o ∧ o < 7 then .iface 59 (.agg #[.string (str (pairsN.getD o.toNat []))]) else .iface 64 (.agg #[])
def ofB (o : Int) : Bool := decide (0 ≤ o) && decide (o < 7)
theorem ofV_leaf {o : Int} (h : o = 0 ∨ o < 0 ∨ 7 ≤ o) : ofV o = .iface 64 (.agg #[]) := by
  unfold ofV
  rw [if_neg (by omega), if_neg (by omega)]
theorem ofV_not : ofV 3 = .iface 61 (.agg #[]) := rfl
theorem ofV_pair {o : Int} (h0 : 0 < o) (h1 : o < 7) (h3 : o ≠ 3) : ofV o = .iface 59 (.agg #[.string (str (pairsN.getD o.toNat []))]) := by
  unfold ofV
  rw [if_neg h3, if_pos ⟨h0, h1⟩]
theorem pairs_get {o : Int} (h0 : 0 ≤ o) (h1 : o < 7) : pairsN[o.toNat]? = some (pairsN.getD o.toNat []) := by
  have h : o.toNat < pairsN.length := by show o.toNat < 7; omega
  rw [List.getD_eq_getElem?_getD, List.getElem?_eq_getElem h]
  rfl
theorem of37 (o : Int) (w : World) (hT : Tab w) : Calls Tryd.prog 37 #[.int .i64 o] w fun e w' => e = .returned (.tuple #[ofV o, .bool (ofB o)]) ∧ w' = w := by
  cases h0 : (o == 0)
  case true =>
    obtain rfl : o = 0 := by simpa using h0
    clear h0 hT
    go_enter Tryd.func37, Tryd.ntmps37
    go_wp2
    go_ret2
    exact ⟨rfl, rfl⟩
  cases h3 : (o == 3)
  case true =>
    obtain rfl : o = 3 := by simpa using h3
    clear h0 h3 hT
    go_enter Tryd.func37, Tryd.ntmps37
    go_wp2
    go_ret2
    exact ⟨rfl, rfl⟩
  have n0 : o ≠ 0 := by simpa using h0
  have n3 : o ≠ 3 := by simpa using h3
  by_cases hp : 0 < o
  · by_cases h7 : o < 7
    · have hc := hT.p _ _ (pairs_get (by omega) h7)
      have f := Lib.hid (And.intro (ofV_pair hp h7 n3) (show ofB o = true by simp [ofB]; omega))
      clear hT n0 n3
      go_enter Tryd.func37, Tryd.ntmps37
      go_wp2
      go_ret2
      exact ⟨by rw [f.out.1, f.out.2]; rfl, rfl⟩
    · have f := Lib.hid (And.intro (ofV_leaf (o := o) (by omega)) (show ofB o = false by simp [ofB]; omega))
      clear hT n0 n3
      go_enter Tryd.func37, Tryd.ntmps37
      go_wp2
      go_ret2
      exact ⟨by rw [f.out.1, f.out.2]; rfl, rfl⟩
  · have f := Lib.hid (And.intro (ofV_leaf (o := o) (by omega)) (show ofB o = false by simp [ofB]; omega))
    clear hT n0 n3
    go_enter Tryd.func37, Tryd.ntmps37
    go_wp2
    go_ret2
    exact ⟨by rw [f.out.1, f.out.2]; rfl, rfl⟩
theorem leaf117 (w : World) : Calls Tryd.prog 117 #[.agg #[]] w fun e w' => e = .returned (.int .i64 0) ∧ Below w.heap.size w w' := by
  go_enter Tryd.func117, Tryd.ntmps117
  go_wp2
  go_ret
  exact ⟨rfl, below_one _ _⟩
theorem negation116 (w : World) : Calls Tryd.prog 116 #[.agg #[]] w fun e w' => e = .returned (.int .i64 1) ∧ Below w.heap.size w w' := by
  go_enter Tryd.func116, Tryd.ntmps116
  go_wp2
  go_ret
  exact ⟨rfl, below_one _ _⟩
theorem pair115 (t : ByteArray) (w : World) : Calls Tryd.prog 115 #[.agg #[.string t]] w fun e w' => e = .returned (.int .i64 2) ∧ Below w.heap.size w w' := by
  go_enter Tryd.func115, Tryd.ntmps115
  go_wp2
  go_ret
  exact ⟨rfl, below_one _ _⟩
end Go.Proofs.YtgbjldkbbbjnkaaDoor
