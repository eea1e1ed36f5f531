/-
  Queries that a call makes: their rows lie in new blocks; a box of four cells that a call writes.
-/
import Derived.Test.YtgbjldkbbbjnkaaDoorExpR
namespace Go.Proofs.YtgbjldkbbbjnkaaDoor
open Go.RowKit Go.PlainAid Pl

/-- A kid in a block from lo on. -/
def KN (w : World) (lo B : Nat) (A : Option Addr) (j : Nat) (v : Value) : Prop := KC w B A j v ∧ ∀ ad, A = some ad → lo ≤ ad.block
/-- A value that reads as a query whose rows lie from lo on. -/
inductive QN (w : World) (lo B : Nat) : Qt → Value → Prop
  | mk (o r : Int) (t : ByteArray) (ks : List Qt) (A : Option Addr) (cap : Nat) (V : Nat → Value) : (∀ j k, ks[j]? = some k → KN w lo B A j (V j)) → (∀ j k, ks[j]? = some k → QN w lo B k (V j)) →
      QN w lo B (.mk o r t ks) (.agg #[.int .i64 o, .int .i64 r, .string t, .slice A ks.length cap])
section
variable {w w' : World} {lo lo' B B' : Nat} {q : Qt} {v : Value}
theorem QN.at_ (h : QN w lo B q v) : QAt w B q v := by
  induction h with
  | mk o r t ks A cap V h1 _ ih => exact .mk o r t ks A cap V (fun j k hj => (h1 j k hj).1) ih
theorem KC.keep2 {A : Option Addr} {j : Nat} {v : Value} (h : KC w B A j v) (h2 : ∀ ad, A = some ad → lo ≤ ad.block) (hk : ∀ p : Addr, lo ≤ p.block → p.block < B → w'.cell? p = w.cell? p) : KC w' B A j v := by
  obtain ⟨ad, a, b, c, d, h1, h3, h4, h5, h6, h7, h8⟩ := h
  have e : (ad.add (j * 4)).block < B := by rw [block_of_add]; exact h3
  have e2 : lo ≤ (ad.add (j * 4)).block := by rw [block_of_add]; exact h2 ad h1
  exact ⟨ad, a, b, c, d, h1, h3, h4, (hk _ e2 e).trans h5, (hk ⟨(ad.add (j * 4)).block, (ad.add (j * 4)).off + 1, none⟩ e2 e).trans h6, (hk ⟨(ad.add (j * 4)).block, (ad.add (j * 4)).off + 2, none⟩ e2 e).trans h7, (hk ⟨(ad.add (j * 4)).block, (ad.add (j * 4)).off + 3, none⟩ e2 e).trans h8⟩
theorem QN.keep (h : QN w lo B q v) (hk : ∀ p : Addr, lo ≤ p.block → p.block < B → w'.cell? p = w.cell? p) : QN w' lo B q v := by
  induction h with
  | mk o r t ks A cap V h1 _ ih => exact .mk o r t ks A cap V (fun j k hj => ⟨(h1 j k hj).1.keep2 (h1 j k hj).2 hk, (h1 j k hj).2⟩) ih
theorem QN.more (h : QN w lo B q v) (hB : B ≤ B') : QN w lo B' q v := by
  induction h with
  | mk o r t ks A cap V h1 _ ih => exact .mk o r t ks A cap V (fun j k hj => ⟨(h1 j k hj).1.more hB, (h1 j k hj).2⟩) ih
theorem QN.less (h : QN w lo B q v) (hB : lo' ≤ lo) : QN w lo' B q v := by
  induction h with
  | mk o r t ks A cap V h1 _ ih => exact .mk o r t ks A cap V (fun j k hj => ⟨(h1 j k hj).1, fun ad h => Nat.le_trans hB ((h1 j k hj).2 ad h)⟩) ih
theorem QN.flat (h : QN w lo B q v) : ∃ a b c d, v = .agg #[a, b, c, d] := h.at_.flat
theorem QN.step (h : QN w lo w.heap.size q v) (hb : Below w.heap.size w w') : QN w' lo w'.heap.size q v := (h.keep fun p _ hp => hb.cell (p := p) hp).more hb.size
theorem QN.set (h : QN w lo B q v) {p : Addr} (hp : p.block < lo) (u : Value) : QN (w.setCell p u) lo B q v :=
  h.keep fun p' h1 _ => World.cell?_setCell_other w p p' u (fun e => by subst e; omega)
theorem QN.grown (h : QN w lo B q v) {row : Option Nat} (hg : w.grownBy w' row) (hB : B ≤ w.heap.size) (hr : ∀ g, row = some g → g < lo) : QN w' lo B q v :=
  h.keep fun p h1 h2 => World.cell?_of_block (hg.block p.block (by omega) (fun e => by have := hr _ e.symm; omega))
theorem QN.leaf {o r : Int} {t : ByteArray} (c : Nat) : QN w lo B (.mk o r t []) (.agg #[.int .i64 o, .int .i64 r, .string t, .slice none 0 c]) :=
  .mk o r t [] none c (fun _ => .agg #[]) (fun j k h => by simp at h) (fun j k h => by simp at h)
theorem QN.set4 (h : QN w lo B q v) {b : Nat} (hb : b < lo) (x0 x1 x2 x3 : Value) : QN ((((w.setCell ⟨b, 0, none⟩ x0).setCell ⟨b, 1, none⟩ x1).setCell ⟨b, 2, none⟩ x2).setCell ⟨b, 3, none⟩ x3) lo B q v :=
  (((h.set (p := ⟨b, 0, none⟩) hb x0).set (p := ⟨b, 1, none⟩) hb x1).set (p := ⟨b, 2, none⟩) hb x2).set (p := ⟨b, 3, none⟩) hb x3
end
/-- The cells of some kids, beside the block g of their row. -/
def Row (w : World) (lo B : Nat) (g : Option Nat) (ks : List Qt) (xs : List Value) : Prop :=
  xs.length = 4 * ks.length ∧ ∀ j k, ks[j]? = some k → ∃ a b c d l' B', xs[4 * j]? = some a ∧ xs[4 * j + 1]? = some b ∧ xs[4 * j + 2]? = some c ∧ xs[4 * j + 3]? = some d ∧ lo ≤ l' ∧ B' ≤ B ∧ (∀ i, g = some i → i < l' ∨ B' ≤ i) ∧ QN w l' B' k (.agg #[a, b, c, d])
section
variable {w w' : World} {lo B B' : Nat} {g g' : Option Nat} {ks : List Qt} {xs : List Value}
theorem Row.nil : Row w lo B g [] [] := ⟨rfl, fun j k h => by simp at h⟩
theorem Row.snoc (h : Row w lo B g ks xs) {k : Qt} {a b c d : Value} {l' : Nat} (hq : QN w l' B' k (.agg #[a, b, c, d])) (h1 : lo ≤ l') (h2 : B' ≤ B) (h3 : ∀ i, g = some i → i < l' ∨ B' ≤ i) : Row w lo B g (ks ++ [k]) (xs ++ [a, b, c, d]) := by
  obtain ⟨e1, e2⟩ := h
  refine ⟨by simp [e1]; omega, fun j k' hj => ?_⟩
  by_cases hl : j < ks.length
  · rw [List.getElem?_append_left hl] at hj
    obtain ⟨a', b', c', d', l2, B2, g1, g2, g3, g4, g5⟩ := e2 j k' hj
    refine ⟨a', b', c', d', l2, B2, ?_, ?_, ?_, ?_, g5⟩
    · rw [List.getElem?_append_left (by omega)]; exact g1
    · rw [List.getElem?_append_left (by omega)]; exact g2
    · rw [List.getElem?_append_left (by omega)]; exact g3
    · rw [List.getElem?_append_left (by omega)]; exact g4
  · have hj2 := lt_get hj
    rw [List.length_append, List.length_singleton] at hj2
    obtain rfl : j = ks.length := by omega
    rw [List.getElem?_append_right (Nat.le_refl _), Nat.sub_self] at hj
    simp at hj
    subst hj
    refine ⟨a, b, c, d, l', B', ?_, ?_, ?_, ?_, h1, h2, h3, hq⟩
    · rw [List.getElem?_append_right (by omega), show 4 * ks.length - xs.length = 0 by omega]; rfl
    · rw [List.getElem?_append_right (by omega), show 4 * ks.length + 1 - xs.length = 1 by omega]; rfl
    · rw [List.getElem?_append_right (by omega), show 4 * ks.length + 2 - xs.length = 2 by omega]; rfl
    · rw [List.getElem?_append_right (by omega), show 4 * ks.length + 3 - xs.length = 3 by omega]; rfl
theorem Row.step (h : Row w lo w.heap.size g ks xs) (hb : Below w.heap.size w w') : Row w' lo w'.heap.size g ks xs := ⟨h.1, fun j k hj => by
  obtain ⟨a, b, c, d, l', B', g1, g2, g3, g4, g5, g6, g7, g8⟩ := h.2 j k hj
  exact ⟨a, b, c, d, l', B', g1, g2, g3, g4, g5, Nat.le_trans g6 hb.size, g7, g8.keep fun p _ hp => hb.cell (p := p) (Nat.lt_of_lt_of_le hp g6)⟩⟩
theorem Row.set (h : Row w lo B g ks xs) {p : Addr} (hp : p.block < lo) (u : Value) : Row (w.setCell p u) lo B g ks xs := ⟨h.1, fun j k hj => by
  obtain ⟨a, b, c, d, l', B', g1, g2, g3, g4, g5, g6, g7, g8⟩ := h.2 j k hj
  exact ⟨a, b, c, d, l', B', g1, g2, g3, g4, g5, g6, g7, g8.set (by omega) u⟩⟩
theorem Row.grow (h : Row w lo w.heap.size g ks xs) (hg : w.grownBy w' g) (hn : g' = g ∨ g' = some w.heap.size) : Row w' lo w'.heap.size g' ks xs := ⟨h.1, fun j k hj => by
  obtain ⟨a, b, c, d, l', B', g1, g2, g3, g4, g5, g6, g7, g8⟩ := h.2 j k hj
  refine ⟨a, b, c, d, l', B', g1, g2, g3, g4, g5, Nat.le_trans g6 hg.size, fun i hi => ?_, g8.keep fun p h1 h2 => World.cell?_of_block (hg.block p.block (by omega) (fun e => by have := g7 _ e.symm; omega))⟩
  rcases hn with rfl | rfl
  · exact g7 i hi
  · cases hi
    exact .inr g6⟩
/-- A node whose kids lie in a row of the call's own. -/
theorem Row.node {base n : Nat} {v : Value} (h : Row w lo w.heap.size g ks xs) (ho : w.ownsRow base 25 4 v n xs) (hn : n = ks.length) (hb : lo ≤ base) (o r : Int) (t : ByteArray) : QN w lo w.heap.size (.mk o r t ks) (.agg #[.int .i64 o, .int .i64 r, .string t, v]) := by
  subst hn
  have ho' := ho
  rcases ho'.2 with ⟨rfl, h0⟩ | ⟨gb, cap, cur, rfl, hg, hc, _⟩
  · have : ks = [] := List.length_eq_zero_iff.1 h0
    subst this
    exact QN.leaf 0
  · have hcells := ho.cells (g := gb) rfl
    have hlt := (Array.getElem?_eq_some_iff.1 hc).1
    have add : ∀ i, (⟨gb, 0, none⟩ : Addr).add i = ⟨gb, i, none⟩ := fun i => by unfold Addr.add; split <;> simp_all
    refine .mk o r t ks (some ⟨gb, 0, none⟩) cap (fun j => .agg #[xs.getD (4 * j) .nilIface, xs.getD (4 * j + 1) .nilIface, xs.getD (4 * j + 2) .nilIface, xs.getD (4 * j + 3) .nilIface]) (fun j k hj => ?_) (fun j k hj => ?_)
    · obtain ⟨a, b, c, d, _, _, g1, g2, g3, g4, _⟩ := h.2 j k hj
      refine ⟨⟨⟨gb, 0, none⟩, a, b, c, d, rfl, hlt, ?_, ?_, ?_, ?_, ?_⟩, fun ad h => by cases h; exact Nat.le_trans hb hg⟩
      · simp only [List.getD_eq_getElem?_getD, g1, g2, g3, g4, Option.getD_some]
      · rw [Nat.mul_comm]; exact hcells _ _ g1
      · rw [add]; have := hcells _ _ g2; rw [add] at this; rw [Nat.mul_comm]; exact this
      · rw [add]; have := hcells _ _ g3; rw [add] at this; rw [Nat.mul_comm]; exact this
      · rw [add]; have := hcells _ _ g4; rw [add] at this; rw [Nat.mul_comm]; exact this
    · obtain ⟨a, b, c, d, l', B', g1, g2, g3, g4, g5, g6, _, g8⟩ := h.2 j k hj
      simp only [List.getD_eq_getElem?_getD, g1, g2, g3, g4, Option.getD_some]
      exact (g8.less g5).more g6
end
/-! A box of four cells. -/
section
variable {w : World} {B : Nat} {a b c d x : Value} {T : TypeId}
theorem quad_cells (h : w.heap[B]? = some (.cells #[a, b, c, d] T)) : w.cell? ⟨B, 0, none⟩ = some a ∧ w.cell? ⟨B, 1, none⟩ = some b ∧ w.cell? ⟨B, 2, none⟩ = some c ∧ w.cell? ⟨B, 3, none⟩ = some d := by
  unfold World.cell?
  simp [h]
theorem quad_soft (h : w.heap[B]? = some (.cells #[a, b, c, d] T)) : w.frozen? ⟨B, 0, none⟩ = false ∧ w.frozen? ⟨B, 1, none⟩ = false ∧ w.frozen? ⟨B, 2, none⟩ = false ∧ w.frozen? ⟨B, 3, none⟩ = false := by
  unfold World.frozen?
  simp [h]
theorem quad_set3 (h : w.heap[B]? = some (.cells #[a, b, c, d] T)) : (w.setCell ⟨B, 3, none⟩ x).heap[B]? = some (.cells #[a, b, c, x] T) := by
  unfold World.setCell
  simp [Array.getElem?_modify, h]
theorem quad_set1 (h : w.heap[B]? = some (.cells #[a, b, c, d] T)) : (w.setCell ⟨B, 1, none⟩ x).heap[B]? = some (.cells #[a, x, c, d] T) := by
  unfold World.setCell
  simp [Array.getElem?_modify, h]
theorem quad_set4 {a' b' c' d' : Value} (h : w.heap[B]? = some (.cells #[a, b, c, d] T)) : ((((w.setCell ⟨B, 0, none⟩ a').setCell ⟨B, 1, none⟩ b').setCell ⟨B, 2, none⟩ c').setCell ⟨B, 3, none⟩ d').heap[B]? = some (.cells #[a', b', c', d'] T) := by
  unfold World.setCell
  simp [Array.getElem?_modify, h]
theorem below_set4 {w0 : World} {n : Nat} {a' b' c' d' : Value} (h : Below n w0 w) (hB : n ≤ B) : Below n w0 ((((w.setCell ⟨B, 0, none⟩ a').setCell ⟨B, 1, none⟩ b').setCell ⟨B, 2, none⟩ c').setCell ⟨B, 3, none⟩ d') :=
  (((h.setCell hB _).setCell hB _).setCell hB _).setCell hB _
theorem quad_new (w : World) (a b c d : Value) (T : TypeId) : (w.alloc (.cells #[a, b, c, d] T)).heap[w.heap.size]? = some (.cells #[a, b, c, d] T) := by
  show (w.heap.push _)[w.heap.size]? = _
  simp
theorem heap_later {o' : Obj} (h : w.heap[B]? = some o') (o : Obj) : (w.alloc o).heap[B]? = some o' := by
  have hlt := (Array.getElem?_eq_some_iff.1 h).1
  show (w.heap.push o)[B]? = _
  rw [Array.getElem?_push_lt hlt, ← h, Array.getElem?_eq_getElem hlt]
theorem heap_below {w' : World} {o' : Obj} (h : w.heap[B]? = some o') (hb : Below w.heap.size w w') : w'.heap[B]? = some o' := by
  have hlt := (Array.getElem?_eq_some_iff.1 h).1
  rw [hb.block B hlt]
  exact h
end
end Go.Proofs.YtgbjldkbbbjnkaaDoor
