/-
  Ahead of the program's query: a failed parser's choose, and what the walk holds.
-/
import Derived.Test.YtgbjldkbbbjnkaaDoorOfP
namespace Go.Proofs.YtgbjldkbbbjnkaaDoor
open Go.RowKit Go.PlainAid Pl

theorem choose35_f (g : Nat) (s : ByteArray) (k : Nat) (A : Option Addr) (n cap : Nat) (w : World) (hP : PS w g s k true) :
    Calls Tryd.prog 35 #[.pointer (some ⟨g, 0, none⟩), .slice A n cap] w fun e w' => e = .returned (.int .i64 0) ∧ Below w.heap.size w w' := by
  have h2 : PS ((w.alloc (.cells #[.pointer (some ⟨g, 0, none⟩)] 43)).alloc (.cells #[.int .i64 0] 3)) g s k true := heap_later (heap_later hP _) _
  have hb := Lib.hid (((Below.refl w.heap.size w).alloc (Nat.le_refl _) (.cells #[.pointer (some ⟨g, 0, none⟩)] 43)).alloc (by simp) (.cells #[.int .i64 0] 3))
  obtain ⟨e1, e2, e3⟩ := two_cells w (.pointer (some ⟨g, 0, none⟩)) (.int .i64 0) 43 3
  obtain ⟨p0, p1, p2⟩ := tri_cells h2
  clear h2 hP
  go_enter Tryd.func35, Tryd.ntmps35
  go_wp2_with fail
  refine wp_loop_rounds 1 ?_
  rw [rounds_succ]
  go_wp2_with fail
  go_ret
  exact ⟨rfl, hb.out⟩
section
variable {w w' : World} {g B lo : Nat} {a b c d a' b' c' d' : Value} {T : TypeId} {o : Obj}
theorem heap_onl (h : w.heap[B]? = some o) (ho : Onl g w w') (hn : B ≠ g) : w'.heap[B]? = some o := by
  have hlt := (Array.getElem?_eq_some_iff.1 h).1
  rw [ho.block B hlt (fun e => hn (by cases e; rfl))]
  exact h
theorem heap_set {p : Addr} {u : Value} (h : w.heap[g]? = some o) (hn : g ≠ p.block) : (w.setCell p u).heap[g]? = some o := by
  rw [← h]
  unfold World.setCell
  split <;> simp [Array.getElem?_modify, Ne.symm hn]
theorem heap_set4 (h : w.heap[g]? = some o) (hn : g ≠ B) : ((((w.setCell ⟨B, 0, none⟩ a').setCell ⟨B, 1, none⟩ b').setCell ⟨B, 2, none⟩ c').setCell ⟨B, 3, none⟩ d').heap[g]? = some o :=
  heap_set (p := ⟨B, 3, none⟩) (heap_set (p := ⟨B, 2, none⟩) (heap_set (p := ⟨B, 1, none⟩) (heap_set (p := ⟨B, 0, none⟩) h hn) hn) hn) hn
theorem Onl.setN {w0 : World} {p : Addr} (h : Onl g w0 w) (hB : w0.heap.size ≤ p.block) (u : Value) : Onl g w0 (w.setCell p u) :=
  ⟨h.os, h.tape, h.output, by simpa using h.size, fun k hk hn => by
    rw [← h.block k hk hn]
    have hne : k ≠ p.block := by omega
    unfold World.setCell
    split <;> simp [Array.getElem?_modify, Ne.symm hne]⟩
theorem Onl.set4 {w0 : World} (h : Onl g w0 w) (hB : w0.heap.size ≤ B) : Onl g w0 ((((w.setCell ⟨B, 0, none⟩ a').setCell ⟨B, 1, none⟩ b').setCell ⟨B, 2, none⟩ c').setCell ⟨B, 3, none⟩ d') :=
  (((h.setN (p := ⟨B, 0, none⟩) hB _).setN (p := ⟨B, 1, none⟩) hB _).setN (p := ⟨B, 2, none⟩) hB _).setN (p := ⟨B, 3, none⟩) hB _
theorem Onl.new {w0 : World} (h : Onl g w0 w) (ho : Below w.heap.size w w') : Onl g w0 w' := h.trans (Onl.below ho)
theorem QN.onl {q : Qt} {v : Value} (h : QN w lo B q v) (ho : Onl g w w') (hg : g < lo) (hB : B ≤ w.heap.size) : QN w' lo B q v :=
  h.keep fun p h1 h2 => World.cell?_of_block (ho.block p.block (by omega) (fun e => by cases e; omega))
theorem Row.onl {r : Option Nat} {ks : List Qt} {xs : List Value} (h : Row w lo w.heap.size r ks xs) (ho : Onl g w w') (hg : g < lo) : Row w' lo w'.heap.size r ks xs := ⟨h.1, fun j k hj => by
  obtain ⟨a, b, c, d, l', B', g1, g2, g3, g4, g5, g6, g7, g8⟩ := h.2 j k hj
  exact ⟨a, b, c, d, l', B', g1, g2, g3, g4, g5, Nat.le_trans g6 ho.size, g7, g8.onl ho (by omega) g6⟩⟩
end
/-- What query of the program hands back. -/
def QPOut (x : Rd Qt) (g : Nat) (s : ByteArray) (k : Nat) (w : World) (e : Ending) (w' : World) : Prop :=
  Onl g w w' ∧ ∃ (o r : Int) (t : ByteArray) (A : Option Addr) (l c : Nat), e = .returned (.agg #[.int .i64 o, .int .i64 r, .string t, .slice A l c]) ∧
    (∀ q n, x = .ok q n → QN w' w.heap.size w'.heap.size q (.agg #[.int .i64 o, .int .i64 r, .string t, .slice A l c]) ∧ PS w' g s (k + n) false) ∧ (∀ n, x = .bad n → PS w' g s (k + n) true)
theorem qp_bad {x : Rd Qt} {g k n j : Nat} {s : ByteArray} {w w' : World} {o r : Int} {t : ByteArray} {A : Option Addr} {l c : Nat} (h : x = .bad n) (hj : j = k + n) (ho : Onl g w w') (hp : PS w' g s j true) : QPOut x g s k w (.returned (.agg #[.int .i64 o, .int .i64 r, .string t, .slice A l c])) w' := by
  subst h hj
  exact ⟨ho, o, r, t, A, l, c, rfl, (fun q n h => by cases h), (fun n h => by cases h; exact hp)⟩
theorem qp_ok {x : Rd Qt} {g k n j : Nat} {q : Qt} {s : ByteArray} {w w' : World} {o r : Int} {t : ByteArray} {A : Option Addr} {l c : Nat} (h : x = .ok q n) (hj : j = k + n) (ho : Onl g w w') (hp : PS w' g s j false)
    (hq : QN w' w.heap.size w'.heap.size q (.agg #[.int .i64 o, .int .i64 r, .string t, .slice A l c])) : QPOut x g s k w (.returned (.agg #[.int .i64 o, .int .i64 r, .string t, .slice A l c])) w' := by
  subst h hj
  exact ⟨ho, o, r, t, A, l, c, rfl, (fun q n h => by cases h; exact ⟨hq, hp⟩), (fun n h => by cases h)⟩
end Go.Proofs.YtgbjldkbbbjnkaaDoor
