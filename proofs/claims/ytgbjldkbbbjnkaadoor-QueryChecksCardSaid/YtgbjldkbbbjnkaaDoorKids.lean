/-
  Some kids are read: what the loops of the two parsers hold; queries and rows that a parser makes.
-/
import Derived.Test.YtgbjldkbbbjnkaaDoorQMem
namespace Go.Proofs.YtgbjldkbbbjnkaaDoor
open Go.RowKit Go.PlainAid Pl

theorem info9 : (Tryd.prog.info? 9).map (fun i => (i.zero, i.size, i.bytes)) = some (some (.string ⟨#[]⟩), 1, 16) := by kernel_rfl
theorem info25 : (Tryd.prog.info? 25).map (fun i => (i.zero, i.size, i.bytes)) = some (some (.agg #[.int .i64 0, .int .i64 0, .string ⟨#[]⟩, .slice none 0 0]), 4, 56) := by kernel_rfl
/-- What parse hands back. -/
def isOk {α : Type} : Rd α → Bool
  | .ok _ _ => true
  | .bad _ => false
def POut (x : Rd Qt) (k : Nat) (w : World) (e : Ending) (w' : World) : Prop :=
  (∃ (o r : Int) (t : ByteArray) (A : Option Addr) (l c : Nat), e = .returned (.tuple #[.agg #[.int .i64 o, .int .i64 r, .string t, .slice A l c], .int .i64 ((k + x.pos : Nat) : Int), .bool (isOk x)]) ∧
    ∀ q n, x = .ok q n → QN w' w.heap.size w'.heap.size q (.agg #[.int .i64 o, .int .i64 r, .string t, .slice A l c])) ∧ Below w.heap.size w w'
theorem pout_bad {x : Rd Qt} {k n : Nat} {w w' : World} {o r : Int} {t : ByteArray} {A : Option Addr} {l c : Nat} {j : Int} (h : x = .bad n) (hj : j = ((k + n : Nat) : Int)) (hb : Below w.heap.size w w') : POut x k w (.returned (.tuple #[.agg #[.int .i64 o, .int .i64 r, .string t, .slice A l c], .int .i64 j, .bool false])) w' := by
  subst h hj
  exact ⟨⟨o, r, t, A, l, c, rfl, fun q n h => by cases h⟩, hb⟩
theorem pout_ok {x : Rd Qt} {k n : Nat} {q : Qt} {w w' : World} {o r : Int} {t : ByteArray} {A : Option Addr} {l c : Nat} {j : Int} (h : x = .ok q n) (hj : j = ((k + n : Nat) : Int)) (hb : Below w.heap.size w w') (hq : QN w' w.heap.size w'.heap.size q (.agg #[.int .i64 o, .int .i64 r, .string t, .slice A l c])) : POut x k w (.returned (.tuple #[.agg #[.int .i64 o, .int .i64 r, .string t, .slice A l c], .int .i64 j, .bool true])) w' := by
  subst h hj
  exact ⟨⟨o, r, t, A, l, c, rfl, fun q n h => by cases h; exact hq⟩, hb⟩
theorem er_lt {l : List Bs} {r : Bs} {i n : Nat} (h : ER l r = .ok i n) : i < l.length := by
  rw [ER] at h
  cases e : ex l r with
  | miss k => rw [e] at h; cases h
  | hit j k =>
    rw [e] at h
    cases h
    obtain ⟨w, h1, _⟩ := ex_hit e
    exact (List.getElem?_eq_some_iff.1 h1).1
/-- Some kids are read. -/
def KInv (b : Bool) (f : Nat) (s : ByteArray) (k O RO p : Nat) (ks : List Qt) : Prop :=
  pq b (f + 1) (rest s k) = ((pk (pq b f) ((enders O).drop ks.length) (rest s p)).map (fun l => node O RO (ks ++ l))).sh (p - k) ∧ k < p ∧ p ≤ s.size ∧ ks.length ≤ (enders O).length ∧ 1 ≤ O ∧ O ≤ 6
theorem enders_len (O : Nat) : 1 ≤ (enders O).length ∧ (enders O).length ≤ 2 := by
  unfold enders
  split <;> simp
theorem kdI_of {O : Nat} (h : 1 ≤ O) : kdI (O : Int) = ((enders O).length : Int) := by
  unfold kdI enders
  rw [if_neg (by omega)]
  by_cases e : O = 3
  · subst e
    rfl
  · rw [if_neg (by omega), if_neg e]
    rfl
def endOf (O i : Nat) : List UInt8 := if i + 1 = (enders O).length then [41] else [32]
theorem enders_at {O i : Nat} (h : i < (enders O).length) : (enders O).drop i = endOf O i :: (enders O).drop (i + 1) := by
  unfold endOf enders at *
  by_cases e : O = 3
  · simp only [if_pos e] at h ⊢
    obtain rfl : i = 0 := by simp at h; omega
    rfl
  · simp only [if_neg e] at h ⊢
    rcases (show i = 0 ∨ i = 1 by simp at h; omega) with rfl | rfl <;> rfl
theorem endOf_len (O i : Nat) : (endOf O i).length = 1 := by
  unfold endOf
  split <;> rfl
section
variable {b : Bool} {f : Nat} {s : ByteArray} {k O RO p : Nat} {ks : List Qt}
theorem map_sh_id {α : Type} {x : Rd α} {a c : Nat} : (x.sh a).sh c = x.sh (c + a) := by cases x <;> simp [Rd.sh] <;> omega
theorem kinv_of {n : Nat} (h : pq b (f + 1) (rest s k) = (kidsR (pq b f) O RO (rest s (k + n))).sh n) (hn : 1 ≤ n) (hp : k + n ≤ s.size) (h1 : 1 ≤ O) (h2 : O ≤ 6) : KInv b f s k O RO (k + n) [] := by
  refine ⟨?_, by omega, hp, Nat.zero_le _, h1, h2⟩
  rw [h, show k + n - k = n by omega]
  unfold kidsR
  congr 1
theorem KInv.kid_bad (h : KInv b f s k O RO p ks) (hl : ks.length < (enders O).length) {n : Nat} (hq : pq b f (rest s p) = .bad n) : pq b (f + 1) (rest s k) = .bad (p - k + n) := by
  rw [h.1, enders_at hl, pk, seq, hq]
  rfl
theorem KInv.end_bad (h : KInv b f s k O RO p ks) (hl : ks.length < (enders O).length) {n m : Nat} {q : Qt} (hq : pq b f (rest s p) = .ok q n) (he : ER [endOf O ks.length] (rest s (p + n)) = .bad m) : pq b (f + 1) (rest s k) = .bad (p - k + (n + m)) := by
  rw [h.1, enders_at hl, pk, seq, hq]
  simp only
  rw [seq, rest_drop, he]
  rfl
theorem KInv.next (h : KInv b f s k O RO p ks) (hl : ks.length < (enders O).length) {n m i : Nat} {q : Qt} (hq : pq b f (rest s p) = .ok q n) (he : ER [endOf O ks.length] (rest s (p + n)) = .ok i m) (hp : p + n + m ≤ s.size) : KInv b f s k O RO (p + n + m) (ks ++ [q]) := by
  refine ⟨?_, by have := h.2.1; omega, hp, by rw [List.length_append]; exact hl, h.2.2.2.2.1, h.2.2.2.2.2⟩
  have hk := h.2.1
  rw [h.1, enders_at hl, pk, seq, hq]
  simp only
  rw [seq, rest_drop, he]
  simp only
  rw [rest_drop, List.length_append, List.length_singleton]
  cases pk (pq b f) ((enders O).drop (ks.length + 1)) (rest s (p + n + m)) <;> simp [Rd.map, Rd.sh] <;> omega
theorem KInv.done (h : KInv b f s k O RO p ks) (hl : ks.length = (enders O).length) : pq b (f + 1) (rest s k) = .ok (node O RO ks) (p - k) := by
  rw [h.1, hl, List.drop_length]
  simp [pk, Rd.map, Rd.sh]
end
theorem cells_four (w : World) (a b c d : Value) (t : TypeId) : ∀ (j : Nat) (x : Value), [a, b, c, d][j]? = some x → (w.alloc (.cells #[a, b, c, d] t)).cell? ((⟨w.heap.size, 0, none⟩ : Addr).add j) = some x := by
  intro j x hx
  match j, hx with
  | 0, hx => simp at hx; subst hx; simp [Addr.add, World.cell?_alloc_new]
  | 1, hx => simp at hx; subst hx; simp [Addr.add, World.cell?_alloc_new]
  | 2, hx => simp at hx; subst hx; simp [Addr.add, World.cell?_alloc_new]
  | 3, hx => simp at hx; subst hx; simp [Addr.add, World.cell?_alloc_new]
  | j + 4, hx => simp at hx
theorem lt_of_heap {w : World} {B : Nat} {o : Obj} (h : w.heap[B]? = some o) : B < w.heap.size := (Array.getElem?_eq_some_iff.1 h).1
theorem own_set {w : World} {base : Nat} {e : TypeId} {size n : Nat} {v : Value} {xs : List Value} (h : w.ownsRow base e size v n xs) {p : Addr} (u : Value) (hp : ∀ i, v.ownBlock = some i → i ≠ p.block) : (w.setCell p u).ownsRow base e size v n xs := by
  obtain ⟨h1, h2⟩ := h
  refine ⟨h1, ?_⟩
  rcases h2 with h2 | ⟨g, cap, cur, hv, hg, hc, r⟩
  · exact .inl h2
  · refine .inr ⟨g, cap, cur, hv, hg, ?_, r⟩
    have hne := hp g (by rw [hv]; rfl)
    rw [← hc]
    unfold World.setCell
    split <;> simp [Array.getElem?_modify, Ne.symm hne]
theorem own_form {w : World} {base : Nat} {e : TypeId} {size n : Nat} {v : Value} {xs : List Value} (h : w.ownsRow base e size v n xs) : ∃ A cap, v = .slice A n cap := by
  rcases h.2 with ⟨rfl, h0⟩ | ⟨g, cap, cur, rfl, _⟩
  · subst h0
    exact ⟨none, 0, rfl⟩
  · exact ⟨_, _, rfl⟩
theorem qn_fin {w : World} {lo a B : Nat} {q : Qt} {v : Value} (h : QN w lo B q v) (h1 : a ≤ lo) (h2 : B ≤ w.heap.size) : QN w a w.heap.size q v := (h.less h1).more h2
theorem qn_leaf {w : World} {lo B i : Nat} {l : List UInt8} : QN w lo B (leaf i l) (.agg #[.int .i64 0, .int .i64 ((i : Int) + 1), .string ⟨l.toArray⟩, .slice none 0 0]) := by
  unfold leaf
  rw [show ((i + 1 : Nat) : Int) = (i : Int) + 1 by omega]
  exact QN.leaf 0
end Go.Proofs.YtgbjldkbbbjnkaaDoor
