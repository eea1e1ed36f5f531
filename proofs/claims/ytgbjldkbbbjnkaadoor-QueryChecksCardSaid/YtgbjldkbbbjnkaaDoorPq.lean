/-
  Reading a query from bytes: what the reference and the program answer; plain mathematics, no program in sight.
-/
import Derived.Test.YtgbjldkbbbjnkaaDoorPlain
namespace Go.Proofs.YtgbjldkbbbjnkaaDoor.Pl

abbrev Bs := List UInt8
/-- The length of the common beginning. -/
def lcp : Bs → Bs → Nat
  | a :: l, b :: r => if a = b then lcp l r + 1 else 0
  | [], _ => 0
  | _ :: _, [] => 0
theorem lcp_le : ∀ w r : Bs, lcp w r ≤ w.length ∧ lcp w r ≤ r.length
  | [], r => by simp [lcp]
  | _ :: _, [] => by simp [lcp]
  | a :: l, b :: r => by
    have := lcp_le l r
    rw [lcp]
    split <;> simp <;> omega
theorem lcp_pre : ∀ {w r : Bs}, lcp w r = w.length ↔ w <+: r
  | [], r => by simp [lcp]
  | _ :: _, [] => by simp [lcp]
  | a :: l, b :: r => by
    have := @lcp_pre l r
    rw [lcp, List.cons_prefix_cons]
    split
    · rename_i h
      simp [h, this]
    · rename_i h
      simp [h]
theorem lcp_take : ∀ (w r : Bs) (m : Nat), lcp w (r.take m) = min (lcp w r) m
  | [], r, m => by simp [lcp]
  | _ :: _, [], m => by simp [lcp]
  | a :: l, b :: r, 0 => by simp [lcp]
  | a :: l, b :: r, m + 1 => by
    have := lcp_take l r m
    rw [List.take_succ_cons, lcp, lcp]
    split
    · rw [this]; omega
    · omega
theorem lcp_cut : ∀ (w r t : Bs) (k : Nat), lcp w r ≤ k → k < r.length → lcp w (r.take (k + 1) ++ t) = lcp w r
  | [], r, t, k, _, _ => by simp [lcp]
  | _ :: _, [], t, k, _, h => by simp at h
  | a :: l, b :: r, t, k, h, h' => by
    rw [List.take_succ_cons, List.cons_append, lcp, lcp]
    rw [lcp] at h
    by_cases e : a = b
    · rw [if_pos e] at h
      rw [if_pos e, if_pos e]
      match k, h, h' with
      | k + 1, h, h' => rw [lcp_cut l r t k (by omega) (by simpa using h')]
    · rw [if_neg e, if_neg e]
/-- One of some words: which, and its length; or the first index with which none can go on. -/
inductive Ex where
  | hit (i n : Nat)
  | miss (n : Nat)
def exq : List Bs → Bs → Nat → Nat → Ex
  | [], _, _, far => .miss far
  | w :: l, r, i, far => if lcp w r = w.length then .hit i w.length else exq l r (i + 1) (max far (lcp w r))
/-- What a reader that begins here answers. -/
def ex (l : List Bs) (r : Bs) : Ex := exq l r 0 0
def Ex.pos : Ex → Nat
  | .hit _ n => n
  | .miss n => n
/-- No word begins another one. -/
def Pf (l : List Bs) : Prop := ∀ i j, i < l.length → j < l.length → i ≠ j → ¬ l.getD i [] <+: l.getD j []
def Hit (l : List Bs) (r : Bs) (i n : Nat) : Prop := ∃ w, l[i]? = some w ∧ w.length = n ∧ w <+: r ∧ ∀ j v, j < i → l[j]? = some v → ¬ v <+: r
def Miss (l : List Bs) (r : Bs) (n : Nat) : Prop := (∀ w ∈ l, ¬ w <+: r) ∧ (∀ w ∈ l, lcp w r ≤ n) ∧ (n = 0 ∨ ∃ w ∈ l, lcp w r = n)
theorem exq_hit : ∀ {l : List Bs} {r : Bs} {i far j n : Nat}, exq l r i far = .hit j n → ∃ w, i ≤ j ∧ l[j - i]? = some w ∧ w.length = n ∧ w <+: r ∧ ∀ k v, k < j - i → l[k]? = some v → ¬ v <+: r
  | [], r, i, far, j, n, h => by simp [exq] at h
  | w :: l, r, i, far, j, n, h => by
    rw [exq] at h
    split at h
    · rename_i hw
      injection h with h1 h2
      subst h1 h2
      exact ⟨w, Nat.le_refl _, by simp, rfl, lcp_pre.1 hw, fun k v hk => by omega⟩
    · rename_i hw
      obtain ⟨v, h1, h2, h3, h4, h5⟩ := exq_hit h
      refine ⟨v, by omega, ?_, h3, h4, ?_⟩
      · rw [show j - i = (j - (i + 1)) + 1 by omega, List.getElem?_cons_succ]
        exact h2
      · intro k v hk hv
        match k, hk, hv with
        | 0, _, hv =>
          simp at hv
          subst hv
          exact fun hp => hw (lcp_pre.2 hp)
        | k + 1, hk, hv => exact h5 k v (by omega) (by simpa using hv)
theorem exq_miss : ∀ {l : List Bs} {r : Bs} {i far n : Nat}, exq l r i far = .miss n → (∀ w ∈ l, ¬ w <+: r) ∧ (∀ w ∈ l, lcp w r ≤ n) ∧ far ≤ n ∧ (n = far ∨ ∃ w ∈ l, lcp w r = n)
  | [], r, i, far, n, h => by
    simp [exq] at h
    subst h
    simp
  | w :: l, r, i, far, n, h => by
    rw [exq] at h
    split at h
    · cases h
    · rename_i hw
      obtain ⟨h1, h2, h3, h4⟩ := exq_miss h
      refine ⟨?_, ?_, by omega, ?_⟩
      · intro v hv
        rcases List.mem_cons.1 hv with rfl | hv
        · exact fun hp => hw (lcp_pre.2 hp)
        · exact h1 v hv
      · intro v hv
        rcases List.mem_cons.1 hv with rfl | hv
        · omega
        · exact h2 v hv
      · rcases h4 with h4 | ⟨v, hv, h4⟩
        · by_cases e : far ≤ lcp w r
          · exact .inr ⟨w, List.mem_cons_self .., by omega⟩
          · exact .inl (by omega)
        · exact .inr ⟨v, List.mem_cons_of_mem _ hv, h4⟩
theorem ex_hit {l : List Bs} {r : Bs} {i n : Nat} (h : ex l r = .hit i n) : Hit l r i n := by
  obtain ⟨w, _, h2, h3, h4, h5⟩ := exq_hit h
  exact ⟨w, h2, h3, h4, h5⟩
theorem ex_miss {l : List Bs} {r : Bs} {n : Nat} (h : ex l r = .miss n) : Miss l r n := by
  obtain ⟨h1, h2, _, h3⟩ := exq_miss h
  exact ⟨h1, h2, h3⟩
theorem Hit.not {l : List Bs} {r : Bs} {i n m : Nat} (h : Hit l r i n) (h' : Miss l r m) : False := by
  obtain ⟨w, h1, _, h3, _⟩ := h
  exact h'.1 w (List.mem_of_getElem? h1) h3
theorem hit_ex {l : List Bs} {r : Bs} {i n : Nat} (h : Hit l r i n) : ex l r = .hit i n := by
  cases e : ex l r with
  | miss m => exact (h.not (ex_miss e)).elim
  | hit j m =>
    obtain ⟨w, h1, h2, h3, h4⟩ := h
    obtain ⟨v, g1, g2, g3, g4⟩ := ex_hit e
    have hij : i = j := by
      rcases Nat.lt_trichotomy i j with hl | hl | hl
      · exact (g4 i w hl h1 h3).elim
      · exact hl
      · exact (h4 j v hl g1 g3).elim
    subst hij
    rw [h1] at g1
    cases g1
    rw [← h2, ← g2]
theorem miss_ex {l : List Bs} {r : Bs} {n : Nat} (h : Miss l r n) : ex l r = .miss n := by
  cases e : ex l r with
  | hit j m => exact ((ex_hit e).not h).elim
  | miss m =>
    obtain ⟨_, h1, h2⟩ := h
    obtain ⟨_, g1, g2⟩ := ex_miss e
    congr 1
    rcases h2 with rfl | ⟨w, hw, rfl⟩
    · rcases g2 with rfl | ⟨v, hv, rfl⟩
      · rfl
      · have := h1 v hv
        omega
    · have := g1 w hw
      rcases g2 with rfl | ⟨v, hv, rfl⟩
      · omega
      · have := h1 v hv
        omega
theorem pf_hit {l : List Bs} (hp : Pf l) {r w : Bs} {i : Nat} (h : l[i]? = some w) (hw : w <+: r) : ex l r = .hit i w.length := by
  refine hit_ex ⟨w, h, rfl, hw, fun j v hj hv hvr => ?_⟩
  obtain ⟨hi, rfl⟩ := List.getElem?_eq_some_iff.1 h
  obtain ⟨hjl, rfl⟩ := List.getElem?_eq_some_iff.1 hv
  have e1 : l.getD i [] = l[i] := by rw [List.getD_eq_getElem?_getD, List.getElem?_eq_getElem hi]; rfl
  have e2 : l.getD j [] = l[j] := by rw [List.getD_eq_getElem?_getD, List.getElem?_eq_getElem hjl]; rfl
  rcases List.prefix_or_prefix_of_prefix hw hvr with hh | hh
  · exact hp i j hi hjl (by omega) (by rw [e1, e2]; exact hh)
  · exact hp j i hjl hi (by omega) (by rw [e1, e2]; exact hh)
theorem Ex.le {l : List Bs} {r : Bs} : (ex l r).pos ≤ r.length := by
  cases e : ex l r with
  | hit i n =>
    obtain ⟨w, _, h2, h3, _⟩ := ex_hit e
    rw [Ex.pos, ← h2]
    exact h3.length_le
  | miss n =>
    obtain ⟨_, _, h⟩ := ex_miss e
    rw [Ex.pos]
    rcases h with rfl | ⟨w, _, rfl⟩
    · omega
    · exact (lcp_le w r).2
/-- The bytes behind do not matter. -/
theorem ex_loc {l : List Bs} (hp : Pf l) {r t : Bs} (h : (ex l r).pos < r.length) : ex l (r.take ((ex l r).pos + 1) ++ t) = ex l r := by
  cases e : ex l r with
  | hit i n =>
    rw [e] at h
    obtain ⟨w, h1, h2, h3, _⟩ := ex_hit e
    rw [Ex.pos] at h ⊢
    rw [← h2]
    refine pf_hit hp h1 ?_
    obtain ⟨x, rfl⟩ := h3
    rw [List.take_append, List.take_of_length_le (by omega), List.append_assoc]
    exact List.prefix_append _ _
  | miss n =>
    rw [e] at h
    rw [Ex.pos] at h ⊢
    obtain ⟨h1, h2, h3⟩ := ex_miss e
    have hc := fun w hw => lcp_cut w r t n (h2 w hw) h
    refine miss_ex ⟨fun w hw hx => h1 w hw (lcp_pre.1 (by rw [← hc w hw]; exact lcp_pre.2 hx)), fun w hw => by rw [hc w hw]; exact h2 w hw, ?_⟩
    rcases h3 with h3 | ⟨w, hw, h3⟩
    · exact .inl h3
    · exact .inr ⟨w, hw, by rw [hc w hw]; exact h3⟩
/-- A beginning of what is read. -/
theorem ex_cut {l : List Bs} (hp : Pf l) {r : Bs} {m : Nat} (h : m ≤ (ex l r).pos) : ex l (r.take m) = .miss m ∨ (m = (ex l r).pos ∧ ∃ i, ex l r = .hit i m ∧ ex l (r.take m) = .hit i m) := by
  cases e : ex l r with
  | hit i n =>
    rw [e] at h
    rw [Ex.pos] at h
    obtain ⟨w, h1, h2, h3, _⟩ := ex_hit e
    obtain ⟨hi, hiw⟩ := List.getElem?_eq_some_iff.1 h1
    have e1 : l.getD i [] = w := by rw [List.getD_eq_getElem?_getD, List.getElem?_eq_getElem hi, hiw]; rfl
    by_cases hm : m = n
    · refine .inr ⟨hm, i, by rw [hm], ?_⟩
      subst hm
      rw [← h2]
      refine pf_hit hp h1 ?_
      exact List.prefix_take_iff.2 ⟨h3, Nat.le_refl _⟩
    · refine .inl (miss_ex ⟨fun v hv hx => ?_, fun v _ => by rw [lcp_take]; omega, .inr ⟨w, List.mem_of_getElem? h1, by rw [lcp_take, lcp_pre.2 h3]; omega⟩⟩)
      obtain ⟨j, hj, rfl⟩ := List.mem_iff_getElem.1 hv
      have e2 : l.getD j [] = l[j] := by rw [List.getD_eq_getElem?_getD, List.getElem?_eq_getElem hj]; rfl
      have hx2 := List.prefix_take_iff.1 hx
      by_cases hji : j = i
      · subst hji
        rw [hiw] at hx2
        omega
      · rcases List.prefix_or_prefix_of_prefix h3 hx2.1 with hh | hh
        · exact hp i j hi hj (by omega) (by rw [e1, e2]; exact hh)
        · exact hp j i hj hi (by omega) (by rw [e1, e2]; exact hh)
  | miss n =>
    rw [e] at h
    rw [Ex.pos] at h
    obtain ⟨h1, h2, h3⟩ := ex_miss e
    refine .inl (miss_ex ⟨fun v hv hx => h1 v hv (List.prefix_take_iff.1 hx).1, fun v _ => by rw [lcp_take]; omega, ?_⟩)
    rcases h3 with h3 | ⟨w, hw, h3⟩
    · exact .inl (by omega)
    · exact .inr ⟨w, hw, by rw [lcp_take]; omega⟩
/-- Words of which none begins another one, read by rounds: found at length n. -/
theorem round_hit {l : List Bs} (hp : Pf l) {r w : Bs} {i n : Nat} (h : l[i]? = some w) (hn : w.length = n) (hw : w <+: r) : ex l r = .hit i n := by
  rw [pf_hit hp h hw, hn]
theorem pre_lcp : ∀ w r : Bs, w.take (lcp w r) <+: r
  | [], r => by simp
  | _ :: _, [] => by simp [lcp]
  | a :: l, b :: r => by
    rw [lcp]
    split
    · rename_i h
      rw [List.take_succ_cons, List.cons_prefix_cons]
      exact ⟨h, pre_lcp l r⟩
    · simp
theorem le_lcp : ∀ {w r : Bs} {n : Nat}, n ≤ w.length → w.take n <+: r → n ≤ lcp w r
  | [], r, n, h, _ => by simp at h; omega
  | a :: l, r, 0, _, _ => Nat.zero_le _
  | a :: l, [], n + 1, _, h => by simp at h
  | a :: l, b :: r, n + 1, h, h' => by
    rw [List.take_succ_cons, List.cons_prefix_cons] at h'
    rw [lcp, if_pos h'.1]
    have := le_lcp (by simpa using h) h'.2
    omega
/-- .. and not found. -/
theorem round_miss {l : List Bs} {r : Bs} {n : Nat} (h1 : ∀ w ∈ l, w.length ≤ n → ¬ w <+: r) (h2 : ∀ w ∈ l, n < w.length → ¬ w.take (n + 1) <+: r) (h3 : n = 0 ∨ ∃ w ∈ l, n ≤ w.length ∧ w.take n <+: r) : ex l r = .miss n := by
  have key : ∀ w ∈ l, lcp w r ≤ n := fun w hw => by
    by_cases hl : w.length ≤ n
    · have := (lcp_le w r).1
      omega
    · rcases Nat.lt_or_ge n (lcp w r) with hc | hc
      · refine (h2 w hw (by omega) ?_).elim
        have h := pre_lcp w r
        have e : w.take (n + 1) <+: w.take (lcp w r) := by
          rw [List.prefix_take_iff]
          exact ⟨List.take_prefix _ _, by rw [List.length_take]; omega⟩
        exact e.trans h
      · exact hc
  refine miss_ex ⟨fun w hw hx => ?_, key, ?_⟩
  · by_cases hl : w.length ≤ n
    · exact h1 w hw hl hx
    · have := lcp_pre.2 hx
      have := key w hw
      omega
  · rcases h3 with h3 | ⟨w, hw, h4, h5⟩
    · exact .inl h3
    · exact .inr ⟨w, hw, by have := key w hw; have := le_lcp h4 h5; omega⟩

/-! Readers. -/
inductive Rd (α : Type) where
  | ok (a : α) (n : Nat)
  | bad (n : Nat)
namespace Rd
variable {α β : Type}
def pos : Rd α → Nat
  | .ok _ n => n
  | .bad n => n
def sh (k : Nat) : Rd α → Rd α
  | .ok a n => .ok a (k + n)
  | .bad n => .bad (k + n)
def map (f : α → β) : Rd α → Rd β
  | .ok a n => .ok (f a) n
  | .bad n => .bad n
end Rd
section
variable {α β : Type}
def seq (R : Bs → Rd α) (K : α → Bs → Rd β) (r : Bs) : Rd β :=
  match R r with
  | .ok a n => (K a (r.drop n)).sh n
  | .bad n => .bad n
def Bd (R : Bs → Rd α) : Prop := ∀ r, (R r).pos ≤ r.length
def Loc (R : Bs → Rd α) : Prop := ∀ r t, (R r).pos < r.length → R (r.take ((R r).pos + 1) ++ t) = R r
def Cut (R : Bs → Rd α) : Prop := ∀ r m, m ≤ (R r).pos → (R (r.take m)).pos = m
def IsBad (x : Rd α) : Prop := ∃ n, x = .bad n
def Stop (R : Bs → Rd α) : Prop := ∀ r m, m ≤ (R r).pos → (m < (R r).pos ∨ IsBad (R r)) → R (r.take m) = .bad m
def Exact (R : Bs → Rd α) : Prop := ∀ r a n, R r = .ok a n → R (r.take n) = .ok a n
theorem sh_pos (k : Nat) (x : Rd α) : (x.sh k).pos = k + x.pos := by cases x <;> rfl
theorem map_pos (f : α → β) (x : Rd α) : (x.map f).pos = x.pos := by cases x <;> rfl
theorem Loc.more {R : Bs → Rd α} (h : Loc R) {r t : Bs} {k : Nat} (h1 : (R r).pos ≤ k) (h2 : k < r.length) : R (r.take (k + 1) ++ t) = R r := by
  have e : r.take (k + 1) ++ t = r.take ((R r).pos + 1) ++ ((r.drop ((R r).pos + 1)).take (k - (R r).pos) ++ t) := by
    rw [← List.append_assoc]
    congr 1
    rw [show k + 1 = ((R r).pos + 1) + (k - (R r).pos) by omega, List.take_add]
  rw [e]
  exact h r _ (by omega)
theorem Loc.keep {R : Bs → Rd α} (h : Loc R) {r : Bs} {m : Nat} (h1 : (R r).pos < m) (h2 : m ≤ r.length) : R (r.take m) = R r := by
  have := h.more (r := r) (t := []) (k := m - 1) (by omega) (by omega)
  rw [List.append_nil, show m - 1 + 1 = m by omega] at this
  exact this
theorem drop_more {r t : Bs} {n m : Nat} (h : n + m < r.length) : (r.take (n + m + 1) ++ t).drop n = (r.drop n).take (m + 1) ++ t := by
  rw [List.drop_append, List.drop_take, List.length_take, show n - min (n + m + 1) r.length = 0 by omega, List.drop_zero, show n + m + 1 - n = m + 1 by omega]
theorem seq_bd {R : Bs → Rd α} {K : α → Bs → Rd β} (hR : Bd R) (hK : ∀ a, Bd (K a)) : Bd (seq R K) := fun r => by
  have h := hR r
  rw [seq]
  cases e : R r with
  | bad n => rw [e] at h; exact h
  | ok a n =>
    rw [e] at h
    have h2 := hK a (r.drop n)
    rw [List.length_drop] at h2
    simp only [sh_pos]
    rw [Rd.pos] at h
    omega
theorem seq_loc {R : Bs → Rd α} {K : α → Bs → Rd β} (hR : Loc R) (hK : ∀ a, Loc (K a)) : Loc (seq R K) := fun r t h => by
  cases e : R r with
  | bad n =>
    have e1 : seq R K r = .bad n := by rw [seq, e]
    rw [e1] at h ⊢
    rw [Rd.pos] at h ⊢
    have := hR r t (by rw [e]; exact h)
    rw [e, Rd.pos] at this
    rw [seq, this]
  | ok a n =>
    have e1 : seq R K r = (K a (r.drop n)).sh n := by rw [seq, e]
    rw [e1, sh_pos] at h
    have h1 := hR.more (r := r) (t := t) (k := n + (K a (r.drop n)).pos) (by rw [e, Rd.pos]; omega) h
    rw [e] at h1
    rw [e1, sh_pos]
    conv => lhs; rw [seq, h1]
    simp only
    rw [drop_more h, hK a (r.drop n) t (by rw [List.length_drop]; omega)]
theorem seq_far {R : Bs → Rd α} {K : α → Bs → Rd β} (hR : Loc R) (hB : Bd (seq R K)) {r : Bs} {a : α} {n m : Nat} (e : R r = .ok a n) (h1 : n < m) (h2 : m ≤ (seq R K r).pos) : seq R K (r.take m) = (K a ((r.drop n).take (m - n))).sh n := by
  have hl := hB r
  have h3 := hR.keep (r := r) (m := m) (by rw [e]; exact h1) (by omega)
  rw [seq, h3, e]
  simp only
  rw [List.drop_take]
theorem seq_cut {R : Bs → Rd α} {K : α → Bs → Rd β} (hR : Bd R) (hK : ∀ a, Bd (K a)) (hL : Loc R) (hC : Cut R) (hD : ∀ a, Cut (K a)) : Cut (seq R K) := fun r m h => by
  by_cases hm : m ≤ (R r).pos
  · have h1 := hC r m hm
    rw [seq]
    cases e : R (r.take m) with
    | bad n => rw [e] at h1; exact h1
    | ok a n =>
      rw [e, Rd.pos] at h1
      subst h1
      simp only [sh_pos]
      have := hK a ((r.take n).drop n)
      rw [List.length_drop, List.length_take] at this
      omega
  · cases e : R r with
    | bad n => rw [seq, e] at h; rw [e] at hm; exact (hm h).elim
    | ok a n =>
      rw [e, Rd.pos] at hm
      rw [seq_far hL (seq_bd hR hK) e (by omega) h, sh_pos, hD a]
      · omega
      · rw [seq, e] at h
        simp only [sh_pos] at h
        omega
theorem seq_bad {R : Bs → Rd α} {K : α → Bs → Rd β} {r : Bs} {a : α} {n : Nat} (e : R r = .ok a n) (h : IsBad (seq R K r)) : IsBad (K a (r.drop n)) := by
  obtain ⟨k, h⟩ := h
  rw [seq, e] at h
  simp only at h
  cases e2 : K a (r.drop n) with
  | bad j => exact ⟨j, rfl⟩
  | ok b j => rw [e2] at h; cases h
/-- What follows a reader that may end anywhere must read something. -/
theorem seq_stop1 {R : Bs → Rd α} {K : α → Bs → Rd β} (hR : Bd R) (hK : ∀ a, Bd (K a)) (hL : Loc R) (hC : Cut R) (hD : ∀ a, Stop (K a)) (h0 : ∀ a, K a [] = .bad 0) : Stop (seq R K) := fun r m h h' => by
  by_cases hm : m ≤ (R r).pos
  · have h1 := hC r m hm
    rw [seq]
    cases e : R (r.take m) with
    | bad n => rw [e] at h1; rw [Rd.pos] at h1; rw [h1]
    | ok a n =>
      rw [e, Rd.pos] at h1
      subst h1
      simp only
      rw [show (r.take n).drop n = [] by rw [List.drop_eq_nil_iff, List.length_take]; omega, h0]
      rfl
  · cases e : R r with
    | bad n => rw [seq, e] at h; rw [e] at hm; exact (hm h).elim
    | ok a n =>
      rw [e, Rd.pos] at hm
      have hp : (seq R K r).pos = n + (K a (r.drop n)).pos := by rw [seq, e]; simp only [sh_pos]
      rw [seq_far hL (seq_bd hR hK) e (by omega) h, hD a]
      · show Rd.bad (n + (m - n)) = _
        congr 1
        omega
      · omega
      · rcases h' with h' | h'
        · exact .inl (by omega)
        · exact .inr (seq_bad e h')
theorem seq_stop2 {R : Bs → Rd α} {K : α → Bs → Rd β} (hR : Bd R) (hK : ∀ a, Bd (K a)) (hL : Loc R) (hS : Stop R) (hE : Exact R) (hD : ∀ a, Stop (K a)) : Stop (seq R K) := fun r m h h' => by
  cases e : R r with
  | bad n =>
    have e1 : seq R K r = .bad n := by rw [seq, e]
    rw [e1] at h
    rw [seq, hS r m (by rw [e]; exact h) (.inr ⟨n, e⟩)]
  | ok a n =>
    have hp : (seq R K r).pos = n + (K a (r.drop n)).pos := by rw [seq, e]; simp only [sh_pos]
    have hb : m < (seq R K r).pos ∨ IsBad (K a (r.drop n)) := h'.imp id (seq_bad e)
    rcases Nat.lt_trichotomy m n with hl | hl | hl
    · rw [seq, hS r m (by rw [e, Rd.pos]; omega) (.inl (by rw [e]; exact hl))]
    · subst hl
      rw [seq, hE r a m e]
      simp only
      have := hD a (r.drop m) 0 (Nat.zero_le _) (hb.imp (fun h => by omega) id)
      rw [List.take_zero] at this
      rw [show (r.take m).drop m = [] by rw [List.drop_eq_nil_iff, List.length_take]; omega, this]
      rfl
    · rw [seq_far hL (seq_bd hR hK) e hl h, hD a]
      · show Rd.bad (n + (m - n)) = _
        congr 1
        omega
      · omega
      · exact hb.imp (fun h => by omega) id
theorem map_bd {R : Bs → Rd α} (f : α → β) (h : Bd R) : Bd (fun r => (R r).map f) := fun r => by rw [map_pos]; exact h r
theorem map_loc {R : Bs → Rd α} (f : α → β) (h : Loc R) : Loc (fun r => (R r).map f) := fun r t => by
  simp only [map_pos]
  exact fun hh => by rw [h r t hh]
theorem map_cut {R : Bs → Rd α} (f : α → β) (h : Cut R) : Cut (fun r => (R r).map f) := fun r m => by
  simp only [map_pos]
  exact h r m
theorem map_stop {R : Bs → Rd α} (f : α → β) (h : Stop R) : Stop (fun r => (R r).map f) := fun r m => by
  simp only [map_pos]
  intro h1 h2
  rw [h r m h1 (h2.imp id fun ⟨n, hn⟩ => by cases e : R r with | bad k => exact ⟨k, rfl⟩ | ok a k => rw [e] at hn; cases hn)]
  rfl
theorem ret_bd (a : α) : Bd (fun _ => Rd.ok a 0) := fun _ => Nat.zero_le _
theorem ret_loc (a : α) : Loc (fun _ => Rd.ok a 0) := fun _ _ _ => rfl
theorem ret_cut (a : α) : Cut (fun _ => Rd.ok a 0) := fun r m h => by have : m ≤ 0 := h; show 0 = m; omega
theorem ret_stop (a : α) : Stop (fun _ => Rd.ok a 0) := fun r m h h' => by
  rcases h' with h' | ⟨n, h'⟩
  · have : m < 0 := h'
    omega
  · cases h'
end
def ER (l : List Bs) (r : Bs) : Rd Nat :=
  match ex l r with
  | .hit i n => .ok i n
  | .miss n => .bad n
theorem er_pos (l : List Bs) (r : Bs) : (ER l r).pos = (ex l r).pos := by
  rw [ER]
  cases ex l r <;> rfl
theorem er_bd (l : List Bs) : Bd (ER l) := fun r => by rw [er_pos]; exact Ex.le
theorem er_loc {l : List Bs} (hp : Pf l) : Loc (ER l) := fun r t h => by
  rw [er_pos] at h ⊢
  rw [ER, ex_loc hp h, ER]
theorem er_exact {l : List Bs} (hp : Pf l) : Exact (ER l) := fun r a n h => by
  have e : ex l r = .hit a n := by
    rw [ER] at h
    cases e : ex l r with
    | hit i k => rw [e] at h; cases h; rfl
    | miss k => rw [e] at h; cases h
  rcases ex_cut hp (r := r) (m := n) (by rw [e]; exact Nat.le_refl _) with h1 | ⟨_, i, h1, h2⟩
  · obtain ⟨w, g1, g2, g3, _⟩ := ex_hit e
    have := pf_hit hp g1 (List.prefix_take_iff.2 ⟨g3, Nat.le_of_eq g2⟩)
    rw [h1] at this
    cases this
  · rw [e] at h1
    cases h1
    rw [ER, h2]
theorem er_stop {l : List Bs} (hp : Pf l) : Stop (ER l) := fun r m h h' => by
  rw [er_pos] at h h'
  rcases ex_cut hp h with h1 | ⟨h0, i, h1, h2⟩
  · rw [ER, h1]
  · rcases h' with h' | ⟨n, h'⟩
    · omega
    · rw [ER, h1] at h'
      cases h'
theorem er_cut {l : List Bs} (hp : Pf l) : Cut (ER l) := fun r m h => by
  rw [er_pos] at h ⊢
  rcases ex_cut hp h with h1 | ⟨_, i, _, h2⟩
  · rw [h1]; rfl
  · rw [h2]; rfl
end Go.Proofs.YtgbjldkbbbjnkaaDoor.Pl
