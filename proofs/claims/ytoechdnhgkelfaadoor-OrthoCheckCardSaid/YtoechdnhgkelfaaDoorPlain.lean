/-
  Plain laws: the longest key with which a list begins, and the division of a list by keys.
-/
namespace Go.Proofs.YtoechdnhgkelfaaDoor.Pl
variable {α : Type}

/-- One of the first n keys begins a list. -/
def Beg (n : Nat) (ky : Nat → List α) (r : List α) (i : Nat) : Prop := i < n ∧ ky i <+: r
/-- The first of the longest of the first n keys with which a list begins. -/
structure Best (n : Nat) (ky : Nat → List α) (r : List α) (i : Nat) : Prop where
  beg : Beg n ky r i
  most : ∀ k, Beg n ky r k → (ky k).length ≤ (ky i).length
  first : ∀ k, k < i → Beg n ky r k → (ky k).length < (ky i).length
def Nob (n : Nat) (ky : Nat → List α) (r : List α) : Prop := ∀ k, ¬ Beg n ky r k
section
variable {n : Nat} {ky : Nat → List α} {r s : List α} {i j : Nat}
theorem Best.unique (h : Best n ky r i) (h' : Best n ky r j) : i = j := by
  rcases Nat.lt_trichotomy i j with c | c | c
  · have := h'.first i c h.beg; have := h.most j h'.beg; omega
  · exact c
  · have := h.first j c h'.beg; have := h'.most i h.beg; omega
theorem Best.not_nob (h : Best n ky r i) (h' : Nob n ky r) : False := h' i h.beg
theorem Best.len (h : Best n ky r i) : (ky i).length ≤ r.length := h.beg.2.length_le
theorem Best.lt (h : Best n ky r i) : i < n := h.beg.1
theorem nob_zero : Nob 0 ky r := fun k h => absurd h.1 (by omega)
theorem Nob.skip (h : Nob n ky r) (hn : ¬ ky n <+: r) : Nob (n + 1) ky r := fun k hk => by
  by_cases e : k = n
  · subst e; exact hn hk.2
  · exact h k ⟨by have := hk.1; omega, hk.2⟩
theorem Nob.take (h : Nob n ky r) (hn : ky n <+: r) : Best (n + 1) ky r n where
  beg := ⟨by omega, hn⟩
  most := fun k hk => by
    by_cases e : k = n
    · subst e; exact Nat.le_refl _
    · exact absurd ⟨by have := hk.1; omega, hk.2⟩ (h k)
  first := fun k hk hb => absurd ⟨hk, hb.2⟩ (h k)
theorem Best.skip (h : Best n ky r i) (hn : ¬ (ky n <+: r ∧ (ky i).length < (ky n).length)) : Best (n + 1) ky r i where
  beg := ⟨by have := h.beg.1; omega, h.beg.2⟩
  most := fun k hk => by
    by_cases e : k = n
    · subst e
      rcases Nat.lt_or_ge (ky i).length (ky k).length with c | c
      · exact absurd ⟨hk.2, c⟩ hn
      · exact c
    · exact h.most k ⟨by have := hk.1; omega, hk.2⟩
  first := fun k hk hb => h.first k hk ⟨by have := h.beg.1; omega, hb.2⟩
theorem Best.take (h : Best n ky r i) (hn : ky n <+: r) (hl : (ky i).length < (ky n).length) : Best (n + 1) ky r n where
  beg := ⟨by omega, hn⟩
  most := fun k hk => by
    by_cases e : k = n
    · subst e; exact Nat.le_refl _
    · have := h.most k ⟨by have := hk.1; omega, hk.2⟩; omega
  first := fun k hk hb => by have := h.most k ⟨hk, hb.2⟩; omega

/-- A division, key by key. -/
inductive Dv (n : Nat) (ky : Nat → List α) (s : List α) : List Nat → Nat → Prop
  | nil : Dv n ky s [] 0
  | snoc {l : List Nat} {at_ i : Nat} : Dv n ky s l at_ → at_ < s.length → Best n ky (s.drop at_) i → Dv n ky s (l ++ [i]) (at_ + (ky i).length)
/-- A division that goes on as long as possible. -/
def Done (n : Nat) (ky : Nat → List α) (s : List α) (l : List Nat) (at_ : Nat) : Prop := Dv n ky s l at_ ∧ (s.length ≤ at_ ∨ Nob n ky (s.drop at_))
variable {l l' : List Nat} {a a' : Nat}
theorem Dv.le (h : Dv n ky s l a) : a ≤ s.length := by
  induction h with
  | nil => exact Nat.zero_le _
  | snoc _ hl hb _ => have := hb.len; rw [List.length_drop] at this; omega
theorem Dv.sum (h : Dv n ky s l a) : a = ((l.map ky).map List.length).sum := by
  induction h with
  | nil => rfl
  | snoc _ _ _ ih => simp only [List.map_append, List.sum_append, List.map_cons, List.map_nil, List.sum_cons, List.sum_nil]; omega
theorem Dv.text (h : Dv n ky s l a) : s.take a = (l.map ky).flatten := by
  induction h with
  | nil => simp
  | @snoc l at_ i _ hl hb ih =>
    rw [List.map_append, List.flatten_append, ← ih]
    obtain ⟨t, ht⟩ := hb.beg.2
    rw [List.take_add, ← ht]
    simp
theorem Dv.mem (h : Dv n ky s l a) : ∀ i ∈ l, i < n := by
  induction h with
  | nil => simp
  | snoc _ _ hb ih =>
    intro i hi
    rw [List.mem_append, List.mem_singleton] at hi
    rcases hi with hi | rfl
    · exact ih i hi
    · exact hb.lt
theorem Dv.at_ (h : Dv n ky s l a) : ∀ {j i : Nat}, l[j]? = some i → ∃ b, Dv n ky s (l.take j) b ∧ b < s.length ∧ Best n ky (s.drop b) i := by
  induction h with
  | nil => intro j i h; simp at h
  | @snoc l at_ k hs hl hb ih =>
    intro j i hj
    rcases Nat.lt_or_ge j l.length with c | c
    · rw [List.getElem?_append_left c] at hj
      obtain ⟨b, h1, h2, h3⟩ := ih hj
      exact ⟨b, by rw [List.take_append_of_le_length (by omega)]; exact h1, h2, h3⟩
    · have hjl : j = l.length := by
        have := (List.getElem?_eq_some_iff.1 hj).1
        simp at this; omega
      subst hjl
      simp at hj
      subst hj
      exact ⟨at_, by simpa using hs, hl, hb⟩
theorem Dv.same (h : Dv n ky s l a) (h' : Dv n ky s l a') : a = a' := by rw [h.sum, h'.sum]
/-- Two divisions agree as far as both go. -/
theorem Dv.agree (h : Dv n ky s l a) (h' : Dv n ky s l' a') : ∀ j, j ≤ l.length → j ≤ l'.length → l.take j = l'.take j := by
  intro j
  induction j with
  | zero => simp
  | succ j ih =>
    intro h1 h2
    have e := ih (by omega) (by omega)
    have g1 : l[j]? = some l[j] := List.getElem?_eq_getElem (by omega)
    have g2 : l'[j]? = some l'[j] := List.getElem?_eq_getElem (by omega)
    obtain ⟨b, s1, _, b1⟩ := h.at_ g1
    obtain ⟨b', s2, _, b2⟩ := h'.at_ g2
    rw [e] at s1
    have := s1.same s2
    subst this
    have := b1.unique b2
    rw [List.take_succ_eq_append_getElem (by omega), List.take_succ_eq_append_getElem (by omega), e, this]
theorem Done.stop (h : Done n ky s l a) (h' : Dv n ky s l' a') : l'.length ≤ l.length := by
  rcases Nat.lt_or_ge l.length l'.length with c | c
  · exfalso
    have e := h.1.agree h' l.length (Nat.le_refl _) (by omega)
    rw [List.take_length] at e
    obtain ⟨b, s1, hb, b1⟩ := h'.at_ (List.getElem?_eq_getElem c)
    rw [← e] at s1
    have := s1.same h.1
    subst this
    rcases h.2 with q | q
    · omega
    · exact b1.not_nob q
  · exact c
theorem Done.unique (h : Done n ky s l a) (h' : Done n ky s l' a') : l = l' ∧ a = a' := by
  have h1 := h.stop h'.1
  have h2 := h'.stop h.1
  have e := h.1.agree h'.1 l.length (Nat.le_refl _) h2
  rw [List.take_length, show l.length = l'.length by omega, List.take_length] at e
  subst e
  exact ⟨rfl, h.1.same h'.1⟩
end

/-! Keys of which none begins another one. -/
theorem pre_both {a b s : List α} (h : a <+: s) (h' : b <+: s) : a <+: b ∨ b <+: a := by
  rcases Nat.le_total a.length b.length with c | c
  · exact .inl (List.prefix_of_prefix_length_le h h' c)
  · exact .inr (List.prefix_of_prefix_length_le h' h c)
def Free (n : Nat) (ky : Nat → List α) : Prop := ∀ i k, i < n → k < n → i ≠ k → ¬ ky k <+: ky i
theorem Free.only {n : Nat} {ky : Nat → List α} (hf : Free n ky) {r : List α} {i k : Nat} (hi : Beg n ky r i) (hk : Beg n ky r k) : i = k := by
  by_cases e : i = k
  · exact e
  · rcases pre_both hi.2 hk.2 with h | h
    · exact absurd h (hf k i hk.1 hi.1 (fun h => e h.symm))
    · exact absurd h (hf i k hi.1 hk.1 e)
theorem Free.best {n : Nat} {ky : Nat → List α} (hf : Free n ky) {r : List α} {i : Nat} (hi : Beg n ky r i) : Best n ky r i where
  beg := hi
  most := fun k hk => by rw [hf.only hk hi]; exact Nat.le_refl _
  first := fun k hk hb => absurd (hf.only hb hi) (by omega)
theorem Dv.left {n : Nat} {ky : Nat → List α} (hf : Free n ky) {s : List α} (t : List α) {l : List Nat} {a : Nat} (h : Dv n ky s l a) : Dv n ky (s ++ t) l a := by
  induction h with
  | nil => exact .nil
  | @snoc l b i _ hl hb ih =>
    refine .snoc ih (by simp; omega) (hf.best ⟨hb.beg.1, ?_⟩)
    rw [List.drop_append_of_le_length (by omega)]
    exact hb.beg.2.trans (List.prefix_append _ _)
theorem Dv.right {n : Nat} {ky : Nat → List α} {s t : List α} {l l' : List Nat} {a : Nat} (h : Dv n ky (s ++ t) l s.length) (h' : Dv n ky t l' a) : Dv n ky (s ++ t) (l ++ l') (s.length + a) := by
  induction h' with
  | nil => simpa using h
  | @snoc l2 b i _ hl hb ih =>
    rw [← List.append_assoc, ← Nat.add_assoc]
    refine .snoc ih (by simp; omega) ?_
    rw [List.drop_append, List.drop_of_length_le (by omega)]
    simpa using hb
theorem Done.add {n : Nat} {ky : Nat → List α} (hf : Free n ky) {s t : List α} {l l' : List Nat} (h : Done n ky s l s.length) (h' : Done n ky t l' t.length) : Done n ky (s ++ t) (l ++ l') (s ++ t).length := by
  have h1 := (h.1.left hf t).right h'.1
  refine ⟨by rw [List.length_append]; exact h1, .inl (Nat.le_refl _)⟩
end Go.Proofs.YtoechdnhgkelfaaDoor.Pl
