/-
  No text is too long: plain mathematics.
-/
import Derived.Test.YtgbjldkbbbjnkaaDoorTxt2
namespace Go.Proofs.YtgbjldkbbbjnkaaDoor.Pl

mutual
/-- All texts have at most 4194304 bytes. -/
def tb : Qt → Prop
  | .mk _ _ t ks => t.size ≤ 4194304 ∧ tbs ks
def tbs : List Qt → Prop
  | [] => True
  | k :: ks => tb k ∧ tbs ks
end
theorem tbs_mem : ∀ {ks : List Qt} {k : Qt}, tbs ks → k ∈ ks → tb k
  | [], k, _, h => by simp at h
  | x :: ks, k, hs, h => by
    rw [tbs] at hs
    rcases List.mem_cons.1 h with rfl | h
    · exact hs.1
    · exact tbs_mem hs.2 h
mutual
theorem short_tb : ∀ q : Qt, short q = true → tb q
  | .mk _ _ t ks, h => by
    rw [short, Bool.and_eq_true, decide_eq_true_eq] at h
    rw [tb]
    exact ⟨by omega, shorts_tb ks h.1⟩
theorem shorts_tb : ∀ ks : List Qt, shorts ks = true → tbs ks
  | [], _ => by rw [tbs]; trivial
  | k :: ks, h => by
    rw [shorts, Bool.and_eq_true] at h
    rw [tbs]
    exact ⟨short_tb k h.1, shorts_tb ks h.2⟩
end
theorem wordq_ge (l : Bs) : l.length ≤ (wordq l).length ∧ 1 ≤ (wordq l).length := by
  have key : ∀ l : Bs, l.length ≤ (l.flatMap encq).length := fun l => by
    induction l with
    | nil => simp
    | cons c l ih =>
      obtain ⟨a, r, h⟩ := encq_some c
      rw [List.flatMap_cons, List.length_append, List.length_cons, h, List.length_cons]
      omega
  unfold wordq
  split
  · rename_i h
    subst h
    simp
  · rename_i h
    have := key l
    cases l with
    | nil => exact absurd rfl h
    | cons c l =>
      simp only [List.length_cons] at this ⊢
      omega
mutual
/-- A text that is told is not longer than the query's text, and there are not more nodes than bytes. -/
theorem wf_tb : ∀ q : Qt, Wf q → (txt q).length ≤ 4194304 → tb q ∧ sz q ≤ (txt q).length
  | .mk o r t ks, hw, hl => by
    obtain ⟨_, _, h3, _, _, h6⟩ := err_zero hw
    rw [txt] at hl ⊢
    rw [tb, sz]
    by_cases h0 : o = 0
    · subst h0
      have hk : ks = [] := List.eq_nil_of_length_eq_zero h3
      subst hk
      rw [if_pos rfl, List.length_append] at hl ⊢
      have h := wordq_ge t.data.toList
      have h5 : t.data.toList.length = t.size := by rw [Array.length_toList]; rfl
      rw [tbs, szs]
      exact ⟨⟨by omega, trivial⟩, by omega⟩
    · obtain ⟨hb, hks⟩ := h6 h0
      rw [if_neg h0, List.length_append, List.length_append, List.length_append] at hl ⊢
      obtain ⟨h1, h2⟩ := wfs_tb ks (errs_all hks) (by omega)
      refine ⟨⟨by omega, h1⟩, ?_⟩
      simp only [List.length_singleton]
      omega
theorem wfs_tb : ∀ ks : List Qt, (∀ k ∈ ks, Wf k) → (txts ks).length ≤ 4194304 → tbs ks ∧ szs ks ≤ (txts ks).length
  | [], _, _ => by rw [tbs, szs]; exact ⟨trivial, Nat.zero_le _⟩
  | k :: ks, hw, hl => by
    rw [txts, List.length_append, List.length_cons] at hl ⊢
    obtain ⟨h1, h2⟩ := wf_tb k (hw k (List.mem_cons_self ..)) (by omega)
    obtain ⟨h3, h4⟩ := wfs_tb ks (fun x hx => hw x (List.mem_cons_of_mem _ hx)) (by omega)
    rw [tbs, szs]
    exact ⟨⟨h1, h3⟩, by omega⟩
end
/-- What is read is not too great. -/
theorem pq_small {p : Bool} {f : Nat} {r : Bs} {q : Qt} {n : Nat} (h : pq p f r = .ok q n) (hr : r.length ≤ 4194304) : tb q ∧ sz q ≤ r.length := by
  obtain ⟨h1, h2⟩ := pq_take p f r q n h
  have hl : (txt q).length ≤ r.length := by
    rw [← h1, List.length_take]
    omega
  obtain ⟨h3, h4⟩ := wf_tb q h2 (by omega)
  exact ⟨h3, by omega⟩
end Go.Proofs.YtgbjldkbbbjnkaaDoor.Pl
