/-
  What the laws ask for: plain facts on parsing and printing.
-/
import Derived.Test.YtgbjldkbbbjnkaaDoorAwake
namespace Go.Proofs.YtgbjldkbbbjnkaaDoor
open Go.RowKit Go.PlainAid Pl

/-! Fuel does not matter. -/
theorem pk_same {P Q : Bs → Rd Qt} (hB : Bd P) : ∀ (es : List Bs) (r : Bs), (∀ x : Bs, x.length ≤ r.length → P x = Q x) → pk P es r = pk Q es r
  | [], _, _ => rfl
  | e :: es, r, h => by
    rw [pk, pk, seq, seq, ← h r (Nat.le_refl _)]
    cases h1 : P r with
    | bad n => rfl
    | ok q n =>
      simp only
      have hb := hB r
      rw [h1, Rd.pos] at hb
      congr 1
      rw [seq, seq]
      cases h2 : ER [e] (r.drop n) with
      | bad m => rfl
      | ok i m =>
        simp only
        rw [pk_same hB es ((r.drop n).drop m) fun x hx => h x (by rw [List.length_drop, List.length_drop] at hx; omega)]
theorem op_same {P Q : Bs → Rd Qt} (hB : Bd P) (r : Bs) (h : ∀ x : Bs, x.length ≤ r.length → P x = Q x) : opR P r = opR Q r := by
  rw [opR, opR, seq, seq]
  cases h1 : ER opsL r with
  | bad n => rfl
  | ok o n =>
    simp only
    congr 1
    by_cases ho : o = 2
    · rw [if_pos ho, if_pos ho, seq, seq]
      cases h2 : ER rolesL (r.drop n) with
      | bad m => rfl
      | ok i m =>
        simp only
        rw [kidsR, kidsR, pk_same hB _ _ fun x hx => h x (by rw [List.length_drop, List.length_drop] at hx; omega)]
    · rw [if_neg ho, if_neg ho, kidsR, kidsR, pk_same hB _ _ fun x hx => h x (by rw [List.length_drop] at hx; omega)]
theorem pq_fuel (p : Bool) : ∀ (f f' : Nat) (r : Bs), r.length < f → r.length < f' → pq p f r = pq p f' r
  | 0, _, r, h, _ => by omega
  | _, 0, r, _, h => by omega
  | f + 1, f' + 1, r, h, h' => by
    rw [pq, pq, seq, seq]
    cases h1 : ER tops r with
    | bad n => rfl
    | ok i n =>
      obtain ⟨_, hn⟩ := er_tops_le h1
      have hb := er_bd tops r
      rw [h1, Rd.pos] at hb
      simp only
      congr 1
      unfold topR
      split
      · rfl
      · exact op_same (pq_bd p f) _ fun x hx => by
          rw [List.length_drop] at hx
          exact pq_fuel p f f' x (by omega) (by omega)
/-- Parsing with any fuel that is enough. -/
theorem prs_fuel {l : Bs} {f : Nat} (h : l.length < f) : prs (str l) = whole (pq true f l) l.length := by
  unfold prs rest
  rw [str_list, List.drop_zero, str_len, pq_fuel true (l.length + 1) f l (by omega) h]
theorem prs_str (s : ByteArray) : prs s = prs (str s.data.toList) := by rw [str_of]
/-- What is printed is parsed to the query. -/
theorem prs_txt {q : Qt} (hw : Wf q) (hl : (txt q).length ≤ 4194304) : prs (str (txt q)) = .inl q := by
  have hsz := (wf_tb q hw hl).2
  have hd := dp_sz q
  have h := pq_txt true ((txt q).length + 1) q [] (by omega) hw ends_nil
  rw [List.append_nil] at h
  rw [prs_fuel (f := (txt q).length + 1) (by omega), h, whole, if_neg (Nat.lt_irrefl _)]
mutual
theorem err_no28 : ∀ q : Qt, Wf q → err pe q ≠ 28
  | .mk o r t ks, h => by
    obtain ⟨h1, h2, h3, h4, _, h6⟩ := err_zero h
    rw [err, if_neg (by omega), if_neg (by rw [h4]; simp)]
    by_cases h0 : o = 0
    · rw [if_pos h0]
      unfold pe
      split
      · decide
      · split
        · decide
        · split <;> decide
    · rw [if_neg h0, if_neg (by have := (h6 h0).1; omega)]
      exact errs_no28 ks (errs_all (h6 h0).2)
theorem errs_no28 : ∀ ks : List Qt, (∀ k ∈ ks, err (fun _ => 0) k = 0) → errs pe ks ≠ 28
  | [], _ => by rw [errs]; decide
  | k :: ks, h => by
    rw [errs]
    split
    · exact err_no28 k (h k (List.mem_cons_self ..))
    · exact errs_no28 ks fun x hx => h x (List.mem_cons_of_mem _ hx)
end
theorem prs_inl {s : ByteArray} {q : Qt} (h : prs s = .inl q) : txt q = s.data.toList ∧ Wf q := by
  unfold prs at h
  cases e : pq true (s.size + 1) (rest s 0) with
  | bad n => rw [e, whole] at h; cases h
  | ok q' n =>
    rw [e, whole] at h
    split at h
    · cases h
    · rename_i hn
      cases h
      obtain ⟨h1, h2⟩ := pq_take true _ _ _ _ e
      refine ⟨?_, h2⟩
      rw [← h1]
      unfold rest
      rw [List.drop_zero, List.take_of_length_le (by rw [size_list]; omega)]
theorem prs_inr {s : ByteArray} {n : Nat} (h : prs s = .inr n) : n ≤ s.size := by
  unfold prs at h
  have hb := pq_bd true (s.size + 1) (rest s 0)
  rw [rest_len] at hb
  cases e : pq true (s.size + 1) (rest s 0) with
  | bad m => rw [e, whole] at h; cases h; rw [e, Rd.pos] at hb; omega
  | ok q' m =>
    rw [e, whole] at h
    split at h
    · rename_i hm
      cases h
      omega
    · cases h
theorem prs_28 {s : ByteArray} (h : pEr (prs s) = 28) : ∃ n, prs s = .inr n := by
  cases e : prs s with
  | inr n => exact ⟨n, rfl⟩
  | inl q =>
    rw [e, pEr] at h
    have hw := (prs_inl e).2
    rw [chk] at h
    split at h
    · cases h
    · exact absurd h (err_no28 q hw)
/-- The beginning of the text of a query with kids. -/
theorem prs_cut {q : Qt} (hw : Wf q) (ho : q.op ≠ 0) (hl : (txt q).length ≤ 4194304) {k : Nat} (hk : k < (txt q).length) : prs (str ((txt q).take k)) = .inr k := by
  have hsz := (wf_tb q hw hl).2
  have hd := dp_sz q
  have h := pq_txt true ((txt q).length + 1) q [] (by omega) hw ends_nil
  rw [List.append_nil] at h
  have h2 := pq_stop h ho hk
  rw [prs_fuel (f := (txt q).length + 1) (by rw [List.length_take]; omega), h2, whole]
/-- The bytes behind the index of the error. -/
theorem prs_where {s : ByteArray} {n : Nat} (h : prs s = .inr n) (hn : n < s.size) (t : Bs) : prs (str (s.data.toList.take (n + 1) ++ t)) = .inr n := by
  rw [prs_str] at h
  have hl : s.data.toList.length = s.size := size_list s
  generalize s.data.toList = l at h hl ⊢
  obtain ⟨f, hf⟩ : ∃ f, l.length + t.length + 2 = f := ⟨_, rfl⟩
  rw [prs_fuel (f := f) (by omega)] at h
  have hpos : (pq true f l).pos = n := by
    cases e : pq true f l with
    | bad m => rw [e, whole] at h; cases h; rfl
    | ok q m =>
      rw [e, whole] at h
      split at h
      · cases h; rfl
      · cases h
  have hloc := pq_loc true f l t (by rw [hpos]; omega)
  rw [hpos] at hloc
  have hlen : (l.take (n + 1) ++ t).length = n + 1 + t.length := by rw [List.length_append, List.length_take]; omega
  rw [prs_fuel (f := f) (by omega), hloc]
  cases e : pq true f l with
  | bad m => rw [e, Rd.pos] at hpos; rw [whole, hpos]
  | ok q m => rw [e, Rd.pos] at hpos; rw [whole, hpos, if_pos (by omega)]
theorem prs_cut2 {s : ByteArray} {n : Nat} (h : prs s = .inr n) (hn : n < s.size) {m : Nat} (hm : prs (str (s.data.toList.take n)) = .inr m) : m = n := by
  rw [prs_str] at h
  have hl : s.data.toList.length = s.size := size_list s
  generalize s.data.toList = l at h hl hm
  obtain ⟨f, hf⟩ : ∃ f, l.length + 2 = f := ⟨_, rfl⟩
  rw [prs_fuel (f := f) (by omega)] at h
  have hpos : (pq true f l).pos = n := by
    cases e : pq true f l with
    | bad m => rw [e, whole] at h; cases h; rfl
    | ok q m =>
      rw [e, whole] at h
      split at h
      · cases h; rfl
      · cases h
  have hcut := pq_cut true f l n (by omega)
  rw [prs_fuel (f := f) (by rw [List.length_take]; omega)] at hm
  cases e : pq true f (l.take n) with
  | bad j => rw [e, Rd.pos] at hcut; rw [e, whole] at hm; cases hm; exact hcut
  | ok q j =>
    rw [e, Rd.pos] at hcut
    rw [e, whole] at hm
    split at hm
    · cases hm; exact hcut
    · cases hm
/-! Joining. -/
theorem chk_kid {o r : Int} {t : ByteArray} {a b : Qt} (ho : 1 ≤ o) (h : chk pe (.mk o r t [a, b]) = 0) : chk pe a = 0 ∧ chk pe b = 0 := by
  obtain ⟨h1, h2, h3, _⟩ := chk_zero h
  obtain ⟨_, _, _, _, _, h6⟩ := err_zero h1
  have hall := errs_all (h6 (by omega)).2
  rw [sz, szs, szs, szs] at h2
  rw [dp, dps, dps, dps] at h3
  rw [chk, chk, if_neg (by omega), if_neg (by omega)]
  exact ⟨hall a (List.mem_cons_self ..), hall b (List.mem_cons_of_mem _ (List.mem_cons_self ..))⟩
theorem txt_join {j : Nat} {t : ByteArray} {a b : Qt} (hj : j ≠ 2) : txt (.mk ((j + 1 : Nat) : Int) 0 t [a, b]) = [40] ++ opsL.getD j [] ++ txt a ++ [32] ++ txt b ++ [41] := by
  rw [txt, if_neg (by omega), if_neg (by omega), show (((j + 1 : Nat) : Int) - 1).toNat = j by omega, txts, txts, txts]
  simp
theorem sz_join (o r : Int) (t : ByteArray) (a b : Qt) : sz (.mk o r t [a, b]) = 1 + sz a + sz b := by
  rw [sz, szs, szs, szs]
  omega
theorem dp_join (o r : Int) (t : ByteArray) (a b : Qt) : dp (.mk o r t [a, b]) = 1 + max (dp a) (dp b) := by
  rw [dp, dps, dps, dps]
  omega
theorem txt_some (q : Qt) : txt q ≠ [] := by
  obtain ⟨o, r, t, ks⟩ := q
  rw [txt]
  split
  · intro h
    have h1 := (wordq_ge t.data.toList).2
    rw [(List.append_eq_nil_iff.1 h).2] at h1
    simp at h1
  · simp
end Go.Proofs.YtgbjldkbbbjnkaaDoor
