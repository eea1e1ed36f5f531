/-
  What is read has the text; how long a text is; the error of a pattern by its bytes; plain mathematics.
-/
import Derived.Test.YtgbjldkbbbjnkaaDoorTxt
namespace Go.Proofs.YtgbjldkbbbjnkaaDoor.Pl

theorem er_take {l : List Bs} {r : Bs} {i n : Nat} (h : ER l r = .ok i n) : r.take n = l.getD i [] ∧ i < l.length := by
  rw [ER] at h
  cases e : ex l r with
  | miss k => rw [e] at h; cases h
  | hit j k =>
    rw [e] at h
    cases h
    obtain ⟨w, h1, h2, h3, _⟩ := ex_hit e
    obtain ⟨hi, h4⟩ := List.getElem?_eq_some_iff.1 h1
    refine ⟨?_, hi⟩
    rw [List.getD_eq_getElem?_getD, h1, Option.getD_some, ← h2]
    exact (List.prefix_iff_eq_take.1 h3).symm
theorem seq_get {α β : Type} {R : Bs → Rd α} {K : α → Bs → Rd β} {r : Bs} {b : β} {n : Nat} (h : seq R K r = .ok b n) : ∃ a k m, R r = .ok a k ∧ K a (r.drop k) = .ok b m ∧ n = k + m := by
  rw [seq] at h
  cases e : R r with
  | bad k => rw [e] at h; cases h
  | ok a k =>
    rw [e] at h
    simp only at h
    cases e2 : K a (r.drop k) with
    | bad m => rw [e2] at h; cases h
    | ok b' m =>
      rw [e2] at h
      cases h
      exact ⟨a, k, m, rfl, e2, rfl⟩
theorem map_get {α β : Type} {f : α → β} {x : Rd α} {b : β} {n : Nat} (h : x.map f = .ok b n) : ∃ a, x = .ok a n ∧ b = f a := by
  cases x with
  | bad k => cases h
  | ok a k => cases h; exact ⟨a, rfl, rfl⟩
theorem take_two (r : Bs) (k m : Nat) : r.take (k + m) = r.take k ++ (r.drop k).take m := List.take_add
/-- What is read has the text. -/
theorem pq_take (p : Bool) : ∀ (f : Nat) (r : Bs) (q : Qt) (n : Nat), pq p f r = .ok q n → r.take n = txt q ∧ Wf q
  | 0, r, q, n, h => by cases h
  | f + 1, r, q, n, h => by
    rw [pq] at h
    obtain ⟨i, k, m, h1, h2, rfl⟩ := seq_get h
    obtain ⟨t1, hi⟩ := er_take h1
    have hi6 : i < 6 := hi
    rw [take_two, t1]
    by_cases hi5 : i < 5
    · rw [topR, if_pos hi5] at h2
      obtain ⟨l, h3, rfl⟩ := map_get h2
      rw [pw_take h3, leaf, txt, if_pos rfl]
      refine ⟨?_, ?_⟩
      · rw [show (((i + 1 : Nat) : Int) - 1).toNat = i by omega]
      · rw [Wf, err, if_neg (by simp [kidsN]), if_neg, if_pos rfl]
        unfold roleOk
        rw [if_pos (.inl rfl)]
        simp
        omega
    · obtain rfl : i = 5 := by omega
      rw [topR, if_neg (by omega), opR] at h2
      obtain ⟨o, k2, m2, h3, h4, rfl⟩ := seq_get h2
      obtain ⟨t2, ho⟩ := er_take h3
      have ho6 : o < 6 := ho
      have kid1 : ∀ (e : UInt8) {es : List Bs} {r : Bs} {ks : List Qt} {n : Nat}, pk (pq p f) ([e] :: es) r = .ok ks n → ∃ q ks' n', ks = q :: ks' ∧ n' ≤ n ∧ r.take n' = txt q ++ [e] ∧ Wf q ∧ pk (pq p f) es (r.drop n') = .ok ks' (n - n') := by
        intro e es r ks n h
        rw [pk] at h
        obtain ⟨q, a, b, g1, g2, rfl⟩ := seq_get h
        obtain ⟨x, c, d, g3, g4, rfl⟩ := seq_get g2
        obtain ⟨ks', g5, rfl⟩ := map_get g4
        obtain ⟨g6, g7⟩ := pq_take p f r q a g1
        obtain ⟨g8, g9⟩ := er_take g3
        obtain rfl : x = 0 := by simpa using g9
        refine ⟨q, ks', a + c, rfl, by omega, by rw [take_two, g6, g8]; rfl, g7, ?_⟩
        rw [List.drop_drop] at g5
        rw [show a + (c + d) - (a + c) = d by omega]
        exact g5
      rw [take_two, t2]
      by_cases h2o : o = 2
      · subst h2o
        rw [if_pos rfl] at h4
        obtain ⟨ro, k3, m3, h5, h6, rfl⟩ := seq_get h4
        obtain ⟨t3, hro⟩ := er_take h5
        have hro5 : ro < 5 := hro
        rw [take_two, t3]
        rw [kidsR, show enders 3 = [[41]] from rfl] at h6
        obtain ⟨ks, h7, rfl⟩ := map_get h6
        obtain ⟨q, ks', n', rfl, g1, g2, g3, g4⟩ := kid1 41 h7
        rw [pk] at g4
        injection g4 with g5 g6
        subst g5
        obtain rfl : n' = m3 := by omega
        rw [g2, node, txt, if_neg (by decide)]
        refine ⟨?_, ?_⟩
        · rw [show (((ro + 1 : Nat) : Int) - 1).toNat = ro by omega, if_pos (show ((3 : Nat) : Int) = 3 from rfl), txts, txts]
          rfl
        · rw [Wf, err, if_neg (by simp [kidsN]), if_neg, if_neg (by decide), if_neg (fun h => h rfl), errs, errs]
          · rw [Wf] at g3
            rw [g3]
            simp
          · unfold roleOk
            rw [if_pos (.inr rfl)]
            simp
            omega
      · rw [if_neg h2o] at h4
        rw [kidsR, show enders (o + 1) = [[32], [41]] by rw [enders, if_neg (by omega)]] at h4
        obtain ⟨ks, h7, rfl⟩ := map_get h4
        obtain ⟨q, ks', n', rfl, g1, g2, g3, g4⟩ := kid1 32 h7
        obtain ⟨q', ks'', n'', rfl, g1', g2', g3', g4'⟩ := kid1 41 g4
        rw [pk] at g4'
        injection g4' with g5 g6
        subst g5
        obtain rfl : n'' = m2 - n' := by omega
        have e : (List.drop k2 (List.drop k r)).take m2 = txt q ++ [32] ++ (txt q' ++ [41]) := by
          rw [show m2 = n' + (m2 - n') by omega, take_two, g2, g2']
        rw [e, node, txt, if_neg (by omega)]
        refine ⟨?_, ?_⟩
        · rw [show (((o + 1 : Nat) : Int) - 1).toNat = o by omega, if_neg (by omega), txts, txts, txts]
          simp
          rfl
        · rw [Wf, err, if_neg, if_neg, if_neg (by omega), if_neg (fun h => h rfl), errs, errs, errs]
          · rw [Wf] at g3 g3'
            rw [g3, g3']
            simp
          · unfold roleOk
            rw [if_neg (by omega)]
            simp
          · unfold kidsN
            rw [if_neg (by omega), if_neg (by omega)]
            simp
            omega
/-! How long a text is. -/
theorem encq_len (c : UInt8) : (encq c).length ≤ 3 := by unfold encq; split <;> simp
theorem flatq_len : ∀ l : Bs, (l.flatMap encq).length ≤ 3 * l.length
  | [] => by simp
  | c :: l => by rw [List.flatMap_cons, List.length_append, List.length_cons]; have := flatq_len l; have := encq_len c; omega
theorem wordq_len (l : Bs) : (wordq l).length ≤ 3 * l.length + 2 := by
  unfold wordq
  split
  · simp
  · have := flatq_len l; omega
theorem getD_len {l : List Bs} {m : Nat} (h : ∀ w ∈ l, w.length ≤ m) (i : Nat) : (l.getD i []).length ≤ m := by
  rw [List.getD_eq_getElem?_getD]
  cases e : l[i]? with
  | none => simp
  | some w => exact h w (List.mem_of_getElem? e)
mutual
theorem txt_len : ∀ q : Qt, short q = true → (txt q).length + 1 ≤ 1001 * sz q
  | .mk o r t ks, h => by
    rw [short, Bool.and_eq_true, decide_eq_true_eq] at h
    rw [txt, sz]
    have h1 := getD_len (l := tops) (m := 6) (by decide) (r - 1).toNat
    have h2 := getD_len (l := opsL) (m := 7) (by decide) (o - 1).toNat
    have h3 := getD_len (l := rolesL) (m := 6) (by decide) (r - 1).toNat
    have h4 := wordq_len t.data.toList
    have h5 : t.data.toList.length = t.size := by rw [Array.length_toList]; rfl
    have h6 := txts_len ks h.1
    split
    · rw [List.length_append]; omega
    · rw [List.length_append, List.length_append, List.length_append]
      split
      · simp only [List.length_singleton]; omega
      · simp only [List.length_singleton, List.length_nil]; omega
theorem txts_len : ∀ ks : List Qt, shorts ks = true → (txts ks).length ≤ 1001 * szs ks
  | [], _ => by simp [txts]
  | k :: ks, h => by
    rw [shorts, Bool.and_eq_true] at h
    have h1 := txt_len k h.1
    have h2 := txts_len ks h.2
    rw [txts, szs, List.length_append, List.length_cons]
    omega
end
end Go.Proofs.YtgbjldkbbbjnkaaDoor.Pl
