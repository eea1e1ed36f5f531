/-
  The text of a query: it is read back, and what is read has the text; plain mathematics, no program in sight.
-/
import Derived.Test.YtgbjldkbbbjnkaaDoorPq3
namespace Go.Proofs.YtgbjldkbbbjnkaaDoor.Pl

/-- A hexadecimal digit. -/
def hexd (n : Nat) : UInt8 := if n < 10 then UInt8.ofNat (48 + n) else UInt8.ofNat (87 + n)
/-- A byte in the word of a pattern. -/
def encq (c : UInt8) : Bs := if quoted c = true then [37, hexd (c.toNat / 16), hexd (c.toNat % 16)] else [c]
/-- The word of a pattern. -/
def wordq (l : Bs) : Bs := if l = [] then [37, 45] else l.flatMap encq
theorem all8 {P : UInt8 → Prop} (h : ∀ n, n < 256 → P (UInt8.ofNat n)) (c : UInt8) : P c := by
  have e : UInt8.ofNat c.toNat = c := by apply UInt8.toNat_inj.1; rw [UInt8.toNat_ofNat']; have := c.toNat_lt; omega
  rw [← e]
  exact h _ c.toNat_lt
theorem esc_enc (c : UInt8) : quoted c = true → hiv (hexd (c.toNat / 16)) = some (c.toNat / 16) ∧ hexv (hexd (c.toNat % 16)) = some (c.toNat % 16) ∧ UInt8.ofNat (16 * (c.toNat / 16) + c.toNat % 16) = c :=
  all8 (P := fun c => quoted c = true → hiv (hexd (c.toNat / 16)) = some (c.toNat / 16) ∧ hexv (hexd (c.toNat % 16)) = some (c.toNat % 16) ∧ UInt8.ofNat (16 * (c.toNat / 16) + c.toNat % 16) = c) (by decide +kernel) c
theorem esc_of {c : UInt8} (h : quoted c = true) (q : Bs) : esc (hexd (c.toNat / 16) :: hexd (c.toNat % 16) :: q) = .ok c 2 := by
  obtain ⟨h1, h2, h3⟩ := esc_enc c h
  rw [esc, h1]
  simp only [h2, h3, h, if_true]
theorem hi_hexd (a : UInt8) : ∀ x, hiv a = some x → hexd x = a ∧ x < 8 :=
  all8 (P := fun a => ∀ x, hiv a = some x → hexd x = a ∧ x < 8) (by
    intro n hn x hx
    have h := (show ∀ n, n < 256 → ∀ x, x < 8 → hiv (UInt8.ofNat n) = some x → hexd x = UInt8.ofNat n by decide +kernel) n hn
    have h8 : x < 8 := by
      unfold hiv at hx
      split at hx
      · cases hx; decide
      · split at hx
        · cases hx; decide
        · split at hx
          · cases hx; decide
          · split at hx
            · cases hx; decide
            · cases hx
    exact ⟨h x h8 hx, h8⟩) a
theorem hex_hexd (a : UInt8) : ∀ x, hexv a = some x → hexd x = a ∧ x < 16 :=
  all8 (P := fun a => ∀ x, hexv a = some x → hexd x = a ∧ x < 16) (by
    intro n hn x hx
    have h := (show ∀ n, n < 256 → ∀ x, x < 16 → hexv (UInt8.ofNat n) = some x → hexd x = UInt8.ofNat n by decide +kernel) n hn
    have h8 : x < 16 := by
      unfold hexv at hx
      split at hx
      · cases hx; omega
      · split at hx
        · cases hx; omega
        · cases hx
    exact ⟨h x h8 hx, h8⟩) a
theorem enc_esc {a b v : UInt8} {q : Bs} (h : esc (a :: b :: q) = .ok v 2) : quoted v = true ∧ encq v = [37, a, b] := by
  rw [esc] at h
  cases ha : hiv a with
  | none => rw [ha] at h; cases h
  | some x =>
    rw [ha] at h
    simp only at h
    cases hb : hexv b with
    | none => rw [hb] at h; cases h
    | some y =>
      rw [hb] at h
      simp only at h
      split at h
      · rename_i hq
        injection h with h
        subst h
        obtain ⟨h1, h2⟩ := hi_hexd a x ha
        obtain ⟨h3, h4⟩ := hex_hexd b y hb
        have e : (UInt8.ofNat (16 * x + y)).toNat = 16 * x + y := by rw [UInt8.toNat_ofNat']; omega
        refine ⟨hq, ?_⟩
        rw [encq, if_pos hq, e, show (16 * x + y) / 16 = x by omega, show (16 * x + y) % 16 = y by omega, h1, h3]
      · cases h
/-- What ends a word. -/
def Ends (t : Bs) : Prop := t = [] ∨ ∃ c r, t = c :: r ∧ (c = 32 ∨ c = 41)
theorem wl_flat (p : Bool) {t : Bs} (ht : Ends t) : ∀ l : Bs, wl p (l.flatMap encq ++ t) = .ok l (l.flatMap encq).length
  | [] => by
    rw [List.flatMap_nil, List.nil_append]
    rcases ht with rfl | ⟨c, r, rfl, h⟩
    · rfl
    · exact wl_end p r h
  | c :: l => by
    have ih := wl_flat p ht l
    rw [List.flatMap_cons]
    cases hq : quoted c
    · have e : encq c = [c] := by rw [encq, if_neg (by rw [hq]; simp)]
      rw [e, List.append_assoc]
      show wl p (c :: (l.flatMap encq ++ t)) = _
      rw [wl_plain p _ hq, ih]
      simp [Rd.map, Rd.sh]
      omega
    · have e : encq c = [37, hexd (c.toNat / 16), hexd (c.toNat % 16)] := by rw [encq, if_pos hq]
      rw [e, List.append_assoc]
      show wl p (37 :: _ :: _ :: (l.flatMap encq ++ t)) = _
      rw [wl_esc p (esc_of hq _), ih]
      simp [Rd.map, Rd.sh]
      omega
theorem encq_some (c : UInt8) : ∃ a r, encq c = a :: r := by
  unfold encq
  split <;> exact ⟨_, _, rfl⟩
theorem encq_no (c : UInt8) (r : Bs) : ¬ (encq c ++ r).take 2 = [37, 45] := by
  have h := all8 (P := fun c => (quoted c = true → hexd (c.toNat / 16) ≠ 45) ∧ (quoted c = false → c ≠ 37)) (by decide +kernel) c
  intro e
  cases hq : quoted c
  · have e1 : encq c = [c] := by rw [encq, if_neg (by rw [hq]; simp)]
    rw [e1, List.cons_append, List.take_succ_cons] at e
    injection e with e _
    exact h.2 hq e
  · have e1 : encq c = [37, hexd (c.toNat / 16), hexd (c.toNat % 16)] := by rw [encq, if_pos hq]
    rw [e1, List.cons_append, List.cons_append, List.take_succ_cons, List.take_succ_cons] at e
    injection e with _ e
    injection e with e _
    exact h.1 hq e
theorem pw_word (p : Bool) {t : Bs} (ht : Ends t) (l : Bs) : pw p (wordq l ++ t) = .ok l (wordq l).length := by
  match l with
  | [] =>
    rw [wordq, if_pos rfl, pw]
    exact if_pos rfl
  | c :: l =>
    have e : wordq (c :: l) = (c :: l).flatMap encq := by rw [wordq, if_neg (by simp)]
    have hno : ¬ (wordq (c :: l) ++ t).take 2 = [37, 45] := by
      rw [e, List.flatMap_cons, List.append_assoc]
      exact encq_no c _
    rw [pw, if_neg hno, e, wl_flat p ht]
    simp only
    rw [if_neg]
    obtain ⟨a, r, h⟩ := encq_some c
    rw [List.flatMap_cons, h]
    simp
theorem wl_take (p : Bool) (r : Bs) : ∀ l n, wl p r = .ok l n → r.take n = l.flatMap encq ∧ (l = [] → n = 0) := by
  induction wk p r.length r (Nat.le_refl _) with
  | nil => intro l n h; rw [wl_nil] at h; cases h; exact ⟨rfl, fun _ => rfl⟩
  | stop c r h => intro l n h'; rw [wl_end p r h] at h'; cases h'; exact ⟨rfl, fun _ => rfl⟩
  | escbad r n h1 h2 h3 _ => intro l n' h'; rw [wl_escbad p h3] at h'; cases h'
  | esc a b v q h _ _ ih =>
    intro l n h'
    rw [wl_esc p h] at h'
    cases e : wl p q with
    | bad k => rw [e] at h'; cases h'
    | ok l0 k =>
      rw [e] at h'
      cases h'
      refine ⟨?_, fun h => by cases h⟩
      rw [show 3 + k = k + 1 + 1 + 1 by omega, List.take_succ_cons, List.take_succ_cons, List.take_succ_cons, (ih l0 k e).1, List.flatMap_cons, (enc_esc h).2]
      rfl
  | odd c r h0 h1 h2 =>
    intro l n h'
    rw [wl_odd p r h0 h1 h2] at h'
    cases p
    · cases h'
    · cases h'; exact ⟨rfl, fun _ => rfl⟩
  | plain c r h _ ih =>
    intro l n h'
    rw [wl_plain p r h] at h'
    cases e : wl p r with
    | bad k => rw [e] at h'; cases h'
    | ok l0 k =>
      rw [e] at h'
      cases h'
      refine ⟨?_, fun h => by cases h⟩
      rw [show 1 + k = k + 1 by omega, List.take_succ_cons, (ih l0 k e).1, List.flatMap_cons]
      rw [encq, if_neg (by rw [h]; simp)]
      rfl
theorem pw_take {p : Bool} {r l : Bs} {n : Nat} (h : pw p r = .ok l n) : r.take n = wordq l := by
  rw [pw] at h
  split at h
  · rename_i h2
    cases h
    rw [wordq, if_pos rfl]
    exact h2
  · cases e : wl p r with
    | bad k => rw [e] at h; cases h
    | ok l0 k =>
      rw [e] at h
      simp only at h
      split at h
      · cases h
      · rename_i hk
        cases h
        obtain ⟨h1, h2⟩ := wl_take p r _ _ e
        rw [h1, wordq, if_neg fun h => hk (h2 h)]
/-! The text of a query. -/
mutual
def txt : Qt → Bs
  | .mk op role t ks => if op = 0 then tops.getD (role - 1).toNat [] ++ wordq t.data.toList
    else [40] ++ (opsL.getD (op - 1).toNat [] ++ ((if op = 3 then rolesL.getD (role - 1).toNat [] else []) ++ txts ks))
def txts : List Qt → Bs
  | [] => []
  | k :: ks => txt k ++ ((if ks.isEmpty = true then 41 else 32) :: txts ks)
end
theorem er_word {l : List Bs} (hp : Pf l) {i : Nat} (hi : i < l.length) (t : Bs) : ER l (l.getD i [] ++ t) = .ok i (l.getD i []).length := by
  have e : l.getD i [] = l[i] := by rw [List.getD_eq_getElem?_getD, List.getElem?_eq_getElem hi]; rfl
  rw [ER, e, pf_hit hp (i := i) (List.getElem?_eq_getElem hi) (List.prefix_append _ _)]
theorem seq_of {α β : Type} {R : Bs → Rd α} {K : α → Bs → Rd β} {u t : Bs} {a : α} (h : R (u ++ t) = .ok a u.length) : seq R K (u ++ t) = (K a t).sh u.length := by
  rw [seq, h]
  simp only
  rw [List.drop_left]
theorem ends_nil : Ends [] := .inl rfl
theorem ends_32 (r : Bs) : Ends (32 :: r) := .inr ⟨32, r, rfl, .inl rfl⟩
theorem ends_41 (r : Bs) : Ends (41 :: r) := .inr ⟨41, r, rfl, .inr rfl⟩
/-- A query that its text can tell. -/
def Wf (q : Qt) : Prop := err (fun _ => 0) q = 0
theorem errs_all {pe : ByteArray → Int} : ∀ {ks : List Qt}, errs pe ks = 0 → ∀ k ∈ ks, err pe k = 0
  | [], _, k, h => by simp at h
  | x :: ks, h, k, hk => by
    rw [errs] at h
    by_cases hx : err pe x = 0
    · rw [if_neg (by simpa using hx)] at h
      rcases List.mem_cons.1 hk with rfl | hk
      · exact hx
      · exact errs_all h k hk
    · rw [if_pos hx] at h
      exact absurd h hx
/-- What Check says of a node. -/
theorem err_zero {pe : ByteArray → Int} {o r : Int} {t : ByteArray} {ks : List Qt} (h : err pe (.mk o r t ks) = 0) :
    0 ≤ o ∧ o ≤ 6 ∧ ks.length = kidsN o ∧ roleOk o r = true ∧ (o = 0 → pe t = 0) ∧ (o ≠ 0 → t.size = 0 ∧ errs pe ks = 0) := by
  rw [err] at h
  by_cases h1 : o < 0 ∨ 6 < o ∨ ks.length ≠ kidsN o
  · rw [if_pos h1] at h; cases h
  rw [if_neg h1] at h
  cases h2 : roleOk o r
  · rw [if_pos h2] at h; cases h
  rw [if_neg (by rw [h2]; simp)] at h
  by_cases h3 : o = 0
  · rw [if_pos h3] at h
    exact ⟨by omega, by omega, by omega, rfl, fun _ => h, fun h => absurd h3 h⟩
  · rw [if_neg h3] at h
    by_cases h4 : t.size ≠ 0
    · rw [if_pos h4] at h; cases h
    · rw [if_neg h4] at h
      exact ⟨by omega, by omega, by omega, rfl, fun h => absurd h h3, fun _ => ⟨by omega, h⟩⟩
mutual
theorem err_wf {pe : ByteArray → Int} : ∀ q : Qt, err pe q = 0 → Wf q
  | .mk o r t ks, h => by
    obtain ⟨h1, h2, h3, h4, h5, h6⟩ := err_zero h
    rw [Wf, err, if_neg (by omega), if_neg (by rw [h4]; simp)]
    by_cases h0 : o = 0
    · rw [if_pos h0]
    · rw [if_neg h0, if_neg (by have := (h6 h0).1; omega)]
      exact errs_wf ks (h6 h0).2
theorem errs_wf {pe : ByteArray → Int} : ∀ ks : List Qt, errs pe ks = 0 → errs (fun _ => 0) ks = 0
  | [], _ => by rw [errs]
  | k :: ks, h => by
    rw [errs] at h
    by_cases hk : err pe k = 0
    · rw [if_neg (by simpa using hk)] at h
      rw [errs, if_neg]
      · exact errs_wf ks h
      · have := err_wf k hk
        rw [Wf] at this
        rw [this]
        simp
    · rw [if_pos hk] at h
      exact absurd h hk
end
theorem arr_data (t : ByteArray) : (⟨t.data.toList.toArray⟩ : ByteArray) = t := by cases t; simp
theorem arr_none {t : ByteArray} (h : t.size = 0) : (⟨#[]⟩ : ByteArray) = t := by
  apply ByteArray.ext
  exact (Array.eq_empty_of_size_eq_zero h).symm
theorem Rd.sh_ok {α : Type} {a : α} {n k m : Nat} (h : m = k + n) : (Rd.ok a n).sh k = .ok a m := by rw [h]; rfl
/-- The text of a query is read back. -/
theorem pq_txt (p : Bool) : ∀ (f : Nat) (q : Qt) (t : Bs), dp q ≤ f → Wf q → Ends t → pq p f (txt q ++ t) = .ok q (txt q).length
  | 0, q, t, hf, _, _ => by
    cases q
    rw [dp] at hf
    omega
  | f + 1, .mk o r b ks, t, hf, hw, ht => by
    obtain ⟨h1, h2, h3, h4, _, h6⟩ := err_zero hw
    rw [dp] at hf
    rw [pq]
    by_cases h0 : o = 0
    · subst h0
      have hr : 1 ≤ r ∧ r ≤ 5 := by unfold roleOk at h4; simpa using h4
      have hk : ks = [] := List.eq_nil_of_length_eq_zero h3
      subst hk
      obtain ⟨i, hi⟩ : ∃ i : Nat, r = ((i + 1 : Nat) : Int) := ⟨(r - 1).toNat, by omega⟩
      subst hi
      have hi5 : i < 5 := by omega
      rw [txt, if_pos rfl, show (((i + 1 : Nat) : Int) - 1).toNat = i by omega, List.append_assoc, seq_of (er_word pf_tops (by show i < 6; omega) _), topR, if_pos hi5]
      rw [pw_word p ht, Rd.map]
      refine Eq.trans (Rd.sh_ok rfl) ?_
      rw [List.length_append, leaf, arr_data]
    · obtain ⟨hb, hks⟩ := h6 h0
      have hall := errs_all hks
      have hdk : ∀ k ∈ ks, dp k ≤ f := fun k hk => by
        have : dp k ≤ dps ks := by
          clear hf hw h3 h4 h6 hks hall
          induction ks with
          | nil => simp at hk
          | cons x ks ih =>
            rw [dps]
            rcases List.mem_cons.1 hk with rfl | hk
            · omega
            · have := ih hk
              omega
        omega
      obtain ⟨j, hj⟩ : ∃ j : Nat, o = ((j + 1 : Nat) : Int) := ⟨(o - 1).toNat, by omega⟩
      subst hj
      have hj6 : j < 6 := by omega
      rw [txt, if_neg h0, show (((j + 1 : Nat) : Int) - 1).toNat = j by omega]
      have e40 : ∀ x : Bs, [40] ++ x = tops.getD 5 [] ++ x := fun _ => rfl
      rw [e40, List.append_assoc, seq_of (er_word pf_tops (by show 5 < 6; omega) _), topR, if_neg (by omega), opR, List.append_assoc, seq_of (er_word pf_ops hj6 _)]
      have hb' := arr_none hb
      by_cases h3' : j = 2
      · subst h3'
        have hr : 1 ≤ r ∧ r ≤ 5 := by unfold roleOk at h4; simpa using h4
        obtain ⟨i, hi⟩ : ∃ i : Nat, r = ((i + 1 : Nat) : Int) := ⟨(r - 1).toNat, by omega⟩
        subst hi
        have hi5 : i < 5 := by omega
        have hlen : ks.length = 1 := h3
        match ks, hlen with
        | [k], _ =>
          have hk := hall k (List.mem_cons_self ..)
          have ih := pq_txt p f k (41 :: t) (hdk k (List.mem_cons_self ..)) (err_wf k hk) (ends_41 t)
          rw [if_pos rfl, if_pos (show ((2 + 1 : Nat) : Int) = 3 from rfl), show (((i + 1 : Nat) : Int) - 1).toNat = i by omega, List.append_assoc, seq_of (er_word pf_roles (by show i < 5; omega) _), kidsR]
          have e1 : txts [k] ++ t = txt k ++ (41 :: t) := by rw [txts, txts]; simp
          have e2 : pk (pq p f) (enders 3) (txts [k] ++ t) = .ok [k] (txts [k]).length := by
            rw [e1, show enders 3 = [[41]] from rfl, pk, seq_of ih, show (41 :: t : Bs) = ([[41]] : List Bs).getD 0 [] ++ t from rfl, seq_of (er_word (pf_one [41]) (by simp) _), pk, Rd.map]
            refine Eq.trans (congrArg (Rd.sh _) (Rd.sh_ok rfl)) (Rd.sh_ok ?_)
            rw [txts, txts]
            simp
          rw [e2, Rd.map]
          refine Eq.trans (congrArg (Rd.sh _) (congrArg (Rd.sh _) (Rd.sh_ok rfl))) (Eq.trans (congrArg (Rd.sh _) (Rd.sh_ok rfl)) (Eq.trans (Rd.sh_ok rfl) ?_))
          rw [node, hb']
          congr 1
          simp only [List.length_append]
      · have hr : r = 0 := by
          unfold roleOk at h4
          rw [if_neg (by omega)] at h4
          simpa using h4
        subst hr
        have hlen : ks.length = 2 := by
          rw [h3, kidsN, if_neg h0, if_neg (by omega)]
        match ks, hlen with
        | [k, k'], _ =>
          have hk := hall k (List.mem_cons_self ..)
          have hk' := hall k' (List.mem_cons_of_mem _ (List.mem_cons_self ..))
          have ih := pq_txt p f k (32 :: (txt k' ++ (41 :: t))) (hdk k (List.mem_cons_self ..)) (err_wf k hk) (ends_32 _)
          have ih' := pq_txt p f k' (41 :: t) (hdk k' (List.mem_cons_of_mem _ (List.mem_cons_self ..))) (err_wf k' hk') (ends_41 t)
          rw [if_neg h3', if_neg (by omega), List.nil_append, kidsR]
          have e1 : txts [k, k'] ++ t = txt k ++ (32 :: (txt k' ++ (41 :: t))) := by rw [txts, txts, txts]; simp
          have e2 : pk (pq p f) (enders (j + 1)) (txts [k, k'] ++ t) = .ok [k, k'] (txts [k, k']).length := by
            rw [e1, show enders (j + 1) = [[32], [41]] by rw [enders, if_neg (by omega)], pk, seq_of ih, show (32 :: (txt k' ++ (41 :: t)) : Bs) = ([[32]] : List Bs).getD 0 [] ++ (txt k' ++ (41 :: t)) from rfl, seq_of (er_word (pf_one [32]) (by simp) _), pk, seq_of ih',
              show (41 :: t : Bs) = ([[41]] : List Bs).getD 0 [] ++ t from rfl, seq_of (er_word (pf_one [41]) (by simp) _), pk, Rd.map]
            simp only [Rd.sh, Rd.map]
            rw [txts, txts, txts]
            simp
            omega
          rw [e2, Rd.map]
          refine Eq.trans (congrArg (Rd.sh _) (Rd.sh_ok rfl)) (Eq.trans (Rd.sh_ok rfl) ?_)
          rw [node, hb']
          congr 1
          simp only [List.length_append]
end Go.Proofs.YtgbjldkbbbjnkaaDoor.Pl
