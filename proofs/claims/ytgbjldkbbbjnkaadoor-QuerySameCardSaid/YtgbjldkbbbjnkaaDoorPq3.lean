/-
  What a parser of queries answers, that the program's and the reference's agree, that the text of a query is read back, and that what is read has the text; plain mathematics.
-/
import Derived.Test.YtgbjldkbbbjnkaaDoorPq2
import Derived.KernelRfl
namespace Go.Proofs.YtgbjldkbbbjnkaaDoor.Pl

def rolesN : List Bs := [[116, 101, 120, 116], [119, 111, 114, 100], [109, 111, 114, 112, 104], [103, 108, 111, 115, 115], [102, 114, 101, 101]]
def tops : List Bs := [[116, 101, 120, 116, 58], [119, 111, 114, 100, 58], [109, 111, 114, 112, 104, 58], [103, 108, 111, 115, 115, 58], [102, 114, 101, 101, 58], [40]]
def opsL : List Bs := [[97, 110, 100, 32], [111, 114, 32], [110, 111, 116, 32], [116, 104, 101, 110, 32], [119, 105, 116, 104, 105, 110, 32], [104, 97, 115, 32]]
def rolesL : List Bs := [[116, 101, 120, 116, 32], [119, 111, 114, 100, 32], [109, 111, 114, 112, 104, 32], [103, 108, 111, 115, 115, 32], [102, 114, 101, 101, 32]]
theorem pf_tops : Pf tops := fun i j hi hj h => (show ∀ i, i < 6 → ∀ j, j < 6 → i ≠ j → ¬ tops.getD i [] <+: tops.getD j [] by decide) i hi j hj h
theorem pf_ops : Pf opsL := fun i j hi hj h => (show ∀ i, i < 6 → ∀ j, j < 6 → i ≠ j → ¬ opsL.getD i [] <+: opsL.getD j [] by decide) i hi j hj h
theorem pf_roles : Pf rolesL := fun i j hi hj h => (show ∀ i, i < 5 → ∀ j, j < 5 → i ≠ j → ¬ rolesL.getD i [] <+: rolesL.getD j [] by decide) i hi j hj h
theorem pf_one (e : Bs) : Pf [e] := fun i j hi hj h => by simp at hi hj; omega
/-- A leaf and a node. -/
def leaf (i : Nat) (l : Bs) : Qt := .mk 0 ((i + 1 : Nat) : Int) ⟨l.toArray⟩ []
def node (o ro : Nat) (ks : List Qt) : Qt := .mk (o : Int) (ro : Int) ⟨#[]⟩ ks
def enders (o : Nat) : List Bs := if o = 3 then [[41]] else [[32], [41]]
def pk (P : Bs → Rd Qt) : List Bs → Bs → Rd (List Qt)
  | [] => fun _ => .ok [] 0
  | e :: es => seq P fun q => seq (ER [e]) fun _ r => (pk P es r).map (q :: ·)
def kidsR (P : Bs → Rd Qt) (o ro : Nat) (r : Bs) : Rd Qt := (pk P (enders o) r).map (node o ro)
def opR (P : Bs → Rd Qt) : Bs → Rd Qt := seq (ER opsL) fun o => if o = 2 then seq (ER rolesL) fun ro => kidsR P 3 (ro + 1) else kidsR P (o + 1) 0
def topR (p : Bool) (P : Bs → Rd Qt) (i : Nat) : Bs → Rd Qt := if i < 5 then fun r => (pw p r).map (leaf i) else opR P
/-- What a parser answers, with fuel. -/
def pq (p : Bool) : Nat → Bs → Rd Qt
  | 0 => fun _ => .bad 0
  | f + 1 => seq (ER tops) (topR p (pq p f))

/-! Which bytes matter. -/
section
variable {P : Bs → Rd Qt}
theorem pk_bd (hB : Bd P) : ∀ es, Bd (pk P es)
  | [] => ret_bd []
  | _ :: es => seq_bd hB fun q => seq_bd (er_bd _) fun _ => map_bd (q :: ·) (pk_bd hB es)
theorem pk_loc (hL : Loc P) : ∀ es, Loc (pk P es)
  | [] => ret_loc []
  | e :: es => seq_loc hL fun q => seq_loc (er_loc (pf_one e)) fun _ => map_loc (q :: ·) (pk_loc hL es)
theorem er_nil {e : Bs} (h : e ≠ []) : ER [e] [] = .bad 0 := by
  rw [ER, miss_ex (l := [e]) (r := []) (n := 0)]
  refine ⟨fun w hw hp => ?_, fun w hw => ?_, .inl rfl⟩
  · simp at hw hp
    exact h (hw ▸ hp)
  · have := (lcp_le w []).2
    simpa using this
theorem pk_stop (hB : Bd P) (hL : Loc P) (hC : Cut P) : ∀ {es : List Bs}, (∀ e ∈ es, e ≠ []) → Stop (pk P es)
  | [], _ => ret_stop []
  | e :: es, h => by
    refine seq_stop1 hB (fun q => seq_bd (er_bd _) fun _ => map_bd (q :: ·) (pk_bd hB es)) hL hC (fun q => ?_) fun q => ?_
    · exact seq_stop2 (er_bd _) (fun _ => map_bd (q :: ·) (pk_bd hB es)) (er_loc (pf_one e)) (er_stop (pf_one e)) (er_exact (pf_one e)) fun _ => map_stop (q :: ·) (pk_stop hB hL hC fun x hx => h x (List.mem_cons_of_mem _ hx))
    · rw [seq, er_nil (h e (List.mem_cons_self ..))]
theorem enders_some (o : Nat) : ∀ e ∈ enders o, e ≠ [] := by
  intro e he
  unfold enders at he
  split at he <;> simp at he
  · subst he; simp
  · rcases he with rfl | rfl <;> simp
theorem kids_bd (hB : Bd P) (o ro : Nat) : Bd (kidsR P o ro) := map_bd _ (pk_bd hB _)
theorem kids_loc (hL : Loc P) (o ro : Nat) : Loc (kidsR P o ro) := map_loc _ (pk_loc hL _)
theorem kids_stop (hB : Bd P) (hL : Loc P) (hC : Cut P) (o ro : Nat) : Stop (kidsR P o ro) := map_stop _ (pk_stop hB hL hC (enders_some o))
theorem op_bd (hB : Bd P) : Bd (opR P) := seq_bd (er_bd _) fun o => by
  split
  · exact seq_bd (er_bd _) fun ro => kids_bd hB _ _
  · exact kids_bd hB _ _
theorem op_loc (hL : Loc P) : Loc (opR P) := seq_loc (er_loc pf_ops) fun o => by
  split
  · exact seq_loc (er_loc pf_roles) fun ro => kids_loc hL _ _
  · exact kids_loc hL _ _
theorem op_stop (hB : Bd P) (hL : Loc P) (hC : Cut P) : Stop (opR P) :=
  seq_stop2 (er_bd _) (fun o => by split; exact seq_bd (er_bd _) fun ro => kids_bd hB _ _; exact kids_bd hB _ _) (er_loc pf_ops) (er_stop pf_ops) (er_exact pf_ops) fun o => by
    split
    · exact seq_stop2 (er_bd _) (fun ro => kids_bd hB _ _) (er_loc pf_roles) (er_stop pf_roles) (er_exact pf_roles) fun ro => kids_stop hB hL hC _ _
    · exact kids_stop hB hL hC _ _
end
section
variable {P : Bs → Rd Qt}
theorem pk_cut (hB : Bd P) (hL : Loc P) (hC : Cut P) : ∀ es, Cut (pk P es)
  | [] => ret_cut []
  | e :: es => seq_cut hB (fun q => seq_bd (er_bd _) fun _ => map_bd (q :: ·) (pk_bd hB es)) hL hC fun q => seq_cut (er_bd _) (fun _ => map_bd (q :: ·) (pk_bd hB es)) (er_loc (pf_one e)) (er_cut (pf_one e)) fun _ => map_cut (q :: ·) (pk_cut hB hL hC es)
theorem kids_cut (hB : Bd P) (hL : Loc P) (hC : Cut P) (o ro : Nat) : Cut (kidsR P o ro) := map_cut _ (pk_cut hB hL hC _)
theorem op_cut (hB : Bd P) (hL : Loc P) (hC : Cut P) : Cut (opR P) :=
  seq_cut (er_bd _) (fun o => by split; exact seq_bd (er_bd _) fun ro => kids_bd hB _ _; exact kids_bd hB _ _) (er_loc pf_ops) (er_cut pf_ops) fun o => by
    split
    · exact seq_cut (er_bd _) (fun ro => kids_bd hB _ _) (er_loc pf_roles) (er_cut pf_roles) fun ro => kids_cut hB hL hC _ _
    · exact kids_cut hB hL hC _ _
theorem top_bd (p : Bool) (hB : Bd P) (i : Nat) : Bd (topR p P i) := by
  unfold topR
  split
  · exact map_bd _ (pw_bd p)
  · exact op_bd hB
theorem top_loc (p : Bool) (hL : Loc P) (i : Nat) : Loc (topR p P i) := by
  unfold topR
  split
  · exact map_loc _ (pw_loc p)
  · exact op_loc hL
theorem top_cut (p : Bool) (hB : Bd P) (hL : Loc P) (hC : Cut P) (i : Nat) : Cut (topR p P i) := by
  unfold topR
  split
  · exact map_cut _ (pw_cut p)
  · exact op_cut hB hL hC
end
theorem pq_bd (p : Bool) : ∀ f, Bd (pq p f)
  | 0 => fun _ => Nat.zero_le _
  | f + 1 => seq_bd (er_bd _) (top_bd p (pq_bd p f))
theorem pq_loc (p : Bool) : ∀ f, Loc (pq p f)
  | 0 => fun _ _ _ => rfl
  | f + 1 => seq_loc (er_loc pf_tops) (top_loc p (pq_loc p f))
theorem pq_cut (p : Bool) : ∀ f, Cut (pq p f)
  | 0 => fun r m h => by have hz : m ≤ 0 := h; obtain rfl : m = 0 := (by omega); rfl
  | f + 1 => seq_cut (er_bd _) (top_bd p (pq_bd p f)) (er_loc pf_tops) (er_cut pf_tops) (top_cut p (pq_bd p f) (pq_loc p f) (pq_cut p f))
theorem top_leaf {p : Bool} {P : Bs → Rd Qt} {i : Nat} {r : Bs} {q : Qt} {n : Nat} (hi : i < 5) (h : topR p P i r = .ok q n) : q.op = 0 := by
  rw [topR, if_pos hi] at h
  cases e : pw p r with
  | bad k => rw [e] at h; cases h
  | ok l k => rw [e] at h; cases h; rfl
theorem er_tops_le {r : Bs} {i n : Nat} (h : ER tops r = .ok i n) : i < 6 ∧ 1 ≤ n := by
  rw [ER] at h
  cases e : ex tops r with
  | miss k => rw [e] at h; cases h
  | hit j k =>
    rw [e] at h
    cases h
    obtain ⟨w, h1, h2, _⟩ := ex_hit e
    obtain ⟨hi, h3⟩ := List.getElem?_eq_some_iff.1 h1
    have hi' : i < 6 := hi
    refine ⟨hi', ?_⟩
    rw [← h2, ← h3]
    exact (show ∀ i, (h : i < tops.length) → 1 ≤ tops[i].length by decide) i hi
/-- The beginning of the text of a query with kids. -/
theorem pq_stop {p : Bool} {f : Nat} {r : Bs} {q : Qt} {n m : Nat} (h : pq p f r = .ok q n) (ho : q.op ≠ 0) (hm : m < n) : pq p f (r.take m) = .bad m := by
  match f, h with
  | f + 1, h =>
    have hp : (pq p (f + 1) r).pos = n := by rw [h]; rfl
    rw [pq] at h hp ⊢
    cases e : ER tops r with
    | bad k => rw [seq, e] at h; cases h
    | ok i k =>
      have hi := er_tops_le e
      by_cases hmk : m ≤ k
      · by_cases hmk' : m = k
        · subst hmk'
          have h5 : ¬ i < 5 := fun h5 => by
            rw [seq, e] at h
            simp only at h
            cases e2 : topR p (pq p f) i (r.drop m) with
            | bad j => rw [e2] at h; cases h
            | ok a j =>
              rw [e2] at h
              cases h
              exact ho (top_leaf h5 e2)
          rw [seq, er_exact pf_tops r i m e]
          simp only
          rw [show (r.take m).drop m = [] by rw [List.drop_eq_nil_iff, List.length_take]; omega, topR, if_neg h5, opR, seq, show ER opsL [] = .bad 0 from rfl]
          rfl
        · rw [seq, er_stop pf_tops r m (by rw [e]; exact hmk) (.inl (by rw [e, Rd.pos]; omega))]
      · have h5 : ¬ i < 5 := fun h5 => by
          rw [seq, e] at h
          simp only at h
          cases e2 : topR p (pq p f) i (r.drop k) with
          | bad j => rw [e2] at h; cases h
          | ok a j =>
            rw [e2] at h
            cases h
            exact ho (top_leaf h5 e2)
        rw [seq_far (er_loc pf_tops) (seq_bd (er_bd _) (top_bd p (pq_bd p f))) e (by omega) (by omega), topR, if_neg h5, op_stop (pq_bd p f) (pq_loc p f) (pq_cut p f)]
        · show Rd.bad (k + (m - k)) = _
          congr 1
          omega
        · rw [seq, e] at hp
          simp only [sh_pos] at hp
          rw [topR, if_neg h5] at hp
          omega
        · left
          rw [seq, e] at hp
          simp only [sh_pos] at hp
          rw [topR, if_neg h5] at hp
          omega

/-! The program's way and the reference's agree, but for the value at a byte that cannot stand in a word. -/
section
variable {α β : Type}
/-- Two readers agree, or stand at a byte that is neither a blank nor a closing parenthesis. -/
def Ag (R S : Bs → Rd α) : Prop := ∀ r, S r = R r ∨ ∃ n c, R r = .bad n ∧ r[n]? = some c ∧ c ≠ 32 ∧ c ≠ 41 ∧ (S r = .bad n ∨ ∃ q, S r = .ok q n)
theorem ag_refl (R : Bs → Rd α) : Ag R R := fun _ => .inl rfl
theorem ag_map (f : α → β) {R S : Bs → Rd α} (h : Ag R S) : Ag (fun r => (R r).map f) fun r => (S r).map f := fun r => by
  rcases h r with h | ⟨n, c, h1, h2, h3, h4, h5⟩
  · left
    simp only [h]
  · refine .inr ⟨n, c, by simp only [h1]; rfl, h2, h3, h4, ?_⟩
    rcases h5 with h5 | ⟨q, h5⟩
    · exact .inl (by simp only [h5]; rfl)
    · exact .inr ⟨f q, by simp only [h5]; rfl⟩
theorem ag_seq0 {R : Bs → Rd α} {K L : α → Bs → Rd β} (h : ∀ a, Ag (K a) (L a)) : Ag (seq R K) (seq R L) := fun r => by
  unfold seq
  cases e : R r with
  | bad n => exact .inl rfl
  | ok a n =>
    simp only
    rcases h a (r.drop n) with h | ⟨m, c, h1, h2, h3, h4, h5⟩
    · left
      rw [h]
    · refine .inr ⟨n + m, c, by rw [h1]; rfl, by rw [← h2, List.getElem?_drop], h3, h4, ?_⟩
      rcases h5 with h5 | ⟨q, h5⟩
      · exact .inl (by rw [h5]; rfl)
      · exact .inr ⟨q, by rw [h5]; rfl⟩
theorem ag_seq {R S : Bs → Rd α} {K L : α → Bs → Rd β} (hR : Ag R S) (h : ∀ a, Ag (K a) (L a)) (h0 : ∀ a c r, c ≠ 32 → c ≠ 41 → L a (c :: r) = .bad 0) : Ag (seq R K) (seq S L) := fun r => by
  rcases hR r with e | ⟨n, c, h1, h2, h3, h4, h5⟩
  · have := ag_seq0 (R := R) h r
    have e1 : seq S L r = seq R L r := by rw [seq, seq, e]
    rw [e1]
    exact this
  · refine .inr ⟨n, c, by rw [seq, h1], h2, h3, h4, .inl ?_⟩
    rcases h5 with h5 | ⟨q, h5⟩
    · rw [seq, h5]
    · rw [seq, h5]
      simp only
      obtain ⟨hn, hc⟩ := List.getElem?_eq_some_iff.1 h2
      rw [List.drop_eq_getElem_cons hn, hc, h0 q c _ h3 h4]
      rfl
end
theorem wl_ag : Ag (wl false) (wl true) := fun r => by
  induction wk false r.length r (Nat.le_refl _) with
  | nil => exact .inl rfl
  | stop c r h => left; rw [wl_end _ r h, wl_end _ r h]
  | escbad r n h1 h2 h3 _ => left; rw [wl_escbad _ h3, wl_escbad _ h3]
  | esc a b v q h _ _ ih =>
    rw [wl_esc _ h, wl_esc _ h]
    rcases ih with h | ⟨n, c, h1, h2, h3, h4, h5⟩
    · left; rw [h]
    · refine .inr ⟨3 + n, c, by rw [h1]; rfl, by rw [show 3 + n = n + 1 + 1 + 1 by omega]; exact h2, h3, h4, ?_⟩
      rcases h5 with h5 | ⟨q, h5⟩
      · exact .inl (by rw [h5]; rfl)
      · exact .inr ⟨v :: q, by rw [h5]; rfl⟩
  | odd c r h0 h1 h2 =>
    refine .inr ⟨0, c, by rw [wl_odd _ r h0 h1 h2]; rfl, rfl, fun h => h0 (.inl h), fun h => h0 (.inr h), .inr ⟨[], by rw [wl_odd _ r h0 h1 h2]; rfl⟩⟩
  | plain c r h _ ih =>
    rw [wl_plain _ r h, wl_plain _ r h]
    rcases ih with h | ⟨n, c', h1, h2, h3, h4, h5⟩
    · left; rw [h]
    · refine .inr ⟨1 + n, c', by rw [h1]; rfl, by rw [show 1 + n = n + 1 by omega]; exact h2, h3, h4, ?_⟩
      rcases h5 with h5 | ⟨q, h5⟩
      · exact .inl (by rw [h5]; rfl)
      · exact .inr ⟨c :: q, by rw [h5]; rfl⟩
theorem pw_ag : Ag (pw false) (pw true) := fun r => by
  unfold pw
  by_cases h : r.take 2 = [37, 45]
  · left; rw [if_pos h, if_pos h]
  · rw [if_neg h, if_neg h]
    rcases wl_ag r with h | ⟨n, c, h1, h2, h3, h4, h5⟩
    · left; rw [h]
    · refine .inr ⟨n, c, by rw [h1], h2, h3, h4, ?_⟩
      rcases h5 with h5 | ⟨q, h5⟩
      · exact .inl (by rw [h5])
      · rw [h5]
        simp only
        by_cases h0 : n = 0
        · left; rw [if_pos h0, h0]
        · right; exact ⟨q, by rw [if_neg h0]⟩
theorem er_end {e c : UInt8} (r : Bs) (h : e ≠ c) : ER [[e]] (c :: r) = .bad 0 := by
  have h0 : lcp [e] (c :: r) = 0 := by rw [lcp, if_neg h]
  rw [ER, miss_ex (l := [[e]]) (n := 0)]
  refine ⟨fun w hw hp => ?_, fun w hw => ?_, .inl rfl⟩
  · simp at hw
    subst hw
    have := lcp_pre.2 hp
    rw [h0] at this
    simp at this
  · simp at hw
    subst hw
    omega
theorem pk_ag {P Q : Bs → Rd Qt} (h : Ag P Q) : ∀ es : List Bs, (∀ e ∈ es, e = [32] ∨ e = [41]) → Ag (pk P es) (pk Q es)
  | [], _ => ag_refl _
  | e :: es, he => by
    refine ag_seq h (fun q => ag_seq0 fun _ => ag_map (q :: ·) (pk_ag h es fun x hx => he x (List.mem_cons_of_mem _ hx))) fun q c r h1 h2 => ?_
    rcases he e (List.mem_cons_self ..) with rfl | rfl
    · rw [seq, er_end r (Ne.symm h1)]
    · rw [seq, er_end r (Ne.symm h2)]
theorem enders_is (o : Nat) : ∀ e ∈ enders o, e = [32] ∨ e = [41] := by
  intro e he
  unfold enders at he
  split at he <;> simp at he
  · exact .inr he
  · exact he
theorem op_ag {P Q : Bs → Rd Qt} (h : Ag P Q) : Ag (opR P) (opR Q) := ag_seq0 fun o => by
  have hk : ∀ o ro, Ag (kidsR P o ro) (kidsR Q o ro) := fun o ro => ag_map _ (pk_ag h _ (enders_is o))
  split
  · exact ag_seq0 fun ro => hk _ _
  · exact hk _ _
theorem pq_ag : ∀ f, Ag (pq false f) (pq true f)
  | 0 => ag_refl _
  | f + 1 => ag_seq0 fun i => by
    unfold topR
    split
    · exact ag_map _ pw_ag
    · exact op_ag (pq_ag f)
/-- What Parse makes of it: the query, or the index of the error. -/
def whole (x : Rd Qt) (len : Nat) : Qt ⊕ Nat :=
  match x with
  | .ok q n => if n < len then .inr n else .inl q
  | .bad n => .inr n
theorem whole_ag (f : Nat) (r : Bs) : whole (pq true f r) r.length = whole (pq false f r) r.length := by
  rcases pq_ag f r with h | ⟨n, c, h1, h2, _, _, h5⟩
  · rw [h]
  · have hn := (List.getElem?_eq_some_iff.1 h2).1
    rw [h1]
    rcases h5 with h5 | ⟨q, h5⟩
    · rw [h5]
    · rw [h5, whole, if_pos hn, whole]
end Go.Proofs.YtgbjldkbbbjnkaaDoor.Pl
