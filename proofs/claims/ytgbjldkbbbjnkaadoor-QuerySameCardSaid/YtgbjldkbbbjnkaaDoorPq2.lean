/-
  Words of patterns and queries, read from bytes: what the reference and the program answer, and which bytes matter; plain mathematics.
-/
import Derived.Test.YtgbjldkbbbjnkaaDoorPq
namespace Go.Proofs.YtgbjldkbbbjnkaaDoor.Pl

/-- A byte that is written with a percent sign. -/
def quoted (c : UInt8) : Bool := decide (c.toNat ≤ 32) || decide (c.toNat = 127) || decide (c.toNat = 37) || decide (c.toNat = 40) || decide (c.toNat = 41)
/-- The value of a hexadecimal digit. -/
def hexv (c : UInt8) : Option Nat := if 48 ≤ c.toNat ∧ c.toNat ≤ 57 then some (c.toNat - 48) else if 97 ≤ c.toNat ∧ c.toNat ≤ 102 then some (c.toNat - 87) else none
/-- The value of a first digit. -/
def hiv (c : UInt8) : Option Nat := if c.toNat = 48 then some 0 else if c.toNat = 49 then some 1 else if c.toNat = 50 then some 2 else if c.toNat = 55 then some 7 else none
/-- What follows a percent sign. -/
def esc : Bs → Rd UInt8
  | [] => .bad 0
  | a :: r =>
    match hiv a with
    | none => .bad 0
    | some x =>
      match r with
      | [] => .bad 1
      | b :: _ =>
        match hexv b with
        | none => .bad 1
        | some y => if quoted (UInt8.ofNat (16 * x + y)) = true then .ok (UInt8.ofNat (16 * x + y)) 2 else .bad 1
/-- The word of a pattern that is not empty; p: the program's way, which leaves a byte that cannot stand there to what follows. -/
def wl (p : Bool) : Bs → Rd Bs
  | [] => .ok [] 0
  | c :: r =>
    if c = 32 ∨ c = 41 then .ok [] 0
    else if c = 37 then
      match esc r with
      | .bad n => .bad (1 + n)
      | .ok v _ =>
        match r with
        | _ :: _ :: q => ((wl p q).map (v :: ·)).sh 3
        | _ => .bad 1
    else if quoted c = true then (if p = true then .ok [] 0 else .bad 0)
    else ((wl p r).map (c :: ·)).sh 1
def pw (p : Bool) (r : Bs) : Rd Bs :=
  if r.take 2 = [37, 45] then .ok [] 2
  else
    match wl p r with
    | .ok l n => if n = 0 then .bad 0 else .ok l n
    | .bad n => .bad n
theorem esc_cases (r : Bs) : (∃ n, n ≤ 1 ∧ n ≤ r.length ∧ esc r = .bad n ∧ ∀ m, m ≤ n → esc (r.take m) = .bad m) ∨ (∃ a b q v, r = a :: b :: q ∧ esc r = .ok v 2 ∧ esc [] = .bad 0 ∧ esc [a] = .bad 1) := by
  match r with
  | [] => exact .inl ⟨0, by omega, by simp, rfl, fun m hm => by obtain rfl : m = 0 := (by omega); rfl⟩
  | a :: r =>
    cases ha : hiv a with
    | none =>
      refine .inl ⟨0, by omega, by simp, by rw [esc, ha], fun m hm => ?_⟩
      obtain rfl : m = 0 := by omega
      rfl
    | some x =>
      have e1 : esc [a] = .bad 1 := by rw [esc, ha]
      match r with
      | [] =>
        refine .inl ⟨1, by omega, by simp, e1, fun m hm => ?_⟩
        rcases (show m = 0 ∨ m = 1 by omega) with rfl | rfl
        · rfl
        · exact e1
      | b :: q =>
        have hbad : ∀ m, m ≤ 1 → esc ((a :: b :: q).take m) = .bad m := fun m hm => by
          rcases (show m = 0 ∨ m = 1 by omega) with rfl | rfl
          · rfl
          · exact e1
        cases hb : hexv b with
        | none => exact .inl ⟨1, by omega, by simp, by rw [esc, ha]; simp only [hb], hbad⟩
        | some y =>
          cases hq : quoted (UInt8.ofNat (16 * x + y))
          · exact .inl ⟨1, by omega, by simp, by rw [esc, ha]; simp only [hb, hq]; rfl, hbad⟩
          · exact .inr ⟨a, b, q, UInt8.ofNat (16 * x + y), rfl, by rw [esc, ha]; simp only [hb, hq, if_true], rfl, e1⟩
/-- The two bytes decide. -/
theorem esc_loc (a b : UInt8) (q t : Bs) : esc (a :: b :: q) = esc (a :: b :: t) := by rw [esc, esc]
theorem esc_loc1 {a : UInt8} {r t : Bs} (h : esc (a :: r) = .bad 0) : esc (a :: t) = .bad 0 := by
  rw [esc] at h ⊢
  cases ha : hiv a with
  | none => rfl
  | some x =>
    rw [ha] at h
    match r with
    | [] => cases h
    | b :: q =>
      simp only at h
      cases hb : hexv b with
      | none => rw [hb] at h; cases h
      | some y =>
        rw [hb] at h
        simp only at h
        split at h <;> cases h
theorem wl_nil (p : Bool) : wl p [] = .ok [] 0 := rfl
theorem wl_end (p : Bool) {c : UInt8} (r : Bs) (h : c = 32 ∨ c = 41) : wl p (c :: r) = .ok [] 0 := by
  rw [wl.eq_def]
  simp only [if_pos h]
theorem wl_esc (p : Bool) {a b v : UInt8} {q : Bs} (h : esc (a :: b :: q) = .ok v 2) : wl p (37 :: a :: b :: q) = ((wl p q).map (v :: ·)).sh 3 := by
  rw [wl.eq_def]
  simp only [h]
  rfl
theorem wl_escbad (p : Bool) {r : Bs} {n : Nat} (h : esc r = .bad n) : wl p (37 :: r) = .bad (1 + n) := by
  rw [wl.eq_def]
  simp only [h]
  rfl
theorem wl_odd (p : Bool) {c : UInt8} (r : Bs) (h0 : ¬ (c = 32 ∨ c = 41)) (h1 : c ≠ 37) (h2 : quoted c = true) : wl p (c :: r) = if p = true then .ok [] 0 else .bad 0 := by
  rw [wl.eq_def]
  simp only [if_neg h0, if_neg h1, if_pos h2]
theorem wl_plain (p : Bool) {c : UInt8} (r : Bs) (h2 : quoted c = false) : wl p (c :: r) = ((wl p r).map (c :: ·)).sh 1 := by
  have h0 : ¬ (c = 32 ∨ c = 41) := fun h => by rcases h with rfl | rfl <;> exact absurd h2 (by decide)
  have h1 : c ≠ 37 := fun h => by subst h; exact absurd h2 (by decide)
  rw [wl.eq_def]
  simp only [if_neg h0, if_neg h1, h2]
  rfl
/-- How a word begins. -/
inductive Wk (p : Bool) : Bs → Prop
  | nil : Wk p []
  | stop (c : UInt8) (r : Bs) : (c = 32 ∨ c = 41) → Wk p (c :: r)
  | escbad (r : Bs) (n : Nat) : n ≤ 1 → n ≤ r.length → esc r = .bad n → (∀ m, m ≤ n → esc (r.take m) = .bad m) → Wk p (37 :: r)
  | esc (a b v : UInt8) (q : Bs) : esc (a :: b :: q) = .ok v 2 → esc [a] = .bad 1 → Wk p q → Wk p (37 :: a :: b :: q)
  | odd (c : UInt8) (r : Bs) : ¬ (c = 32 ∨ c = 41) → c ≠ 37 → quoted c = true → Wk p (c :: r)
  | plain (c : UInt8) (r : Bs) : quoted c = false → Wk p r → Wk p (c :: r)
theorem wk (p : Bool) : ∀ (n : Nat) (r : Bs), r.length ≤ n → Wk p r
  | _, [], _ => .nil
  | 0, c :: r, h => by simp at h
  | n + 1, c :: r, h => by
    simp only [List.length_cons] at h
    by_cases h0 : c = 32 ∨ c = 41
    · exact .stop c r h0
    · by_cases h1 : c = 37
      · subst h1
        rcases esc_cases r with ⟨k, h2, h3, h4, h5⟩ | ⟨a, b, q, v, rfl, h2, _, h3⟩
        · exact .escbad r k h2 h3 h4 h5
        · simp only [List.length_cons] at h
          exact .esc a b v q h2 h3 (wk p n q (by omega))
      · cases h2 : quoted c
        · exact .plain c r h2 (wk p n r (by omega))
        · exact .odd c r h0 h1 h2
theorem wl_bd (p : Bool) : Bd (wl p) := fun r => by
  induction wk p r.length r (Nat.le_refl _) with
  | nil => rw [wl_nil]; exact Nat.zero_le _
  | stop c r h => rw [wl_end p r h]; exact Nat.zero_le _
  | escbad r n h1 h2 h3 _ => rw [wl_escbad p h3, Rd.pos, List.length_cons]; omega
  | esc a b v q h _ _ ih => rw [wl_esc p h, sh_pos, map_pos]; simp only [List.length_cons]; omega
  | odd c r h0 h1 h2 => rw [wl_odd p r h0 h1 h2]; cases p <;> exact Nat.zero_le _
  | plain c r h _ ih => rw [wl_plain p r h, sh_pos, map_pos, List.length_cons]; omega
theorem wl_loc (p : Bool) : Loc (wl p) := fun r t => by
  induction wk p r.length r (Nat.le_refl _) with
  | nil => intro h; rw [wl_nil] at h; exact absurd h (by simp [Rd.pos])
  | stop c r h =>
    intro _
    rw [wl_end p r h, Rd.pos]
    exact wl_end p _ h
  | escbad r n h1 h2 h3 h4 =>
    intro h
    rw [wl_escbad p h3, Rd.pos, List.length_cons] at h
    rw [wl_escbad p h3, Rd.pos, show 1 + n + 1 = (n + 1) + 1 by omega, List.take_succ_cons, List.cons_append]
    refine wl_escbad p ?_
    rcases (show n = 0 ∨ n = 1 by omega) with rfl | rfl
    · match r, h with
      | a :: r, _ =>
        rw [List.take_succ_cons, List.take_zero, List.cons_append]
        exact esc_loc1 h3
    · match r, h with
      | [], h => simp at h
      | [_], h => simp at h
      | a :: b :: q, _ =>
        rw [List.take_succ_cons, List.take_succ_cons, List.take_zero, List.cons_append, List.cons_append, esc_loc a b _ q]
        exact h3
  | esc a b v q h _ _ ih =>
    intro hl
    rw [wl_esc p h, sh_pos, map_pos] at hl
    simp only [List.length_cons] at hl
    rw [wl_esc p h, sh_pos, map_pos, show 3 + (wl p q).pos + 1 = ((wl p q).pos + 1) + 1 + 1 + 1 by omega, List.take_succ_cons, List.take_succ_cons, List.take_succ_cons, List.cons_append, List.cons_append, List.cons_append,
      wl_esc p (v := v) (by rw [esc_loc a b _ q]; exact h), ih (by omega)]
  | odd c r h0 h1 h2 =>
    intro _
    rw [wl_odd p r h0 h1 h2]
    have e : (if p = true then Rd.ok ([] : Bs) 0 else .bad 0).pos = 0 := by cases p <;> rfl
    rw [e]
    exact wl_odd p _ h0 h1 h2
  | plain c r h _ ih =>
    intro hl
    rw [wl_plain p r h, sh_pos, map_pos] at hl
    simp only [List.length_cons] at hl
    rw [wl_plain p r h, sh_pos, map_pos, show 1 + (wl p r).pos + 1 = ((wl p r).pos + 1) + 1 by omega, List.take_succ_cons, List.cons_append, wl_plain p _ h, ih (by omega)]
theorem wl_cut (p : Bool) : Cut (wl p) := fun r => by
  induction wk p r.length r (Nat.le_refl _) with
  | nil => intro m h; rw [wl_nil] at h; have hz : m ≤ 0 := h; obtain rfl : m = 0 := (by omega); rfl
  | stop c r h => intro m hm; rw [wl_end p r h] at hm; have hz : m ≤ 0 := hm; obtain rfl : m = 0 := (by omega); rfl
  | escbad r n h1 h2 h3 h4 =>
    intro m hm
    rw [wl_escbad p h3, Rd.pos] at hm
    match m, hm with
    | 0, _ => rfl
    | m + 1, hm => rw [List.take_succ_cons, wl_escbad p (h4 m (by omega)), Rd.pos]; omega
  | esc a b v q h h' _ ih =>
    intro m hm
    rw [wl_esc p h, sh_pos, map_pos] at hm
    match m, hm with
    | 0, _ => rfl
    | 1, _ => rw [List.take_succ_cons, List.take_zero, wl_escbad p (n := 0) rfl, Rd.pos]
    | 2, _ => rw [List.take_succ_cons, List.take_succ_cons, List.take_zero, wl_escbad p h', Rd.pos]
    | m + 3, hm =>
      rw [List.take_succ_cons, List.take_succ_cons, List.take_succ_cons, wl_esc p (v := v) (by rw [esc_loc a b _ q]; exact h), sh_pos, map_pos, ih m (by omega)]
      omega
  | odd c r h0 h1 h2 =>
    intro m hm
    rw [wl_odd p r h0 h1 h2] at hm
    have e : (if p = true then Rd.ok ([] : Bs) 0 else .bad 0).pos = 0 := by cases p <;> rfl
    rw [e] at hm
    obtain rfl : m = 0 := by omega
    rfl
  | plain c r h _ ih =>
    intro m hm
    rw [wl_plain p r h, sh_pos, map_pos] at hm
    match m, hm with
    | 0, _ => rfl
    | m + 1, hm =>
      rw [List.take_succ_cons, wl_plain p _ h, sh_pos, map_pos, ih m (by omega)]
      omega
theorem pw_pos {p : Bool} {r : Bs} (h : ¬ r.take 2 = [37, 45]) : (pw p r).pos = (wl p r).pos := by
  rw [pw, if_neg h]
  cases e : wl p r with
  | bad n => rfl
  | ok l n =>
    simp only
    split
    · rename_i h0
      rw [h0]
      rfl
    · rfl
theorem pw_of {p : Bool} {r r' : Bs} (h : ¬ r.take 2 = [37, 45]) (h' : ¬ r'.take 2 = [37, 45]) (e : wl p r = wl p r') : pw p r = pw p r' := by rw [pw, pw, if_neg h, if_neg h', e]
theorem pw_bd (p : Bool) : Bd (pw p) := fun r => by
  by_cases h : r.take 2 = [37, 45]
  · rw [pw, if_pos h, Rd.pos]
    have := congrArg List.length h
    rw [List.length_take] at this
    simp at this
    omega
  · rw [pw_pos h]
    exact wl_bd p r
theorem take_take_append {r t : Bs} {k m : Nat} (h : k ≤ m) (h' : k ≤ r.length) : (r.take m ++ t).take k = r.take k := by
  rw [List.take_append_of_le_length (by rw [List.length_take]; omega), List.take_take, Nat.min_eq_left h]
theorem pw_loc (p : Bool) : Loc (pw p) := fun r t hl => by
  by_cases h : r.take 2 = [37, 45]
  · have e : pw p r = .ok [] 2 := by rw [pw, if_pos h]
    rw [e, Rd.pos] at hl ⊢
    rw [pw, if_pos]
    rw [take_take_append (by omega) (by omega), h]
  · rw [pw_pos h] at hl ⊢
    refine pw_of ?_ h (wl_loc p r t hl)
    intro h2
    apply h
    match r, hl, h, h2 with
    | c :: r, hl, h, h2 =>
      rw [List.take_succ_cons, List.cons_append, List.take_succ_cons] at h2
      injection h2 with h3 h4
      subst h3
      rw [List.take_succ_cons]
      congr 1
      rcases wk p (37 :: r).length _ (Nat.le_refl _) with _ | ⟨_, _, h5⟩ | ⟨_, n, h5, h6, h7, h8⟩ | ⟨a, b, v, q, h5, _⟩ | ⟨_, _, h5, h6⟩ | ⟨_, _, h5⟩
      · rcases h5 with h5 | h5 <;> exact absurd h5 (by decide)
      · rw [wl_escbad p h7, Rd.pos] at h4 hl
        rw [show 1 + n = n + 1 by omega] at h4
        rw [← h4]
        simp only [List.length_cons] at hl
        rw [take_take_append (by omega) (by omega)]
      · rw [wl_esc p h5, sh_pos, map_pos] at h4
        rw [← h4]
        rw [take_take_append (by omega) (by simp)]
      · exact absurd rfl h6
      · exact absurd h5 (by decide)
theorem pw_cut (p : Bool) : Cut (pw p) := fun r m hm => by
  by_cases h : r.take 2 = [37, 45]
  · have e : pw p r = .ok [] 2 := by rw [pw, if_pos h]
    rw [e, Rd.pos] at hm
    rcases (show m = 0 ∨ m = 1 ∨ m = 2 by omega) with rfl | rfl | rfl
    · rfl
    · have e1 : r.take 1 = [37] := by
        have := congrArg (List.take 1) h
        rwa [List.take_take] at this
      rw [e1]
      rfl
    · rw [h]
      rfl
  · rw [pw_pos h] at hm
    have h2 : ¬ (r.take m).take 2 = [37, 45] := by
      rw [List.take_take]
      rcases (show m = 0 ∨ m = 1 ∨ 2 ≤ m by omega) with rfl | rfl | h3
      · simp
      · match r with
        | [] => simp
        | c :: r => simp
      · rw [Nat.min_eq_left h3]
        exact h
    rw [pw_pos h2]
    exact wl_cut p r m hm
end Go.Proofs.YtgbjldkbbbjnkaaDoor.Pl
