/-
  Lines of words and lines of texts in plain Lean: the pieces of a string at a byte, Join, Split, Lines and Text, and that they are inverse.
-/
import Derived.Test.YtkkacgabikbedaaDoorPlain
import Derived.Lib.Split
import Derived.Lib.SplitLaws
import Derived.Lib.Join
namespace Go.Proofs.YtkkacgabikbedaaDoor.Wd
open Go

/-- The pieces of a string between the bytes c. -/
def pieces (c : UInt8) : List UInt8 → List (List UInt8)
  | [] => [[]]
  | x :: r => if x = c then [] :: pieces c r else (match pieces c r with | [] => [[x]] | p :: q => (x :: p) :: q)
theorem pieces_some (c : UInt8) (l : List UInt8) : ∃ p q, pieces c l = p :: q := by
  cases l with
  | nil => exact ⟨_, _, rfl⟩
  | cons x r =>
    rw [pieces]
    split
    · exact ⟨_, _, rfl⟩
    · split
      · exact ⟨_, _, rfl⟩
      · exact ⟨_, _, rfl⟩
theorem pieces_hit (c : UInt8) (r : List UInt8) : pieces c (c :: r) = [] :: pieces c r := by simp [pieces]
theorem pieces_miss {c x : UInt8} (h : x ≠ c) {r p : List UInt8} {q : List (List UInt8)} (hr : pieces c r = p :: q) : pieces c (x :: r) = (x :: p) :: q := by
  rw [pieces, if_neg h, hr]
/-- A piece, and what comes behind it. -/
theorem pieces_cut {c : UInt8} : ∀ (p r : List UInt8), (∀ x ∈ p, x ≠ c) → pieces c (p ++ c :: r) = p :: pieces c r
  | [], r, _ => pieces_hit c r
  | x :: p, r, h => by
    have ih := pieces_cut p r (fun y hy => h y (List.mem_cons_of_mem _ hy))
    exact pieces_miss (h x (List.mem_cons_self ..)) ih
theorem pieces_last {c : UInt8} : ∀ (p : List UInt8), (∀ x ∈ p, x ≠ c) → pieces c p = [p]
  | [], _ => rfl
  | x :: p, h => pieces_miss (h x (List.mem_cons_self ..)) (pieces_last p (fun y hy => h y (List.mem_cons_of_mem _ hy)))
theorem pieces_clean {c : UInt8} : ∀ (l p : List UInt8), p ∈ pieces c l → ∀ x ∈ p, x ≠ c
  | [], p, hp, x, hx => by simp [pieces] at hp; subst hp; simp at hx
  | y :: l, p, hp, x, hx => by
    by_cases e : y = c
    · subst e
      rw [pieces_hit] at hp
      rcases List.mem_cons.1 hp with rfl | hp
      · simp at hx
      · exact pieces_clean l p hp x hx
    · obtain ⟨a, b, hab⟩ := pieces_some c l
      rw [pieces_miss e hab] at hp
      have ih := pieces_clean (c := c) l
      rw [hab] at ih
      rcases List.mem_cons.1 hp with rfl | hp
      · rcases List.mem_cons.1 hx with rfl | hx
        · exact e
        · exact ih a (List.mem_cons_self ..) x hx
      · exact ih p (List.mem_cons_of_mem _ hp) x hx
/-- What the pieces give with the byte between them. -/
def glue (c : UInt8) : List (List UInt8) → List UInt8
  | [] => []
  | [p] => p
  | p :: q :: r => p ++ c :: glue c (q :: r)
theorem glue_cons (c : UInt8) (p : List UInt8) {q : List (List UInt8)} (h : q ≠ []) : glue c (p :: q) = p ++ c :: glue c q := by
  cases q with
  | nil => exact absurd rfl h
  | cons a b => rfl
theorem glue_pieces (c : UInt8) : ∀ l : List UInt8, glue c (pieces c l) = l
  | [] => rfl
  | x :: l => by
    obtain ⟨p, q, h⟩ := pieces_some c l
    have ih := glue_pieces c l
    by_cases e : x = c
    · subst e
      rw [pieces_hit, glue_cons _ _ (by rw [h]; simp), ih]; rfl
    · rw [pieces_miss e h]
      rw [h] at ih
      cases q with
      | nil => simpa [glue] using ih
      | cons a b =>
        rw [glue_cons _ _ (by simp)] at ih ⊢
        rw [← ih]; rfl
theorem pieces_glue {c : UInt8} : ∀ (q : List (List UInt8)), q ≠ [] → (∀ p ∈ q, ∀ x ∈ p, x ≠ c) → pieces c (glue c q) = q
  | [], h, _ => absurd rfl h
  | [p], _, h => pieces_last p (h p (List.mem_cons_self ..))
  | p :: a :: b, _, h => by
    rw [glue_cons _ _ (by simp), pieces_cut p _ (h p (List.mem_cons_self ..)), pieces_glue (a :: b) (by simp) (fun x hx => h x (List.mem_cons_of_mem _ hx))]
theorem glue_join (c : UInt8) : ∀ q : List (List UInt8), Lib.join q [c] = glue c q
  | [] => rfl
  | [p] => by rw [Lib.join_one]; rfl
  | p :: a :: b => by
    rw [glue_cons _ _ (by simp), ← glue_join c (a :: b), Lib.join_cons, Lib.join_cons]
    simp [Lib.joinTail]
theorem glue_len (c : UInt8) : ∀ q : List (List UInt8), (glue c q).length ≤ (q.map (fun p => p.length + 1)).sum
  | [] => by simp [glue]
  | [p] => by simp [glue]
  | p :: a :: b => by
    have := glue_len c (a :: b)
    rw [glue_cons _ _ (by simp)]
    simp only [List.map_cons, List.sum_cons, List.length_append, List.length_cons] at *
    omega

/-! The library's Split at one byte. -/
theorem index_nil (c : UInt8) : Lib.index [] [c] = -1 := by simp [Lib.index]
theorem index_hit (c : UInt8) (r : List UInt8) : Lib.index (c :: r) [c] = 0 := by simp [Lib.index]
theorem index_miss {c x : UInt8} (h : x ≠ c) (r : List UInt8) : Lib.index (x :: r) [c] = if Lib.index r [c] == -1 then -1 else Lib.index r [c] + 1 := by
  rw [Lib.index]
  have : [c].isPrefixOf (x :: r) = false := by
    have h' : (c == x) = false := beq_eq_false_iff_ne.2 (fun e => h e.symm)
    show (c == x && _) = false
    rw [h']; rfl
  rw [this]; rfl
theorem split_pieces (c : UInt8) : ∀ s : List UInt8, Lib.splitK [c] 0 (Lib.count s [c]) s = pieces c s
  | [] => by
    have : Lib.count [] [c] = 0 := Lib.count_miss (index_nil c)
    rw [this]; rfl
  | x :: r => by
    have ih := split_pieces c r
    by_cases e : x = c
    · subst e
      have hc : Lib.count (x :: r) [x] = 1 + Lib.count r [x] := by
        have := Lib.count_hit (s := x :: r) (sub := [x]) (i := 0) (by simp) (index_hit x r)
        simpa using this
      rw [hc, Nat.add_comm, Lib.splitK, index_hit, pieces_hit]
      simp [ih]
    · by_cases hi : Lib.index r [c] = -1
      · have h1 : Lib.index (x :: r) [c] = -1 := by rw [index_miss e, hi]; rfl
        rw [Lib.count_miss h1]
        rw [Lib.count_miss hi] at ih
        have hp : pieces c r = [r] := by rw [← ih]; rfl
        rw [pieces_miss e hp]; rfl
      · have hge : -1 ≤ Lib.index r [c] := Lib.index_ge r [c]
        obtain ⟨i, hri⟩ : ∃ i : Nat, Lib.index r [c] = (i : Int) := ⟨(Lib.index r [c]).toNat, by omega⟩
        have h1 : Lib.index (x :: r) [c] = ((i + 1 : Nat) : Int) := by
          rw [index_miss e, hri]
          have : (((i : Nat) : Int) == -1) = false := by rw [beq_eq_false_iff_ne]; omega
          rw [this]; simp
        have c1 := Lib.count_hit (s := x :: r) (sub := [c]) (by simp) h1
        have c2 := Lib.count_hit (s := r) (sub := [c]) (by simp) hri
        simp only [List.length_singleton, List.drop_succ_cons] at c1 c2
        rw [c2, Nat.add_comm, Lib.splitK, hri] at ih
        have n1 : ((((i : Nat) : Int)) == -1) = false := by rw [beq_eq_false_iff_ne]; omega
        rw [n1] at ih
        simp only [Int.toNat_natCast, List.length_singleton] at ih
        rw [c1, Nat.add_comm, Lib.splitK, h1]
        have n2 : ((((i + 1 : Nat) : Int)) == -1) = false := by rw [beq_eq_false_iff_ne]; omega
        rw [n2]
        simp only [Int.toNat_natCast, List.length_singleton]
        rw [pieces_miss e ih.symm]
        simp

/-! Lists of words. -/
def unqs : List (List UInt8) → Option (List (List UInt8))
  | [] => some []
  | p :: r => match unquote p with | none => none | some x => (unqs r).map (x :: ·)
/-- The list of a line. -/
def splitL (l : List UInt8) : Option (List (List UInt8)) := if l.isEmpty = true then some [] else unqs (pieces 32 l)
/-- The line of a list. -/
def joinL (q : List (List UInt8)) : List UInt8 := glue 32 (q.map quote)
theorem unqs_fail {a : List (List UInt8)} {p : List UInt8} (r : List (List UInt8)) (h : unquote p = none) : unqs (a ++ p :: r) = none := by
  induction a with
  | nil => simp [unqs, h]
  | cons x a ih => rw [List.cons_append, unqs]; split <;> simp [ih]
theorem unqs_snoc {a o : List (List UInt8)} {p x : List UInt8} (ha : unqs a = some o) (h : unquote p = some x) : unqs (a ++ [p]) = some (o ++ [x]) := by
  induction a generalizing o with
  | nil => simp [unqs] at ha; subst ha; simp [unqs, h]
  | cons y a ih =>
    rw [unqs] at ha
    rw [List.cons_append, unqs]
    cases hy : unquote y with
    | none => rw [hy] at ha; cases ha
    | some z =>
      rw [hy] at ha
      simp only [Option.map_eq_some_iff] at ha
      obtain ⟨o', ho, rfl⟩ := ha
      simp [ih ho]
theorem unqs_quote : ∀ q : List (List UInt8), unqs (q.map quote) = some q
  | [] => rfl
  | p :: q => by rw [List.map_cons, unqs, unquote_quote, unqs_quote q]; rfl
theorem quote_unqs : ∀ {q o : List (List UInt8)}, unqs q = some o → o.map quote = q
  | [], o, h => by simp [unqs] at h; subst h; rfl
  | p :: q, o, h => by
    rw [unqs] at h
    cases hp : unquote p with
    | none => rw [hp] at h; cases h
    | some x =>
      rw [hp] at h
      simp only [Option.map_eq_some_iff] at h
      obtain ⟨o', ho, rfl⟩ := h
      rw [List.map_cons, quote_unqs ho, quote_unquote hp]
theorem joinL_some {q : List (List UInt8)} (h : q ≠ []) : joinL q ≠ [] := by
  unfold joinL
  cases q with
  | nil => exact absurd rfl h
  | cons p q =>
    cases q with
    | nil => exact quote_some p
    | cons a b =>
      rw [List.map_cons, glue_cons _ _ (by simp)]
      simp
/-- A list is split from its line. -/
theorem split_join (q : List (List UInt8)) : splitL (joinL q) = some q := by
  cases q with
  | nil => rfl
  | cons p r =>
    have h : joinL (p :: r) ≠ [] := joinL_some (by simp)
    unfold splitL
    rw [if_neg (by simpa using h)]
    unfold joinL
    rw [pieces_glue _ (by simp) (fun x hx y hy => by
      obtain ⟨z, _, rfl⟩ := List.mem_map.1 hx
      exact (quote_clean hy).1), unqs_quote]
/-- A line that is split is that of the list. -/
theorem join_split {l : List UInt8} {q : List (List UInt8)} (h : splitL l = some q) : joinL q = l := by
  unfold splitL at h
  split at h
  · rename_i he
    injection h with h
    subst h
    have : l = [] := by simpa using he
    rw [this]; rfl
  · unfold joinL
    rw [quote_unqs h, glue_pieces]

/-! Lines of a text. -/
def textL (q : List (List UInt8)) : List UInt8 := q.flatMap (· ++ [10])
/-- The lines of a text. -/
def linesL (l : List UInt8) : Option (List (List UInt8)) := if l.isEmpty = true then some [] else if l.getLast? = some 10 then some (pieces 10 l.dropLast) else none
theorem glue_snoc (c : UInt8) : ∀ q : List (List UInt8), q ≠ [] → glue c q ++ [c] = q.flatMap (· ++ [c])
  | [], h => absurd rfl h
  | [p], _ => by simp [glue]
  | p :: a :: b, _ => by
    rw [glue_cons _ _ (by simp), List.flatMap_cons, ← glue_snoc c (a :: b) (by simp)]
    simp
theorem text_lines {l : List UInt8} {q : List (List UInt8)} (h : linesL l = some q) : textL q = l := by
  unfold linesL at h
  split at h
  · rename_i he
    injection h with h
    subst h
    have : l = [] := by simpa using he
    rw [this]; rfl
  · split at h
    · rename_i he hl
      injection h with h
      subst h
      obtain ⟨a, b, hab⟩ := pieces_some 10 l.dropLast
      unfold textL
      rw [← glue_snoc 10 _ (by rw [hab]; simp), glue_pieces]
      have hne : l ≠ [] := by rintro rfl; simp at he
      have := List.dropLast_concat_getLast hne
      rw [List.getLast?_eq_some_getLast hne] at hl
      rw [Option.some.inj hl] at this
      exact this
    · cases h
theorem lines_text {q : List (List UInt8)} (h : ∀ p ∈ q, ∀ x ∈ p, x ≠ 10) : linesL (textL q) = some q := by
  cases q with
  | nil => rfl
  | cons p r =>
    have e : textL (p :: r) = glue 10 (p :: r) ++ [10] := (glue_snoc 10 (p :: r) (by simp)).symm
    unfold linesL
    rw [e, if_neg (by simp), if_pos (by simp), List.dropLast_concat, pieces_glue _ (by simp) h]
end Go.Proofs.YtkkacgabikbedaaDoor.Wd
