/-
  Words of strings in plain Lean: the word of a string, the string of a word, and that the two are inverse; no program in sight.
-/
import Derived.KernelRfl
namespace Go.Proofs.YtkkacgabikbedaaDoor.Wd

/-- A byte that represents itself. -/
def plain (c : UInt8) : Bool := decide (128 ≤ c.toNat) || (decide (33 ≤ c.toNat) && decide (c.toNat ≤ 126) && decide (c.toNat ≠ 37))
/-- A hexadecimal digit. -/
def hexd (n : Nat) : UInt8 := if n < 10 then UInt8.ofNat (48 + n) else UInt8.ofNat (87 + n)
/-- The value of a hexadecimal digit. -/
def hexv (c : UInt8) : Option Nat := if 48 ≤ c.toNat ∧ c.toNat ≤ 57 then some (c.toNat - 48) else if 97 ≤ c.toNat ∧ c.toNat ≤ 102 then some (c.toNat - 87) else none
/-- A byte in a word. -/
def enc (c : UInt8) : List UInt8 := if plain c = true then [c] else [37, hexd (c.toNat / 16), hexd (c.toNat % 16)]
/-- The word of a string. -/
def quote (l : List UInt8) : List UInt8 := if l.isEmpty = true then [37, 45] else l.flatMap enc
/-- The byte of two digits, if it is one that is written so. -/
def dec (a b : UInt8) : Option UInt8 :=
  match hexv a, hexv b with
  | some x, some y => if plain (UInt8.ofNat (16 * x + y)) = true then none else some (UInt8.ofNat (16 * x + y))
  | _, _ => none
/-- What a word that is not that of the empty string says. -/
def unq : List UInt8 → Option (List UInt8)
  | [] => some []
  | c :: r => if plain c = true then (unq r).map (c :: ·) else if c = 37 then (match r with | a :: b :: q => (match dec a b with | some v => (unq q).map (v :: ·) | none => none) | _ => none) else none
/-- The string of a word. -/
def unquote (l : List UInt8) : Option (List UInt8) := if l = [37, 45] then some [] else if l.isEmpty = true then none else unq l

theorem hexv_lt {c : UInt8} {x : Nat} (h : hexv c = some x) : x < 16 := by
  unfold hexv at h
  split at h
  · injection h with h; omega
  · split at h
    · injection h with h; omega
    · cases h
theorem hexd_toNat {n : Nat} (h : n < 16) : (hexd n).toNat = if n < 10 then 48 + n else 87 + n := by
  unfold hexd
  split <;> rw [UInt8.toNat_ofNat'] <;> omega
theorem hexv_hexd {n : Nat} (h : n < 16) : hexv (hexd n) = some n := by
  unfold hexv
  rw [hexd_toNat h]
  by_cases hn : n < 10
  · rw [if_pos hn, if_pos (by omega)]; congr 1; omega
  · rw [if_neg hn, if_neg (by omega), if_pos (by omega)]; congr 1; omega
theorem hexd_hexv {c : UInt8} {x : Nat} (h : hexv c = some x) : hexd x = c := by
  have hx := hexv_lt h
  apply UInt8.toNat_inj.1
  rw [hexd_toNat hx]
  unfold hexv at h
  split at h
  · injection h with h; rw [if_pos (by omega)]; omega
  · split at h
    · injection h with h; rw [if_neg (by omega)]; omega
    · cases h
theorem ofNat_split (c : UInt8) : UInt8.ofNat (16 * (c.toNat / 16) + c.toNat % 16) = c := by
  apply UInt8.toNat_inj.1
  rw [UInt8.toNat_ofNat']
  have := c.toNat_lt
  omega
theorem dec_enc {c : UInt8} (h : plain c = false) : dec (hexd (c.toNat / 16)) (hexd (c.toNat % 16)) = some c := by
  have := c.toNat_lt
  unfold dec
  rw [hexv_hexd (by omega), hexv_hexd (by omega)]
  simp only [ofNat_split, h]
  rfl
theorem enc_dec {a b v : UInt8} (h : dec a b = some v) : plain v = false ∧ enc v = [37, a, b] := by
  unfold dec at h
  split at h
  · rename_i x y hx hy
    split at h
    · cases h
    · rename_i hp
      injection h with h
      subst h
      have hp' : plain (UInt8.ofNat (16 * x + y)) = false := by simpa using hp
      have h1 := hexv_lt hx
      have h2 := hexv_lt hy
      refine ⟨hp', ?_⟩
      unfold enc
      rw [hp']
      have e : (UInt8.ofNat (16 * x + y)).toNat = 16 * x + y := by rw [UInt8.toNat_ofNat']; omega
      have e1 : (16 * x + y) / 16 = x := by omega
      have e2 : (16 * x + y) % 16 = y := by omega
      rw [e, e1, e2, hexd_hexv hx, hexd_hexv hy]
      rfl
  · cases h
theorem not_plain_37 : plain 37 = false := by decide

theorem unq_plain {c : UInt8} (h : plain c = true) (r : List UInt8) : unq (c :: r) = (unq r).map (c :: ·) := by
  conv => lhs; rw [unq.eq_def]
  simp [h]
theorem unq_esc (a b : UInt8) (q : List UInt8) : unq (37 :: a :: b :: q) = (match dec a b with | some v => (unq q).map (v :: ·) | none => none) := by
  rw [unq]; simp [not_plain_37]
theorem unq_bad {c : UInt8} (h : plain c = false) (h' : c ≠ 37) (r : List UInt8) : unq (c :: r) = none := by
  conv => lhs; rw [unq.eq_def]
  simp [h, h']
theorem unq_short {r : List UInt8} (h : r.length < 2) : unq (37 :: r) = none := by
  match r, h with
  | [], _ => rw [unq.eq_def]; simp [not_plain_37]
  | [_], _ => rw [unq.eq_def]; simp [not_plain_37]

theorem unq_enc (c : UInt8) (r : List UInt8) : unq (enc c ++ r) = (unq r).map (c :: ·) := by
  cases h : plain c
  · have e : enc c = [37, hexd (c.toNat / 16), hexd (c.toNat % 16)] := by simp [enc, h]
    rw [e]
    show unq (37 :: _ :: _ :: r) = _
    rw [unq_esc, dec_enc h]
  · have e : enc c = [c] := by simp [enc, h]
    rw [e]
    exact unq_plain h r
theorem unq_flat : ∀ l : List UInt8, unq (l.flatMap enc) = some l
  | [] => rfl
  | c :: l => by rw [List.flatMap_cons, unq_enc, unq_flat l]; rfl
theorem enc_ne (c : UInt8) (r : List UInt8) : enc c ++ r ≠ [37, 45] := by
  cases h : plain c
  · simp [enc, h]
  · intro e
    have e1 : enc c = [c] := by simp [enc, h]
    rw [e1] at e
    injection e with e _
    subst e
    rw [not_plain_37] at h
    cases h
theorem enc_some (c : UInt8) : enc c ≠ [] := by unfold enc; split <;> simp
theorem flat_ne {l : List UInt8} (h : l ≠ []) : l.flatMap enc ≠ [37, 45] := by
  cases l with
  | nil => exact absurd rfl h
  | cons c l => rw [List.flatMap_cons]; exact enc_ne c _
theorem flat_some {l : List UInt8} (h : l ≠ []) : l.flatMap enc ≠ [] := by
  cases l with
  | nil => exact absurd rfl h
  | cons c l => rw [List.flatMap_cons]; intro e; exact enc_some c (List.append_eq_nil_iff.1 e).1
/-- The string of the word of a string is the string. -/
theorem unquote_quote (l : List UInt8) : unquote (quote l) = some l := by
  cases l with
  | nil => rfl
  | cons c l =>
    have h : (c :: l) ≠ [] := by simp
    have e : quote (c :: l) = (c :: l).flatMap enc := by simp [quote]
    rw [e]
    unfold unquote
    rw [if_neg (flat_ne h), if_neg (by simpa using flat_some h), unq_flat]
/-- What is read is written so. -/
theorem flat_unq : ∀ (n : Nat) (l r : List UInt8), l.length ≤ n → unq l = some r → r.flatMap enc = l
  | 0, l, r, hl, h => by
    obtain rfl : l = [] := List.length_eq_zero_iff.1 (by omega)
    rw [unq] at h
    injection h with h
    subst h
    rfl
  | n + 1, [], r, _, h => by
    rw [unq] at h
    injection h with h
    subst h
    rfl
  | n + 1, c :: l, r, hl, h => by
    simp only [List.length_cons] at hl
    cases hp : plain c
    · by_cases hc : c = 37
      · subst hc
        match l, hl, h with
        | [], _, h => rw [unq_short (by simp)] at h; cases h
        | [_], _, h => rw [unq_short (by simp)] at h; cases h
        | a :: b :: q, hl, h =>
          rw [unq_esc] at h
          cases hd : dec a b with
          | none => rw [hd] at h; cases h
          | some v =>
            rw [hd] at h
            simp only [Option.map_eq_some_iff] at h
            obtain ⟨r', hr', rfl⟩ := h
            simp only [List.length_cons] at hl
            rw [List.flatMap_cons, (enc_dec hd).2, flat_unq n q r' (by omega) hr']
            rfl
      · rw [unq_bad hp hc] at h; cases h
    · rw [unq_plain hp] at h
      simp only [Option.map_eq_some_iff] at h
      obtain ⟨r', hr', rfl⟩ := h
      rw [List.flatMap_cons, flat_unq n l r' (by omega) hr']
      simp [enc, hp]
theorem quote_unquote {l r : List UInt8} (h : unquote l = some r) : quote r = l := by
  unfold unquote at h
  split at h
  · rename_i he
    injection h with h
    subst h
    rw [he]; rfl
  · split at h
    · cases h
    · rename_i h1 h2
      have hf := flat_unq l.length l r (Nat.le_refl _) h
      have hr : r ≠ [] := by
        rintro rfl
        simp only [List.flatMap_nil] at hf
        subst hf
        simp at h2
      unfold quote
      rw [if_neg (by simpa using hr), hf]
theorem quote_inj {a b : List UInt8} (h : quote a = quote b) : a = b := by
  have := unquote_quote a
  rw [h, unquote_quote b] at this
  exact (Option.some.inj this).symm
/-- A word has neither blanks nor line feeds, and is not empty. -/
theorem enc_clean {c x : UInt8} (h : x ∈ enc c) : x ≠ 32 ∧ x ≠ 10 := by
  have hn := c.toNat_lt
  have key : ∀ n, n < 16 → hexd n ≠ 32 ∧ hexd n ≠ 10 := fun n hn => by
    have := hexd_toNat hn
    constructor <;> intro e <;> rw [e] at this <;> split at this <;> simp at this <;> omega
  cases hp : plain c
  · simp only [enc, hp] at h
    simp at h
    rcases h with rfl | rfl | rfl
    · decide
    · exact key _ (by omega)
    · exact key _ (by omega)
  · simp [enc, hp] at h
    subst h
    constructor <;> rintro rfl <;> exact absurd hp (by decide)
theorem quote_clean {l : List UInt8} {x : UInt8} (h : x ∈ quote l) : x ≠ 32 ∧ x ≠ 10 := by
  unfold quote at h
  split at h
  · simp at h; rcases h with rfl | rfl <;> decide
  · rw [List.mem_flatMap] at h
    obtain ⟨c, _, hc⟩ := h
    exact enc_clean hc
theorem quote_some (l : List UInt8) : quote l ≠ [] := by
  unfold quote
  split
  · simp
  · rename_i h; exact flat_some (by simpa using h)
theorem enc_len (c : UInt8) : (enc c).length ≤ 3 := by unfold enc; split <;> simp
theorem flat_len : ∀ l : List UInt8, (l.flatMap enc).length ≤ 3 * l.length
  | [] => by simp
  | c :: l => by rw [List.flatMap_cons, List.length_append, List.length_cons]; have := flat_len l; have := enc_len c; omega
theorem quote_len (l : List UInt8) : (quote l).length ≤ 3 * l.length + 2 := by
  unfold quote
  split
  · simp
  · have := flat_len l; omega
theorem unq_len : ∀ (n : Nat) (l r : List UInt8), l.length ≤ n → unq l = some r → r.length ≤ l.length := by
  intro n l r hl h
  have hf := flat_unq n l r hl h
  rw [← hf]
  have : ∀ r : List UInt8, r.length ≤ (r.flatMap enc).length := fun r => by
    induction r with
    | nil => simp
    | cons c r ih =>
      rw [List.flatMap_cons, List.length_append, List.length_cons]
      have : (enc c).length ≠ 0 := fun e => enc_some c (List.length_eq_zero_iff.1 e)
      omega
  exact this r
end Go.Proofs.YtkkacgabikbedaaDoor.Wd
