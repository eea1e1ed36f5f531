/-
  The error of a pattern: by its bytes, as the program reckons it, and by its scalars, as the reference does; plain mathematics.
-/
import Derived.Lib.ValidLaws
import Derived.PlainAid
import Derived.Lib.MapLaws
import Derived.Test.YtgbjldkbbbjnkaaDoorValid
namespace Go.Proofs.YtgbjldkbbbjnkaaDoor
open Go.RowKit Go.PlainAid

/-- A byte or scalar that no pattern may hold. -/
def lowB (c : Int) : Bool := decide (c < 32) || c == 127
def specB (c : Int) : Bool := c == 42 || c == 63 || c == 92
/-- One more byte or scalar: none if the pattern is wrong, else whether a backslash waits. -/
def stB (x : Option Bool) (c : Int) : Option Bool :=
  match x with
  | none => none
  | some e => if lowB c = true then none else if e = true then (if specB c = true then some false else none) else some (c == 92)
/-- The same, without a look at the low ones. -/
def stE (x : Option Bool) (c : Int) : Option Bool :=
  match x with
  | none => none
  | some e => if e = true then (if specB c = true then some false else none) else some (c == 92)
def autB (l : List Int) : Option Bool := l.foldl stB (some false)
def autE (l : List Int) : Option Bool := l.foldl stE (some false)
theorem foldB_none : ∀ l : List Int, l.foldl stB none = none
  | [] => rfl
  | _ :: l => foldB_none l
theorem foldE_none : ∀ l : List Int, l.foldl stE none = none
  | [] => rfl
  | _ :: l => foldE_none l
theorem autB_snoc (l : List Int) (c : Int) : autB (l ++ [c]) = stB (autB l) c := by simp [autB]
theorem autE_snoc (l : List Int) (c : Int) : autE (l ++ [c]) = stE (autE l) c := by simp [autE]
theorem foldB_low : ∀ (l : List Int) (x : Option Bool), (∃ c ∈ l, lowB c = true) → l.foldl stB x = none
  | [], x, ⟨c, h, _⟩ => by simp at h
  | c :: l, x, ⟨d, h, hd⟩ => by
    rw [List.foldl_cons]
    rcases List.mem_cons.1 h with rfl | h
    · have e : stB x d = none := by
        cases x with
        | none => rfl
        | some e => simp only [stB, hd, if_true]
      rw [e, foldB_none]
    · exact foldB_low l _ ⟨d, h, hd⟩
theorem foldB_clean : ∀ (l : List Int) (x : Option Bool), (∀ c ∈ l, lowB c = false) → l.foldl stB x = l.foldl stE x
  | [], x, _ => rfl
  | c :: l, x, h => by
    rw [List.foldl_cons, List.foldl_cons]
    have hc := h c (List.mem_cons_self ..)
    have e : stB x c = stE x c := by
      cases x with
      | none => rfl
      | some e => simp only [stB, stE, hc]; rfl
    rw [e]
    exact foldB_clean l _ fun d hd => h d (List.mem_cons_of_mem _ hd)
/-- Bytes from 128 on behave as one scalar from 128 on. -/
theorem stB_high {c : Int} (h : 128 ≤ c) (e : Bool) : stB (some e) c = if e = true then none else some false := by
  have h1 : lowB c = false := by unfold lowB; simp; omega
  have h2 : specB c = false := by unfold specB; simp; omega
  have h3 : (c == 92) = false := by simp; omega
  simp only [stB, h1, h2, h3]
  rfl
theorem stE_high {c : Int} (h : 128 ≤ c) (e : Bool) : stE (some e) c = if e = true then none else some false := by
  have h2 : specB c = false := by unfold specB; simp; omega
  have h3 : (c == 92) = false := by simp; omega
  simp only [stE, h2, h3]
  rfl
theorem foldE_same : ∀ (l : List Int), (∀ c ∈ l, 128 ≤ c) → l.foldl stE (some false) = some false
  | [], _ => rfl
  | c :: l, h => by
    rw [List.foldl_cons, stE_high (h c (List.mem_cons_self ..))]
    exact foldE_same l fun d hd => h d (List.mem_cons_of_mem _ hd)
theorem foldB_same : ∀ (l : List Int), (∀ c ∈ l, 128 ≤ c) → l.foldl stB (some false) = some false
  | [], _ => rfl
  | c :: l, h => by
    rw [List.foldl_cons, stB_high (h c (List.mem_cons_self ..))]
    exact foldB_same l fun d hd => h d (List.mem_cons_of_mem _ hd)
theorem foldE_high : ∀ (l : List Int) (x : Option Bool) (p : Int), l ≠ [] → (∀ c ∈ l, 128 ≤ c) → 128 ≤ p → l.foldl stE x = stE x p
  | [], x, p, h, _, _ => absurd rfl h
  | c :: l, none, p, _, _, _ => by rw [foldE_none]; rfl
  | c :: l, some e, p, _, h, hp => by
    rw [List.foldl_cons, stE_high (h c (List.mem_cons_self ..)), stE_high hp]
    cases e
    · exact foldE_same l fun d hd => h d (List.mem_cons_of_mem _ hd)
    · exact foldE_none l
theorem foldB_high : ∀ (l : List Int) (x : Option Bool) (p : Int), l ≠ [] → (∀ c ∈ l, 128 ≤ c) → 128 ≤ p → l.foldl stB x = stB x p
  | [], x, p, h, _, _ => absurd rfl h
  | c :: l, none, p, _, _, _ => by rw [foldB_none]; rfl
  | c :: l, some e, p, _, h, hp => by
    rw [List.foldl_cons, stB_high (h c (List.mem_cons_self ..)), stB_high hp]
    cases e
    · exact foldB_same l fun d hd => h d (List.mem_cons_of_mem _ hd)
    · exact foldB_none l
/-- The first k bytes, and a piece, as numbers. -/
def pre (s : ByteArray) (k : Nat) : List Int := (List.range k).map (bt s)
def piece (s : ByteArray) (k n : Nat) : List Int := (List.range n).map fun j => bt s (k + j)
theorem pre_add (s : ByteArray) (k n : Nat) : pre s (k + n) = pre s k ++ piece s k n := by
  unfold pre piece
  rw [List.range_add, List.map_append, List.map_map]
  rfl
theorem pre_succ (s : ByteArray) (k : Nat) : pre s (k + 1) = pre s k ++ [bt s k] := by rw [pre_add]; simp [piece]
/-- The bytes of an encoded scalar. -/
theorem frOk_cases {s : ByteArray} {k : Nat} (hk : k ≤ s.size) (h : FrOk s k) : (lenI (bt s k) = 1 ∧ ptI s k = bt s k) ∨ (128 ≤ ptI s k ∧ ∀ c ∈ piece s k (lenI (bt s k)), 128 ≤ c) := by
  obtain ⟨_, h2, h3⟩ := (frOk_iff s k hk).1 h
  have hp : ptI s k = ptN (bt s k) (bt s (k + 1)) (bt s (k + 2)) (bt s (k + 3)) := rfl
  rw [← hp] at h2 h3
  have hl4 := lenI_pos (bt s k)
  have e : piece s k (lenI (bt s k)) = encN (ptI s k) := by
    rw [h3]
    unfold piece
    rcases (show lenI (bt s k) = 1 ∨ lenI (bt s k) = 2 ∨ lenI (bt s k) = 3 ∨ lenI (bt s k) = 4 by omega) with h | h | h | h <;> rw [h] <;> rfl
  by_cases h1 : bt s k < 192
  · left
    refine ⟨by unfold lenI; rw [if_neg (by omega), if_neg (by omega), if_neg (by omega)], ?_⟩
    unfold ptI
    rw [if_neg (by omega), if_neg (by omega), if_neg (by omega)]
  · right
    have hl : 2 ≤ lenI (bt s k) := by unfold lenI; split; omega; split; omega; rw [if_pos (by omega)]; omega
    have hlen : (encN (ptI s k)).length = lenI (bt s k) := by rw [← e]; simp [piece]
    have hc := enc_len (ptI s k)
    have hp128 : 128 ≤ ptI s k := by omega
    refine ⟨hp128, ?_⟩
    rw [e]
    have hs := (scal_iff (ptI s k)).1 h2
    rcases hc with hc | ⟨_, c2, _⟩ | ⟨c1, c2, _⟩ | ⟨c1, _⟩
    · omega
    · rw [enc2 hp128 c2]; simp; omega
    · rw [enc3 c1 c2]; simp; omega
    · rw [enc4 c1]; simp; omega
/-- The automaton over the scalars is that over the bytes. -/
theorem aut_pts {s : ByteArray} {k : Nat} {l : List Int} (h : Pts s k l) : autB l = autB (pre s k) := by
  induction h with
  | nil => rfl
  | @snoc k l h hk hf ih =>
    rw [autB_snoc, ih, pre_add, autB, autB, List.foldl_append]
    rcases frOk_cases (by omega) hf with ⟨h1, h2⟩ | ⟨h1, h2⟩
    · rw [h1, h2]
      simp [piece]
    · refine (foldB_high _ _ _ ?_ h2 h1).symm
      have := lenI_pos (bt s k)
      intro e
      have := congrArg List.length e
      simp [piece] at this
      omega
/-- The error of a pattern. -/
def pe (s : ByteArray) : Int := if s.size = 0 then 4 else if 64 < s.size then 5 else if Lib.validD s.data.toList = true ∧ autB (pre s s.size) = some false then 0 else 3
theorem pe_zero {s : ByteArray} (h : pe s = 0) : s.size ≤ 64 := by
  unfold pe at h
  split at h
  · cases h
  · split at h
    · cases h
    · omega
/-- .. as the program reckons it. -/
theorem pe_prog {s : ByteArray} (h0 : 1 ≤ s.size) (h1 : s.size ≤ 64) (hv : Lib.validD s.data.toList = true) (hl : ∀ j, j < s.size → lowB (bt s j) = false) : pe s = if autE (pre s s.size) = some false then 0 else 3 := by
  unfold pe
  rw [if_neg (by omega), if_neg (by omega)]
  have e : autB (pre s s.size) = autE (pre s s.size) := foldB_clean _ _ fun c hc => by
    obtain ⟨j, hj, rfl⟩ := List.mem_map.1 hc
    exact hl j (by simpa using hj)
  rw [e]
  by_cases h : autE (pre s s.size) = some false
  · rw [if_pos ⟨hv, h⟩, if_pos h]
  · rw [if_neg (fun h' => h h'.2), if_neg h]
theorem pe_low {s : ByteArray} (h0 : 1 ≤ s.size) (h1 : s.size ≤ 64) {j : Nat} (hj : j < s.size) (hl : lowB (bt s j) = true) : pe s = 3 := by
  unfold pe
  rw [if_neg (by omega), if_neg (by omega), if_neg]
  rintro ⟨_, h⟩
  rw [autB, foldB_low (pre s s.size) _ ⟨bt s j, List.mem_map.2 ⟨j, by simpa using hj, rfl⟩, hl⟩] at h
  cases h
theorem pe_bad {s : ByteArray} (h0 : 1 ≤ s.size) (h1 : s.size ≤ 64) (hv : ¬ Lib.validD s.data.toList = true) : pe s = 3 := by
  unfold pe
  rw [if_neg (by omega), if_neg (by omega), if_neg fun h => hv h.1]
theorem pe_ref {s : ByteArray} (h0 : 1 ≤ s.size) (h1 : s.size ≤ 64) (hv : Lib.validD s.data.toList = true) {l : List Int} (hp : Pts s s.size l) : pe s = if autB l = some false then 0 else 3 := by
  unfold pe
  rw [if_neg (by omega), if_neg (by omega), aut_pts hp]
  by_cases h : autB (pre s s.size) = some false
  · rw [if_pos ⟨hv, h⟩, if_pos h]
  · rw [if_neg (fun h' => h h'.2), if_neg h]
theorem valid_from {s : ByteArray} : Lib.validD s.data.toList = true ↔ OkFrom s 0 := by
  have := valid_ok s s.size 0 (by omega)
  rw [List.drop_zero] at this
  exact this
/-! A string's scalars as range gives them. -/
theorem get_bt2 (s : ByteArray) (k : Nat) : (((s.get! k).toNat : Nat) : Int) = bt s k := by
  unfold bt
  split
  · rename_i h
    show (((s.data[k]!).toNat : Nat) : Int) = _
    rw [getElem!_pos s.data k h]
    rfl
  · rename_i h
    show (((s.data[k]!).toNat : Nat) : Int) = _
    rw [getElem!_neg s.data k h]
    rfl
theorem dec_step {s : ByteArray} {k : Nat} (hk : k < s.size) :
    1 ≤ (Utf8.decode s k).2 ∧ k + (Utf8.decode s k).2 ≤ s.size ∧ autE (pre s (k + (Utf8.decode s k).2)) = stE (autE (pre s k)) ((Utf8.decode s k).1 : Int) := by
  have e0 := get_bt2 s k
  have e1 := get_bt2 s (k + 1)
  have e2 := get_bt2 s (k + 2)
  have e3 := get_bt2 s (k + 3)
  rw [Lib.decode_at]
  generalize (s.get! k).toNat = b0 at e0 ⊢
  generalize (s.get! (k + 1)).toNat = b1 at e1 ⊢
  generalize (s.get! (k + 2)).toNat = b2 at e2 ⊢
  generalize (s.get! (k + 3)).toNat = b3 at e3 ⊢
  have high : ∀ (n r : Nat), 1 ≤ n → (∀ c ∈ piece s k n, 128 ≤ c) → 128 ≤ r → autE (pre s (k + n)) = stE (autE (pre s k)) (r : Int) := fun n r hn hc hr => by
    rw [pre_add, autE, autE, List.foldl_append]
    refine foldE_high _ _ _ ?_ hc (by omega)
    intro e
    have := congrArg List.length e
    simp [piece] at this
    omega
  by_cases h0 : b0 < 128
  · have e : Lib.decodeN (s.size - k) b0 b1 b2 b3 = (b0, 1) := by unfold Lib.decodeN; rw [if_pos h0]
    rw [e]
    refine ⟨Nat.le_refl _, by omega, ?_⟩
    rw [pre_succ, autE_snoc, e0]
  · rcases Lib.decodeN_shape (s.size - k) b0 b1 b2 b3 with ⟨c, e⟩ | ⟨c1, c2, c3, cv, e⟩ | ⟨c1, c2, c3, c4, cv, _, e⟩ | ⟨c1, c2, c3, c4, c5, cv, _, e⟩ | e
    · omega
    · rw [e]
      refine ⟨by simp, by simp only; omega, high 2 _ (by decide) (fun c hc => ?_) cv⟩
      have hc' : c = bt s (k + 0) ∨ c = bt s (k + 1) := by simpa [piece, List.range_succ] using hc
      rw [Nat.add_zero] at hc'
      rcases hc' with rfl | rfl <;> omega
    · rw [e]
      refine ⟨by simp, by simp only; omega, high 3 _ (by decide) (fun c hc => ?_) (by omega)⟩
      have hc' : c = bt s (k + 0) ∨ c = bt s (k + 1) ∨ c = bt s (k + 2) := by simpa [piece, List.range_succ] using hc
      rw [Nat.add_zero] at hc'
      rcases hc' with rfl | rfl | rfl <;> omega
    · rw [e]
      refine ⟨by simp, by simp only; omega, high 4 _ (by decide) (fun c hc => ?_) (by omega)⟩
      have hc' : c = bt s (k + 0) ∨ c = bt s (k + 1) ∨ c = bt s (k + 2) ∨ c = bt s (k + 3) := by simpa [piece, List.range_succ] using hc
      rw [Nat.add_zero] at hc'
      rcases hc' with rfl | rfl | rfl | rfl <;> omega
    · rw [e]
      refine ⟨Nat.le_refl _, by omega, high 1 65533 (Nat.le_refl _) (fun c hc => ?_) (by decide)⟩
      have hc' : c = bt s (k + 0) := by simpa [piece] using hc
      rw [Nat.add_zero] at hc'
      omega
theorem dec_low {s : ByteArray} {k : Nat} : (Utf8.decode s k).1 ≤ 1114111 := Lib.rune_le s k
end Go.Proofs.YtgbjldkbbbjnkaaDoor
