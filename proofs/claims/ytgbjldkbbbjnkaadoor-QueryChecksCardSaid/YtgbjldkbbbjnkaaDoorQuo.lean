/-
  The word of a string: words.Quote of the program and Quote of its reference (turned from the texts on the chapter of words).
-/
import Derived.Test.YtgbjldkbbbjnkaaDoorShelf
import Derived.Test.YtgbjldkbbbjnkaaDoorOfP
import Derived.BigQuiet
import Derived.Deep.AppendLies
import Derived.Deep.QuietTactic
import Derived.Deep.RegionLaw
import Derived.Handy
import Derived.KernelRfl
import Derived.Laws.BytesArg
import Derived.Laws.IdiomStrings
import Derived.Lib.Hide
import Derived.PlainAid
import Derived.StillTailTactics
import Derived.WalkKit
import Derived.WalkLawsBesides
import Derived.WalkSpells
namespace Go.Proofs.YtgbjldkbbbjnkaaDoor.Wd

/-- A byte that represents itself. -/
def plain (c : UInt8) : Bool := decide (128 ≤ c.toNat) || (decide (33 ≤ c.toNat) && decide (c.toNat ≤ 126) && decide (c.toNat ≠ 37))
/-- A hexadecimal digit. -/
def hexd (n : Nat) : UInt8 := if n < 10 then UInt8.ofNat (48 + n) else UInt8.ofNat (87 + n)
/-- The value of a hexadecimal digit. -/
def hexv (c : UInt8) : Option Nat := if 48 ≤ c.toNat ∧ c.toNat ≤ 57 then some (c.toNat - 48) else if 97 ≤ c.toNat ∧ c.toNat ≤ 102 then some (c.toNat - 87) else none
/-- A byte in a word. -/
def enc (c : UInt8) : List UInt8 := if plain c = true then [c] else [37, hexd (c.toNat / 16), hexd (c.toNat % 16)]
/-- The word of a string. -/
def quote (l : List UInt8) : List UInt8 := if l.isEmpty = true then [37, 45] else l.flatMap enc
/-- The byte of two digits, if it is one that is written so. -/
def dec (a b : UInt8) : Option UInt8 :=
  match hexv a, hexv b with
  | some x, some y => if plain (UInt8.ofNat (16 * x + y)) = true then none else some (UInt8.ofNat (16 * x + y))
  | _, _ => none
/-- What a word that is not that of the empty string says. -/
def unq : List UInt8 → Option (List UInt8)
  | [] => some []
  | c :: r => if plain c = true then (unq r).map (c :: ·) else if c = 37 then (match r with | a :: b :: q => (match dec a b with | some v => (unq q).map (v :: ·) | none => none) | _ => none) else none
/-- The string of a word. -/
def unquote (l : List UInt8) : Option (List UInt8) := if l = [37, 45] then some [] else if l.isEmpty = true then none else unq l

theorem hexv_lt {c : UInt8} {x : Nat} (h : hexv c = some x) : x < 16 := by
  unfold hexv at h
  split at h
  · injection h with h; omega
  · split at h
    · injection h with h; omega
    · cases h
theorem hexd_toNat {n : Nat} (h : n < 16) : (hexd n).toNat = if n < 10 then 48 + n else 87 + n := by
  unfold hexd
  split <;> rw [UInt8.toNat_ofNat'] <;> omega
theorem hexv_hexd {n : Nat} (h : n < 16) : hexv (hexd n) = some n := by
  unfold hexv
  rw [hexd_toNat h]
  by_cases hn : n < 10
  · rw [if_pos hn, if_pos (by omega)]; congr 1; omega
  · rw [if_neg hn, if_neg (by omega), if_pos (by omega)]; congr 1; omega
theorem hexd_hexv {c : UInt8} {x : Nat} (h : hexv c = some x) : hexd x = c := by
  have hx := hexv_lt h
  apply UInt8.toNat_inj.1
  rw [hexd_toNat hx]
  unfold hexv at h
  split at h
  · injection h with h; rw [if_pos (by omega)]; omega
  · split at h
    · injection h with h; rw [if_neg (by omega)]; omega
    · cases h
theorem ofNat_split (c : UInt8) : UInt8.ofNat (16 * (c.toNat / 16) + c.toNat % 16) = c := by
  apply UInt8.toNat_inj.1
  rw [UInt8.toNat_ofNat']
  have := c.toNat_lt
  omega
theorem dec_enc {c : UInt8} (h : plain c = false) : dec (hexd (c.toNat / 16)) (hexd (c.toNat % 16)) = some c := by
  have := c.toNat_lt
  unfold dec
  rw [hexv_hexd (by omega), hexv_hexd (by omega)]
  simp only [ofNat_split, h]
  rfl
theorem enc_dec {a b v : UInt8} (h : dec a b = some v) : plain v = false ∧ enc v = [37, a, b] := by
  unfold dec at h
  split at h
  · rename_i x y hx hy
    split at h
    · cases h
    · rename_i hp
      injection h with h
      subst h
      have hp' : plain (UInt8.ofNat (16 * x + y)) = false := by simpa using hp
      have h1 := hexv_lt hx
      have h2 := hexv_lt hy
      refine ⟨hp', ?_⟩
      unfold enc
      rw [hp']
      have e : (UInt8.ofNat (16 * x + y)).toNat = 16 * x + y := by rw [UInt8.toNat_ofNat']; omega
      have e1 : (16 * x + y) / 16 = x := by omega
      have e2 : (16 * x + y) % 16 = y := by omega
      rw [e, e1, e2, hexd_hexv hx, hexd_hexv hy]
      rfl
  · cases h
theorem not_plain_37 : plain 37 = false := by decide

theorem unq_plain {c : UInt8} (h : plain c = true) (r : List UInt8) : unq (c :: r) = (unq r).map (c :: ·) := by
  conv => lhs; rw [unq.eq_def]
  simp [h]
theorem unq_esc (a b : UInt8) (q : List UInt8) : unq (37 :: a :: b :: q) = (match dec a b with | some v => (unq q).map (v :: ·) | none => none) := by
  rw [unq]; simp [not_plain_37]
theorem unq_bad {c : UInt8} (h : plain c = false) (h' : c ≠ 37) (r : List UInt8) : unq (c :: r) = none := by
  conv => lhs; rw [unq.eq_def]
  simp [h, h']
theorem unq_short {r : List UInt8} (h : r.length < 2) : unq (37 :: r) = none := by
  match r, h with
  | [], _ => rw [unq.eq_def]; simp [not_plain_37]
  | [_], _ => rw [unq.eq_def]; simp [not_plain_37]

theorem unq_enc (c : UInt8) (r : List UInt8) : unq (enc c ++ r) = (unq r).map (c :: ·) := by
  cases h : plain c
  · have e : enc c = [37, hexd (c.toNat / 16), hexd (c.toNat % 16)] := by simp [enc, h]
    rw [e]
    show unq (37 :: _ :: _ :: r) = _
    rw [unq_esc, dec_enc h]
  · have e : enc c = [c] := by simp [enc, h]
    rw [e]
    exact unq_plain h r
theorem unq_flat : ∀ l : List UInt8, unq (l.flatMap enc) = some l
  | [] => rfl
  | c :: l => by rw [List.flatMap_cons, unq_enc, unq_flat l]; rfl
theorem enc_ne (c : UInt8) (r : List UInt8) : enc c ++ r ≠ [37, 45] := by
  cases h : plain c
  · simp [enc, h]
  · intro e
    have e1 : enc c = [c] := by simp [enc, h]
    rw [e1] at e
    injection e with e _
    subst e
    rw [not_plain_37] at h
    cases h
theorem enc_some (c : UInt8) : enc c ≠ [] := by unfold enc; split <;> simp
theorem flat_ne {l : List UInt8} (h : l ≠ []) : l.flatMap enc ≠ [37, 45] := by
  cases l with
  | nil => exact absurd rfl h
  | cons c l => rw [List.flatMap_cons]; exact enc_ne c _
theorem flat_some {l : List UInt8} (h : l ≠ []) : l.flatMap enc ≠ [] := by
  cases l with
  | nil => exact absurd rfl h
  | cons c l => rw [List.flatMap_cons]; intro e; exact enc_some c (List.append_eq_nil_iff.1 e).1
/-- The string of the word of a string is the string. -/
theorem unquote_quote (l : List UInt8) : unquote (quote l) = some l := by
  cases l with
  | nil => rfl
  | cons c l =>
    have h : (c :: l) ≠ [] := by simp
    have e : quote (c :: l) = (c :: l).flatMap enc := by simp [quote]
    rw [e]
    unfold unquote
    rw [if_neg (flat_ne h), if_neg (by simpa using flat_some h), unq_flat]
/-- What is read is written so. -/
theorem flat_unq : ∀ (n : Nat) (l r : List UInt8), l.length ≤ n → unq l = some r → r.flatMap enc = l
  | 0, l, r, hl, h => by
    obtain rfl : l = [] := List.length_eq_zero_iff.1 (by omega)
    rw [unq] at h
    injection h with h
    subst h
    rfl
  | n + 1, [], r, _, h => by
    rw [unq] at h
    injection h with h
    subst h
    rfl
  | n + 1, c :: l, r, hl, h => by
    simp only [List.length_cons] at hl
    cases hp : plain c
    · by_cases hc : c = 37
      · subst hc
        match l, hl, h with
        | [], _, h => rw [unq_short (by simp)] at h; cases h
        | [_], _, h => rw [unq_short (by simp)] at h; cases h
        | a :: b :: q, hl, h =>
          rw [unq_esc] at h
          cases hd : dec a b with
          | none => rw [hd] at h; cases h
          | some v =>
            rw [hd] at h
            simp only [Option.map_eq_some_iff] at h
            obtain ⟨r', hr', rfl⟩ := h
            simp only [List.length_cons] at hl
            rw [List.flatMap_cons, (enc_dec hd).2, flat_unq n q r' (by omega) hr']
            rfl
      · rw [unq_bad hp hc] at h; cases h
    · rw [unq_plain hp] at h
      simp only [Option.map_eq_some_iff] at h
      obtain ⟨r', hr', rfl⟩ := h
      rw [List.flatMap_cons, flat_unq n l r' (by omega) hr']
      simp [enc, hp]
theorem quote_unquote {l r : List UInt8} (h : unquote l = some r) : quote r = l := by
  unfold unquote at h
  split at h
  · rename_i he
    injection h with h
    subst h
    rw [he]; rfl
  · split at h
    · cases h
    · rename_i h1 h2
      have hf := flat_unq l.length l r (Nat.le_refl _) h
      have hr : r ≠ [] := by
        rintro rfl
        simp only [List.flatMap_nil] at hf
        subst hf
        simp at h2
      unfold quote
      rw [if_neg (by simpa using hr), hf]
theorem quote_inj {a b : List UInt8} (h : quote a = quote b) : a = b := by
  have := unquote_quote a
  rw [h, unquote_quote b] at this
  exact (Option.some.inj this).symm
/-- A word has neither blanks nor line feeds, and is not empty. -/
theorem enc_clean {c x : UInt8} (h : x ∈ enc c) : x ≠ 32 ∧ x ≠ 10 := by
  have hn := c.toNat_lt
  have key : ∀ n, n < 16 → hexd n ≠ 32 ∧ hexd n ≠ 10 := fun n hn => by
    have := hexd_toNat hn
    constructor <;> intro e <;> rw [e] at this <;> split at this <;> simp at this <;> omega
  cases hp : plain c
  · simp only [enc, hp] at h
    simp at h
    rcases h with rfl | rfl | rfl
    · decide
    · exact key _ (by omega)
    · exact key _ (by omega)
  · simp [enc, hp] at h
    subst h
    constructor <;> rintro rfl <;> exact absurd hp (by decide)
theorem quote_clean {l : List UInt8} {x : UInt8} (h : x ∈ quote l) : x ≠ 32 ∧ x ≠ 10 := by
  unfold quote at h
  split at h
  · simp at h; rcases h with rfl | rfl <;> decide
  · rw [List.mem_flatMap] at h
    obtain ⟨c, _, hc⟩ := h
    exact enc_clean hc
theorem quote_some (l : List UInt8) : quote l ≠ [] := by
  unfold quote
  split
  · simp
  · rename_i h; exact flat_some (by simpa using h)
theorem enc_len (c : UInt8) : (enc c).length ≤ 3 := by unfold enc; split <;> simp
theorem flat_len : ∀ l : List UInt8, (l.flatMap enc).length ≤ 3 * l.length
  | [] => by simp
  | c :: l => by rw [List.flatMap_cons, List.length_append, List.length_cons]; have := flat_len l; have := enc_len c; omega
theorem quote_len (l : List UInt8) : (quote l).length ≤ 3 * l.length + 2 := by
  unfold quote
  split
  · simp
  · have := flat_len l; omega
theorem unq_len : ∀ (n : Nat) (l r : List UInt8), l.length ≤ n → unq l = some r → r.length ≤ l.length := by
  intro n l r hl h
  have hf := flat_unq n l r hl h
  rw [← hf]
  have : ∀ r : List UInt8, r.length ≤ (r.flatMap enc).length := fun r => by
    induction r with
    | nil => simp
    | cons c r ih =>
      rw [List.flatMap_cons, List.length_append, List.length_cons]
      have : (enc c).length ≠ 0 := fun e => enc_some c (List.length_eq_zero_iff.1 e)
      omega
  exact this r
end Go.Proofs.YtgbjldkbbbjnkaaDoor.Wd
namespace Go.Proofs.YtgbjldkbbbjnkaaDoor.Q3
open Go.RowKit Go.PlainAid

def plainI (c : Int) : Bool := Wd.plain (UInt8.ofNat c.toNat)
def hexI (c : Int) : Int := ((Wd.hexd c.toNat).toNat : Int)
theorem plainI_eq {c : Int} (h0 : 0 ≤ c) (h1 : c ≤ 255) : plainI c = (decide (128 ≤ c) || (decide (33 ≤ c) && decide (c ≤ 126) && decide (c ≠ 37))) := by
  have e : (UInt8.ofNat c.toNat).toNat = c.toNat := by rw [UInt8.toNat_ofNat']; omega
  unfold plainI Wd.plain
  rw [e]
  have a1 : (128 ≤ c.toNat) = (128 ≤ c) := by apply propext; omega
  have a2 : (33 ≤ c.toNat) = (33 ≤ c) := by apply propext; omega
  have a3 : (c.toNat ≤ 126) = (c ≤ 126) := by apply propext; omega
  have a4 : (c.toNat ≠ 37) = (c ≠ 37) := by apply propext; omega
  simp only [a1, a2, a3, a4]
theorem ret_bool {a b : Bool} (h : a = b) : Ending.returned (.bool a) = .returned (.bool b) := by rw [h]
theorem ret_int {k : IntKind} {a b : Int} (h : a = b) : Ending.returned (.int k a) = .returned (.int k b) := by rw [h]
theorem ret_string {a b : ByteArray} (h : a = b) : Ending.returned (.string a) = .returned (.string b) := by rw [h]
set_option maxHeartbeats 800000 in
theorem plain66 (c : Int) (w : World) (h0 : 0 ≤ c) (h1 : c ≤ 255) : Calls Tryd.prog 66 #[.int .u8 c] w fun e w' => e = .returned (.bool (plainI c)) ∧ w = w' := by
  have hp := plainI_eq h0 h1
  by_cases a1 : 128 ≤ c
  · have e : plainI c = true := by rw [hp]; simp [a1]
    have HP := Lib.hid e
    clear hp e
    go_enter Tryd.func66, Tryd.ntmps66
    go_wp2
    go_ret
    exact ⟨by rw [HP.out]; rfl, rfl⟩
  · by_cases a2 : 32 < c
    · by_cases a3 : c < 127
      · by_cases a4 : c = 37
        · subst a4
          clear hp
          go_enter Tryd.func66, Tryd.ntmps66
          go_wp2
          go_ret
          exact ⟨rfl, rfl⟩
        · have e : plainI c = true := by rw [hp]; simp [a4]; omega
          have HP := Lib.hid e
          clear hp e
          have a5 : (c != 37) = true := by simpa using a4
          go_enter Tryd.func66, Tryd.ntmps66
          go_wp2
          go_ret
          exact ⟨by rw [HP.out]; rfl, rfl⟩
      · have e : plainI c = false := by rw [hp]; simp; omega
        have HP := Lib.hid e
        clear hp e
        go_enter Tryd.func66, Tryd.ntmps66
        go_wp2
        go_ret
        exact ⟨by rw [HP.out]; rfl, rfl⟩
    · have e : plainI c = false := by rw [hp]; simp; omega
      have HP := Lib.hid e
      clear hp e
      go_enter Tryd.func66, Tryd.ntmps66
      go_wp2
      go_ret
      exact ⟨by rw [HP.out]; rfl, rfl⟩
set_option maxHeartbeats 800000 in
theorem plain74 (c : Int) (w : World) (h0 : 0 ≤ c) (h1 : c ≤ 255) : Calls Tryd.prog 74 #[.int .u8 c] w fun e w' => e = .returned (.bool (plainI c)) ∧ w = w' := by
  have hp := plainI_eq h0 h1
  by_cases a1 : 128 ≤ c
  · have e : plainI c = true := by rw [hp]; simp [a1]
    have HP := Lib.hid e
    clear hp e
    go_enter Tryd.func74, Tryd.ntmps74
    go_wp2
    go_ret
    exact ⟨by rw [HP.out]; rfl, rfl⟩
  · by_cases a2 : 33 ≤ c
    · by_cases a3 : c ≤ 126
      · by_cases a4 : c = 37
        · subst a4
          clear hp
          go_enter Tryd.func74, Tryd.ntmps74
          go_wp2
          go_ret
          exact ⟨rfl, rfl⟩
        · have e : plainI c = true := by rw [hp]; simp [a4]; omega
          have HP := Lib.hid e
          clear hp e
          have a5 : (c != 37) = true := by simpa using a4
          go_enter Tryd.func74, Tryd.ntmps74
          go_wp2
          go_ret
          exact ⟨by rw [HP.out]; rfl, rfl⟩
      · have e : plainI c = false := by rw [hp]; simp; omega
        have HP := Lib.hid e
        clear hp e
        go_enter Tryd.func74, Tryd.ntmps74
        go_wp2
        go_ret
        exact ⟨by rw [HP.out]; rfl, rfl⟩
    · have e : plainI c = false := by rw [hp]; simp; omega
      have HP := Lib.hid e
      clear hp e
      go_enter Tryd.func74, Tryd.ntmps74
      go_wp2
      go_ret
      exact ⟨by rw [HP.out]; rfl, rfl⟩

theorem conv3 (w : World) (g : Nat) (a b c : Int) (hg : g = w.heap.size) : (convert 75 9 (.slice (some ⟨g, 0, none⟩) 3 3)).run Tryd.prog (w.alloc (.cells #[.int .u8 a, .int .u8 b, .int .u8 c] 5)) = .ok (.string (strOfNums [a, b, c])) (w.alloc (.cells #[.int .u8 a, .int .u8 b, .int .u8 c] 5)) := by
  subst hg
  refine run_convert_bytes_arg _ 75 5 Tryd.underlying75 Tryd.underlying5 _ 0 3 3 [a, b, c] rfl ?_ 9 Tryd.underlying9
  intro i hi
  match i, hi with
  | 0, _ => simp [World.cell?_alloc_new]
  | 1, _ => simp [World.cell?_alloc_new]
  | 2, _ => simp [World.cell?_alloc_new]
theorem ixHex (c : Int) (h0 : 0 ≤ c) (h1 : c ≤ 15) (w : World) : (Instr.index 9 (.string { data := #[48, 49, 50, 51, 52, 53, 54, 55, 56, 57, 97, 98, 99, 100, 101, 102] }) (.int .u8 c)).run Tryd.prog w = .ok (.int .u8 (hexI c)) w := by
  obtain ⟨n, rfl⟩ := Int.eq_ofNat_of_zero_le h0
  rcases (show n = 0 ∨ n = 1 ∨ n = 2 ∨ n = 3 ∨ n = 4 ∨ n = 5 ∨ n = 6 ∨ n = 7 ∨ n = 8 ∨ n = 9 ∨ n = 10 ∨ n = 11 ∨ n = 12 ∨ n = 13 ∨ n = 14 ∨ n = 15 by omega) with rfl | rfl | rfl | rfl | rfl | rfl | rfl | rfl | rfl | rfl | rfl | rfl | rfl | rfl | rfl | rfl
  all_goals (clear h0 h1; show Sem.run _ _ _ = _; kernel_rfl)
theorem and15 (c : Int) (h0 : 0 ≤ c) (h1 : c ≤ 255) : bits .and .u8 c 15 = c % 16 := by
  obtain ⟨n, rfl⟩ := Int.eq_ofNat_of_zero_le h0
  have h := u8_and_nat n 15 (by omega) (by omega)
  have e : n &&& 15 = n % 16 := Nat.and_two_pow_sub_one_eq_mod n 4
  rw [show ((15 : Nat) : Int) = 15 from rfl] at h
  rw [h, e]
  omega

/-! Bytes of a string, as numbers. -/
theorem bt_of (s : ByteArray) (k : Nat) (h : k < s.size) : bt s k = (s[k].toNat : Int) := (get_bt s k h).symm
theorem plain_bt (s : ByteArray) (k : Nat) (h : k < s.size) : plainI (bt s k) = Wd.plain s[k] := by
  rw [bt_of s k h]
  unfold plainI
  rw [Int.toNat_natCast, UInt8.ofNat_toNat]
theorem size_list (s : ByteArray) : s.data.toList.length = s.size := by rw [Array.length_toList]; rfl
theorem take_snoc (s : ByteArray) (k : Nat) (h : k < s.size) : s.data.toList.take (k + 1) = s.data.toList.take k ++ [s[k]] := by
  rw [List.take_succ_eq_append_getElem (by rw [size_list]; exact h)]; rfl
theorem take_all (s : ByteArray) (k : Nat) (h : s.size ≤ k) : s.data.toList.take k = s.data.toList := List.take_of_length_le (by rw [size_list]; exact h)
theorem drop_cons (s : ByteArray) (k : Nat) (h : k < s.size) : s.data.toList.drop k = s[k] :: s.data.toList.drop (k + 1) := by
  rw [List.drop_eq_getElem_cons (by rw [size_list]; exact h)]; rfl
theorem drop_all (s : ByteArray) (k : Nat) (h : s.size ≤ k) : s.data.toList.drop k = [] := List.drop_of_length_le (by rw [size_list]; exact h)
theorem empty_iff (s : ByteArray) : s.toList.isEmpty = s.data.toList.isEmpty := by rw [Lib.toList_data]
end Go.Proofs.YtgbjldkbbbjnkaaDoor.Q3
namespace Go.Proofs.YtgbjldkbbbjnkaaDoor.Q3
open Go.RowKit Go.PlainAid

theorem enc_plain (s : ByteArray) (k : Nat) (h : k < s.size) (hp : plainI (bt s k) = true) : Lib.byteCells ((s.data.toList.take (k + 1)).flatMap Wd.enc) = Lib.byteCells ((s.data.toList.take k).flatMap Wd.enc) ++ [.int .u8 (bt s k)] := by
  rw [plain_bt s k h] at hp
  rw [take_snoc s k h, List.flatMap_append, bt_of s k h]
  simp [Wd.enc, hp, Lib.byteCells]
theorem enc_other (s : ByteArray) (k : Nat) (h : k < s.size) (hp : plainI (bt s k) = false) :
    Lib.byteCells ((s.data.toList.take (k + 1)).flatMap Wd.enc) = Lib.byteCells ((s.data.toList.take k).flatMap Wd.enc) ++ Lib.strCells (strOfNums [37, hexI (bt s k / 16), hexI (bt s k % 16)]) := by
  rw [plain_bt s k h] at hp
  have e1 : (bt s k / 16).toNat = s[k].toNat / 16 := by rw [bt_of s k h]; omega
  have e2 : (bt s k % 16).toNat = s[k].toNat % 16 := by rw [bt_of s k h]; omega
  rw [take_snoc s k h, List.flatMap_append]
  simp [Wd.enc, hp, Lib.byteCells, Lib.strCells, strOfNums, hexI, e1, e2]
theorem flat_take_len (s : ByteArray) (k : Nat) : ((s.data.toList.take k).flatMap Wd.enc).length ≤ 3 * s.size := by
  have h := Wd.flat_len (s.data.toList.take k)
  have h2 : (s.data.toList.take k).length ≤ s.size := by rw [List.length_take, size_list]; omega
  omega
theorem quote_of (s : ByteArray) (h : s.toList.isEmpty = false) : (s.data.toList.flatMap Wd.enc) = Wd.quote s.data.toList := by
  rw [empty_iff] at h
  simp [Wd.quote, h]
theorem quote55_empty (w : World) (s : ByteArray) (h : s.toList.isEmpty = true) :
    Calls Tryd.prog 55 #[.string s] w fun e w' => e = .returned (.string ⟨(Wd.quote s.data.toList).toArray⟩) ∧ Below w.heap.size w w' := by
  have e : Wd.quote s.data.toList = [37, 45] := by rw [empty_iff] at h; simp [Wd.quote, h]
  have E := Lib.hid e
  clear e
  go_enter Tryd.func55, Tryd.ntmps55
  go_wp2_with fail
  go_ret
  exact ⟨by rw [E.out]; rfl, Below.refl _ _⟩
set_option maxHeartbeats 1600000 in
set_option maxRecDepth 100000 in
theorem quote55_some (s : ByteArray) (w : World) (h0 : s.toList.isEmpty = false) (hs : s.size ≤ 4194304) :
    Calls Tryd.prog 55 #[.string s] w fun e w' => e = .returned (.string ⟨(Wd.quote s.data.toList).toArray⟩) ∧ Below w.heap.size w w' := by
  have hbt := get_bt s
  go_enter Tryd.func55, Tryd.ntmps55
  go_wp2_with fail
  go_loopw [10] (fun i wr => ∃ k : Nat, k ≤ s.size ∧ i = .int .i64 k ∧ Lib.IsBuilderF 96 5 w.heap.size w.heap.size (Lib.byteCells ((s.data.toList.take k).flatMap Wd.enc)) wr ∧ Below w.heap.size w wr) (fun i _ => s.size - (intOf i).toNat)
  case atStart => exact ⟨0, Nat.zero_le _, rfl, Lib.IsBuilderF.of (Lib.fresh_isBuilder 96 5 w), (Below.refl _ _).alloc (Nat.le_refl _) _⟩
  case round =>
    obtain ⟨k, hk, rfl, hI, hb⟩ := hrel
    have HI := Lib.hid hI
    clear hI
    have b0 := bt_nonneg s k
    have b1 := bt_le s k
    have hlen := Lib.hid (flat_take_len s k)
    by_cases hlt : k < s.size
    · cases hp : plainI (bt s k)
      · have HP := Lib.hid hp
        clear hp
        have hand := and15 (bt s k) b0 b1
        have ix1 := ixHex (bt s k / 16) (by omega) (by omega)
        have ix2 := ixHex (bt s k % 16) (by omega) (by omega)
        go_wp2_with fail
        refine (plain66 _ _ b0 b1).mono ?_
        rintro e w' ⟨rfl, rfl⟩
        rw [HP.out]
        go_wp2_with fail
        go_still_tail 6, (by kernel_rfl)
        have HI2 := Lib.hid (show Lib.IsBuilderF 96 5 w.heap.size w.heap.size (Lib.byteCells ((s.data.toList.take k).flatMap Wd.enc)) wr.drew from HI.out)
        have hb2 := hb.drew
        change wpList _ _ _ _ _ wr.drew
        generalize wr.drew = w2 at HI2 hb2 ⊢
        have hcv := conv3
        go_wp2_with fail
        refine (Tryd.Builder_WriteString_k _ _ _ _ _ (Lib.IsBuilderF.alloc HI2.out _) ?_ ?_).mono ?_
        · rw [Lib.byteCells_length, strOfNums_size]; have := hlen.out; show _ + 3 ≤ _; omega
        · have := hb2.size; simp; omega
        rintro e w3 ⟨rfl, h3, hb3, hk3⟩
        go_wp2_with fail
        go_roundw
        case rel =>
          refine ⟨k + 1, by omega, by go_num, ?_, (hb2.alloc hb2.size _).trans hb3⟩
          rw [enc_other s k hlt HP.out]
          exact .inr h3
        case measure => simp [intOf]; omega
      · have HP := Lib.hid hp
        clear hp
        go_wp2_with fail
        refine (plain66 _ _ b0 b1).mono ?_
        rintro e w' ⟨rfl, rfl⟩
        rw [HP.out]
        go_wp2_with fail
        refine (Tryd.Builder_WriteByte_k _ _ _ _ _ HI.out ?_ ?_).mono ?_
        · rw [Lib.byteCells_length]; have := hlen.out; omega
        · exact hb.size
        rintro e w3 ⟨rfl, h3, hb3, hk3⟩
        go_wp2_with fail
        go_roundw
        case rel =>
          refine ⟨k + 1, by omega, by go_num, ?_, hb.trans hb3⟩
          rw [enc_plain s k hlt HP.out]
          exact .inr h3
        case measure => simp [intOf]; omega
    · have ht := take_all s k (by omega)
      rw [ht] at HI
      clear ht
      go_wp2_with fail
      refine (Tryd.Builder_String_any_k _ _ _ _ HI.out hb.size).mono ?_
      rintro e w3 ⟨rfl, h3, hb3, hk3⟩
      go_wp2_with fail
      go_ret
      exact ⟨by rw [← quote_of s h0]; rfl, hb.trans hb3⟩
theorem quote55 (s : ByteArray) (w : World) (hs : s.size ≤ 4194304) :
    Calls Tryd.prog 55 #[.string s] w fun e w' => e = .returned (.string ⟨(Wd.quote s.data.toList).toArray⟩) ∧ Below w.heap.size w w' := by
  cases h : s.toList.isEmpty
  · exact quote55_some s w h hs
  · exact quote55_empty w s h
end Go.Proofs.YtgbjldkbbbjnkaaDoor.Q3
namespace Go.Proofs.YtgbjldkbbbjnkaaDoor.Q3
open Go.RowKit Go.PlainAid

theorem info5 : (Tryd.prog.info? 5).map (fun i => (i.zero, i.size, i.bytes)) = some (some (.int .u8 0), 1, 1) := by kernel_rfl
/-- A row of bytes of the call's own, turned to a string. -/
theorem conv_own {w : World} {base : Nat} {v : Value} {l : List UInt8} (h : w.ownsRow base 5 1 v l.length (Lib.byteCells l)) : (convert 75 9 v).run Tryd.prog w = .ok (.string ⟨l.toArray⟩) w := by
  rcases h.2 with ⟨rfl, h0⟩ | ⟨g, cap, cur, rfl, _⟩
  · obtain rfl : l = [] := List.length_eq_zero_iff.1 h0
    exact run_convert_bytes_nil w 75 5 Tryd.underlying75 Tryd.underlying5 0 0 9 Tryd.underlying9
  · refine run_convert_bytes_back w 75 9 5 ⟨g, 0, none⟩ cap l Tryd.underlying75 Tryd.underlying5 Tryd.underlying9 fun j hj => ?_
    refine h.cells (g := g) rfl j _ ?_
    simp [Lib.byteCells, List.getElem?_eq_getElem hj]
theorem own_empty (w : World) : (w.alloc (.cells #[] 5)).ownsRow w.heap.size 5 1 (.slice (some ⟨w.heap.size, 0, none⟩) 0 0) 0 [] :=
  ⟨rfl, .inr ⟨w.heap.size, 0, #[], rfl, Nat.le_refl _, heap_alloc_new w _, Nat.le_refl _, Nat.zero_le _, rfl, rfl⟩⟩
theorem own_drew {w : World} {base : Nat} {e : TypeId} {v : Value} {n : Nat} {xs : List Value} (h : w.ownsRow base e 1 v n xs) : w.drew.ownsRow base e 1 v n xs := h

/-- What is written of the first k bytes. -/
def encTo (s : ByteArray) (k : Nat) : List UInt8 := (s.data.toList.take k).flatMap Wd.enc
theorem encTo_len (s : ByteArray) (k : Nat) : (encTo s k).length ≤ 3 * s.size := flat_take_len s k
theorem encTo_plain (s : ByteArray) (k : Nat) (h : k < s.size) (hp : plainI (bt s k) = true) : Lib.byteCells (encTo s (k + 1)) = Lib.byteCells (encTo s k) ++ [.int .u8 (bt s k)] := enc_plain s k h hp
theorem encTo_other (s : ByteArray) (k : Nat) (h : k < s.size) (hp : plainI (bt s k) = false) :
    Lib.byteCells (encTo s (k + 1)) = Lib.byteCells (encTo s k) ++ [.int .u8 37, .int .u8 (hexI (bt s k / 16)), .int .u8 (hexI (bt s k % 16))] := by
  have e3 : Lib.strCells (strOfNums [37, hexI (bt s k / 16), hexI (bt s k % 16)]) = [.int .u8 37, .int .u8 (hexI (bt s k / 16)), .int .u8 (hexI (bt s k % 16))] := by
    simp [Lib.strCells, strOfNums, hexI]
  rw [← e3]
  exact enc_other s k h hp
theorem encTo_all (s : ByteArray) (k : Nat) (h : s.size ≤ k) (h0 : s.toList.isEmpty = false) : encTo s k = Wd.quote s.data.toList := by
  unfold encTo
  rw [take_all s k h, quote_of s h0]
theorem quote59_empty (w : World) (s : ByteArray) (h : s.toList.isEmpty = true) :
    Calls Tryd.prog 59 #[.string s] w fun e w' => e = .returned (.string ⟨(Wd.quote s.data.toList).toArray⟩) ∧ Below w.heap.size w w' := by
  have e : Wd.quote s.data.toList = [37, 45] := by rw [empty_iff] at h; simp [Wd.quote, h]
  have E := Lib.hid e
  clear e
  go_enter Tryd.func59, Tryd.ntmps59
  go_wp2_with fail
  go_ret
  exact ⟨by rw [E.out]; rfl, Below.refl _ _⟩
theorem cells_three (w : World) (a b c : Value) : ∀ j u, [a, b, c][j]? = some u → (w.alloc (.cells #[a, b, c] 5)).cell? ((⟨w.heap.size, 0, none⟩ : Addr).add j) = some u := by
  intro j u hj
  match j, hj with
  | 0, hj => simp at hj; subst hj; simp [Addr.add]
  | 1, hj => simp at hj; subst hj; simp [Addr.add]
  | 2, hj => simp at hj; subst hj; simp [Addr.add]
theorem one_three (a b c : Int) : ∀ u ∈ [Value.int .u8 a, Value.int .u8 b, Value.int .u8 c], u.oneCell' = true := by
  intro u hu; simp at hu; rcases hu with rfl | rfl | rfl <;> rfl
theorem cells_one (w : World) (a : Value) (t : TypeId) : ∀ j u, [a][j]? = some u → (w.alloc (.cells #[a] t)).cell? ((⟨w.heap.size, 0, none⟩ : Addr).add j) = some u := by
  intro j u hj
  match j, hj with
  | 0, hj => simp at hj; subst hj; simp [Addr.add]
set_option maxHeartbeats 1600000 in
set_option maxRecDepth 100000 in
theorem quote59_some (s : ByteArray) (w : World) (h0 : s.toList.isEmpty = false) (hs : s.size ≤ 4194304) :
    Calls Tryd.prog 59 #[.string s] w fun e w' => e = .returned (.string ⟨(Wd.quote s.data.toList).toArray⟩) ∧ Below w.heap.size w w' := by
  have hbt := get_bt s
  obtain ⟨i0, hi, hz0, hz1, hz2⟩ := info_parts info5
  have HI5 := Lib.hid hi
  have HZ0 := Lib.hid hz0
  have HZ1 := Lib.hid hz1
  have HZ2 := Lib.hid hz2
  clear hi hz0 hz1 hz2
  go_enter Tryd.func59, Tryd.ntmps59
  go_wp2_with fail
  go_loopw [3, 4] (fun v i wr => ∃ k : Nat, k ≤ s.size ∧ i = .int .i64 k ∧ wr.ownsRow w.heap.size 5 1 v (encTo s k).length (Lib.byteCells (encTo s k)) ∧ Below w.heap.size w wr) (fun _ i _ => s.size - (intOf i).toNat)
  case atStart => exact ⟨0, Nat.zero_le _, rfl, own_empty w, (Below.refl _ _).alloc (Nat.le_refl _) _⟩
  case round =>
    obtain ⟨k, hk, rfl, hI, hb⟩ := hrel
    have HI := Lib.hid hI
    clear hI
    have b0 := bt_nonneg s k
    have b1 := bt_le s k
    have hlen := Lib.hid (encTo_len s k)
    by_cases hlt : k < s.size
    · cases hp : plainI (bt s k)
      · have HP := Lib.hid hp
        clear hp
        have hq1 : IntKind.u8.wrap ((bt s k).tdiv 16) = bt s k / 16 := by rw [Int.tdiv_eq_ediv_of_nonneg b0, IntKind.wrap_u8]; omega
        have hq2 : (bt s k).tmod 16 = bt s k % 16 := Int.tmod_eq_emod_of_nonneg b0
        have ix1 := ixHex (bt s k / 16) (by omega) (by omega)
        have ix2 := ixHex (bt s k % 16) (by omega) (by omega)
        go_wp2_with fail
        refine (plain74 _ _ b0 b1).mono ?_
        rintro e w' ⟨rfl, rfl⟩
        rw [HP.out]
        go_wp2_with fail
        have L1 := Lib.hid (show (encTo s k).length + 3 ≤ maxLen by have := hlen.out; unfold maxLen; omega)
        have L2 := Lib.hid (show ((encTo s k).length + 3) * 1 ≤ 140737488355328 by have := hlen.out; omega)
        have L3 := Lib.hid (show w.heap.size ≤ wr.heap.size + 1 by have := hb.size; omega)
        go_region_law (refine step_append_lies _ rfl (.tmp 24) (.tmp 31) 75 rfl w.heap.size 5 i0 (.int .u8 0) 1 1 Tryd.underlying75 HI5.out HZ0.out HZ1.out HZ2.out rfl (by decide) u3 (encTo s k).length (Lib.byteCells (encTo s k)) rfl (by exact own_drew (HI.out.alloc _)) ⟨wr.heap.size, 0, none⟩ 3 3 [.int .u8 37, .int .u8 (hexI (bt s k / 16)), .int .u8 (hexI (bt s k % 16))] rfl rfl (by exact cells_three wr _ _ _) (by exact one_three _ _ _) (by decide) L1.out L2.out (by exact Nat.le_trans L3.out (by simp)) _ rfl ?_; intro g cap w3 hown' hgrow hat hlt3)
        all_goals
          have HO := Lib.hid hown'
          clear hown'
          have hb3 := (hb.drew.alloc hb.size _).grown hgrow (by have := hb.size; simp; omega) (fun k hk => (HI.out.lt k hk).1)
          clear hgrow hat hlt3
          go_wp2_with fail
          go_roundw
          case rel =>
            refine ⟨k + 1, by omega, by go_num, ?_, hb3⟩
            have e := encTo_other s k hlt HP.out
            have el := congrArg List.length e
            rw [Lib.byteCells_length, List.length_append, Lib.byteCells_length] at el
            rw [e, el]
            exact HO.out
          case measure => simp [intOf]; omega
      · have HP := Lib.hid hp
        clear hp
        go_wp2_with fail
        refine (plain74 _ _ b0 b1).mono ?_
        rintro e w' ⟨rfl, rfl⟩
        rw [HP.out]
        go_wp2_with (at_builtin; refine wpList_append_own _ rfl _ _ 75 rfl w.heap.size 5 i0 (.int .u8 0) 1 1 Tryd.underlying75 HI5.out HZ0.out HZ1.out HZ2.out rfl (by decide) _ _ _ rfl (HI.out.alloc _) ⟨wr.heap.size, 0, none⟩ 1 1 [.int .u8 (bt s k)] rfl rfl ?c1 ?c2 ?c3 ?c4 ?c5 ?_)
        case c1 => exact cells_one wr _ 5
        case c2 => intro u hu; simp at hu; subst hu; rfl
        case c3 => have := hlen.out; unfold maxLen; omega
        case c4 => have := hlen.out; omega
        case c5 => have := hb.size; simp; omega
        intro v' w3 hown' hgrow hnil
        clear hnil
        have HO := Lib.hid hown'
        clear hown'
        have hb3 := (hb.alloc hb.size _).grown hgrow (by have := hb.size; simp; omega) (fun k hk => (HI.out.lt k hk).1)
        clear hgrow
        go_wp2_with fail
        go_roundw
        case rel =>
          refine ⟨k + 1, by omega, by go_num, ?_, hb3⟩
          have e := encTo_plain s k hlt HP.out
          have el := congrArg List.length e
          rw [Lib.byteCells_length, List.length_append, Lib.byteCells_length] at el
          rw [e, el]
          exact HO.out
        case measure => simp [intOf]; omega
    · have ht := encTo_all s k (by omega) h0
      rw [ht] at HI
      clear ht
      have hcv := conv_own HI.out
      go_wp2_with fail
      go_ret
      exact ⟨rfl, hb⟩
theorem quote59 (s : ByteArray) (w : World) (hs : s.size ≤ 4194304) :
    Calls Tryd.prog 59 #[.string s] w fun e w' => e = .returned (.string ⟨(Wd.quote s.data.toList).toArray⟩) ∧ Below w.heap.size w w' := by
  cases h : s.toList.isEmpty
  · exact quote59_some s w h hs
  · exact quote59_empty w s h
end Go.Proofs.YtgbjldkbbbjnkaaDoor.Q3
