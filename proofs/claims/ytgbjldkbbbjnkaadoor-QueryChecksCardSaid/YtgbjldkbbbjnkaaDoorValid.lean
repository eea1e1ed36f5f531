/-
  The two notions of a valid string are one: what utf8.ValidString answers, and the reference's own walk over the encodings.
-/
import Derived.Test.YtgbjldkbbbjnkaaDoorLabel
import Derived.Lib.ValidLaws
namespace Go.Proofs.YtgbjldkbbbjnkaaDoor
open Go.RowKit Go.PlainAid

/-! Numbers. -/
def ptN (b0 b1 b2 b3 : Int) : Int :=
  if 240 ≤ b0 then (((b0 - 240) * 64 + b1 % 64) * 64 + b2 % 64) * 64 + b3 % 64
  else if 224 ≤ b0 then ((b0 - 224) * 64 + b1 % 64) * 64 + b2 % 64
  else if 192 ≤ b0 then (b0 - 192) * 64 + b1 % 64
  else b0
def OkN (n b0 b1 b2 b3 : Int) : Prop := (lenI b0 : Int) ≤ n ∧ scalarB (ptN b0 b1 b2 b3) = true ∧ encN (ptN b0 b1 b2 b3) = [b0, b1, b2, b3].take (lenI b0)
theorem scal_iff (p : Int) : scalarB p = true ↔ 0 ≤ p ∧ p ≤ 1114111 ∧ (p < 55296 ∨ 57343 < p) := by
  unfold scalarB
  simp [and_assoc]
theorem enc1 {p : Int} (h : p < 128) : encN p = [p] := by unfold encN; rw [if_pos h]
theorem enc2 {p : Int} (h : 128 ≤ p) (h' : p < 2048) : encN p = [192 + p / 64, 128 + p % 64] := by unfold encN; rw [if_neg (by omega), if_pos h']
theorem enc3 {p : Int} (h : 2048 ≤ p) (h' : p < 65536) : encN p = [224 + p / 4096, 128 + p / 64 % 64, 128 + p % 64] := by unfold encN; rw [if_neg (by omega), if_neg (by omega), if_pos h']
theorem enc4 {p : Int} (h : 65536 ≤ p) : encN p = [240 + p / 262144, 128 + p / 4096 % 64, 128 + p / 64 % 64, 128 + p % 64] := by unfold encN; rw [if_neg (by omega), if_neg (by omega), if_neg (by omega)]
theorem enc_len (p : Int) : (p < 128 ∧ (encN p).length = 1) ∨ (128 ≤ p ∧ p < 2048 ∧ (encN p).length = 2) ∨ (2048 ≤ p ∧ p < 65536 ∧ (encN p).length = 3) ∨ (65536 ≤ p ∧ (encN p).length = 4) := by
  rcases Int.lt_or_le p 128 with h | h
  · exact .inl ⟨h, by rw [enc1 h]; rfl⟩
  rcases Int.lt_or_le p 2048 with h2 | h2
  · exact .inr (.inl ⟨h, h2, by rw [enc2 h h2]; rfl⟩)
  rcases Int.lt_or_le p 65536 with h3 | h3
  · exact .inr (.inr (.inl ⟨h2, h3, by rw [enc3 h2 h3]; rfl⟩))
  · exact .inr (.inr (.inr ⟨h3, by rw [enc4 h3]; rfl⟩))
section
variable {n b0 b1 b2 b3 : Int}
theorem okN1 (h : b0 < 192) (h' : 128 ≤ b0) : ¬ OkN n b0 b1 b2 b3 := fun ⟨_, _, h2⟩ => by
  have hl : lenI b0 = 1 := by unfold lenI; rw [if_neg (by omega), if_neg (by omega), if_neg (by omega)]
  have hp : ptN b0 b1 b2 b3 = b0 := by unfold ptN; rw [if_neg (by omega), if_neg (by omega), if_neg (by omega)]
  rw [hl, hp] at h2
  have := congrArg List.length h2
  simp only [List.take_succ_cons, List.take_zero, List.length_cons, List.length_nil] at this
  have := enc_len b0
  omega
theorem okN2 (h : 192 ≤ b0) (h' : b0 < 224) (h1 : 0 ≤ b1 ∧ b1 < 256) : OkN n b0 b1 b2 b3 ↔ 2 ≤ n ∧ 194 ≤ b0 ∧ 128 ≤ b1 ∧ b1 ≤ 191 := by
  have hl : lenI b0 = 2 := by unfold lenI; rw [if_neg (by omega), if_neg (by omega), if_pos h]
  have hp : ptN b0 b1 b2 b3 = (b0 - 192) * 64 + b1 % 64 := by unfold ptN; rw [if_neg (by omega), if_neg (by omega), if_pos h]
  unfold OkN
  rw [hl, hp, scal_iff]
  generalize hq : (b0 - 192) * 64 + b1 % 64 = p
  have e : [b0, b1, b2, b3].take 2 = [b0, b1] := rfl
  rw [e]
  constructor
  · rintro ⟨hn, _, h2⟩
    have hlen := congrArg List.length h2
    simp only [List.length_cons, List.length_nil] at hlen
    have hc := enc_len p
    have hp1 : 128 ≤ p ∧ p < 2048 := by omega
    rw [enc2 hp1.1 hp1.2] at h2
    simp only [List.cons.injEq, and_true] at h2
    omega
  · rintro ⟨hn, h2, h3, h4⟩
    refine ⟨hn, by omega, ?_⟩
    rw [enc2 (by omega) (by omega)]
    simp only [List.cons.injEq, and_true]
    omega
theorem okN3 (h : 224 ≤ b0) (h' : b0 < 240) (h1 : 0 ≤ b1 ∧ b1 < 256) (h2' : 0 ≤ b2 ∧ b2 < 256) : OkN n b0 b1 b2 b3 ↔ 3 ≤ n ∧ 128 ≤ b1 ∧ b1 ≤ 191 ∧ 128 ≤ b2 ∧ b2 ≤ 191 ∧ (b0 = 224 → 160 ≤ b1) ∧ (b0 = 237 → b1 ≤ 159) := by
  have hl : lenI b0 = 3 := by unfold lenI; rw [if_neg (by omega), if_pos h]
  have hp : ptN b0 b1 b2 b3 = ((b0 - 224) * 64 + b1 % 64) * 64 + b2 % 64 := by unfold ptN; rw [if_neg (by omega), if_pos h]
  unfold OkN
  rw [hl, hp, scal_iff]
  generalize hq : ((b0 - 224) * 64 + b1 % 64) * 64 + b2 % 64 = p
  have e : [b0, b1, b2, b3].take 3 = [b0, b1, b2] := rfl
  rw [e]
  constructor
  · rintro ⟨hn, hs, h2⟩
    have hlen := congrArg List.length h2
    simp only [List.length_cons, List.length_nil] at hlen
    have hc := enc_len p
    have hp1 : 2048 ≤ p ∧ p < 65536 := by omega
    rw [enc3 hp1.1 hp1.2] at h2
    simp only [List.cons.injEq, and_true] at h2
    omega
  · rintro ⟨hn, h3, h4, h5, h6, h7, h8⟩
    refine ⟨hn, by omega, ?_⟩
    rw [enc3 (by omega) (by omega)]
    simp only [List.cons.injEq, and_true]
    omega
theorem okN4 (h : 240 ≤ b0) (h' : b0 < 256) (h1 : 0 ≤ b1 ∧ b1 < 256) (h2' : 0 ≤ b2 ∧ b2 < 256) (h3' : 0 ≤ b3 ∧ b3 < 256) : OkN n b0 b1 b2 b3 ↔ 4 ≤ n ∧ b0 ≤ 244 ∧ 128 ≤ b1 ∧ b1 ≤ 191 ∧ 128 ≤ b2 ∧ b2 ≤ 191 ∧ 128 ≤ b3 ∧ b3 ≤ 191 ∧ (b0 = 240 → 144 ≤ b1) ∧ (b0 = 244 → b1 ≤ 143) := by
  have hl : lenI b0 = 4 := by unfold lenI; rw [if_pos h]
  have hp : ptN b0 b1 b2 b3 = (((b0 - 240) * 64 + b1 % 64) * 64 + b2 % 64) * 64 + b3 % 64 := by unfold ptN; rw [if_pos h]
  unfold OkN
  rw [hl, hp, scal_iff]
  generalize hq : (((b0 - 240) * 64 + b1 % 64) * 64 + b2 % 64) * 64 + b3 % 64 = p
  have e : [b0, b1, b2, b3].take 4 = [b0, b1, b2, b3] := rfl
  rw [e]
  constructor
  · rintro ⟨hn, hs, h2⟩
    have hlen := congrArg List.length h2
    simp only [List.length_cons, List.length_nil] at hlen
    have hc := enc_len p
    have hp1 : 65536 ≤ p := by omega
    rw [enc4 hp1] at h2
    simp only [List.cons.injEq, and_true] at h2
    omega
  · rintro ⟨hn, hb, h3, h4, h5, h6, h7, h8, h9, h10⟩
    refine ⟨hn, by omega, ?_⟩
    rw [enc4 (by omega)]
    simp only [List.cons.injEq, and_true]
    omega
end
/-- At a lead byte from 128 on both notions go on, by as many bytes, or both say no. -/
theorem check_ok (n b0 b1 b2 b3 : Nat) (h0 : 128 ≤ b0) (h0' : b0 < 256) (h1 : b1 < 256) (h2 : b2 < 256) (h3 : b3 < 256) :
    (Lib.checkN n b1 b2 b3 (Lib.firstT b0 % 8) (Lib.accLo (Lib.firstT b0 / 16)) (Lib.accHi (Lib.firstT b0 / 16)) = some (lenI b0) ∧ OkN n b0 b1 b2 b3) ∨
    (Lib.checkN n b1 b2 b3 (Lib.firstT b0 % 8) (Lib.accLo (Lib.firstT b0 / 16)) (Lib.accHi (Lib.firstT b0 / 16)) = none ∧ ¬ OkN n b0 b1 b2 b3) := by
  have two : ∀ lo hi, 192 ≤ b0 → b0 < 224 → Lib.firstT b0 % 8 = 2 → Lib.accLo (Lib.firstT b0 / 16) = lo → Lib.accHi (Lib.firstT b0 / 16) = hi → (OkN n b0 b1 b2 b3 ↔ ¬ (n < 2 ∨ b1 < lo ∨ hi < b1)) →
      (Lib.checkN n b1 b2 b3 (Lib.firstT b0 % 8) (Lib.accLo (Lib.firstT b0 / 16)) (Lib.accHi (Lib.firstT b0 / 16)) = some (lenI b0) ∧ OkN n b0 b1 b2 b3) ∨ (Lib.checkN n b1 b2 b3 (Lib.firstT b0 % 8) (Lib.accLo (Lib.firstT b0 / 16)) (Lib.accHi (Lib.firstT b0 / 16)) = none ∧ ¬ OkN n b0 b1 b2 b3) := fun lo hi hx hy e1 e2 e3 hk => by
    have hl : lenI (b0 : Int) = 2 := by unfold lenI; rw [if_neg (by omega), if_neg (by omega), if_pos (by omega)]
    rw [e1, e2, e3, hl, hk]
    unfold Lib.checkN
    rw [if_pos rfl]
    by_cases c : n < 2 ∨ b1 < lo ∨ hi < b1
    · exact .inr ⟨by rw [if_pos c], fun h => h c⟩
    · exact .inl ⟨by rw [if_neg c], c⟩
  have three : ∀ lo hi, 224 ≤ b0 → b0 < 240 → Lib.firstT b0 % 8 = 3 → Lib.accLo (Lib.firstT b0 / 16) = lo → Lib.accHi (Lib.firstT b0 / 16) = hi → (OkN n b0 b1 b2 b3 ↔ ¬ (n < 3 ∨ b1 < lo ∨ hi < b1 ∨ b2 < 128 ∨ 191 < b2)) →
      (Lib.checkN n b1 b2 b3 (Lib.firstT b0 % 8) (Lib.accLo (Lib.firstT b0 / 16)) (Lib.accHi (Lib.firstT b0 / 16)) = some (lenI b0) ∧ OkN n b0 b1 b2 b3) ∨ (Lib.checkN n b1 b2 b3 (Lib.firstT b0 % 8) (Lib.accLo (Lib.firstT b0 / 16)) (Lib.accHi (Lib.firstT b0 / 16)) = none ∧ ¬ OkN n b0 b1 b2 b3) := fun lo hi hx hy e1 e2 e3 hk => by
    have hl : lenI (b0 : Int) = 3 := by unfold lenI; rw [if_neg (by omega), if_pos (by omega)]
    rw [e1, e2, e3, hl, hk]
    unfold Lib.checkN
    rw [if_neg (by omega), if_pos rfl]
    by_cases c : n < 3 ∨ b1 < lo ∨ hi < b1 ∨ b2 < 128 ∨ 191 < b2
    · exact .inr ⟨by rw [if_pos c], fun h => h c⟩
    · exact .inl ⟨by rw [if_neg c], c⟩
  have four : ∀ lo hi, 240 ≤ b0 → Lib.firstT b0 % 8 = 4 → Lib.accLo (Lib.firstT b0 / 16) = lo → Lib.accHi (Lib.firstT b0 / 16) = hi → (OkN n b0 b1 b2 b3 ↔ ¬ (n < 4 ∨ b1 < lo ∨ hi < b1 ∨ b2 < 128 ∨ 191 < b2 ∨ b3 < 128 ∨ 191 < b3)) →
      (Lib.checkN n b1 b2 b3 (Lib.firstT b0 % 8) (Lib.accLo (Lib.firstT b0 / 16)) (Lib.accHi (Lib.firstT b0 / 16)) = some (lenI b0) ∧ OkN n b0 b1 b2 b3) ∨ (Lib.checkN n b1 b2 b3 (Lib.firstT b0 % 8) (Lib.accLo (Lib.firstT b0 / 16)) (Lib.accHi (Lib.firstT b0 / 16)) = none ∧ ¬ OkN n b0 b1 b2 b3) := fun lo hi hx e1 e2 e3 hk => by
    have hl : lenI (b0 : Int) = 4 := by unfold lenI; rw [if_pos (by omega)]
    rw [e1, e2, e3, hl, hk]
    unfold Lib.checkN
    rw [if_neg (by omega), if_neg (by omega), if_pos rfl]
    by_cases c : n < 4 ∨ b1 < lo ∨ hi < b1 ∨ b2 < 128 ∨ 191 < b2 ∨ b3 < 128 ∨ 191 < b3
    · exact .inr ⟨by rw [if_pos c], fun h => h c⟩
    · exact .inl ⟨by rw [if_neg c], c⟩
  by_cases c0 : b0 < 194
  · refine .inr ⟨by simp [Lib.firstT, Lib.checkN, show ¬ b0 < 128 by omega, c0], ?_⟩
    by_cases c : b0 < 192
    · exact okN1 (by omega) (by omega)
    · rw [okN2 (by omega) (by omega) ⟨by omega, by omega⟩]
      omega
  by_cases c1 : b0 < 224
  · exact two 128 191 (by omega) (by omega) (by simp [Lib.firstT, show ¬ b0 < 128 by omega, c0, c1]) (by simp [Lib.firstT, Lib.accLo, show ¬ b0 < 128 by omega, c0, c1]) (by simp [Lib.firstT, Lib.accHi, show ¬ b0 < 128 by omega, c0, c1]) (by rw [okN2 (by omega) (by omega) ⟨by omega, by omega⟩]; omega)
  by_cases c2 : b0 = 224
  · subst c2; exact three 160 191 (by omega) (by omega) (by decide) (by decide) (by decide) (by rw [okN3 (by omega) (by omega) ⟨by omega, by omega⟩ ⟨by omega, by omega⟩]; omega)
  by_cases c3 : b0 < 237
  · exact three 128 191 (by omega) (by omega) (by simp [Lib.firstT, show ¬ b0 < 128 by omega, c0, c1, c2, c3]) (by simp [Lib.firstT, Lib.accLo, show ¬ b0 < 128 by omega, c0, c1, c2, c3]) (by simp [Lib.firstT, Lib.accHi, show ¬ b0 < 128 by omega, c0, c1, c2, c3]) (by rw [okN3 (by omega) (by omega) ⟨by omega, by omega⟩ ⟨by omega, by omega⟩]; omega)
  by_cases c4 : b0 = 237
  · subst c4; exact three 128 159 (by omega) (by omega) (by decide) (by decide) (by decide) (by rw [okN3 (by omega) (by omega) ⟨by omega, by omega⟩ ⟨by omega, by omega⟩]; omega)
  by_cases c5 : b0 < 240
  · exact three 128 191 (by omega) (by omega) (by simp [Lib.firstT, show ¬ b0 < 128 by omega, c0, c1, c2, c3, c4, c5]) (by simp [Lib.firstT, Lib.accLo, show ¬ b0 < 128 by omega, c0, c1, c2, c3, c4, c5]) (by simp [Lib.firstT, Lib.accHi, show ¬ b0 < 128 by omega, c0, c1, c2, c3, c4, c5]) (by rw [okN3 (by omega) (by omega) ⟨by omega, by omega⟩ ⟨by omega, by omega⟩]; omega)
  by_cases c6 : b0 = 240
  · subst c6; exact four 144 191 (by omega) (by decide) (by decide) (by decide) (by rw [okN4 (by omega) (by omega) ⟨by omega, by omega⟩ ⟨by omega, by omega⟩ ⟨by omega, by omega⟩]; omega)
  by_cases c7 : b0 < 244
  · exact four 128 191 (by omega) (by simp [Lib.firstT, show ¬ b0 < 128 by omega, c0, c1, c2, c3, c4, c5, c6, c7]) (by simp [Lib.firstT, Lib.accLo, show ¬ b0 < 128 by omega, c0, c1, c2, c3, c4, c5, c6, c7]) (by simp [Lib.firstT, Lib.accHi, show ¬ b0 < 128 by omega, c0, c1, c2, c3, c4, c5, c6, c7]) (by rw [okN4 (by omega) (by omega) ⟨by omega, by omega⟩ ⟨by omega, by omega⟩ ⟨by omega, by omega⟩]; omega)
  by_cases c8 : b0 = 244
  · subst c8; exact four 128 143 (by omega) (by decide) (by decide) (by decide) (by rw [okN4 (by omega) (by omega) ⟨by omega, by omega⟩ ⟨by omega, by omega⟩ ⟨by omega, by omega⟩]; omega)
  · refine .inr ⟨by simp [Lib.firstT, Lib.checkN, show ¬ b0 < 128 by omega, c0, c1, c2, c3, c4, c5, c6, c7, c8], ?_⟩
    rw [okN4 (by omega) (by omega) ⟨by omega, by omega⟩ ⟨by omega, by omega⟩ ⟨by omega, by omega⟩]
    omega
/-! Strings. -/
theorem bt_range (s : ByteArray) (k : Nat) : 0 ≤ bt s k ∧ bt s k < 256 := by
  unfold bt
  split
  · rename_i h
    have := (s[k]'h).toNat_lt
    omega
  · omega
theorem drop_bt (s : ByteArray) (k j : Nat) : (((s.data.toList.drop k).getD j 0).toNat : Int) = bt s (k + j) := by
  rw [List.getD_eq_getElem?_getD, List.getElem?_drop]
  rcases Nat.lt_or_ge (k + j) s.size with h | h
  · rw [← get_bt s (k + j) h, List.getElem?_eq_getElem (by rw [size_list]; exact h)]
    rfl
  · rw [List.getElem?_eq_none (by rw [size_list]; exact h)]
    unfold bt
    rw [dif_neg (by omega)]
    rfl
theorem enc_range {p : Int} (h : scalarB p = true) : ∀ x ∈ encN p, 0 ≤ x ∧ x < 256 := by
  rw [scal_iff] at h
  have hc := enc_len p
  rcases Int.lt_or_le p 128 with h1 | h1
  · rw [enc1 h1]; simp; omega
  rcases Int.lt_or_le p 2048 with h2 | h2
  · rw [enc2 h1 h2]; simp; omega
  rcases Int.lt_or_le p 65536 with h3 | h3
  · rw [enc3 h2 h3]; simp; omega
  · rw [enc4 h3]; simp; omega
theorem bytes_inj : ∀ (xs ys : List Int), (∀ x ∈ xs, 0 ≤ x ∧ x < 256) → (∀ x ∈ ys, 0 ≤ x ∧ x < 256) → (xs.map fun n => UInt8.ofNat n.toNat) = (ys.map fun n => UInt8.ofNat n.toNat) → xs = ys
  | [], [], _, _, _ => rfl
  | [], _ :: _, _, _, h => by simp at h
  | _ :: _, [], _, _, h => by simp at h
  | x :: xs, y :: ys, hx, hy, h => by
    rw [List.map_cons, List.map_cons, List.cons.injEq] at h
    have h1 := congrArg UInt8.toNat h.1
    have a := hx x (List.mem_cons_self ..)
    have b := hy y (List.mem_cons_self ..)
    rw [UInt8.toNat_ofNat', UInt8.toNat_ofNat'] at h1
    rw [bytes_inj xs ys (fun z hz => hx z (List.mem_cons_of_mem _ hz)) (fun z hz => hy z (List.mem_cons_of_mem _ hz)) h.2]
    congr 1
    omega
theorem piece_bt (s : ByteArray) : ∀ (m k : Nat), k + m ≤ s.size → (s.data.toList.drop k).take m = ((List.range m).map fun j => bt s (k + j)).map fun n => UInt8.ofNat n.toNat := fun m k h => by
  apply List.ext_getElem?
  intro j
  rw [List.getElem?_take]
  split
  · rename_i hj
    rw [List.getElem?_drop, List.getElem?_map, List.getElem?_map, List.getElem?_range hj, List.getElem?_eq_getElem (by rw [size_list]; omega)]
    simp only [Option.map_some, Option.some.injEq]
    rw [← get_bt s (k + j) (by omega)]
    simp
    rfl
  · rename_i hj
    rw [List.getElem?_eq_none (by simp; omega)]
theorem frOk_iff (s : ByteArray) (k : Nat) (hk : k ≤ s.size) : FrOk s k ↔ OkN ((s.size - k : Nat) : Int) (bt s k) (bt s (k + 1)) (bt s (k + 2)) (bt s (k + 3)) := by
  have hp : ptI s k = ptN (bt s k) (bt s (k + 1)) (bt s (k + 2)) (bt s (k + 3)) := rfl
  have hl : lenI (bt s k) ≤ 4 := by
    unfold lenI
    split
    · omega
    · split
      · omega
      · split <;> omega
  unfold FrOk OkN
  rw [hp]
  generalize ptN (bt s k) (bt s (k + 1)) (bt s (k + 2)) (bt s (k + 3)) = p
  generalize lenI (bt s k) = m at hl
  have e : (k + m ≤ s.size) ↔ ((m : Int) ≤ ((s.size - k : Nat) : Int)) := by omega
  rw [← e]
  constructor
  · rintro ⟨h1, h2, h3⟩
    refine ⟨h1, h2, ?_⟩
    have h4 := congrArg (fun b : ByteArray => b.data.toList) h3
    simp only [strOfNums_data] at h4
    rw [Lib.extract_data, Nat.add_sub_cancel_left, piece_bt s m k h1] at h4
    have h5 := bytes_inj _ _ (enc_range h2) (fun x hx => by obtain ⟨j, _, rfl⟩ := List.mem_map.1 hx; exact bt_range _ _) h4
    rw [h5]
    match m, hl with
    | 0, _ => rfl
    | 1, _ => rfl
    | 2, _ => rfl
    | 3, _ => rfl
    | 4, _ => rfl
  · rintro ⟨h1, h2, h3⟩
    refine ⟨h1, h2, ?_⟩
    have h5 : encN p = (List.range m).map fun j => bt s (k + j) := by
      rw [h3]
      match m, hl with
      | 0, _ => rfl
      | 1, _ => rfl
      | 2, _ => rfl
      | 3, _ => rfl
      | 4, _ => rfl
    rw [h5]
    apply ByteArray.ext
    apply Array.toList_inj.1
    rw [strOfNums_data, Lib.extract_data, Nat.add_sub_cancel_left, piece_bt s m k h1]
theorem okFrom_step (s : ByteArray) (k : Nat) (hk : k < s.size) : OkFrom s k ↔ FrOk s k ∧ OkFrom s (k + lenI (bt s k)) := by
  constructor
  · intro h
    cases h with
    | done h => omega
    | step _ h1 h2 => exact ⟨h1, h2⟩
  · rintro ⟨h1, h2⟩
    exact .step hk h1 h2
theorem valid_ok (s : ByteArray) : ∀ (m k : Nat), s.size - k ≤ m → (Lib.validD (s.data.toList.drop k) = true ↔ OkFrom s k)
  | m, k, hm => by
    rcases Nat.lt_or_ge k s.size with hk | hk
    case inr =>
      rw [List.drop_of_length_le (by rw [size_list]; exact hk), Lib.validD_nil]
      exact ⟨fun _ => .done hk, fun _ => rfl⟩
    match m, hm with
    | 0, hm => omega
    | m + 1, hm =>
    have hne : s.data.toList.drop k ≠ [] := fun e => by
      have := congrArg List.length e
      rw [List.length_drop, size_list] at this
      simp at this
      omega
    have d0 := drop_bt s k 0
    have d1 := drop_bt s k 1
    have d2 := drop_bt s k 2
    have d3 := drop_bt s k 3
    have dl : (s.data.toList.drop k).length = s.size - k := by rw [List.length_drop, size_list]
    have hp := lenI_pos (bt s k)
    rw [okFrom_step s k hk, frOk_iff s k (by omega)]
    rw [Nat.add_zero] at d0
    rcases Nat.lt_or_ge ((s.data.toList.drop k).getD 0 0).toNat 128 with hb | hb
    · have hlen : lenI (bt s k) = 1 := by unfold lenI; rw [if_neg (by omega), if_neg (by omega), if_neg (by omega)]
      have ih := valid_ok s m (k + 1) (by omega)
      have hpt : ptN (bt s k) (bt s (k + 1)) (bt s (k + 2)) (bt s (k + 3)) = bt s k := by unfold ptN; rw [if_neg (by omega), if_neg (by omega), if_neg (by omega)]
      have hok : OkN ((s.size - k : Nat) : Int) (bt s k) (bt s (k + 1)) (bt s (k + 2)) (bt s (k + 3)) := by
        refine ⟨by rw [hlen]; omega, by rw [hpt, scal_iff]; omega, ?_⟩
        rw [hpt, hlen, enc1 (by omega)]
        rfl
      have hv : Lib.validD (s.data.toList.drop k) = Lib.validD (s.data.toList.drop (k + 1)) := by
        rw [← List.drop_drop]
        cases hd : s.data.toList.drop k with
        | nil => exact absurd hd hne
        | cons b t =>
          rw [hd] at hb
          exact Lib.validD_cons b t hb
      rw [hv, ih, hlen]
      exact ⟨fun h => ⟨hok, h⟩, fun h => h.2⟩
    · have hx := Lib.validD_lead _ hne hb
      have hc := check_ok (s.data.toList.drop k).length ((s.data.toList.drop k).getD 0 0).toNat ((s.data.toList.drop k).getD 1 0).toNat ((s.data.toList.drop k).getD 2 0).toNat ((s.data.toList.drop k).getD 3 0).toNat hb (UInt8.toNat_lt _) (UInt8.toNat_lt _) (UInt8.toNat_lt _) (UInt8.toNat_lt _)
      rw [d0, d1, d2, d3] at hc
      rw [dl] at hc hx
      rcases hc with ⟨c1, c2⟩ | ⟨c1, c2⟩
      · rw [c1] at hx
        simp only at hx
        rw [hx, List.drop_drop, valid_ok s m (k + lenI (bt s k)) (by omega)]
        exact ⟨fun h => ⟨c2, h⟩, fun h => h.2⟩
      · rw [c1] at hx
        simp only at hx
        rw [hx]
        exact ⟨(fun h => by cases h), fun h => absurd h.1 c2⟩
end Go.Proofs.YtgbjldkbbbjnkaaDoor
