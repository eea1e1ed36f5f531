/-
  Hexadecimal digits: what digit of the reference and strings.IndexByte return; and what the loops of Unquote hold.
-/
import Derived.Test.YtkkacgabikbedaaDoorQuoteR
namespace Go.Proofs.YtkkacgabikbedaaDoor
open Go.RowKit Go.PlainAid

/-- The value of a digit, or -1. -/
def hexvI (c : Int) : Int := match Wd.hexv (UInt8.ofNat c.toNat) with | some x => (x : Int) | none => -1
theorem hexvI_bd (c : Int) : -1 ≤ hexvI c ∧ hexvI c ≤ 15 := by
  unfold hexvI
  split
  · rename_i x hx; have := Wd.hexv_lt hx; omega
  · omega
theorem index_hex : ∀ n : Nat, n < 256 → Lib.indexByte [48, 49, 50, 51, 52, 53, 54, 55, 56, 57, 97, 98, 99, 100, 101, 102] n.toUInt8 = hexvI (n : Int) := by decide +kernel
theorem index16 (c : Int) (w : World) (h0 : 0 ≤ c) (h1 : c ≤ 255) : Calls Tryd.prog 34 #[.string { data := #[48, 49, 50, 51, 52, 53, 54, 55, 56, 57, 97, 98, 99, 100, 101, 102] }, .int .u8 c] w fun e w' => e = .returned (.int .i64 (hexvI c)) ∧ w' = w := by
  refine (Tryd.strings_IndexByte _ c w).mono fun e w' ⟨he, hw⟩ => ⟨?_, hw⟩
  rw [he]
  obtain ⟨n, rfl⟩ := Int.eq_ofNat_of_zero_le h0
  exact ret_int (index_hex n (by omega))
theorem ixHex64 (c : Int) (h0 : 0 ≤ c) (h1 : c ≤ 15) (w : World) : (Instr.index 9 (.string { data := #[48, 49, 50, 51, 52, 53, 54, 55, 56, 57, 97, 98, 99, 100, 101, 102] }) (.int .i64 c)).run Tryd.prog w = .ok (.int .u8 (hexI c)) w := by
  obtain ⟨n, rfl⟩ := Int.eq_ofNat_of_zero_le h0
  rcases (show n = 0 ∨ n = 1 ∨ n = 2 ∨ n = 3 ∨ n = 4 ∨ n = 5 ∨ n = 6 ∨ n = 7 ∨ n = 8 ∨ n = 9 ∨ n = 10 ∨ n = 11 ∨ n = 12 ∨ n = 13 ∨ n = 14 ∨ n = 15 by omega) with rfl | rfl | rfl | rfl | rfl | rfl | rfl | rfl | rfl | rfl | rfl | rfl | rfl | rfl | rfl | rfl
  all_goals (clear h0 h1; show Sem.run _ _ _ = _; kernel_rfl)
/-- No digit below j is c. -/
def NoneTo (c : Int) (j : Nat) : Prop := ∀ m : Nat, m < j → hexI (m : Int) ≠ c
theorem hexI_hit {c : Int} {j : Nat} (h0 : 0 ≤ c) (h1 : c ≤ 255) (hj : j < 16) (h : hexI (j : Int) = c) : hexvI c = (j : Int) := by
  subst h
  unfold hexvI hexI
  rw [Int.toNat_natCast, Int.toNat_natCast, UInt8.ofNat_toNat, Wd.hexv_hexd hj]
theorem hexI_miss {c : Int} (h0 : 0 ≤ c) (h1 : c ≤ 255) (h : NoneTo c 16) : hexvI c = -1 := by
  unfold hexvI
  split
  · rename_i x hx
    exfalso
    have hl := Wd.hexv_lt hx
    refine h x hl ?_
    unfold hexI
    rw [Int.toNat_natCast, Wd.hexd_hexv hx, UInt8.toNat_ofNat']
    omega
  · rfl
theorem NoneTo.succ {c : Int} {j : Nat} (h : NoneTo c j) (hj : ¬ hexI (j : Int) = c) : NoneTo c (j + 1) := fun m hm => by
  by_cases e : m = j
  · subst e; exact hj
  · exact h m (by omega)
set_option maxHeartbeats 800000 in
theorem digit35 (c : Int) (w : World) (h0 : 0 ≤ c) (h1 : c ≤ 255) : Calls Tryd.prog 35 #[.int .u8 c] w fun e w' => e = .returned (.int .i64 (hexvI c)) ∧ w' = w := by
  go_enter Tryd.func35, Tryd.ntmps35
  go_wp2
  go_loop [3] (fun i => ∃ j : Nat, j ≤ 16 ∧ i = .int .i64 j ∧ NoneTo c j) (fun i => (16 - intOf i).toNat)
  case atStart => exact ⟨0, by omega, rfl, fun m hm => by omega⟩
  case round =>
    obtain ⟨j, hj, rfl, hn⟩ := hrel
    have HN := Lib.hid hn
    clear hn
    by_cases hlt : j < 16
    · have ix := ixHex64 (j : Int) (by omega) (by omega)
      by_cases hc : hexI (j : Int) = c
      · have hr := Lib.hid (hexI_hit h0 h1 hlt hc)
        have hb : (hexI (j : Int) == c) = true := by simpa using hc
        clear hc
        go_wp2
        go_ret
        exact ⟨by rw [hr.out]; rfl, rfl⟩
      · have hb : (hexI (j : Int) == c) = false := by simpa using hc
        have HC := Lib.hid hc
        clear hc
        go_wp2
        go_round
        case rel => exact ⟨j + 1, by omega, by go_num, HN.out.succ HC.out⟩
        case measure => simp [intOf]; omega
    · obtain rfl : j = 16 := by omega
      have hr := Lib.hid (hexI_miss h0 h1 HN.out)
      go_wp2
      go_ret
      exact ⟨by rw [hr.out]; rfl, rfl⟩

/-! What the loops of Unquote hold: k bytes are read, and say acc. -/
def UnqInv (s : ByteArray) (k : Nat) (acc : List UInt8) : Prop := Wd.unq s.data.toList = (Wd.unq (s.data.toList.drop k)).map (acc ++ ·) ∧ acc.length ≤ k
/-- What Unquote returns. -/
def uqS (l : List UInt8) : List UInt8 := (Wd.unquote l).getD []
def uqB (l : List UInt8) : Bool := (Wd.unquote l).isSome
theorem UnqInv.start (s : ByteArray) : UnqInv s 0 [] := ⟨by simp, by simp⟩
theorem map_snoc (o : Option (List UInt8)) (acc : List UInt8) (c : UInt8) : (o.map (c :: ·)).map (acc ++ ·) = o.map ((acc ++ [c]) ++ ·) := by cases o <;> simp
theorem UnqInv.plain {s : ByteArray} {k : Nat} {acc : List UInt8} (h : UnqInv s k acc) (hk : k < s.size) (hp : plainI (bt s k) = true) : UnqInv s (k + 1) (acc ++ [s[k]]) := by
  rw [plain_bt s k hk] at hp
  refine ⟨?_, by have := h.2; simp; omega⟩
  rw [h.1, drop_cons s k hk, Wd.unq_plain hp, map_snoc]
theorem byte_at (s : ByteArray) (k : Nat) (h : k < s.size) : UInt8.ofNat (bt s k).toNat = s[k] := by rw [bt_of s k h, Int.toNat_natCast, UInt8.ofNat_toNat]
theorem bt_37 {s : ByteArray} {k : Nat} (h : k < s.size) (hc : bt s k = 37) : s[k] = 37 := by
  rw [bt_of s k h] at hc
  apply UInt8.toNat_inj.1
  show s[k].toNat = 37
  omega
theorem dec_val (a b : UInt8) {x y : Int} (hx : hexvI (a.toNat : Int) = x) (hy : hexvI (b.toNat : Int) = y) :
    Wd.dec a b = if x < 0 ∨ y < 0 then none else if plainI (16 * x + y) = true then none else some (UInt8.ofNat (16 * x + y).toNat) := by
  subst hx hy
  unfold hexvI Wd.dec plainI
  rw [Int.toNat_natCast, Int.toNat_natCast, UInt8.ofNat_toNat, UInt8.ofNat_toNat]
  cases ha : Wd.hexv a with
  | none => simp
  | some x =>
    cases hb : Wd.hexv b with
    | none => simp
    | some y =>
      have e : (16 * (x : Int) + (y : Int)).toNat = 16 * x + y := by omega
      simp only [e]
      rw [if_neg (show ¬ (((x : Nat) : Int) < 0 ∨ ((y : Nat) : Int) < 0) by omega)]
theorem drop_three {s : ByteArray} {k : Nat} (hk : k + 2 < s.size) (hc : bt s k = 37) : s.data.toList.drop k = 37 :: s[k + 1] :: s[k + 2] :: s.data.toList.drop (k + 3) := by
  rw [drop_cons s k (by omega), bt_37 (by omega) hc, drop_cons s (k + 1) (by omega), drop_cons s (k + 2) hk]
theorem UnqInv.esc {s : ByteArray} {k : Nat} {acc : List UInt8} (h : UnqInv s k acc) (hk : k + 2 < s.size) (hc : bt s k = 37) {x y : Int} (hx : hexvI (bt s (k + 1)) = x) (hy : hexvI (bt s (k + 2)) = y)
    (x0 : 0 ≤ x) (y0 : 0 ≤ y) (hp : plainI (16 * x + y) = false) : UnqInv s (k + 3) (acc ++ [UInt8.ofNat (16 * x + y).toNat]) := by
  refine ⟨?_, by have := h.2; simp; omega⟩
  rw [bt_of s (k + 1) (by omega)] at hx
  rw [bt_of s (k + 2) hk] at hy
  have hd := dec_val _ _ hx hy
  rw [if_neg (by omega), hp] at hd
  rw [h.1, drop_three hk hc, Wd.unq_esc, hd]
  exact map_snoc _ _ _
theorem UnqInv.fail_esc {s : ByteArray} {k : Nat} {acc : List UInt8} (h : UnqInv s k acc) (hk : k + 2 < s.size) (hc : bt s k = 37) {x y : Int} (hx : hexvI (bt s (k + 1)) = x) (hy : hexvI (bt s (k + 2)) = y)
    (hp : x < 0 ∨ y < 0 ∨ plainI (16 * x + y) = true) : Wd.unq s.data.toList = none := by
  rw [bt_of s (k + 1) (by omega)] at hx
  rw [bt_of s (k + 2) hk] at hy
  have hd := dec_val _ _ hx hy
  rw [h.1, drop_three hk hc, Wd.unq_esc, hd]
  by_cases hn : x < 0 ∨ y < 0
  · rw [if_pos hn]; rfl
  · have hpp : plainI (16 * x + y) = true := by
      rcases hp with hp | hp | hp
      · exact absurd (.inl hp) hn
      · exact absurd (.inr hp) hn
      · exact hp
    rw [if_neg hn, if_pos hpp]; rfl
theorem UnqInv.fail_other {s : ByteArray} {k : Nat} {acc : List UInt8} (h : UnqInv s k acc) (hk : k < s.size) (hp : plainI (bt s k) = false) (hc : ¬ bt s k = 37) : Wd.unq s.data.toList = none := by
  rw [plain_bt s k hk] at hp
  rw [h.1, drop_cons s k hk, Wd.unq_bad hp (fun e => hc (by rw [bt_of s k hk, e]; rfl))]; rfl
theorem UnqInv.fail_short {s : ByteArray} {k : Nat} {acc : List UInt8} (h : UnqInv s k acc) (hk : k < s.size) (hc : bt s k = 37) (hl : s.size ≤ k + 2) : Wd.unq s.data.toList = none := by
  rw [h.1, drop_cons s k hk, bt_37 hk hc, Wd.unq_short (by rw [List.length_drop, size_list]; omega)]; rfl
theorem UnqInv.fin {s : ByteArray} {k : Nat} {acc : List UInt8} (h : UnqInv s k acc) (hk : s.size ≤ k) : Wd.unq s.data.toList = some acc := by
  rw [h.1, drop_all s k hk]; simp [Wd.unq]
theorem uq_none {s : ByteArray} (h1 : s.data.toList ≠ [37, 45]) (h : Wd.unq s.data.toList = none) : uqS s.data.toList = [] ∧ uqB s.data.toList = false := by
  unfold uqS uqB Wd.unquote
  rw [if_neg h1]
  split
  · exact ⟨rfl, rfl⟩
  · rw [h]; exact ⟨rfl, rfl⟩
theorem uq_some {s : ByteArray} {acc : List UInt8} (h1 : s.data.toList ≠ [37, 45]) (h0 : s.data.toList.isEmpty = false) (h : Wd.unq s.data.toList = some acc) : uqS s.data.toList = acc ∧ uqB s.data.toList = true ∧ 0 < acc.length := by
  have hf := Wd.flat_unq _ _ _ (Nat.le_refl _) h
  have hacc : acc ≠ [] := by
    rintro rfl
    simp only [List.flatMap_nil] at hf
    rw [← hf] at h0
    simp at h0
  unfold uqS uqB Wd.unquote
  rw [if_neg h1, if_neg (by rw [h0]; decide), h]
  exact ⟨rfl, rfl, List.length_pos_iff.2 hacc⟩
theorem uq_empty {s : ByteArray} (h0 : s.data.toList.isEmpty = true) : uqS s.data.toList = [] ∧ uqB s.data.toList = false := by
  have e : s.data.toList = [] := by simpa using h0
  rw [e]; exact ⟨rfl, rfl⟩
theorem uq_minus {s : ByteArray} (h1 : s.data.toList = [37, 45]) : uqS s.data.toList = [] ∧ uqB s.data.toList = true := by rw [h1]; exact ⟨rfl, rfl⟩
end Go.Proofs.YtkkacgabikbedaaDoor
