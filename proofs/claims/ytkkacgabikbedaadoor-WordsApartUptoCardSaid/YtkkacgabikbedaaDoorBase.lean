/-
  What the small functions of words and of its reference return: plain, digit; the digits' table; bytes turned to strings.
-/
import Derived.Test.YtkkacgabikbedaaDoorChecked
import Derived.Test.YtkkacgabikbedaaDoorPlain
import Derived.Test.YtkkacgabikbedaaDoorShelf
import Derived.WalkKit
import Derived.WalkSpells
import Derived.WalkLawsBesides
import Derived.Deep.QuietTactic
import Derived.BigQuiet
import Derived.Handy
import Derived.Lib.Hide
import Derived.StillTailTactics
import Derived.Laws.BytesArg
import Derived.PlainAid
namespace Go.Proofs.YtkkacgabikbedaaDoor
open Go.RowKit Go.PlainAid

def plainI (c : Int) : Bool := Wd.plain (UInt8.ofNat c.toNat)
def hexI (c : Int) : Int := ((Wd.hexd c.toNat).toNat : Int)
theorem plainI_eq {c : Int} (h0 : 0 ≤ c) (h1 : c ≤ 255) : plainI c = (decide (128 ≤ c) || (decide (33 ≤ c) && decide (c ≤ 126) && decide (c ≠ 37))) := by
  have e : (UInt8.ofNat c.toNat).toNat = c.toNat := by rw [UInt8.toNat_ofNat']; omega
  unfold plainI Wd.plain
  rw [e]
  have a1 : (128 ≤ c.toNat) = (128 ≤ c) := by apply propext; omega
  have a2 : (33 ≤ c.toNat) = (33 ≤ c) := by apply propext; omega
  have a3 : (c.toNat ≤ 126) = (c ≤ 126) := by apply propext; omega
  have a4 : (c.toNat ≠ 37) = (c ≠ 37) := by apply propext; omega
  simp only [a1, a2, a3, a4]
theorem ret_bool {a b : Bool} (h : a = b) : Ending.returned (.bool a) = .returned (.bool b) := by rw [h]
theorem ret_int {k : IntKind} {a b : Int} (h : a = b) : Ending.returned (.int k a) = .returned (.int k b) := by rw [h]
theorem ret_string {a b : ByteArray} (h : a = b) : Ending.returned (.string a) = .returned (.string b) := by rw [h]
set_option maxHeartbeats 800000 in
theorem plain29 (c : Int) (w : World) (h0 : 0 ≤ c) (h1 : c ≤ 255) : Calls Tryd.prog 29 #[.int .u8 c] w fun e w' => e = .returned (.bool (plainI c)) ∧ w = w' := by
  have hp := plainI_eq h0 h1
  by_cases a1 : 128 ≤ c
  · have e : plainI c = true := by rw [hp]; simp [a1]
    have HP := Lib.hid e
    clear hp e
    go_enter Tryd.func29, Tryd.ntmps29
    go_wp2
    go_ret
    exact ⟨by rw [HP.out]; rfl, rfl⟩
  · by_cases a2 : 32 < c
    · by_cases a3 : c < 127
      · by_cases a4 : c = 37
        · subst a4
          clear hp
          go_enter Tryd.func29, Tryd.ntmps29
          go_wp2
          go_ret
          exact ⟨rfl, rfl⟩
        · have e : plainI c = true := by rw [hp]; simp [a4]; omega
          have HP := Lib.hid e
          clear hp e
          have a5 : (c != 37) = true := by simpa using a4
          go_enter Tryd.func29, Tryd.ntmps29
          go_wp2
          go_ret
          exact ⟨by rw [HP.out]; rfl, rfl⟩
      · have e : plainI c = false := by rw [hp]; simp; omega
        have HP := Lib.hid e
        clear hp e
        go_enter Tryd.func29, Tryd.ntmps29
        go_wp2
        go_ret
        exact ⟨by rw [HP.out]; rfl, rfl⟩
    · have e : plainI c = false := by rw [hp]; simp; omega
      have HP := Lib.hid e
      clear hp e
      go_enter Tryd.func29, Tryd.ntmps29
      go_wp2
      go_ret
      exact ⟨by rw [HP.out]; rfl, rfl⟩
set_option maxHeartbeats 800000 in
theorem plain33 (c : Int) (w : World) (h0 : 0 ≤ c) (h1 : c ≤ 255) : Calls Tryd.prog 33 #[.int .u8 c] w fun e w' => e = .returned (.bool (plainI c)) ∧ w = w' := by
  have hp := plainI_eq h0 h1
  by_cases a1 : 128 ≤ c
  · have e : plainI c = true := by rw [hp]; simp [a1]
    have HP := Lib.hid e
    clear hp e
    go_enter Tryd.func33, Tryd.ntmps33
    go_wp2
    go_ret
    exact ⟨by rw [HP.out]; rfl, rfl⟩
  · by_cases a2 : 33 ≤ c
    · by_cases a3 : c ≤ 126
      · by_cases a4 : c = 37
        · subst a4
          clear hp
          go_enter Tryd.func33, Tryd.ntmps33
          go_wp2
          go_ret
          exact ⟨rfl, rfl⟩
        · have e : plainI c = true := by rw [hp]; simp [a4]; omega
          have HP := Lib.hid e
          clear hp e
          have a5 : (c != 37) = true := by simpa using a4
          go_enter Tryd.func33, Tryd.ntmps33
          go_wp2
          go_ret
          exact ⟨by rw [HP.out]; rfl, rfl⟩
      · have e : plainI c = false := by rw [hp]; simp; omega
        have HP := Lib.hid e
        clear hp e
        go_enter Tryd.func33, Tryd.ntmps33
        go_wp2
        go_ret
        exact ⟨by rw [HP.out]; rfl, rfl⟩
    · have e : plainI c = false := by rw [hp]; simp; omega
      have HP := Lib.hid e
      clear hp e
      go_enter Tryd.func33, Tryd.ntmps33
      go_wp2
      go_ret
      exact ⟨by rw [HP.out]; rfl, rfl⟩

theorem conv3 (w : World) (g : Nat) (a b c : Int) (hg : g = w.heap.size) : (convert 37 9 (.slice (some ⟨g, 0, none⟩) 3 3)).run Tryd.prog (w.alloc (.cells #[.int .u8 a, .int .u8 b, .int .u8 c] 5)) = .ok (.string (strOfNums [a, b, c])) (w.alloc (.cells #[.int .u8 a, .int .u8 b, .int .u8 c] 5)) := by
  subst hg
  refine run_convert_bytes_arg _ 37 5 Tryd.underlying37 Tryd.underlying5 _ 0 3 3 [a, b, c] rfl ?_ 9 Tryd.underlying9
  intro i hi
  match i, hi with
  | 0, _ => simp [World.cell?_alloc_new]
  | 1, _ => simp [World.cell?_alloc_new]
  | 2, _ => simp [World.cell?_alloc_new]
theorem ixHex (c : Int) (h0 : 0 ≤ c) (h1 : c ≤ 15) (w : World) : (Instr.index 9 (.string { data := #[48, 49, 50, 51, 52, 53, 54, 55, 56, 57, 97, 98, 99, 100, 101, 102] }) (.int .u8 c)).run Tryd.prog w = .ok (.int .u8 (hexI c)) w := by
  obtain ⟨n, rfl⟩ := Int.eq_ofNat_of_zero_le h0
  rcases (show n = 0 ∨ n = 1 ∨ n = 2 ∨ n = 3 ∨ n = 4 ∨ n = 5 ∨ n = 6 ∨ n = 7 ∨ n = 8 ∨ n = 9 ∨ n = 10 ∨ n = 11 ∨ n = 12 ∨ n = 13 ∨ n = 14 ∨ n = 15 by omega) with rfl | rfl | rfl | rfl | rfl | rfl | rfl | rfl | rfl | rfl | rfl | rfl | rfl | rfl | rfl | rfl
  all_goals (clear h0 h1; show Sem.run _ _ _ = _; kernel_rfl)
theorem and15 (c : Int) (h0 : 0 ≤ c) (h1 : c ≤ 255) : bits .and .u8 c 15 = c % 16 := by
  obtain ⟨n, rfl⟩ := Int.eq_ofNat_of_zero_le h0
  have h := u8_and_nat n 15 (by omega) (by omega)
  have e : n &&& 15 = n % 16 := Nat.and_two_pow_sub_one_eq_mod n 4
  rw [show ((15 : Nat) : Int) = 15 from rfl] at h
  rw [h, e]
  omega

/-! Bytes of a string, as numbers. -/
theorem bt_of (s : ByteArray) (k : Nat) (h : k < s.size) : bt s k = (s[k].toNat : Int) := (get_bt s k h).symm
theorem plain_bt (s : ByteArray) (k : Nat) (h : k < s.size) : plainI (bt s k) = Wd.plain s[k] := by
  rw [bt_of s k h]
  unfold plainI
  rw [Int.toNat_natCast, UInt8.ofNat_toNat]
theorem size_list (s : ByteArray) : s.data.toList.length = s.size := by rw [Array.length_toList]; rfl
theorem take_snoc (s : ByteArray) (k : Nat) (h : k < s.size) : s.data.toList.take (k + 1) = s.data.toList.take k ++ [s[k]] := by
  rw [List.take_succ_eq_append_getElem (by rw [size_list]; exact h)]; rfl
theorem take_all (s : ByteArray) (k : Nat) (h : s.size ≤ k) : s.data.toList.take k = s.data.toList := List.take_of_length_le (by rw [size_list]; exact h)
theorem drop_cons (s : ByteArray) (k : Nat) (h : k < s.size) : s.data.toList.drop k = s[k] :: s.data.toList.drop (k + 1) := by
  rw [List.drop_eq_getElem_cons (by rw [size_list]; exact h)]; rfl
theorem drop_all (s : ByteArray) (k : Nat) (h : s.size ≤ k) : s.data.toList.drop k = [] := List.drop_of_length_le (by rw [size_list]; exact h)
theorem empty_iff (s : ByteArray) : s.toList.isEmpty = s.data.toList.isEmpty := by rw [Lib.toList_data]
end Go.Proofs.YtkkacgabikbedaaDoor
