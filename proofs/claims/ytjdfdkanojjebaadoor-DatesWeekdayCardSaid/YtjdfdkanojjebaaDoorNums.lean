/-
  What digits and number of dates and of its reference return: the digits of a number, and the number of digits.
-/
import Derived.Test.YtjdfdkanojjebaaDoorCiv
import Derived.ShutString
import Derived.Laws.BytesArg
namespace Go.Proofs.YtjdfdkanojjebaaDoor
open Go.RowKit

theorem ret_string {a b : ByteArray} (h : a = b) : Ending.returned (.string a) = .returned (.string b) := by rw [h]
theorem ret_int {k : IntKind} {a b : Int} (h : a = b) : Ending.returned (.int k a) = .returned (.int k b) := by rw [h]
theorem dig_of (n : Int) : UInt8.ofNat (48 + n % 10).toNat = Dt.dig n := by
  have := Dt.mod10 n
  unfold Dt.dig
  congr 1
  omega
theorem nums_two (n : Int) : strOfNums [48 + n / 10 % 10, 48 + n % 10] = ⟨(Dt.digs n 2).toArray⟩ := by
  simp [strOfNums, Dt.digs, dig_of]
theorem nums_four (n : Int) : strOfNums [48 + n / 10 / 10 / 10 % 10, 48 + n / 10 / 10 % 10, 48 + n / 10 % 10, 48 + n % 10] = ⟨(Dt.digs n 4).toArray⟩ := by
  simp [strOfNums, Dt.digs, dig_of]

theorem nums_app (xs ys : List Int) : strOfNums xs ++ strOfNums ys = strOfNums (xs ++ ys) := by
  apply ByteArray.ext
  simp [strOfNums, ByteArray.data_append]
theorem nums_nil : (⟨#[]⟩ : ByteArray) = strOfNums [] := rfl
theorem conv1 (w : World) (g : Nat) (a : Int) (hg : g = w.heap.size) : (convert 38 9 (.slice (some ⟨g, 0, none⟩) 1 1)).run Tryd.prog (w.alloc (.cells #[.int .u8 a] 5)) = .ok (.string (strOfNums [a])) (w.alloc (.cells #[.int .u8 a] 5)) := by
  subst hg
  refine run_convert_bytes_arg _ 38 5 Tryd.underlying38 Tryd.underlying5 _ 0 1 1 [a] rfl ?_ 9 Tryd.underlying9
  intro i hi
  match i, hi with
  | 0, _ => simp [World.cell?_alloc_new]
theorem conv2 (w : World) (a b : Int) : (convert 38 9 (.slice (some ⟨w.heap.size, 0, none⟩) 2 2)).run Tryd.prog (w.alloc (.cells #[.int .u8 a, .int .u8 b] 5)) = .ok (.string (strOfNums [a, b])) (w.alloc (.cells #[.int .u8 a, .int .u8 b] 5)) := by
  refine run_convert_bytes_arg _ 38 5 Tryd.underlying38 Tryd.underlying5 _ 0 2 2 [a, b] rfl ?_ 9 Tryd.underlying9
  intro i hi
  match i, hi with
  | 0, _ => simp [World.cell?_alloc_new]
  | 1, _ => simp [World.cell?_alloc_new]
theorem conv4 (w : World) (a b c d : Int) : (convert 38 9 (.slice (some ⟨w.heap.size, 0, none⟩) 4 4)).run Tryd.prog (w.alloc (.cells #[.int .u8 a, .int .u8 b, .int .u8 c, .int .u8 d] 5)) = .ok (.string (strOfNums [a, b, c, d])) (w.alloc (.cells #[.int .u8 a, .int .u8 b, .int .u8 c, .int .u8 d] 5)) := by
  refine run_convert_bytes_arg _ 38 5 Tryd.underlying38 Tryd.underlying5 _ 0 4 4 [a, b, c, d] rfl ?_ 9 Tryd.underlying9
  intro i hi
  match i, hi with
  | 0, _ => simp [World.cell?_alloc_new]
  | 1, _ => simp [World.cell?_alloc_new]
  | 2, _ => simp [World.cell?_alloc_new]
  | 3, _ => simp [World.cell?_alloc_new]

set_option maxHeartbeats 800000 in
theorem digits30_2 (n : Int) (w : World) (h0 : 0 ≤ n) (h1 : n < 100) :
    Calls Tryd.prog 30 #[.int .i64 n, .int .i64 2] w fun e w' => e = .returned (.string ⟨(Dt.digs n 2).toArray⟩) ∧ Below w.heap.size w w' := by
  have hmk : ∀ u : World, (Instr.makeSlice 38 (.int .i64 2) (.int .i64 2)).run Tryd.prog u = .ok (.slice (some ⟨u.heap.size, 0, none⟩) 2 2) (u.alloc (.cells #[.int .u8 0, .int .u8 0] 5)) := fun _ => by kernel_rfl
  have hcv := conv2 w
  go_enter Tryd.func30, Tryd.ntmps30
  go_wp2
  go_rounds 3
  go_ret
  exact ⟨ret_string (nums_two n), by go_grown⟩
set_option maxHeartbeats 800000 in
theorem digits30_4 (n : Int) (w : World) (h0 : 0 ≤ n) (h1 : n < 10000) :
    Calls Tryd.prog 30 #[.int .i64 n, .int .i64 4] w fun e w' => e = .returned (.string ⟨(Dt.digs n 4).toArray⟩) ∧ Below w.heap.size w w' := by
  have hmk : ∀ u : World, (Instr.makeSlice 38 (.int .i64 4) (.int .i64 4)).run Tryd.prog u = .ok (.slice (some ⟨u.heap.size, 0, none⟩) 4 4) (u.alloc (.cells #[.int .u8 0, .int .u8 0, .int .u8 0, .int .u8 0] 5)) := fun _ => by kernel_rfl
  have hcv := conv4 w
  go_enter Tryd.func30, Tryd.ntmps30
  go_wp2
  go_rounds 5
  go_ret
  exact ⟨ret_string (nums_four n), by go_grown⟩
set_option maxHeartbeats 800000 in
theorem digits31_2 (n : Int) (w : World) (h0 : 0 ≤ n) (h1 : n < 100) :
    Calls Tryd.prog 31 #[.int .i64 n, .int .i64 2] w fun e w' => e = .returned (.string ⟨(Dt.digs n 2).toArray⟩) ∧ Below w.heap.size w w' := by
  have hcv := conv1
  go_enter Tryd.func31, Tryd.ntmps31
  go_wp2
  go_rounds 3
  go_ret
  exact ⟨ret_string (by rw [nums_nil, nums_app, nums_app, ← nums_two]; rfl), by go_grown⟩
set_option maxHeartbeats 800000 in
theorem digits31_4 (n : Int) (w : World) (h0 : 0 ≤ n) (h1 : n < 10000) :
    Calls Tryd.prog 31 #[.int .i64 n, .int .i64 4] w fun e w' => e = .returned (.string ⟨(Dt.digs n 4).toArray⟩) ∧ Below w.heap.size w w' := by
  have hcv := conv1
  go_enter Tryd.func31, Tryd.ntmps31
  go_wp2
  go_rounds 5
  go_ret
  exact ⟨ret_string (by rw [nums_nil, nums_app, nums_app, nums_app, nums_app, ← nums_four]; rfl), by go_grown⟩

/-- All are digits. -/
def allD (l : List UInt8) : Bool := l.all Dt.isDig
/-- What number reads. -/
def numV (l : List UInt8) : Int := if allD l = true then Dt.val l else 0
theorem take_snoc (s : ByteArray) (k : Nat) (h : k < s.size) : s.data.toList.take (k + 1) = s.data.toList.take k ++ [s[k]] := by
  rw [List.take_succ_eq_append_getElem (by simpa using h)]; rfl
theorem size_list (s : ByteArray) : s.data.toList.length = s.size := by rw [Array.length_toList]; rfl
theorem take_all (s : ByteArray) (k : Nat) (h : s.size ≤ k) : s.data.toList.take k = s.data.toList := List.take_of_length_le (by rw [size_list]; exact h)
theorem isDig_iff (c : UInt8) : Dt.isDig c = true ↔ 48 ≤ (c.toNat : Int) ∧ (c.toNat : Int) ≤ 57 := by
  unfold Dt.isDig; simp; omega
theorem all_take_succ (s : ByteArray) (k : Nat) (h : k < s.size) (ha : allD (s.data.toList.take k) = true) (h1 : 48 ≤ (s[k].toNat : Int)) (h2 : (s[k].toNat : Int) ≤ 57) :
    allD (s.data.toList.take (k + 1)) = true := by
  unfold allD at *
  rw [take_snoc s k h, List.all_append, ha]
  simp [(isDig_iff _).2 ⟨h1, h2⟩]
theorem all_not (s : ByteArray) (k : Nat) (h : k < s.size) (hn : (s[k].toNat : Int) < 48 ∨ 57 < (s[k].toNat : Int)) : allD s.data.toList = false := by
  unfold allD
  rw [List.all_eq_false]
  refine ⟨s[k], ?_, fun hd => by have := (isDig_iff _).1 hd; omega⟩
  have : s[k] = s.data.toList[k]'(by rw [size_list]; exact h) := rfl
  rw [this]
  exact List.getElem_mem _
theorem pow_more (k d : Nat) : 0 < (10 : Int) ^ k ∧ (10 : Int) ^ k ≤ 10 ^ (k + d) := by
  have hp : ∀ k : Nat, 0 < (10 : Int) ^ k := fun k => by
    induction k with
    | zero => decide
    | succ k ih => rw [Int.pow_succ]; omega
  refine ⟨hp k, ?_⟩
  induction d with
  | zero => exact Int.le_refl _
  | succ d ih => have := hp (k + d); rw [← Nat.add_assoc, Int.pow_succ]; omega
theorem val_take_bd (s : ByteArray) (k : Nat) (hk : k ≤ s.size) (hs : s.size ≤ 10) (ha : allD (s.data.toList.take k) = true) : 0 ≤ Dt.val (s.data.toList.take k) ∧ Dt.val (s.data.toList.take k) < 10000000000 := by
  have h := Dt.val_bd _ ha
  have hl : (s.data.toList.take k).length = k := by
    rw [List.length_take, size_list]; omega
  rw [hl] at h
  have hp := (pow_more k (10 - k)).2
  rw [show k + (10 - k) = 10 by omega] at hp
  have : (10 : Int) ^ 10 = 10000000000 := by decide
  omega
theorem val_take_succ (s : ByteArray) (k : Nat) (h : k < s.size) : Dt.val (s.data.toList.take (k + 1)) = Dt.val (s.data.toList.take k) * 10 + ((s[k].toNat : Int) - 48) := by
  rw [take_snoc s k h, Dt.val_snoc]
theorem ret_num {n : Int} {b : Bool} {l : List UInt8} (h1 : n = numV l) (h2 : b = allD l) : Ending.returned (.tuple #[.int .i64 n, .bool b]) = .returned (.tuple #[.int .i64 (numV l), .bool (allD l)]) := by rw [h1, h2]
theorem numV_no {l : List UInt8} (h : allD l = false) : 0 = numV l := by unfold numV; rw [h]; rfl
theorem numV_yes {l : List UInt8} (h : allD l = true) : Dt.val l = numV l := by unfold numV; rw [if_pos h]
set_option maxHeartbeats 800000 in
theorem number28 (s : ByteArray) (w : World) (hs : s.size ≤ 10) :
    Calls Tryd.prog 28 #[.string s] w fun e w' => e = .returned (.tuple #[.int .i64 (numV s.data.toList), .bool (allD s.data.toList)]) ∧ w = w' := by
  go_enter Tryd.func28, Tryd.ntmps28
  go_wp2
  go_loop [4, 8] (fun n i => ∃ k : Nat, k ≤ s.size ∧ i = .int .i64 k ∧ allD (s.data.toList.take k) = true ∧ n = .int .i64 (Dt.val (s.data.toList.take k))) (fun _ i => s.size - (intOf i).toNat)
  case atStart => exact ⟨0, Nat.zero_le _, rfl, rfl, rfl⟩
  case round =>
    obtain ⟨k, hk, rfl, ha, rfl⟩ := hrel
    have vb := val_take_bd s k hk hs ha
    have HA := Lib.hid ha
    clear ha
    by_cases hlt : k < s.size
    · by_cases hd1 : (s[k].toNat : Int) < 48
      · go_wp2
        go_ret2
        exact ⟨ret_num (numV_no (all_not s k hlt (.inl hd1))) (all_not s k hlt (.inl hd1)).symm, rfl⟩
      · by_cases hd2 : 57 < (s[k].toNat : Int)
        · go_wp2
          go_ret2
          exact ⟨ret_num (numV_no (all_not s k hlt (.inr hd2))) (all_not s k hlt (.inr hd2)).symm, rfl⟩
        · go_wp2
          go_round
          case rel => exact ⟨k + 1, by omega, by go_num, all_take_succ s k hlt HA.out (by omega) (by omega), by rw [val_take_succ s k hlt]; go_num⟩
          case measure => simp [intOf]; omega
    · have ht := take_all s k (by omega)
      have HT := Lib.hid ht
      clear ht
      go_wp2
      go_ret2
      have h1 := HA.out
      rw [HT.out] at h1
      exact ⟨ret_num (by rw [HT.out]; exact numV_yes h1) h1.symm, rfl⟩
/-- What the reference's number reads. -/
def numR (l : List UInt8) : Int := if allD l = true then Dt.val l else -1
theorem numR_no {l : List UInt8} (h : allD l = false) : -1 = numR l := by unfold numR; rw [h]; rfl
theorem numR_yes {l : List UInt8} (h : allD l = true) : Dt.val l = numR l := by unfold numR; rw [if_pos h]
set_option maxHeartbeats 800000 in
theorem number29 (s : ByteArray) (w : World) (hs : s.size ≤ 10) :
    Calls Tryd.prog 29 #[.string s] w fun e w' => e = .returned (.int .i64 (numR s.data.toList)) ∧ w = w' := by
  go_enter Tryd.func29, Tryd.ntmps29
  go_wp2
  go_loop [3, 4] (fun n i => ∃ k : Nat, k ≤ s.size ∧ i = .int .i64 k ∧ allD (s.data.toList.take k) = true ∧ n = .int .i64 (Dt.val (s.data.toList.take k))) (fun _ i => s.size - (intOf i).toNat)
  case atStart => exact ⟨0, Nat.zero_le _, rfl, rfl, rfl⟩
  case round =>
    obtain ⟨k, hk, rfl, ha, rfl⟩ := hrel
    have vb := val_take_bd s k hk hs ha
    have HA := Lib.hid ha
    clear ha
    by_cases hlt : k < s.size
    · by_cases hd1 : (s[k].toNat : Int) < 48
      · go_wp2
        go_ret
        exact ⟨ret_int (numR_no (all_not s k hlt (.inl hd1))), rfl⟩
      · by_cases hd2 : 57 < (s[k].toNat : Int)
        · go_wp2
          go_ret
          exact ⟨ret_int (numR_no (all_not s k hlt (.inr hd2))), rfl⟩
        · go_wp2
          go_round
          case rel => exact ⟨k + 1, by omega, by go_num, all_take_succ s k hlt HA.out (by omega) (by omega), by rw [val_take_succ s k hlt]⟩
          case measure => simp [intOf]; omega
    · have ht := take_all s k (by omega)
      have HT := Lib.hid ht
      clear ht
      go_wp2
      go_ret
      have h1 := HA.out
      rw [HT.out] at h1
      exact ⟨ret_int (by rw [HT.out]; exact numR_yes h1), rfl⟩
end Go.Proofs.YtjdfdkanojjebaaDoor
