/-
  What Quote of words returns: the word of the string, for strings of at most 1048576 bytes.
-/
import Derived.Test.YtkkacgabikbedaaDoorBase
namespace Go.Proofs.YtkkacgabikbedaaDoor
open Go.RowKit Go.PlainAid

theorem enc_plain (s : ByteArray) (k : Nat) (h : k < s.size) (hp : plainI (bt s k) = true) : Lib.byteCells ((s.data.toList.take (k + 1)).flatMap Wd.enc) = Lib.byteCells ((s.data.toList.take k).flatMap Wd.enc) ++ [.int .u8 (bt s k)] := by
  rw [plain_bt s k h] at hp
  rw [take_snoc s k h, List.flatMap_append, bt_of s k h]
  simp [Wd.enc, hp, Lib.byteCells]
theorem enc_other (s : ByteArray) (k : Nat) (h : k < s.size) (hp : plainI (bt s k) = false) :
    Lib.byteCells ((s.data.toList.take (k + 1)).flatMap Wd.enc) = Lib.byteCells ((s.data.toList.take k).flatMap Wd.enc) ++ Lib.strCells (strOfNums [37, hexI (bt s k / 16), hexI (bt s k % 16)]) := by
  rw [plain_bt s k h] at hp
  have e1 : (bt s k / 16).toNat = s[k].toNat / 16 := by rw [bt_of s k h]; omega
  have e2 : (bt s k % 16).toNat = s[k].toNat % 16 := by rw [bt_of s k h]; omega
  rw [take_snoc s k h, List.flatMap_append]
  simp [Wd.enc, hp, Lib.byteCells, Lib.strCells, strOfNums, hexI, e1, e2]
theorem flat_take_len (s : ByteArray) (k : Nat) : ((s.data.toList.take k).flatMap Wd.enc).length ≤ 3 * s.size := by
  have h := Wd.flat_len (s.data.toList.take k)
  have h2 : (s.data.toList.take k).length ≤ s.size := by rw [List.length_take, size_list]; omega
  omega
theorem quote_of (s : ByteArray) (h : s.toList.isEmpty = false) : (s.data.toList.flatMap Wd.enc) = Wd.quote s.data.toList := by
  rw [empty_iff] at h
  simp [Wd.quote, h]
theorem quote13_empty (w : World) (s : ByteArray) (h : s.toList.isEmpty = true) :
    Calls Tryd.prog 13 #[.string s] w fun e w' => e = .returned (.string ⟨(Wd.quote s.data.toList).toArray⟩) ∧ Below w.heap.size w w' := by
  have e : Wd.quote s.data.toList = [37, 45] := by rw [empty_iff] at h; simp [Wd.quote, h]
  have E := Lib.hid e
  clear e
  go_enter Tryd.func13, Tryd.ntmps13
  go_wp2_with fail
  go_ret
  exact ⟨by rw [E.out]; rfl, Below.refl _ _⟩
set_option maxHeartbeats 800000 in
theorem quote13_some (s : ByteArray) (w : World) (h0 : s.toList.isEmpty = false) (hs : s.size ≤ 4194304) :
    Calls Tryd.prog 13 #[.string s] w fun e w' => e = .returned (.string ⟨(Wd.quote s.data.toList).toArray⟩) ∧ Below w.heap.size w w' := by
  have hbt := get_bt s
  go_enter Tryd.func13, Tryd.ntmps13
  go_wp2_with fail
  go_loopw [10] (fun i wr => ∃ k : Nat, k ≤ s.size ∧ i = .int .i64 k ∧ Lib.IsBuilderF 39 5 w.heap.size w.heap.size (Lib.byteCells ((s.data.toList.take k).flatMap Wd.enc)) wr ∧ Below w.heap.size w wr) (fun i _ => s.size - (intOf i).toNat)
  case atStart => exact ⟨0, Nat.zero_le _, rfl, Lib.IsBuilderF.of (Lib.fresh_isBuilder 39 5 w), (Below.refl _ _).alloc (Nat.le_refl _) _⟩
  case round =>
    obtain ⟨k, hk, rfl, hI, hb⟩ := hrel
    have HI := Lib.hid hI
    clear hI
    have b0 := bt_nonneg s k
    have b1 := bt_le s k
    have hlen := Lib.hid (flat_take_len s k)
    by_cases hlt : k < s.size
    · cases hp : plainI (bt s k)
      · have HP := Lib.hid hp
        clear hp
        have hand := and15 (bt s k) b0 b1
        have ix1 := ixHex (bt s k / 16) (by omega) (by omega)
        have ix2 := ixHex (bt s k % 16) (by omega) (by omega)
        go_wp2_with fail
        refine (plain29 _ _ b0 b1).mono ?_
        rintro e w' ⟨rfl, rfl⟩
        rw [HP.out]
        go_wp2_with fail
        go_still_tail 6, (by kernel_rfl)
        have HI2 := Lib.hid (show Lib.IsBuilderF 39 5 w.heap.size w.heap.size (Lib.byteCells ((s.data.toList.take k).flatMap Wd.enc)) wr.drew from HI.out)
        have hb2 := hb.drew
        change wpList _ _ _ _ _ wr.drew
        generalize wr.drew = w2 at HI2 hb2 ⊢
        have hcv := conv3
        go_wp2_with fail
        refine (Tryd.Builder_WriteString_k _ _ _ _ _ (Lib.IsBuilderF.alloc HI2.out _) ?_ ?_).mono ?_
        · rw [Lib.byteCells_length, strOfNums_size]; have := hlen.out; show _ + 3 ≤ _; omega
        · have := hb2.size; simp; omega
        rintro e w3 ⟨rfl, h3, hb3, hk3⟩
        go_wp2_with fail
        go_roundw
        case rel =>
          refine ⟨k + 1, by omega, by go_num, ?_, (hb2.alloc hb2.size _).trans hb3⟩
          rw [enc_other s k hlt HP.out]
          exact .inr h3
        case measure => simp [intOf]; omega
      · have HP := Lib.hid hp
        clear hp
        go_wp2_with fail
        refine (plain29 _ _ b0 b1).mono ?_
        rintro e w' ⟨rfl, rfl⟩
        rw [HP.out]
        go_wp2_with fail
        refine (Tryd.Builder_WriteByte_k _ _ _ _ _ HI.out ?_ ?_).mono ?_
        · rw [Lib.byteCells_length]; have := hlen.out; omega
        · exact hb.size
        rintro e w3 ⟨rfl, h3, hb3, hk3⟩
        go_wp2_with fail
        go_roundw
        case rel =>
          refine ⟨k + 1, by omega, by go_num, ?_, hb.trans hb3⟩
          rw [enc_plain s k hlt HP.out]
          exact .inr h3
        case measure => simp [intOf]; omega
    · have ht := take_all s k (by omega)
      rw [ht] at HI
      clear ht
      go_wp2_with fail
      refine (Tryd.Builder_String_any_k _ _ _ _ HI.out hb.size).mono ?_
      rintro e w3 ⟨rfl, h3, hb3, hk3⟩
      go_wp2_with fail
      go_ret
      exact ⟨by rw [← quote_of s h0]; rfl, hb.trans hb3⟩
theorem quote13 (s : ByteArray) (w : World) (hs : s.size ≤ 4194304) :
    Calls Tryd.prog 13 #[.string s] w fun e w' => e = .returned (.string ⟨(Wd.quote s.data.toList).toArray⟩) ∧ Below w.heap.size w w' := by
  cases h : s.toList.isEmpty
  · exact quote13_some s w h hs
  · exact quote13_empty w s h
end Go.Proofs.YtkkacgabikbedaaDoor
