/-
  What the reference's Unquote returns: the string of the word, if there is one, for words of at most 4194304 bytes.
-/
import Derived.Test.YtkkacgabikbedaaDoorUnquote
namespace Go.Proofs.YtkkacgabikbedaaDoor
open Go.RowKit Go.PlainAid

theorem unquote17_minus (s : ByteArray) (w : World) (h : (s.toList == [37, 45]) = true) : Calls Tryd.prog 17 #[.string s] w (UqOut s w) := by
  have hu := Lib.hid (uq_minus (s := s) (by rw [list_eq] at h; simpa using h))
  go_enter Tryd.func17, Tryd.ntmps17
  go_wp2_with fail
  go_ret2
  exact ⟨ret_uq (by rw [hu.out.1]) hu.out.2.symm, Below.refl _ _⟩
theorem unquote17_empty (s : ByteArray) (w : World) (h : (s.toList == [37, 45]) = false) (h0 : s.toList.isEmpty = true) : Calls Tryd.prog 17 #[.string s] w (UqOut s w) := by
  have hu := Lib.hid (uq_empty (s := s) (by rw [empty_iff] at h0; exact h0))
  go_enter Tryd.func17, Tryd.ntmps17
  go_wp2_with fail
  go_ret2
  exact ⟨ret_uq (by rw [hu.out.1]) hu.out.2.symm, Below.refl _ _⟩
set_option maxHeartbeats 1600000 in
theorem unquote17_other (s : ByteArray) (w : World) (hs : s.size ≤ 4194304) (h : (s.toList == [37, 45]) = false) (h0 : s.toList.isEmpty = false) : Calls Tryd.prog 17 #[.string s] w (UqOut s w) := by
  have hbt := get_bt s
  obtain ⟨i0, hi, hz0, hz1, hz2⟩ := info_parts info5
  have HI5 := Lib.hid hi
  have HZ0 := Lib.hid hz0
  have HZ1 := Lib.hid hz1
  have HZ2 := Lib.hid hz2
  clear hi hz0 hz1 hz2
  have HM := Lib.hid (show s.data.toList ≠ [37, 45] by rw [list_eq] at h; simpa using h)
  have HE := Lib.hid (show s.data.toList.isEmpty = false by rw [empty_iff] at h0; exact h0)
  go_enter Tryd.func17, Tryd.ntmps17
  go_wp2_with fail
  go_loopw [4, 5] (fun v i wr => ∃ (k : Nat) (acc : List UInt8), k ≤ s.size ∧ i = .int .i64 k ∧ wr.ownsRow w.heap.size 5 1 v acc.length (Lib.byteCells acc) ∧ UnqInv s k acc ∧ Below w.heap.size w wr) (fun _ i _ => s.size - (intOf i).toNat)
  case atStart => exact ⟨0, [], Nat.zero_le _, rfl, own_empty w, UnqInv.start s, (Below.refl _ _).alloc (Nat.le_refl _) _⟩
  case round =>
    obtain ⟨k, acc, hk, rfl, hI, hU, hb⟩ := hrel
    have hal := hU.2
    have HI := Lib.hid hI
    have HU := Lib.hid hU
    clear hI hU
    have b0 := bt_nonneg s k
    have b1 := bt_le s k
    by_cases hlt : k < s.size
    · by_cases h37 : bt s k = 37
      · have HC := Lib.hid h37
        have hc' : (bt s k != 37) = false := by rw [h37]; rfl
        clear h37
        by_cases hsh : s.size ≤ k + 2
        · have hn := Lib.hid (uq_none HM.out (HU.out.fail_short hlt HC.out hsh))
          go_wp2_with fail
          go_ret2
          exact ⟨ret_uq (by rw [hn.out.1]) hn.out.2.symm, hb⟩
        · have c0 := bt_nonneg s (k + 1)
          have c1 := bt_le s (k + 1)
          have d0 := bt_nonneg s (k + 2)
          have d1 := bt_le s (k + 2)
          have e1 : IntKind.i64.wrap ((k : Int) + 1) = (k : Int) + 1 := IntWalk.i64_in _ ⟨by omega, by omega⟩
          have e2 : IntKind.i64.wrap ((k : Int) + 2) = (k : Int) + 2 := IntWalk.i64_in _ ⟨by omega, by omega⟩
          have e3 : ((k : Int) + 1).toNat = k + 1 := by omega
          have e4 : ((k : Int) + 2).toNat = k + 2 := by omega
          have q1 : (0 : Int) ≤ (k : Int) + 1 := by omega
          have q2 : (0 : Int) ≤ (k : Int) + 2 := by omega
          have q3 : (k : Int) + 1 < (s.size : Int) := by omega
          have q4 : (k : Int) + 2 < (s.size : Int) := by omega
          obtain ⟨x, hx⟩ : ∃ x, hexvI (bt s (k + 1)) = x := ⟨_, rfl⟩
          obtain ⟨y, hy⟩ : ∃ y, hexvI (bt s (k + 2)) = y := ⟨_, rfl⟩
          have xb := hexvI_bd (bt s (k + 1))
          have yb := hexvI_bd (bt s (k + 2))
          rw [hx] at xb
          rw [hy] at yb
          have I1 := Lib.hid (fun w => digit35 (bt s (k + 1)) w c0 c1)
          have I2 := Lib.hid (fun w => digit35 (bt s (k + 2)) w d0 d1)
          rw [hx] at I1
          rw [hy] at I2
          have HX := Lib.hid hx
          have HY := Lib.hid hy
          clear hx hy
          by_cases hneg : x < 0 ∨ y < 0
          · have hn := Lib.hid (uq_none HM.out (HU.out.fail_esc (by omega) HC.out HX.out HY.out (by omega)))
            by_cases x0 : x < 0
            · clear hneg
              go_wp2_with fail
              go_quiet (first | (go_at_call 35; with_reducible exact Calls.quiet_of_same (I1.out _)) | (go_at_call 35; with_reducible exact Calls.quiet_of_same (I2.out _)))
              go_wp2_with fail
              go_ret2
              exact ⟨ret_uq (by rw [hn.out.1]) hn.out.2.symm, below_drewN hb _⟩
            · have y0 : y < 0 := by omega
              clear hneg
              go_wp2_with fail
              go_quiet (first | (go_at_call 35; with_reducible exact Calls.quiet_of_same (I1.out _)) | (go_at_call 35; with_reducible exact Calls.quiet_of_same (I2.out _)))
              go_wp2_with fail
              go_ret2
              exact ⟨ret_uq (by rw [hn.out.1]) hn.out.2.symm, below_drewN hb _⟩
          · have x0 : 0 ≤ x := by omega
            have y0 : 0 ≤ y := by omega
            clear hneg
            have hmod : (16 * x + y) % 256 = 16 * x + y := by omega
            cases hp2 : plainI (16 * x + y)
            · have HP2 := Lib.hid hp2
              clear hp2
              go_wp2_with fail
              go_quiet (first | (go_at_call 35; with_reducible exact Calls.quiet_of_same (I1.out _)) | (go_at_call 35; with_reducible exact Calls.quiet_of_same (I2.out _)))
              go_wp2_with fail
              refine (plain33 _ _ (by omega) (by omega)).mono ?_
              rintro e w' ⟨rfl, rfl⟩
              rw [HP2.out]
              have HI2 := Lib.hid (show (wr.drewN nq).ownsRow w.heap.size 5 1 u4 acc.length (Lib.byteCells acc) from HI.out)
              have hb2 := below_drewN hb nq
              generalize wr.drewN nq = w2 at HI2 hb2 ⊢
              go_wp2_with (at_builtin; refine wpList_append_own _ rfl _ _ 37 rfl w.heap.size 5 i0 (.int .u8 0) 1 1 Tryd.underlying37 HI5.out HZ0.out HZ1.out HZ2.out rfl (by decide) _ _ _ rfl (HI2.out.alloc _) ⟨w2.heap.size, 0, none⟩ 1 1 [.int .u8 (16 * x + y)] rfl rfl ?c1 ?c2 ?c3 ?c4 ?c5 ?_)
              case c1 => exact cells_one w2 _ 5
              case c2 => intro u hu; simp at hu; subst hu; rfl
              case c3 => unfold maxLen; omega
              case c4 => omega
              case c5 => have := hb2.size; simp; omega
              intro v' w3 hown' hgrow hnil
              clear hnil
              have HO := Lib.hid hown'
              clear hown'
              have hb3 := (hb2.alloc hb2.size _).grown hgrow (by have := hb2.size; simp; omega) (fun k hk => (HI2.out.lt k hk).1)
              clear hgrow
              go_wp2_with fail
              go_roundw
              case rel => exact ⟨k + 3, acc ++ [UInt8.ofNat (16 * x + y).toNat], by omega, by go_num, by rw [List.length_append, Lib.byteCells_append]; exact own_snoc x0 y0 xb.2 yb.2 HO.out, HU.out.esc (by omega) HC.out HX.out HY.out x0 y0 HP2.out, hb3⟩
              case measure => simp [intOf]; omega
            · have hn := Lib.hid (uq_none HM.out (HU.out.fail_esc (by omega) HC.out HX.out HY.out (.inr (.inr hp2))))
              have HP2 := Lib.hid hp2
              clear hp2
              go_wp2_with fail
              go_quiet (first | (go_at_call 35; with_reducible exact Calls.quiet_of_same (I1.out _)) | (go_at_call 35; with_reducible exact Calls.quiet_of_same (I2.out _)))
              go_wp2_with fail
              refine (plain33 _ _ (by omega) (by omega)).mono ?_
              rintro e w' ⟨rfl, rfl⟩
              rw [HP2.out]
              go_wp2_with fail
              go_ret2
              exact ⟨ret_uq (by rw [hn.out.1]) hn.out.2.symm, below_drewN hb _⟩
      · have hc' : (bt s k != 37) = true := by simpa using h37
        cases hp : plainI (bt s k)
        · have hn := Lib.hid (uq_none HM.out (HU.out.fail_other hlt hp h37))
          have HP := Lib.hid hp
          clear hp h37
          go_wp2_with fail
          refine (plain33 _ _ b0 b1).mono ?_
          rintro e w' ⟨rfl, rfl⟩
          rw [HP.out]
          go_wp2_with fail
          go_ret2
          exact ⟨ret_uq (by rw [hn.out.1]) hn.out.2.symm, hb⟩
        · have HP := Lib.hid hp
          clear hp h37
          go_wp2_with fail
          refine (plain33 _ _ b0 b1).mono ?_
          rintro e w' ⟨rfl, rfl⟩
          rw [HP.out]
          go_wp2_with (at_builtin; refine wpList_append_own _ rfl _ _ 37 rfl w.heap.size 5 i0 (.int .u8 0) 1 1 Tryd.underlying37 HI5.out HZ0.out HZ1.out HZ2.out rfl (by decide) _ _ _ rfl (HI.out.alloc _) ⟨wr.heap.size, 0, none⟩ 1 1 [.int .u8 (bt s k)] rfl rfl ?c1 ?c2 ?c3 ?c4 ?c5 ?_)
          case c1 => exact cells_one wr _ 5
          case c2 => intro u hu; simp at hu; subst hu; rfl
          case c3 => unfold maxLen; omega
          case c4 => omega
          case c5 => have := hb.size; simp; omega
          intro v' w3 hown' hgrow hnil
          clear hnil
          have HO := Lib.hid hown'
          clear hown'
          have hb3 := (hb.alloc hb.size _).grown hgrow (by have := hb.size; simp; omega) (fun k hk => (HI.out.lt k hk).1)
          clear hgrow
          go_wp2_with fail
          go_roundw
          case rel => exact ⟨k + 1, acc ++ [s[k]], by omega, by go_num, by rw [List.length_append, Lib.byteCells_append]; exact own_byte hlt HO.out, HU.out.plain hlt HP.out, hb3⟩
          case measure => simp [intOf]; omega
    · have hu := Lib.hid (uq_some HM.out HE.out (HU.out.fin (by omega)))
      have hcv := conv_own HI.out
      go_wp2_with fail
      go_ret2
      exact ⟨ret_uq (by rw [hu.out.1]) hu.out.2.1.symm, hb⟩
theorem unquote17 (s : ByteArray) (w : World) (hs : s.size ≤ 4194304) : Calls Tryd.prog 17 #[.string s] w (UqOut s w) := by
  cases h : (s.toList == [37, 45])
  · cases h0 : s.toList.isEmpty
    · exact unquote17_other s w hs h h0
    · exact unquote17_empty s w h h0
  · exact unquote17_minus s w h
end Go.Proofs.YtkkacgabikbedaaDoor
