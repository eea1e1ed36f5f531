/-
  What Check of the program's patterns returns.
-/
import Derived.Test.YtgbjldkbbbjnkaaDoorItems
namespace Go.Proofs.YtgbjldkbbbjnkaaDoor
open Go.RowKit Go.PlainAid

/-- What a check of a pattern returns. -/
def PeOut (s : ByteArray) (w : World) (e : Ending) (w' : World) : Prop := e = .returned (.int .i64 (pe s)) ∧ Below w.heap.size w w'
theorem empty_iff (s : ByteArray) : s.toList.isEmpty = true ↔ s.data.toList = [] := by rw [Lib.toList_data, List.isEmpty_iff]
theorem empty_of {s : ByteArray} (h : s.size = 0) : s.toList.isEmpty = true := (empty_iff s).2 (List.eq_nil_of_length_eq_zero (by rw [size_list]; exact h))
theorem some_of {s : ByteArray} (h : s.size ≠ 0) : s.toList.isEmpty = false := by
  cases e : s.toList.isEmpty
  · rfl
  · have := (empty_iff s).1 e
    rw [← size_list, this] at h
    exact absurd rfl h
theorem tab_utf {w : World} (h : Tab w) : Lib.Utf8Tabs 2 3 w := h.u
set_option maxHeartbeats 1600000 in
theorem check39 (s : ByteArray) (w : World) (hs : s.size ≤ 4194304) (hT : Tab w) : Calls Tryd.prog 39 #[.string s] w (PeOut s w) := by
  by_cases h0 : s.size = 0
  · have he := empty_of h0
    have HN := Lib.hid (show pe s = 4 by unfold pe; rw [if_pos h0])
    clear h0 hT
    go_enter Tryd.func39, Tryd.ntmps39
    go_wp2_with fail
    go_ret
    exact ⟨by rw [HN.out]; rfl, Below.refl _ _⟩
  have he := some_of h0
  by_cases h64 : 64 < s.size
  · have h64' : (64 : Int) < (s.size : Int) := by omega
    have HN := Lib.hid (show pe s = 5 by unfold pe; rw [if_neg h0, if_pos h64])
    clear hT h0
    go_enter Tryd.func39, Tryd.ntmps39
    go_wp2_with fail
    go_ret
    exact ⟨by rw [HN.out]; rfl, Below.refl _ _⟩
  have h64' : ¬ (64 : Int) < (s.size : Int) := by omega
  have h1 : 1 ≤ s.size := by omega
  have HT := Lib.hid hT
  have HBT := Lib.hid (get_bt s)
  clear hT h0
  cases hv : Lib.validD s.data.toList
  · have HN := Lib.hid (show pe s = 3 from pe_bad h1 (by omega) (by rw [hv]; simp))
    have HP := Lib.hid (points56_no s w (by omega) HT.out.u hv)
    have HV := Lib.hid hv
    clear hv
    go_enter Tryd.func39, Tryd.ntmps39
    go_wp2_with fail
    refine HP.out.mono ?_
    rintro e w1 ⟨v, rfl, hb1⟩
    rw [HV.out]
    go_wp2_with fail
    go_ret
    exact ⟨by rw [HN.out]; rfl, hb1⟩
  · have HP := Lib.hid (points56_yes s w (by omega) HT.out.u hv)
    have HV := Lib.hid hv
    clear hv
    go_enter Tryd.func39, Tryd.ntmps39
    go_wp2_with fail
    refine HP.out.mono ?_
    rintro e w1 ⟨v, rfl, hb1⟩
    rw [HV.out]
    have hbt := HBT.out
    go_wp2_with fail
    go_loop [22] (fun i => ∃ k : Nat, k ≤ s.size ∧ i = .int .i64 k ∧ ∀ j, j < k → lowB (bt s j) = false) (fun i => s.size - (intOf i).toNat)
    case atStart => exact ⟨0, Nat.zero_le _, rfl, fun j hj => by omega⟩
    case round =>
      obtain ⟨k, hk, rfl, hlow⟩ := hrel
      have HL := Lib.hid hlow
      clear hlow
      by_cases hlt : k < s.size
      · by_cases hl1 : bt s k < 32
        · have HN := Lib.hid (show pe s = 3 from pe_low h1 (by omega) hlt (by unfold lowB; rw [decide_eq_true hl1]; rfl))
          go_wp2_with fail
          go_ret
          exact ⟨by rw [HN.out]; rfl, hb1⟩
        · cases h2 : (bt s k == 127)
          · have HS := Lib.hid (show ∀ j, j < k + 1 → lowB (bt s j) = false from fun j hj => by
              by_cases e : j = k
              · subst e; unfold lowB; rw [decide_eq_false hl1, h2]; rfl
              · exact HL.out j (by omega))
            go_wp2_with fail
            go_round
            case rel => exact ⟨k + 1, by omega, by go_num, HS.out⟩
            case measure => simp [intOf]; omega
          · have HN := Lib.hid (show pe s = 3 from pe_low h1 (by omega) hlt (by unfold lowB; rw [h2, Bool.or_true]))
            go_wp2_with fail
            go_ret
            exact ⟨by rw [HN.out]; rfl, hb1⟩
      · obtain rfl : k = s.size := by omega
        have HE := Lib.hid (pe_prog h1 (by omega) HV.out HL.out)
        have HI := Lib.hid (items57 s w1 (by omega))
        clear hbt
        go_wp2_with fail
        refine HI.out.mono ?_
        rintro e w2 ⟨v2, rfl, hb2⟩
        have HB := Lib.hid (hb1.trans (hb2.mono hb1.size))
        by_cases ha : autE (pre s s.size) = some false
        · have HR := Lib.hid (show pe s = 0 by rw [HE.out, if_pos ha])
          rw [decide_eq_true ha]
          clear ha
          go_wp2_with fail
          go_ret
          exact ⟨by rw [HR.out]; rfl, HB.out⟩
        · have HR := Lib.hid (show pe s = 3 by rw [HE.out, if_neg ha])
          rw [decide_eq_false ha]
          clear ha
          go_wp2_with fail
          go_ret
          exact ⟨by rw [HR.out]; rfl, HB.out⟩
end Go.Proofs.YtgbjldkbbbjnkaaDoor
