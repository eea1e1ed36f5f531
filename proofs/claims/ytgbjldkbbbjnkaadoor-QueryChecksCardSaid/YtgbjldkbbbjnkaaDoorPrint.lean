/-
  What Print of the program and of the reference return. Printed by gen_print.py.
-/
import Derived.Test.YtgbjldkbbbjnkaaDoorTextR
namespace Go.Proofs.YtgbjldkbbbjnkaaDoor
open Go.RowKit Go.PlainAid Pl

mutual
theorem err_short : ∀ q : Qt, err pe q = 0 → short q = true
  | .mk o r t ks, h => by
    obtain ⟨_, _, h3, _, h5, h6⟩ := err_zero h
    rw [short, Bool.and_eq_true, decide_eq_true_eq]
    by_cases h0 : o = 0
    · have hk : ks = [] := by
        subst h0
        exact List.eq_nil_of_length_eq_zero h3
      subst hk
      have := pe_zero (h5 h0)
      rw [shorts]
      exact ⟨rfl, by omega⟩
    · obtain ⟨hb, hks⟩ := h6 h0
      exact ⟨errs_short ks hks, by omega⟩
theorem errs_short : ∀ ks : List Qt, errs pe ks = 0 → shorts ks = true
  | [], _ => by rw [shorts]
  | k :: ks, h => by
    rw [errs] at h
    by_cases hk : err pe k = 0
    · rw [if_neg (by simpa using hk)] at h
      rw [shorts, err_short k hk, errs_short ks h]
      rfl
    · rw [if_pos hk] at h
      exact absurd h hk
end
theorem chk_zero {q : Qt} (h : chk pe q = 0) : err pe q = 0 ∧ sz q ≤ 60 ∧ dp q ≤ 12 ∧ Wf q ∧ (txt q).length ≤ 100000 := by
  rw [chk] at h
  split at h
  · cases h
  · rename_i hn
    have := txt_len q (err_short q h)
    exact ⟨h, by omega, by omega, err_wf q h, by omega⟩
/-- What is printed. -/
def prn (q : Qt) : List UInt8 := if chk pe q = 0 then txt q else []
def PrOut (q : Qt) (w : World) (e : Ending) (w' : World) : Prop := e = .returned (.tuple #[.string (str (prn q)), .int .i64 (chk pe q)]) ∧ Below w.heap.size w w'
set_option maxHeartbeats 1600000 in
theorem print17 (q : Qt) (v : Value) (w : World) (hn : sz q ≤ 4194304) (ht : tb q) (hq : QAt w w.heap.size q v) (hT : Tab w) : Calls Tryd.prog 17 #[v] w (PrOut q w) := by
  have HQ1 := Lib.hid hq
  obtain ⟨a, b, c, d, rfl⟩ := hq.flat
  clear hq
  obtain ⟨W0, hW0⟩ : ∃ W0, w.alloc (.cells #[a, b, c, d] 25) = W0 := ⟨_, rfl⟩
  have hb0 := below_one w (.cells #[a, b, c, d] 25)
  have hbx := quad_new w a b c d 25
  rw [hW0] at hb0 hbx
  have HQ := Lib.hid (HQ1.out.step hb0)
  have HT0 := Lib.hid (hT.below hb0)
  have HBX := Lib.hid hbx
  have HB0 := Lib.hid hb0
  have HW := Lib.hid hW0
  clear hW0 hbx hb0
  obtain ⟨x0, x1, x2, x3⟩ := quad_cells HBX.out
  have E1 := Lib.hid (check18 q _ W0 hn ht HQ.out HT0.out)
  go_enter Tryd.func17, Tryd.ntmps17
  go_wp2_with fail
  rw [HW.out]
  clear HW
  refine E1.out.mono ?_
  rintro e w1 ⟨rfl, hb1⟩
  have HB1 := Lib.hid (HB0.out.trans (hb1.mono HB0.out.size))
  cases hz : (chk pe q == 0)
  · have hz2 : (chk pe q != 0) = true := by rw [bne, hz]; rfl
    have HP := Lib.hid (show prn q = [] by unfold prn; rw [if_neg (by simpa using hz)])
    clear hz
    go_wp2_with fail
    go_ret2
    exact ⟨by rw [HP.out]; rfl, HB1.out⟩
  · have hz1 : chk pe q = 0 := by simpa using hz
    have HP := Lib.hid (show prn q = txt q by unfold prn; rw [if_pos hz1])
    obtain ⟨_, _, _, hwf, hl⟩ := chk_zero hz1
    have HQ2 := Lib.hid (HQ.out.step hb1)
    have HBX1 := Lib.hid (heap_below HBX.out hb1)
    have HT1 := Lib.hid (HT0.out.below hb1)
    have E2 := Lib.hid (text29 q _ w1 hn hwf ht (by omega) HQ2.out HT1.out)
    have HZ := Lib.hid hz1
    rw [hz1]
    clear hz hz1 hb1 hwf hl
    obtain ⟨y0, y1, y2, y3⟩ := quad_cells HBX1.out
    go_wp2_with fail
    refine E2.out.mono ?_
    rintro e w2 ⟨rfl, hb2⟩
    go_wp2_with fail
    go_ret2
    exact ⟨by rw [HP.out, HZ.out]; rfl, HB1.out.trans (hb2.mono HB1.out.size)⟩
set_option maxHeartbeats 1600000 in
theorem print22 (q : Qt) (v : Value) (w : World) (hn : sz q ≤ 4194304) (ht : tb q) (hq : QAt w w.heap.size q v) : Calls Tryd.prog 22 #[v] w (PrOut q w) := by
  have HQ1 := Lib.hid hq
  obtain ⟨a, b, c, d, rfl⟩ := hq.flat
  clear hq
  obtain ⟨W0, hW0⟩ : ∃ W0, w.alloc (.cells #[a, b, c, d] 25) = W0 := ⟨_, rfl⟩
  have hb0 := below_one w (.cells #[a, b, c, d] 25)
  have hbx := quad_new w a b c d 25
  rw [hW0] at hb0 hbx
  have HQ := Lib.hid (HQ1.out.step hb0)
  have HBX := Lib.hid hbx
  have HB0 := Lib.hid hb0
  have HW := Lib.hid hW0
  clear hW0 hbx hb0
  obtain ⟨x0, x1, x2, x3⟩ := quad_cells HBX.out
  have E1 := Lib.hid (check19 q _ W0 hn ht HQ.out)
  go_enter Tryd.func22, Tryd.ntmps22
  go_wp2_with fail
  rw [HW.out]
  clear HW
  refine E1.out.mono ?_
  rintro e w1 ⟨rfl, hb1⟩
  have HB1 := Lib.hid (HB0.out.trans (hb1.mono HB0.out.size))
  cases hz : (chk pe q == 0)
  · have hz2 : (chk pe q != 0) = true := by rw [bne, hz]; rfl
    have HP := Lib.hid (show prn q = [] by unfold prn; rw [if_neg (by simpa using hz)])
    clear hz
    go_wp2_with fail
    go_ret2
    exact ⟨by rw [HP.out]; rfl, HB1.out⟩
  · have hz1 : chk pe q = 0 := by simpa using hz
    have HP := Lib.hid (show prn q = txt q by unfold prn; rw [if_pos hz1])
    obtain ⟨_, _, _, hwf, hl⟩ := chk_zero hz1
    have HQ2 := Lib.hid (HQ.out.step hb1)
    have HBX1 := Lib.hid (heap_below HBX.out hb1)
    have E2 := Lib.hid (text32 q _ w1 hn hwf ht (by omega) HQ2.out)
    have HZ := Lib.hid hz1
    rw [hz1]
    clear hz hz1 hb1 hwf hl
    obtain ⟨y0, y1, y2, y3⟩ := quad_cells HBX1.out
    go_wp2_with fail
    refine E2.out.mono ?_
    rintro e w2 ⟨rfl, hb2⟩
    go_wp2_with fail
    go_ret2
    exact ⟨by rw [HP.out, HZ.out]; rfl, HB1.out.trans (hb2.mono HB1.out.size)⟩
end Go.Proofs.YtgbjldkbbbjnkaaDoor
