/-
  What awake returns: the examples of the chapter hold.
-/
import Derived.Test.YtgbjldkbbbjnkaaDoorEx
import Derived.Test.YtgbjldkbbbjnkaaDoorSame3
namespace Go.Proofs.YtgbjldkbbbjnkaaDoor
open Go.RowKit Go.PlainAid Pl

theorem word26 (s : ByteArray) (w : World) : Calls Tryd.prog 26 #[.string s] w fun e w' => e = .returned (.agg #[.int .i64 0, .int .i64 2, .string s, .slice none 0 0]) ∧ Below w.heap.size w w' := by
  obtain ⟨x1, hi0, hz0, hz1, hz2⟩ := info_parts info25
  obtain ⟨W0, hW0⟩ : ∃ W0, w.alloc (.cells #[.int .i64 0, .int .i64 0, .string ⟨#[]⟩, .slice none 0 0] 25) = W0 := ⟨_, rfl⟩
  have hbx := quad_new w (.int .i64 0) (.int .i64 0) (.string ⟨#[]⟩) (.slice none 0 0) 25
  have hb0 := below_one w (.cells #[.int .i64 0, .int .i64 0, .string ⟨#[]⟩, .slice none 0 0] 25)
  rw [hW0] at hbx hb0
  have HB := Lib.hid hb0
  have HBX := Lib.hid hbx
  have HW := Lib.hid hW0
  clear hW0 hbx hb0 hi0 hz0 hz1 hz2
  obtain ⟨c0, c1, c2, c3⟩ := quad_cells HBX.out
  obtain ⟨d0, d1, d2, d3⟩ := quad_soft HBX.out
  go_enter Tryd.func26, Tryd.ntmps26
  go_upto_region 1 with (fail)
  rw [HW.out]
  clear HW
  go_wp2_with fail
  obtain ⟨W9, hW9⟩ : ∃ W9, ((((W0.setCell ⟨w.heap.size, 0, none⟩ (.int .i64 0)).setCell ⟨w.heap.size, 1, none⟩ (.int .i64 2)).setCell ⟨w.heap.size, 2, none⟩ (.string s)).setCell ⟨w.heap.size, 3, none⟩ (.slice none 0 0)) = W9 := ⟨_, rfl⟩
  have hq := quad_set4 (a' := .int .i64 0) (b' := .int .i64 2) (c' := .string s) (d' := .slice none 0 0) HBX.out
  have hw9 := below_set4 (B := w.heap.size) (a' := .int .i64 0) (b' := .int .i64 2) (c' := .string s) (d' := .slice none 0 0) HB.out (Nat.le_refl _)
  rw [hW9] at hq hw9
  rw [hW9]
  obtain ⟨z0, z1, z2, z3⟩ := quad_cells hq
  exact bodyPost_ret (v := .agg #[.int .i64 0, .int .i64 2, .string s, .slice none 0 0]) (by simp [results, Tryd.results26, go_sem, z0, z1, z2, z3]) rfl ⟨rfl, hw9⟩
/-- A row of two queries. -/
theorem two_at (w : World) (o1 r1 o2 r2 : Int) (t1 t2 : ByteArray) (o r : Int) (t : ByteArray) (cap : Nat) :
    QAt (w.alloc (.cells #[.int .i64 o1, .int .i64 r1, .string t1, .slice none 0 0, .int .i64 o2, .int .i64 r2, .string t2, .slice none 0 0] 25)) (w.heap.size + 1) (.mk o r t [.mk o1 r1 t1 [], .mk o2 r2 t2 []])
      (.agg #[.int .i64 o, .int .i64 r, .string t, .slice (some ⟨w.heap.size, 0, none⟩) 2 cap]) := by
  refine .mk o r t [.mk o1 r1 t1 [], .mk o2 r2 t2 []] (some ⟨w.heap.size, 0, none⟩) cap (fun j => if j = 0 then .agg #[.int .i64 o1, .int .i64 r1, .string t1, .slice none 0 0] else .agg #[.int .i64 o2, .int .i64 r2, .string t2, .slice none 0 0]) (fun j k hj => ?_) (fun j k hj => ?_)
  · match j, hj with
    | 0, hj =>
      simp at hj
      subst hj
      refine ⟨⟨w.heap.size, 0, none⟩, _, _, _, _, rfl, Nat.lt_succ_self _, rfl, ?_, ?_, ?_, ?_⟩ <;> simp [Addr.add, World.cell?_alloc_new]
    | 1, hj =>
      simp at hj
      subst hj
      refine ⟨⟨w.heap.size, 0, none⟩, _, _, _, _, rfl, Nat.lt_succ_self _, rfl, ?_, ?_, ?_, ?_⟩ <;> simp [Addr.add, World.cell?_alloc_new]
    | j + 2, hj => simp at hj
  · match j, hj with
    | 0, hj =>
      simp at hj
      subst hj
      exact (QN.leaf (lo := 0) 0).at_
    | 1, hj =>
      simp at hj
      subst hj
      exact (QN.leaf (lo := 0) 0).at_
    | j + 2, hj => simp at hj
theorem tb_q0 : tb q0 := by
  unfold q0 wq
  simp only [tb, tbs]
  exact ⟨by decide, ⟨by decide, trivial⟩, ⟨by decide, trivial⟩, trivial⟩
theorem tb_wq {l : List UInt8} (h : l.length ≤ 1000) : tb (wq l) := by
  unfold wq
  simp only [tb, tbs]
  exact ⟨by rw [str_len]; omega, trivial⟩
theorem tb_no : tb (.mk 1 0 ⟨#[]⟩ []) := by
  simp only [tb, tbs]
  exact ⟨by decide, trivial⟩
theorem pq_of {s : ByteArray} {q : Qt} (h : prs s = .inl q) (hz : chk pe q = 0) : pQ (prs s) = q ∧ pAt (prs s) = 0 ∧ pEr (prs s) = 0 := by
  rw [h, pQ, if_pos hz, pEr, hz]
  exact ⟨rfl, rfl, rfl⟩
/-- What a law knows of awake. -/
def AwOut (w : World) (e : Ending) (w' : World) : Prop := e = .returned (.bool true) ∧ Below w.heap.size w w'
set_option maxHeartbeats 6400000 in
set_option maxRecDepth 100000 in
theorem awake12 (w : World) (hT : Tab w) : Calls Tryd.prog 12 #[] w (AwOut w) := by
  have HT0 := Lib.hid hT
  clear hT
  go_enter Tryd.func12, Tryd.ntmps12
  go_wp2_with fail
  refine (word26 _ _).mono ?_
  rintro e w1 ⟨rfl, hb1⟩
  have HB1 := Lib.hid hb1
  clear hb1
  go_wp2_with fail
  refine (word26 _ _).mono ?_
  rintro e w2 ⟨rfl, hb2⟩
  have HB2 := Lib.hid (HB1.out.trans (hb2.mono HB1.out.size))
  clear hb2
  obtain ⟨W4, hW4⟩ : ∃ W4, (w2.alloc (.cells #[.int .i64 0, .int .i64 2, .string ⟨#[98, 97, 42]⟩, .slice none 0 0, .int .i64 0, .int .i64 2, .string ⟨#[42, 109, 105]⟩, .slice none 0 0] 25)).alloc (.cells #[.int .i64 1, .int .i64 0, .string ⟨#[]⟩, .slice (some ⟨w2.heap.size, 0, none⟩) 2 2] 25) = W4 := ⟨_, rfl⟩
  have hq4 := (two_at w2 0 2 0 2 ⟨#[98, 97, 42]⟩ ⟨#[42, 109, 105]⟩ 1 0 ⟨#[]⟩ 2)
  rw [← size_one w2 (.cells #[.int .i64 0, .int .i64 2, .string ⟨#[98, 97, 42]⟩, .slice none 0 0, .int .i64 0, .int .i64 2, .string ⟨#[42, 109, 105]⟩, .slice none 0 0] 25)] at hq4
  have hq4 := hq4.step (below_one _ (.cells #[.int .i64 1, .int .i64 0, .string ⟨#[]⟩, .slice (some ⟨w2.heap.size, 0, none⟩) 2 2] 25))
  have hx4 := quad_new (w2.alloc (.cells #[.int .i64 0, .int .i64 2, .string ⟨#[98, 97, 42]⟩, .slice none 0 0, .int .i64 0, .int .i64 2, .string ⟨#[42, 109, 105]⟩, .slice none 0 0] 25)) (.int .i64 1) (.int .i64 0) (.string ⟨#[]⟩) (.slice (some ⟨w2.heap.size, 0, none⟩) 2 2) 25
  have hb4 := ((below_one w2 (.cells #[.int .i64 0, .int .i64 2, .string ⟨#[98, 97, 42]⟩, .slice none 0 0, .int .i64 0, .int .i64 2, .string ⟨#[42, 109, 105]⟩, .slice none 0 0] 25)).alloc (by rw [size_one]; omega) (.cells #[.int .i64 1, .int .i64 0, .string ⟨#[]⟩, .slice (some ⟨w2.heap.size, 0, none⟩) 2 2] 25))
  rw [hW4] at hq4 hx4 hb4
  rw [size_one] at hx4
  have HQ4 := Lib.hid (show QAt W4 W4.heap.size q0 (.agg #[.int .i64 1, .int .i64 0, .string ⟨#[]⟩, .slice (some ⟨w2.heap.size, 0, none⟩) 2 2]) from hq4)
  have HX4 := Lib.hid hx4
  have HB4 := Lib.hid (HB2.out.trans (hb4.mono HB2.out.size))
  have HT4 := Lib.hid (HT0.out.below HB4.out)
  have HW4 := Lib.hid hW4
  clear hq4 hx4 hb4 hW4
  obtain ⟨x0, x1, x2, x3⟩ := quad_cells HX4.out
  go_upto_region 2 with (fail)
  rw [HW4.out]
  clear HW4
  have EP := Lib.hid (print17 q0 _ W4 (by decide) tb_q0 HQ4.out HT4.out)
  go_wp2_with fail
  refine EP.out.mono ?_
  rintro e w5 ⟨rfl, hb5⟩
  rw [prn_q0, chk_q0]
  have HQ5 := Lib.hid (HQ4.out.step hb5)
  have HX5 := Lib.hid (heap_below HX4.out hb5)
  have HB5 := Lib.hid (HB4.out.trans (hb5.mono HB4.out.size))
  have HT5 := Lib.hid (HT4.out.below hb5)
  clear hb5 x0 x1 x2 x3
  have EA := Lib.hid (parse13 ⟨#[40, 97, 110, 100, 32, 119, 111, 114, 100, 58, 98, 97, 42, 32, 119, 111, 114, 100, 58, 42, 109, 105, 41]⟩ w5 (by decide) HT5.out)
  go_wp2_with fail
  refine EA.out.mono ?_
  rintro e w6 ⟨hb6, v6, rfl, hq6⟩
  obtain ⟨p1, p2, p3⟩ := pq_of prs_q0 chk_q0
  rw [p1] at hq6
  rw [p2, p3]
  obtain ⟨A6, c6, hv6, _⟩ := hq6.inv
  obtain rfl : v6 = .agg #[.int .i64 1, .int .i64 0, .string ⟨#[]⟩, .slice A6 2 c6] := hv6
  obtain ⟨w7, hw7⟩ : ∃ w7, w6.alloc (.cells #[.int .i64 1, .int .i64 0, .string ⟨#[]⟩, .slice A6 2 c6] 25) = w7 := ⟨_, rfl⟩
  have hb7 := below_one w6 (.cells #[.int .i64 1, .int .i64 0, .string ⟨#[]⟩, .slice A6 2 c6] 25)
  have hp7 := quad_new w6 (.int .i64 1) (.int .i64 0) (.string ⟨#[]⟩) (.slice A6 2 c6) 25
  rw [hw7] at hb7 hp7
  have h67 := hb6.trans (hb7.mono hb6.size)
  have HQ7 := Lib.hid (HQ5.out.step h67)
  have HX7 := Lib.hid (heap_below HX5.out h67)
  have HB7 := Lib.hid (HB5.out.trans (h67.mono HB5.out.size))
  have HT7 := Lib.hid (HT5.out.below h67)
  have HPQ7 := Lib.hid (hq6.step hb7)
  have HPX7 := Lib.hid hp7
  have HW7 := Lib.hid hw7
  clear hb6 hb7 hp7 hw7 h67 hq6 p1 p2 p3
  go_upto_region 4 with (fail)
  rw [HW7.out]
  clear HW7
  have EB := Lib.hid (parse13 ⟨#[40, 111, 114, 32, 119, 111, 114, 100, 58, 97, 41]⟩ w7 (by decide) HT7.out)
  go_wp2_with fail
  refine EB.out.mono ?_
  rintro e w8 ⟨hb8, v8, rfl, hq8⟩
  rw [prs_or] at hq8 ⊢
  obtain ⟨A8, c8, hv8, _⟩ := (show QAt w8 w8.heap.size (.mk 0 0 ⟨#[]⟩ []) v8 from hq8).inv
  obtain rfl : v8 = .agg #[.int .i64 0, .int .i64 0, .string ⟨#[]⟩, .slice A8 0 c8] := hv8
  have h89 := hb8.trans ((below_one w8 (.cells #[.int .i64 0, .int .i64 0, .string ⟨#[]⟩, .slice A8 0 c8] 25)).mono hb8.size)
  obtain ⟨w9, hw9⟩ : ∃ w9, w8.alloc (.cells #[.int .i64 0, .int .i64 0, .string ⟨#[]⟩, .slice A8 0 c8] 25) = w9 := ⟨_, rfl⟩
  rw [hw9] at h89
  have HQ9 := Lib.hid (HQ7.out.step h89)
  have HX9 := Lib.hid (heap_below HX7.out h89)
  have HB9 := Lib.hid (HB7.out.trans (h89.mono HB7.out.size))
  have HT9 := Lib.hid (HT7.out.below h89)
  have HPQ9 := Lib.hid (HPQ7.out.step h89)
  have HPX9 := Lib.hid (heap_below HPX7.out h89)
  have HW9 := Lib.hid hw9
  clear hb8 hw9 h89 hq8
  go_upto_region 5 with (fail)
  rw [HW9.out]
  clear HW9
  go_wp2_with fail
  refine (word26 _ _).mono ?_
  rintro e w10 ⟨rfl, hb10⟩
  have EC := Lib.hid (print17 (wq [40, 97, 32, 98, 41]) (.agg #[.int .i64 0, .int .i64 2, .string ⟨#[40, 97, 32, 98, 41]⟩, .slice none 0 0]) w10 (by decide) (tb_wq (by decide)) (QN.leaf (lo := 0) 0).at_ (HT9.out.below hb10))
  go_wp2_with fail
  refine EC.out.mono ?_
  rintro e w11 ⟨rfl, hb11⟩
  rw [prn_wc, chk_wc]
  have h11 := hb10.trans (hb11.mono hb10.size)
  have HQ11 := Lib.hid (HQ9.out.step h11)
  have HX11 := Lib.hid (heap_below HX9.out h11)
  have HB11 := Lib.hid (HB9.out.trans (h11.mono HB9.out.size))
  have HT11 := Lib.hid (HT9.out.below h11)
  have HPQ11 := Lib.hid (HPQ9.out.step h11)
  have HPX11 := Lib.hid (heap_below HPX9.out h11)
  clear hb10 hb11 h11
  obtain ⟨x0, x1, x2, x3⟩ := quad_cells HX11.out
  obtain ⟨y0, y1, y2, y3⟩ := quad_cells HPX11.out
  have ES := Lib.hid (same24 q0 q0 _ _ w11 (by decide) HPQ11.out HQ11.out)
  go_wp2_with fail
  refine ES.out.mono ?_
  rintro e w12 ⟨rfl, hb12⟩
  rw [same_yes rfl]
  have HQ12 := Lib.hid (HQ11.out.step hb12)
  have HX12 := Lib.hid (heap_below HX11.out hb12)
  have HB12 := Lib.hid (HB11.out.trans (hb12.mono HB11.out.size))
  have HT12 := Lib.hid (HT11.out.below hb12)
  have HPQ12 := Lib.hid (HPQ11.out.step hb12)
  have HPX12 := Lib.hid (heap_below HPX11.out hb12)
  clear hb12 x0 x1 x2 x3 y0 y1 y2 y3
  obtain ⟨x0, x1, x2, x3⟩ := quad_cells HX12.out
  have EN := Lib.hid (nodes15 q0 _ w12 (by decide) HQ12.out)
  go_wp2_with fail
  refine EN.out.mono ?_
  rintro e w13 ⟨rfl, hb13⟩
  rw [show ((sz q0 : Nat) : Int) = 3 from rfl]
  have HQ13 := Lib.hid (HQ12.out.step hb13)
  have HX13 := Lib.hid (heap_below HX12.out hb13)
  have HB13 := Lib.hid (HB12.out.trans (hb13.mono HB12.out.size))
  have HT13 := Lib.hid (HT12.out.below hb13)
  have HPQ13 := Lib.hid (HPQ12.out.step hb13)
  have HPX13 := Lib.hid (heap_below HPX12.out hb13)
  clear hb13 x0 x1 x2 x3
  obtain ⟨x0, x1, x2, x3⟩ := quad_cells HX13.out
  have ED := Lib.hid (depth16 q0 _ w13 (by decide) HQ13.out)
  go_wp2_with fail
  refine ED.out.mono ?_
  rintro e w14 ⟨rfl, hb14⟩
  rw [show ((dp q0 : Nat) : Int) = 2 from rfl]
  have HQ14 := Lib.hid (HQ13.out.step hb14)
  have HX14 := Lib.hid (heap_below HX13.out hb14)
  have HB14 := Lib.hid (HB13.out.trans (hb14.mono HB13.out.size))
  have HT14 := Lib.hid (HT13.out.below hb14)
  have HPQ14 := Lib.hid (HPQ13.out.step hb14)
  have HPX14 := Lib.hid (heap_below HPX13.out hb14)
  clear hb14 x0 x1 x2 x3
  obtain ⟨x0, x1, x2, x3⟩ := quad_cells HX14.out
  obtain ⟨y0, y1, y2, y3⟩ := quad_cells HPX14.out
  have EM := Lib.hid (same25 q0 q0 _ _ w14 (by decide) HPQ14.out HQ14.out)
  go_wp2_with fail
  refine EM.out.mono ?_
  rintro e w15 ⟨rfl, hb15⟩
  rw [same_yes rfl]
  have EK := Lib.hid (check18 (.mk 1 0 ⟨#[]⟩ []) (.agg #[.int .i64 1, .int .i64 0, .string ⟨#[]⟩, .slice none 0 0]) w15 (by decide) tb_no (QN.leaf (lo := 0) 0).at_ (HT14.out.below hb15))
  have HB15 := Lib.hid (HB14.out.trans (hb15.mono HB14.out.size))
  clear hb15
  go_wp2_with fail
  refine EK.out.mono ?_
  rintro e w16 ⟨rfl, hb16⟩
  rw [chk_and]
  go_wp2_with fail
  go_ret
  exact ⟨rfl, HB15.out.trans (hb16.mono HB15.out.size)⟩
end Go.Proofs.YtgbjldkbbbjnkaaDoor
