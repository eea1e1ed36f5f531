/-
  What parse of the reference returns. Printed by gen_parr.py.
-/
import Derived.Test.YtgbjldkbbbjnkaaDoorKids
import Derived.Deep.DeepCutAuto
namespace Go.Proofs.YtgbjldkbbbjnkaaDoor
open Go.RowKit Go.PlainAid Pl

set_option maxHeartbeats 6400000 in
set_option maxRecDepth 100000 in
theorem parse33_ (s : ByteArray) (hs : s.size ≤ 4194304) : ∀ (f k : Nat) (w : World), k ≤ s.size → s.size - k < f → Calls Tryd.prog 33 #[.string s, .int .i64 k] w (POut (pq false f (rest s k)) k w) := by
  intro f
  induction f with
  | zero => intro k w _ h; omega
  | succ f ih =>
    intro k w hk hf
    have IH := Lib.hid ih
    clear ih
    obtain ⟨x0, hi0, hz0, hz1, hz2⟩ := info_parts info9
    have HI9 := Lib.hid hi0
    have HZ0 := Lib.hid hz0
    have HZ1 := Lib.hid hz1
    have HZ2 := Lib.hid hz2
    clear hi0 hz0 hz1 hz2
    obtain ⟨x1, hi0, hz0, hz1, hz2⟩ := info_parts info25
    have HI25 := Lib.hid hi0
    have HY0 := Lib.hid hz0
    have HY1 := Lib.hid hz1
    have HY2 := Lib.hid hz2
    clear hi0 hz0 hz1 hz2
    obtain ⟨W0, hW0⟩ : ∃ W0, w.alloc (.cells #[.int .i64 0, .int .i64 0, .string ⟨#[]⟩, .slice none 0 0] 25) = W0 := ⟨_, rfl⟩
    have hbox := quad_new w (.int .i64 0) (.int .i64 0) (.string ⟨#[]⟩) (.slice none 0 0) 25
    have hz := size_one w (.cells #[.int .i64 0, .int .i64 0, .string ⟨#[]⟩, .slice none 0 0] 25)
    have hb0 := below_one w (.cells #[.int .i64 0, .int .i64 0, .string ⟨#[]⟩, .slice none 0 0] 25)
    rw [hW0] at hbox hz hb0
    have HW := Lib.hid hW0
    have HBOX := Lib.hid hbox
    have HB0 := Lib.hid hb0
    have HZS := Lib.hid hz
    clear hW0 hbox hz hb0
    go_enter Tryd.func33, Tryd.ntmps33
    go_wp2_with fail
    rw [HW.out]
    clear HW
    refine (roles42_colon _).mono ?_
    rintro e w1 ⟨rfl, hw1⟩
    have hown := newS_own W0 (tops.take 5) (by decide)
    have hb1 := newS_below W0 (tops.take 5)
    rw [← hw1] at hown hb1
    have HO := Lib.hid hown
    have HB1 := Lib.hid hb1
    clear hown hb1 hw1
    go_wp2_with (at_builtin; refine wpList_append_own _ rfl _ _ 35 rfl W0.heap.size 9 x0 (.string ⟨#[]⟩) 1 16 Tryd.underlying35 HI9.out HZ0.out HZ1.out HZ2.out rfl (by decide) _ _ _ rfl (HO.out.alloc _) ⟨w1.heap.size, 0, none⟩ 1 1 [.string ⟨#[40]⟩] rfl rfl ?c1 ?c2 ?c3 ?c4 ?c5 ?_)
    case c1 => exact cells_one' w1 _ 9
    case c2 => intro u hu; simp at hu; subst hu; rfl
    case c3 => decide
    case c4 => decide
    case c5 => have := HB1.out.size; simp; omega
    intro v' w2 hown' hgrow hnil
    have hb2 := (HB1.out.alloc HB1.out.size _).grown hgrow (by have := HB1.out.size; simp; omega) (fun k hk => (HO.out.lt k hk).1)
    clear hgrow hnil
    have hown2 : w2.ownsRow W0.heap.size 9 1 v' 6 (SV tops) := hown'
    obtain ⟨g, cap, hv, _⟩ := hown2.form (by omega)
    subst hv
    have hst : Strs w2 w2.heap.size (some ⟨g, 0, none⟩) tops := Reads.of_own hown2
    have E1 := Lib.hid (expect45 tops s k (some ⟨g, 0, none⟩) cap w2 hk hs (by decide) (by decide) hst)
    have HB2 := Lib.hid hb2
    clear hown' hown2 hst hb2
    have hpos := er_bd tops (rest s k)
    rw [rest_len] at hpos
    have HTB := Lib.hid (HB0.out.trans (HB2.out.mono HB0.out.size))
    go_wp2_with fail
    refine E1.out.mono ?_
    rintro e w3 ⟨rfl, hb3⟩
    have HB3 := Lib.hid (HB2.out.trans (hb3.mono HB2.out.size))
    have HTB3 := Lib.hid (HB0.out.trans (HB3.out.mono HB0.out.size))
    clear hb3
    have hbx := Lib.hid (heap_below HBOX.out HB3.out)
    cases e1 : ER tops (rest s k) with
    | bad n =>
      have hr := Lib.hid (show pq false (f + 1) (rest s k) = .bad n by rw [pq, seq, e1])
      obtain ⟨c0, c1, c2, c3⟩ := quad_cells hbx.out
      obtain ⟨d0, d1, d2, d3⟩ := quad_soft hbx.out
      have hx : exA (.bad n : Rd Nat) = -1 := rfl
      have hp : (Rd.bad n : Rd Nat).pos = n := rfl
      rw [hx, hp]
      clear hx hp e1
      go_wp2_with fail
      obtain ⟨W9, hW9⟩ : ∃ W9, ((((w3.setCell ⟨w.heap.size, 0, none⟩ (.int .i64 0)).setCell ⟨w.heap.size, 1, none⟩ (.int .i64 0)).setCell ⟨w.heap.size, 2, none⟩ (.string ⟨#[]⟩)).setCell ⟨w.heap.size, 3, none⟩ (.slice none 0 0)) = W9 := ⟨_, rfl⟩
      have hq := quad_set4 (a' := .int .i64 0) (b' := .int .i64 0) (c' := .string ⟨#[]⟩) (d' := .slice none 0 0) hbx.out
      have hw9 := below_set4 (a' := .int .i64 0) (b' := .int .i64 0) (c' := .string ⟨#[]⟩) (d' := .slice none 0 0) HTB3.out (Nat.le_refl _)
      rw [hW9] at hq hw9
      rw [hW9]
      obtain ⟨z0, z1, z2, z3⟩ := quad_cells hq
      exact bodyPost_ret (v := .tuple #[.agg #[.int .i64 0, .int .i64 0, .string ⟨#[]⟩, .slice none 0 0], .int .i64 ((k : Int) + (n : Int)), .bool false]) (by simp [results, Tryd.results33, go_sem, z0, z1, z2, z3]) rfl (pout_bad hr.out (by omega) hw9)
    | ok i n =>
      obtain ⟨hi6, hn1⟩ := er_tops_le e1
      have hx : exA (.ok i n : Rd Nat) = (i : Int) := rfl
      have hp : (Rd.ok i n : Rd Nat).pos = n := rfl
      rw [e1, hp] at hpos
      rw [hx, hp]
      clear hx hp
      obtain ⟨m, hm⟩ : ∃ m, k + n = m := ⟨_, rfl⟩
      have hms : m ≤ s.size := by omega
      by_cases hi5 : i < 5
      · have hr := Lib.hid (show pq false (f + 1) (rest s k) = ((pw false (rest s m)).map (leaf i)).sh n by rw [pq, seq, e1]; simp only; rw [topR, if_pos hi5, rest_drop, hm])
        have hwr : IntKind.i64.wrap ((i : Int) + 1) = (i : Int) + 1 := wrap_in (by omega)
        have hd5 : (i : Int) < 5 := by omega
        have E2 := Lib.hid (word46 s m w3 hms hs)
        rw [hm]
        have HM := Lib.hid hm
        clear hm e1
        obtain ⟨c0, c1, c2, c3⟩ := quad_cells hbx.out
        obtain ⟨d0, d1, d2, d3⟩ := quad_soft hbx.out
        go_wp2_with fail
        refine E2.out.mono ?_
        rintro e w4 ⟨⟨t, rfl, ht⟩, hb4⟩
        have hbx4 := Lib.hid (heap_below hbx.out hb4)
        have HTB4 := Lib.hid (HTB3.out.trans (hb4.mono HTB3.out.size))
        clear c0 c1 c2 c3 d0 d1 d2 d3
        obtain ⟨c0, c1, c2, c3⟩ := quad_cells hbx4.out
        obtain ⟨d0, d1, d2, d3⟩ := quad_soft hbx4.out
        cases e3 : pw false (rest s m) with
        | bad j =>
          have hr2 := Lib.hid (show pq false (f + 1) (rest s k) = .bad (n + j) by rw [hr.out, e3]; rfl)
          have hx : pwOk (.bad j : Rd Bs) = false := rfl
          have hp : (Rd.bad j : Rd Bs).pos = j := rfl
          rw [hx, hp]
          have hmm := HM.out
          clear hx hp e3 ht hb4
          go_wp2_with fail
          obtain ⟨W9, hW9⟩ : ∃ W9, ((((w4.setCell ⟨w.heap.size, 0, none⟩ (.int .i64 0)).setCell ⟨w.heap.size, 1, none⟩ (.int .i64 0)).setCell ⟨w.heap.size, 2, none⟩ (.string ⟨#[]⟩)).setCell ⟨w.heap.size, 3, none⟩ (.slice none 0 0)) = W9 := ⟨_, rfl⟩
          have hq := quad_set4 (a' := .int .i64 0) (b' := .int .i64 0) (c' := .string ⟨#[]⟩) (d' := .slice none 0 0) hbx4.out
          have hw9 := below_set4 (a' := .int .i64 0) (b' := .int .i64 0) (c' := .string ⟨#[]⟩) (d' := .slice none 0 0) HTB4.out (Nat.le_refl _)
          rw [hW9] at hq hw9
          rw [hW9]
          obtain ⟨z0, z1, z2, z3⟩ := quad_cells hq
          exact bodyPost_ret (v := .tuple #[.agg #[.int .i64 0, .int .i64 0, .string ⟨#[]⟩, .slice none 0 0], .int .i64 ((m : Int) + (j : Int)), .bool false]) (by simp [results, Tryd.results33, go_sem, z0, z1, z2, z3]) rfl (pout_bad hr2.out (by omega) hw9)
        | ok l j =>
          have hr2 := Lib.hid (show pq false (f + 1) (rest s k) = .ok (leaf i l) (n + j) by rw [hr.out, e3]; rfl)
          obtain rfl := ht l j e3
          have hx : pwOk (.ok l j : Rd Bs) = true := rfl
          have hp : (Rd.ok l j : Rd Bs).pos = j := rfl
          rw [hx, hp]
          have hmm := HM.out
          have hzz := HTB4.out.size
          clear hx hp e3 hb4 ht
          go_wp2_with fail
          have hq9 := QN.set4 (qn_leaf (w := w4) (lo := w.heap.size + 1) (B := w4.heap.size) (i := i) (l := l)) (b := w.heap.size) (by omega) (.int .i64 0) (.int .i64 ((i : Int) + 1)) (.string ⟨l.toArray⟩) (.slice none 0 0)
          obtain ⟨W9, hW9⟩ : ∃ W9, ((((w4.setCell ⟨w.heap.size, 0, none⟩ (.int .i64 0)).setCell ⟨w.heap.size, 1, none⟩ (.int .i64 ((i : Int) + 1))).setCell ⟨w.heap.size, 2, none⟩ (.string ⟨l.toArray⟩)).setCell ⟨w.heap.size, 3, none⟩ (.slice none 0 0)) = W9 := ⟨_, rfl⟩
          have hq := quad_set4 (a' := .int .i64 0) (b' := .int .i64 ((i : Int) + 1)) (c' := .string ⟨l.toArray⟩) (d' := .slice none 0 0) hbx4.out
          have hw9 := below_set4 (a' := .int .i64 0) (b' := .int .i64 ((i : Int) + 1)) (c' := .string ⟨l.toArray⟩) (d' := .slice none 0 0) HTB4.out (Nat.le_refl _)
          rw [hW9] at hq hw9
          rw [hW9] at hq9
          rw [hW9]
          obtain ⟨z0, z1, z2, z3⟩ := quad_cells hq
          exact bodyPost_ret (v := .tuple #[.agg #[.int .i64 0, .int .i64 ((i : Int) + 1), .string ⟨l.toArray⟩, .slice none 0 0], .int .i64 ((m : Int) + (j : Int)), .bool true]) (by simp [results, Tryd.results33, go_sem, z0, z1, z2, z3]) rfl (pout_ok hr2.out (by omega) hw9 (qn_fin hq9 (by omega) (by rw [← hW9]; simp)))
      · obtain rfl : i = 5 := by omega
        have hr := Lib.hid (show pq false (f + 1) (rest s k) = (opR (pq false f) (rest s m)).sh n by rw [pq, seq, e1]; simp only; rw [topR, if_neg (by omega), rest_drop, hm])
        rw [hm, show ((5 : Nat) : Int) = 5 from rfl]
        have HM := Lib.hid hm
        clear hm e1 hi6 hi5
        go_wp2_with fail
        refine (ops44 _).mono ?_
        rintro e w4 ⟨rfl, hw4⟩
        have hst4 : Strs w4 w4.heap.size (some ⟨w3.heap.size, 0, none⟩) opsL := by rw [hw4]; exact newS_strs w3 opsL
        have hb4 : Below w3.heap.size w3 w4 := by rw [hw4]; exact newS_below _ _
        have E2 := Lib.hid (expect45 opsL s m (some ⟨w3.heap.size, 0, none⟩) 6 w4 hms hs (by decide) (by decide) hst4)
        have hbx4 := heap_below hbx.out hb4
        have HB4 := HTB3.out.trans (hb4.mono HTB3.out.size)
        clear hw4 hst4 hb4
        have hpos2 := er_bd opsL (rest s m)
        rw [rest_len] at hpos2
        go_wp2_with fail
        refine E2.out.mono ?_
        rintro e w5 ⟨rfl, hb5⟩
        have hbx5 := Lib.hid (heap_below hbx4 hb5)
        have HTB5 := Lib.hid (HB4.trans (hb5.mono HB4.size))
        clear hb5 hbx4 HB4
        cases e2 : ER opsL (rest s m) with
        | bad j =>
          have hr2 := Lib.hid (show pq false (f + 1) (rest s k) = .bad (n + j) by rw [hr.out, opR, seq, e2]; rfl)
          obtain ⟨c0, c1, c2, c3⟩ := quad_cells hbx5.out
          obtain ⟨d0, d1, d2, d3⟩ := quad_soft hbx5.out
          have hx : exA (.bad j : Rd Nat) = -1 := rfl
          have hp : (Rd.bad j : Rd Nat).pos = j := rfl
          rw [hx, hp]
          have hmm := HM.out
          clear hx hp e2
          go_wp2_with fail
          obtain ⟨W9, hW9⟩ : ∃ W9, ((((w5.setCell ⟨w.heap.size, 0, none⟩ (.int .i64 0)).setCell ⟨w.heap.size, 1, none⟩ (.int .i64 0)).setCell ⟨w.heap.size, 2, none⟩ (.string ⟨#[]⟩)).setCell ⟨w.heap.size, 3, none⟩ (.slice none 0 0)) = W9 := ⟨_, rfl⟩
          have hq := quad_set4 (a' := .int .i64 0) (b' := .int .i64 0) (c' := .string ⟨#[]⟩) (d' := .slice none 0 0) hbx5.out
          have hw9 := below_set4 (a' := .int .i64 0) (b' := .int .i64 0) (c' := .string ⟨#[]⟩) (d' := .slice none 0 0) HTB5.out (Nat.le_refl _)
          rw [hW9] at hq hw9
          rw [hW9]
          obtain ⟨z0, z1, z2, z3⟩ := quad_cells hq
          exact bodyPost_ret (v := .tuple #[.agg #[.int .i64 0, .int .i64 0, .string ⟨#[]⟩, .slice none 0 0], .int .i64 ((m : Int) + (j : Int)), .bool false]) (by simp [results, Tryd.results33, go_sem, z0, z1, z2, z3]) rfl (pout_bad hr2.out (by omega) hw9)
        | ok o j =>
          have ho6 : o < 6 := er_lt e2
          have hx : exA (.ok o j : Rd Nat) = (o : Int) := rfl
          have hp : (Rd.ok o j : Rd Nat).pos = j := rfl
          rw [e2, hp] at hpos2
          rw [hx, hp]
          clear hx hp
          obtain ⟨m2, hm2⟩ : ∃ m2, m + j = m2 := ⟨_, rfl⟩
          have hms2 : m2 ≤ s.size := by omega
          rw [hm2]
          have HM2 := Lib.hid hm2
          have HE2 := Lib.hid e2
          clear hm2 e2
          have hwo : IntKind.i64.wrap ((o : Int) + 1) = (o : Int) + 1 := wrap_in (by omega)
          go_upto_if 70 with (fail)
          go_cut [1] (fun a wx => ∃ RO p : Nat, a = .int .i64 p ∧ KInv false f s k (o + 1) RO p [] ∧ wx.heap[w5.heap.size]? = some (.cells #[.int .i64 ((o : Int) + 1), .int .i64 RO, .string ⟨#[]⟩, .slice none 0 0] 25) ∧ Below w5.heap.size w5 wx)
          case first =>
            by_cases ho : o = 2
            · have hb3 : ((o : Int) + 1 == 3) = true := by simp; omega
              have HO2 := Lib.hid ho
              have hbA := below_one w5 (.cells #[.int .i64 ((o : Int) + 1), .int .i64 0, .string ⟨#[]⟩, .slice none 0 0] 25)
              have hqA := quad_new w5 (.int .i64 ((o : Int) + 1)) (.int .i64 0) (.string ⟨#[]⟩) (.slice none 0 0) 25
              clear ho
              generalize w5.alloc (.cells #[.int .i64 ((o : Int) + 1), .int .i64 0, .string ⟨#[]⟩, .slice none 0 0] 25) = W6 at hbA hqA ⊢
              have HBA := Lib.hid hbA
              have HQA := Lib.hid hqA
              clear hbA hqA
              go_wp2_with fail
              refine (roles42_blank _).mono ?_
              rintro e w7 ⟨rfl, hw7⟩
              have hst7 : Strs w7 w7.heap.size (some ⟨W6.heap.size, 0, none⟩) rolesL := by rw [hw7]; exact newS_strs W6 rolesL
              have hb7 : Below W6.heap.size W6 w7 := by rw [hw7]; exact newS_below _ _
              have E3 := Lib.hid (expect45 rolesL s m2 (some ⟨W6.heap.size, 0, none⟩) 5 w7 hms2 hs (by decide) (by decide) hst7)
              have HQ7 := Lib.hid (heap_below HQA.out hb7)
              have HB7 := Lib.hid (HBA.out.trans (hb7.mono HBA.out.size))
              clear hw7 hst7 hb7
              have hpos3 := er_bd rolesL (rest s m2)
              rw [rest_len] at hpos3
              go_wp2_with fail
              refine E3.out.mono ?_
              rintro e w8 ⟨rfl, hb8⟩
              have HQ8 := Lib.hid (heap_below HQ7.out hb8)
              have HB8 := Lib.hid (HB7.out.trans (hb8.mono HB7.out.size))
              have HBX8 := Lib.hid (heap_below hbx5.out HB8.out)
              have HTB8 := Lib.hid (HTB5.out.trans (HB8.out.mono HTB5.out.size))
              clear hb8
              cases e3 : ER rolesL (rest s m2) with
              | bad j3 =>
                have hr3 := Lib.hid (show pq false (f + 1) (rest s k) = .bad (n + (j + j3)) by
                  rw [hr.out, opR, seq, HE2.out]; simp only; rw [if_pos HO2.out, seq, rest_drop, HM2.out, e3]; rfl)
                obtain ⟨c0, c1, c2, c3⟩ := quad_cells HBX8.out
                obtain ⟨d0, d1, d2, d3⟩ := quad_soft HBX8.out
                have hx : exA (.bad j3 : Rd Nat) = -1 := rfl
                have hp : (Rd.bad j3 : Rd Nat).pos = j3 := rfl
                rw [hx, hp]
                have hmm := HM.out
                have hmm2 := HM2.out
                clear hx hp e3
                go_wp2_with fail
                obtain ⟨W9, hW9⟩ : ∃ W9, ((((w8.setCell ⟨w.heap.size, 0, none⟩ (.int .i64 0)).setCell ⟨w.heap.size, 1, none⟩ (.int .i64 0)).setCell ⟨w.heap.size, 2, none⟩ (.string ⟨#[]⟩)).setCell ⟨w.heap.size, 3, none⟩ (.slice none 0 0)) = W9 := ⟨_, rfl⟩
                have hq := quad_set4 (a' := .int .i64 0) (b' := .int .i64 0) (c' := .string ⟨#[]⟩) (d' := .slice none 0 0) HBX8.out
                have hw9 := below_set4 (a' := .int .i64 0) (b' := .int .i64 0) (c' := .string ⟨#[]⟩) (d' := .slice none 0 0) HTB8.out (Nat.le_refl _)
                rw [hW9] at hq hw9
                rw [hW9]
                obtain ⟨z0, z1, z2, z3⟩ := quad_cells hq
                exact bodyPost_ret (v := .tuple #[.agg #[.int .i64 0, .int .i64 0, .string ⟨#[]⟩, .slice none 0 0], .int .i64 ((m2 : Int) + (j3 : Int)), .bool false]) (by simp [results, Tryd.results33, go_sem, z0, z1, z2, z3]) rfl (pout_bad hr3.out (by omega) hw9)
              | ok ro j3 =>
                have hro : ro < 5 := er_lt e3
                have hx : exA (.ok ro j3 : Rd Nat) = (ro : Int) := rfl
                have hp : (Rd.ok ro j3 : Rd Nat).pos = j3 := rfl
                rw [e3, hp] at hpos3
                rw [hx, hp]
                clear hx hp
                have hK := Lib.hid (show KInv false f s k (o + 1) (ro + 1) (k + (n + (j + j3))) [] from kinv_of (by
                  rw [hr.out, opR, seq, HE2.out]; simp only; rw [if_pos HO2.out, seq, rest_drop, HM2.out, e3]; simp only; rw [rest_drop, map_sh_id, map_sh_id, HO2.out]
                  rw [show m2 + j3 = k + (n + (j + j3)) by have := HM.out; have := HM2.out; omega, Nat.add_assoc]) (by omega) (by have := HM.out; have := HM2.out; omega) (by omega) (by omega))
                have hwro : IntKind.i64.wrap ((ro : Int) + 1) = (ro : Int) + 1 := wrap_in (by omega)
                obtain ⟨m3, hm3⟩ : ∃ m3, m2 + j3 = m3 := ⟨_, rfl⟩
                rw [hm3]
                have HM3 := Lib.hid (show k + (n + (j + j3)) = m3 by have := HM.out; have := HM2.out; omega)
                clear hm3 e3
                obtain ⟨c0, c1, c2, c3⟩ := quad_cells HQ8.out
                obtain ⟨d0, d1, d2, d3⟩ := quad_soft HQ8.out
                go_wp2_with fail
                go_meet
                exact ⟨ro + 1, m3, rfl, by rw [← HM3.out]; exact hK.out, quad_set1 HQ8.out, HB8.out.setCell (Nat.le_refl _) _⟩
            · have hb3 : ((o : Int) + 1 == 3) = false := by simp; omega
              have hK := Lib.hid (show KInv false f s k (o + 1) 0 (k + (n + j)) [] from kinv_of (by
                  rw [hr.out, opR, seq, HE2.out]; simp only; rw [if_neg ho, rest_drop, HM2.out, map_sh_id]
                  rw [show m2 = k + (n + j) by have := HM.out; have := HM2.out; omega]) (by omega) (by have := HM.out; have := HM2.out; omega) (by omega) (by omega))
              have HM3 := Lib.hid (show k + (n + j) = m2 by have := HM.out; have := HM2.out; omega)
              clear ho
              go_wp2_with fail
              go_meet
              exact ⟨0, m2, rfl, by rw [← HM3.out]; exact hK.out, quad_new _ _ _ _ _ _, below_one _ _⟩
          case rest =>
            obtain ⟨RO, p0, rfl, hK0, hbx13, hbw⟩ := hcut
            obtain ⟨nK, hnK⟩ : ∃ nK, (enders (o + 1)).length = nK := ⟨_, rfl⟩
            have hnb := enders_len (o + 1)
            rw [hnK] at hnb
            have K40 := Lib.hid (show ∀ w, Calls Tryd.prog 40 #[.int .i64 ((o : Int) + 1)] w fun e w' => e = .returned (.int .i64 (nK : Int)) ∧ w = w' from fun w => by
              have h := kids40 ((o + 1 : Nat) : Int) w
              rw [kdI_of (by omega), hnK] at h
              exact h)
            have HNK := Lib.hid hnK
            have HK0 := Lib.hid hK0
            have HX13 := Lib.hid hbx13
            have HBW := Lib.hid hbw
            clear hnK hK0 hbx13 hbw
            go_wp2_with fail
            go_loopw [1, 16] (fun a i wr => ∃ (p : Nat) (ks : List Qt) (xs : List Value) (v : Value), a = .int .i64 p ∧ i = .int .i64 ks.length ∧ KInv false f s k (o + 1) RO p ks ∧
              wr.heap[w5.heap.size]? = some (.cells #[.int .i64 ((o : Int) + 1), .int .i64 RO, .string ⟨#[]⟩, v] 25) ∧ wr.ownsRow (w5.heap.size + 1) 25 4 v ks.length xs ∧ Row wr (w5.heap.size + 1) wr.heap.size v.ownBlock ks xs ∧ Below w5.heap.size w5 wr) (fun _ i _ => nK - (intOf i).toNat)
            case atStart => exact ⟨p0, [], [], _, rfl, rfl, HK0.out, HX13.out, World.ownsRow_nil _ _ _ _, Row.nil, HBW.out⟩
            case round =>
              obtain ⟨p, ks, xs, v, rfl, rfl, hK, hH, hO, hR, hb⟩ := hrel
              obtain ⟨A, cv, rfl⟩ := own_form hO
              have hp1 := hK.2.1
              have hp2 := hK.2.2.1
              have hkl := hK.2.2.2.1
              rw [HNK.out] at hkl
              have HK := Lib.hid hK
              have HH := Lib.hid hH
              have HO' := Lib.hid hO
              have HR := Lib.hid hR
              have HTBr := Lib.hid (HTB5.out.trans (hb.mono HTB5.out.size))
              have HBXr := Lib.hid (heap_below hbx5.out hb)
              clear hK hH hO hR
              obtain ⟨b0, b1, b2, b3⟩ := quad_cells HH.out
              by_cases hlt : ks.length < nK
              · have IHp := Lib.hid (IH.out p wr hp2 (by omega))
                go_wp2_with fail
                refine (K40.out _).mono ?_
                rintro e w' ⟨rfl, rfl⟩
                go_wp2_with fail
                refine IHp.out.mono ?_
                rintro e w6 ⟨⟨a, b, c, A6, l6, c6, rfl, hq⟩, hb6⟩
                have hpq := pq_bd false f (rest s p)
                rw [rest_len] at hpq
                have HH6 := Lib.hid (heap_below HH.out hb6)
                have HBX6 := Lib.hid (heap_below HBXr.out hb6)
                have HTB6 := Lib.hid (HTBr.out.trans (hb6.mono HTBr.out.size))
                have HB6 := Lib.hid hb6
                clear hb6 b0 b1 b2 b3
                cases ep : pq false f (rest s p) with
                | bad n6 =>
                  have hr6 := Lib.hid (HK.out.kid_bad (by rw [HNK.out]; exact hlt) ep)
                  have hx : isOk (.bad n6 : Rd Qt) = false := rfl
                  have hp : (Rd.bad n6 : Rd Qt).pos = n6 := rfl
                  rw [hx, hp]
                  clear hx hp ep hq
                  have HBA := Lib.hid (HTB6.out.alloc HTB6.out.size (.cells #[.int .i64 a, .int .i64 b, .string c, .slice A6 l6 c6] 25))
                  have HXA := Lib.hid (heap_later HBX6.out (.cells #[.int .i64 a, .int .i64 b, .string c, .slice A6 l6 c6] 25))
                  obtain ⟨c0, c1, c2, c3⟩ := quad_cells HXA.out
                  obtain ⟨d0, d1, d2, d3⟩ := quad_soft HXA.out
                  go_wp2_with fail
                  obtain ⟨W9, hW9⟩ : ∃ W9, (((((w6.alloc (.cells #[.int .i64 a, .int .i64 b, .string c, .slice A6 l6 c6] 25)).setCell ⟨w.heap.size, 0, none⟩ (.int .i64 0)).setCell ⟨w.heap.size, 1, none⟩ (.int .i64 0)).setCell ⟨w.heap.size, 2, none⟩ (.string ⟨#[]⟩)).setCell ⟨w.heap.size, 3, none⟩ (.slice none 0 0)) = W9 := ⟨_, rfl⟩
                  have hq := quad_set4 (a' := .int .i64 0) (b' := .int .i64 0) (c' := .string ⟨#[]⟩) (d' := .slice none 0 0) HXA.out
                  have hw9 := below_set4 (a' := .int .i64 0) (b' := .int .i64 0) (c' := .string ⟨#[]⟩) (d' := .slice none 0 0) HBA.out (Nat.le_refl _)
                  rw [hW9] at hq hw9
                  rw [hW9]
                  obtain ⟨z0, z1, z2, z3⟩ := quad_cells hq
                  exact bodyPost_ret (v := .tuple #[.agg #[.int .i64 0, .int .i64 0, .string ⟨#[]⟩, .slice none 0 0], .int .i64 ((p : Int) + (n6 : Int)), .bool false]) (by simp [results, Tryd.results33, go_sem, z0, z1, z2, z3]) rfl (pout_bad hr6.out (by omega) hw9)
                | ok q n6 =>
                  have hqn := hq q n6 ep
                  have hx : isOk (.ok q n6 : Rd Qt) = true := rfl
                  have hp : (Rd.ok q n6 : Rd Qt).pos = n6 := rfl
                  rw [ep, hp] at hpq
                  rw [hx, hp]
                  clear hx hp hq
                  have EP := Lib.hid ep
                  clear ep
                  have HB7 := Lib.hid (below_one w6 (.cells #[.int .i64 a, .int .i64 b, .string c, .slice A6 l6 c6] 25))
                  have HB67 := Lib.hid (HB6.out.trans (HB7.out.mono HB6.out.size))
                  have HH7 := Lib.hid (heap_below HH6.out HB7.out)
                  have HQN := Lib.hid hqn
                  clear hqn
                  obtain ⟨b0, b1, b2, b3⟩ := quad_cells HH7.out
                  have HO7 := Lib.hid (((own_below HO'.out HB6.out).alloc (.cells #[.int .i64 a, .int .i64 b, .string c, .slice A6 l6 c6] 25)).alloc (.cells #[.int .i64 a, .int .i64 b, .string c, .slice A6 l6 c6] 25))
                  have HR7 := Lib.hid ((HR.out.step HB6.out).step HB7.out)
                  have hks2 : ks.length + 1 ≤ 2 := by omega
                  have hrd : Reads ((w6.alloc (.cells #[.int .i64 a, .int .i64 b, .string c, .slice A6 l6 c6] 25)).alloc (.cells #[.int .i64 a, .int .i64 b, .string c, .slice A6 l6 c6] 25)) (w6.heap.size + 2) 4 (some ⟨w6.heap.size + 1, 0, none⟩) 1 [.int .i64 a, .int .i64 b, .string c, .slice A6 l6 c6] := by
                    refine ⟨rfl, fun _ => ⟨_, rfl, Nat.lt_succ_self _, ?_⟩⟩
                    have h := cells_four (w6.alloc (.cells #[.int .i64 a, .int .i64 b, .string c, .slice A6 l6 c6] 25)) (.int .i64 a) (.int .i64 b) (.string c) (.slice A6 l6 c6) 25
                    rw [size_one] at h
                    exact h
                  have HRD := Lib.hid hrd
                  clear hrd
                  go_wp2_with (at_builtin; refine wpList_append_any _ rfl _ _ 23 rfl (w5.heap.size + 1) 25 x1 (.agg #[.int .i64 0, .int .i64 0, .string ⟨#[]⟩, .slice none 0 0]) 4 56 Tryd.underlying23 HI25.out HY0.out HY1.out HY2.out rfl (by decide) _ _ _ rfl HO7.out (w6.heap.size + 2) (some ⟨w6.heap.size + 1, 0, none⟩) 1 1 [.int .i64 a, .int .i64 b, .string c, .slice A6 l6 c6] rfl HRD.out ?c2 ?c3 ?c4 ?c5 ?_)
                  case c2 => intro u hu; simp at hu; rcases hu with rfl | rfl | rfl | rfl <;> rfl
                  case c3 => unfold maxLen; omega
                  case c4 => omega
                  case c5 => have h1 := hb.size; have h2 := HB6.out.size; have h3 := lt_of_heap HX13.out; have h4 := lt_of_heap HH6.out; simp; omega
                  intro v8 w8 hown8 hgrow8 hblk8
                  obtain ⟨A8, c8, rfl⟩ := own_form hown8
                  have h56 : w5.heap.size + 1 ≤ w6.heap.size := lt_of_heap HH6.out
                  have hbB : Below (w5.heap.size + 1) w6 w8 := (((Below.refl _ _).alloc h56 _).alloc (by rw [size_one]; omega) _).grown hgrow8 (by rw [size_one, size_one]; omega) (fun k hk => (HO7.out.lt k hk).1)
                  have hH8 : w8.heap[w5.heap.size]? = _ := (hbB.block _ (Nat.lt_succ_self _)).trans HH6.out
                  have HB8 := Lib.hid ((hb.trans (HB6.out.mono hb.size)).trans (hbB.mono (Nat.le_succ _)))
                  have hR8 := (((HR7.out.step (below_one (w6.alloc (.cells #[.int .i64 a, .int .i64 b, .string c, .slice A6 l6 c6] 25)) (.cells #[.int .i64 a, .int .i64 b, .string c, .slice A6 l6 c6] 25))).snoc
                    (HQN.out.keep (w' := (w6.alloc (.cells #[.int .i64 a, .int .i64 b, .string c, .slice A6 l6 c6] 25)).alloc (.cells #[.int .i64 a, .int .i64 b, .string c, .slice A6 l6 c6] 25)) fun p _ hp => by rw [World.cell?_alloc_lt _ _ _ (by rw [size_one]; omega), World.cell?_alloc_lt _ _ _ hp])
                    (by have := lt_of_heap HH.out; omega) (by rw [size_one, size_one]; omega) (fun i hi => .inl (HO'.out.lt i hi).2))).grow (g' := (Value.slice A8 (ks.length + 1) c8).ownBlock) hgrow8 (by rw [size_one, size_one]; exact hblk8)
                  have HR8 := Lib.hid hR8
                  have HO8 := Lib.hid hown8
                  have HH8 := Lib.hid hH8
                  clear hown8 hgrow8 hblk8 hbB hH8 hR8 b0 b1 b2 b3
                  obtain ⟨b0, b1, b2, b3⟩ := quad_cells HH8.out
                  obtain ⟨f0, f1, f2, f3⟩ := quad_soft HH8.out
                  obtain ⟨p4, hp4⟩ : ∃ p4, p + n6 = p4 := ⟨_, rfl⟩
                  have hp4s : p4 ≤ s.size := by omega
                  have hcase : (endOf (o + 1) ks.length = [41] ∧ ((ks.length : Int) == (nK : Int) - 1) = true) ∨ (endOf (o + 1) ks.length = [32] ∧ ((ks.length : Int) == (nK : Int) - 1) = false) := by
                    unfold endOf
                    rw [HNK.out]
                    by_cases e : ks.length + 1 = nK
                    · exact .inl ⟨if_pos e, by simp; omega⟩
                    · exact .inr ⟨if_neg e, by simp; omega⟩
                  rw [show (p : Int) + (n6 : Int) = (p4 : Int) by omega]
                  have HP4 := Lib.hid hp4
                  clear hp4
                  rcases hcase with ⟨hee, htest⟩ | ⟨hee, htest⟩
                  · have HEE := Lib.hid hee
                    clear hee
                    go_wp2_with fail
                    refine (K40.out _).mono ?_
                    rintro e w' ⟨rfl, rfl⟩
                    obtain ⟨wY, hwY⟩ : ∃ wY, w8.setCell ⟨w5.heap.size, 3, none⟩ (.slice A8 (ks.length + 1) c8) = wY := ⟨_, rfl⟩
                    have hHY := quad_set3 (x := .slice A8 (ks.length + 1) c8) HH8.out
                    have hBY := HB8.out.setCell (p := ⟨w5.heap.size, 3, none⟩) (Nat.le_refl _) (.slice A8 (ks.length + 1) c8)
                    have hRY := HR8.out.set (p := ⟨w5.heap.size, 3, none⟩) (Nat.lt_succ_self _) (.slice A8 (ks.length + 1) c8)
                    have hOY := own_set HO8.out (p := ⟨w5.heap.size, 3, none⟩) (.slice A8 (ks.length + 1) c8) (fun i hi => by have := (HO8.out.lt i hi).1; show i ≠ w5.heap.size; omega)
                    have hsY : w8.heap.size = (w8.setCell ⟨w5.heap.size, 3, none⟩ (.slice A8 (ks.length + 1) c8)).heap.size := by simp
                    rw [hsY] at hRY
                    rw [hwY] at hHY hBY hRY hOY
                    rw [hwY]
                    have HHY := Lib.hid hHY
                    have HBY := Lib.hid hBY
                    have HRY := Lib.hid hRY
                    have HOY := Lib.hid hOY
                    clear hwY hHY hBY hRY hOY hsY b0 b1 b2 b3 f0 f1 f2 f3
                    have E4 := Lib.hid (expect45 [[41]] s p4 (some ⟨wY.heap.size, 0, none⟩) 1 (wY.alloc (.cells #[.string ⟨#[41]⟩] 9)) hp4s hs (by decide) (by decide) (show Strs (newS wY [[41]]) _ _ _ from newS_strs wY [[41]]))
                    have hpos5 := er_bd [[41]] (rest s p4)
                    rw [rest_len] at hpos5
                    go_wp2_with fail
                    refine E4.out.mono ?_
                    rintro e w9 ⟨rfl, hb9⟩
                    have HY9 := Lib.hid ((below_one wY (.cells #[.string ⟨#[41]⟩] 9)).trans (hb9.mono (by rw [size_one]; omega)))
                    have HB9 := Lib.hid (HBY.out.trans (HY9.out.mono HBY.out.size))
                    have HH9 := Lib.hid (heap_below HHY.out HY9.out)
                    have HBX9 := Lib.hid (heap_below hbx5.out HB9.out)
                    have HTB9 := Lib.hid (HTB5.out.trans (HB9.out.mono HTB5.out.size))
                    clear hb9
                    cases e5 : ER [[41]] (rest s p4) with
                    | bad m5 =>
                      have hr9 := Lib.hid (HK.out.end_bad (by rw [HNK.out]; exact hlt) EP.out (by rw [HEE.out, HP4.out]; exact e5))
                      have hx : exA (.bad m5 : Rd Nat) = -1 := rfl
                      have hp : (Rd.bad m5 : Rd Nat).pos = m5 := rfl
                      rw [hx, hp]
                      clear hx hp e5
                      have hpp := HP4.out
                      obtain ⟨c0, c1, c2, c3⟩ := quad_cells HBX9.out
                      obtain ⟨d0, d1, d2, d3⟩ := quad_soft HBX9.out
                      go_wp2_with fail
                      obtain ⟨W9, hW9⟩ : ∃ W9, ((((w9.setCell ⟨w.heap.size, 0, none⟩ (.int .i64 0)).setCell ⟨w.heap.size, 1, none⟩ (.int .i64 0)).setCell ⟨w.heap.size, 2, none⟩ (.string ⟨#[]⟩)).setCell ⟨w.heap.size, 3, none⟩ (.slice none 0 0)) = W9 := ⟨_, rfl⟩
                      have hq := quad_set4 (a' := .int .i64 0) (b' := .int .i64 0) (c' := .string ⟨#[]⟩) (d' := .slice none 0 0) HBX9.out
                      have hw9 := below_set4 (a' := .int .i64 0) (b' := .int .i64 0) (c' := .string ⟨#[]⟩) (d' := .slice none 0 0) HTB9.out (Nat.le_refl _)
                      rw [hW9] at hq hw9
                      rw [hW9]
                      obtain ⟨z0, z1, z2, z3⟩ := quad_cells hq
                      exact bodyPost_ret (v := .tuple #[.agg #[.int .i64 0, .int .i64 0, .string ⟨#[]⟩, .slice none 0 0], .int .i64 ((p4 : Int) + (m5 : Int)), .bool false]) (by simp [results, Tryd.results33, go_sem, z0, z1, z2, z3]) rfl (pout_bad hr9.out (by omega) hw9)
                    | ok i5 m5 =>
                      have hx : exA (.ok i5 m5 : Rd Nat) = (i5 : Int) := rfl
                      have hp : (Rd.ok i5 m5 : Rd Nat).pos = m5 := rfl
                      rw [e5, hp] at hpos5
                      rw [hx, hp]
                      clear hx hp
                      have HK9 := Lib.hid (HK.out.next (by rw [HNK.out]; exact hlt) EP.out (by rw [HEE.out, HP4.out]; exact e5) (by have := HP4.out; omega))
                      clear e5
                      go_wp2_with fail
                      go_roundw
                      case rel => exact ⟨p4 + m5, ks ++ [q], _, _, by go_num, by rw [List.length_append]; go_num, by rw [← HP4.out]; exact HK9.out, HH9.out, by rw [List.length_append]; exact own_below HOY.out HY9.out, HRY.out.step HY9.out, HB9.out⟩
                      case measure => simp [intOf]; omega
                  · have HEE := Lib.hid hee
                    clear hee
                    go_wp2_with fail
                    refine (K40.out _).mono ?_
                    rintro e w' ⟨rfl, rfl⟩
                    obtain ⟨wY, hwY⟩ : ∃ wY, w8.setCell ⟨w5.heap.size, 3, none⟩ (.slice A8 (ks.length + 1) c8) = wY := ⟨_, rfl⟩
                    have hHY := quad_set3 (x := .slice A8 (ks.length + 1) c8) HH8.out
                    have hBY := HB8.out.setCell (p := ⟨w5.heap.size, 3, none⟩) (Nat.le_refl _) (.slice A8 (ks.length + 1) c8)
                    have hRY := HR8.out.set (p := ⟨w5.heap.size, 3, none⟩) (Nat.lt_succ_self _) (.slice A8 (ks.length + 1) c8)
                    have hOY := own_set HO8.out (p := ⟨w5.heap.size, 3, none⟩) (.slice A8 (ks.length + 1) c8) (fun i hi => by have := (HO8.out.lt i hi).1; show i ≠ w5.heap.size; omega)
                    have hsY : w8.heap.size = (w8.setCell ⟨w5.heap.size, 3, none⟩ (.slice A8 (ks.length + 1) c8)).heap.size := by simp
                    rw [hsY] at hRY
                    rw [hwY] at hHY hBY hRY hOY
                    rw [hwY]
                    have HHY := Lib.hid hHY
                    have HBY := Lib.hid hBY
                    have HRY := Lib.hid hRY
                    have HOY := Lib.hid hOY
                    clear hwY hHY hBY hRY hOY hsY b0 b1 b2 b3 f0 f1 f2 f3
                    have E4 := Lib.hid (expect45 [[32]] s p4 (some ⟨wY.heap.size, 0, none⟩) 1 (wY.alloc (.cells #[.string ⟨#[32]⟩] 9)) hp4s hs (by decide) (by decide) (show Strs (newS wY [[32]]) _ _ _ from newS_strs wY [[32]]))
                    have hpos5 := er_bd [[32]] (rest s p4)
                    rw [rest_len] at hpos5
                    go_wp2_with fail
                    refine E4.out.mono ?_
                    rintro e w9 ⟨rfl, hb9⟩
                    have HY9 := Lib.hid ((below_one wY (.cells #[.string ⟨#[32]⟩] 9)).trans (hb9.mono (by rw [size_one]; omega)))
                    have HB9 := Lib.hid (HBY.out.trans (HY9.out.mono HBY.out.size))
                    have HH9 := Lib.hid (heap_below HHY.out HY9.out)
                    have HBX9 := Lib.hid (heap_below hbx5.out HB9.out)
                    have HTB9 := Lib.hid (HTB5.out.trans (HB9.out.mono HTB5.out.size))
                    clear hb9
                    cases e5 : ER [[32]] (rest s p4) with
                    | bad m5 =>
                      have hr9 := Lib.hid (HK.out.end_bad (by rw [HNK.out]; exact hlt) EP.out (by rw [HEE.out, HP4.out]; exact e5))
                      have hx : exA (.bad m5 : Rd Nat) = -1 := rfl
                      have hp : (Rd.bad m5 : Rd Nat).pos = m5 := rfl
                      rw [hx, hp]
                      clear hx hp e5
                      have hpp := HP4.out
                      obtain ⟨c0, c1, c2, c3⟩ := quad_cells HBX9.out
                      obtain ⟨d0, d1, d2, d3⟩ := quad_soft HBX9.out
                      go_wp2_with fail
                      obtain ⟨W9, hW9⟩ : ∃ W9, ((((w9.setCell ⟨w.heap.size, 0, none⟩ (.int .i64 0)).setCell ⟨w.heap.size, 1, none⟩ (.int .i64 0)).setCell ⟨w.heap.size, 2, none⟩ (.string ⟨#[]⟩)).setCell ⟨w.heap.size, 3, none⟩ (.slice none 0 0)) = W9 := ⟨_, rfl⟩
                      have hq := quad_set4 (a' := .int .i64 0) (b' := .int .i64 0) (c' := .string ⟨#[]⟩) (d' := .slice none 0 0) HBX9.out
                      have hw9 := below_set4 (a' := .int .i64 0) (b' := .int .i64 0) (c' := .string ⟨#[]⟩) (d' := .slice none 0 0) HTB9.out (Nat.le_refl _)
                      rw [hW9] at hq hw9
                      rw [hW9]
                      obtain ⟨z0, z1, z2, z3⟩ := quad_cells hq
                      exact bodyPost_ret (v := .tuple #[.agg #[.int .i64 0, .int .i64 0, .string ⟨#[]⟩, .slice none 0 0], .int .i64 ((p4 : Int) + (m5 : Int)), .bool false]) (by simp [results, Tryd.results33, go_sem, z0, z1, z2, z3]) rfl (pout_bad hr9.out (by omega) hw9)
                    | ok i5 m5 =>
                      have hx : exA (.ok i5 m5 : Rd Nat) = (i5 : Int) := rfl
                      have hp : (Rd.ok i5 m5 : Rd Nat).pos = m5 := rfl
                      rw [e5, hp] at hpos5
                      rw [hx, hp]
                      clear hx hp
                      have HK9 := Lib.hid (HK.out.next (by rw [HNK.out]; exact hlt) EP.out (by rw [HEE.out, HP4.out]; exact e5) (by have := HP4.out; omega))
                      clear e5
                      go_wp2_with fail
                      go_roundw
                      case rel => exact ⟨p4 + m5, ks ++ [q], _, _, by go_num, by rw [List.length_append]; go_num, by rw [← HP4.out]; exact HK9.out, HH9.out, by rw [List.length_append]; exact own_below HOY.out HY9.out, HRY.out.step HY9.out, HB9.out⟩
                      case measure => simp [intOf]; omega
              · obtain rfl : ks.length = nK := by omega
                have hr4 := Lib.hid (HK.out.done HNK.out.symm)
                obtain ⟨c0, c1, c2, c3⟩ := quad_cells HBXr.out
                obtain ⟨d0, d1, d2, d3⟩ := quad_soft HBXr.out
                have hq9' := Lib.hid (HR.out.node HO'.out rfl (Nat.le_refl _) ((o : Int) + 1) (RO : Int) ⟨#[]⟩)
                have hz5 := HTB5.out.size
                go_wp2_with fail
                refine (K40.out _).mono ?_
                rintro e w' ⟨rfl, rfl⟩
                go_wp2_with fail
                have hq9 := QN.set4 (hq9'.out) (b := w.heap.size) (by omega) (.int .i64 ((o : Int) + 1)) (.int .i64 (RO : Int)) (.string ⟨#[]⟩) (.slice A ks.length cv)
                obtain ⟨W9, hW9⟩ : ∃ W9, ((((wr.setCell ⟨w.heap.size, 0, none⟩ (.int .i64 ((o : Int) + 1))).setCell ⟨w.heap.size, 1, none⟩ (.int .i64 (RO : Int))).setCell ⟨w.heap.size, 2, none⟩ (.string ⟨#[]⟩)).setCell ⟨w.heap.size, 3, none⟩ (.slice A ks.length cv)) = W9 := ⟨_, rfl⟩
                have hq := quad_set4 (a' := .int .i64 ((o : Int) + 1)) (b' := .int .i64 (RO : Int)) (c' := .string ⟨#[]⟩) (d' := .slice A ks.length cv) HBXr.out
                have hw9 := below_set4 (a' := .int .i64 ((o : Int) + 1)) (b' := .int .i64 (RO : Int)) (c' := .string ⟨#[]⟩) (d' := .slice A ks.length cv) HTBr.out (Nat.le_refl _)
                rw [hW9] at hq hw9
                rw [hW9] at hq9
                rw [hW9]
                obtain ⟨z0, z1, z2, z3⟩ := quad_cells hq
                exact bodyPost_ret (v := .tuple #[.agg #[.int .i64 ((o : Int) + 1), .int .i64 (RO : Int), .string ⟨#[]⟩, .slice A ks.length cv], .int .i64 ((p : Int)), .bool true]) (by simp [results, Tryd.results33, go_sem, z0, z1, z2, z3]) rfl (pout_ok hr4.out (by omega) hw9 (qn_fin hq9 (by omega) (by rw [← hW9]; simp)))
end Go.Proofs.YtgbjldkbbbjnkaaDoor
