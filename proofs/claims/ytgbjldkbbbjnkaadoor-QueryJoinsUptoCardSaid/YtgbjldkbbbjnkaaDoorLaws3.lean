/-
  The laws QueryBack, QueryCut, QueryOnly, QueryWhere.
-/
import Derived.Test.YtgbjldkbbbjnkaaDoorLaws2
namespace Go.Proofs.YtgbjldkbbbjnkaaDoor
open Go.RowKit Go.PlainAid Pl

theorem prn_no {q : Qt} (h : chk pe q ≠ 0) : str (prn q) = ⟨#[]⟩ := by rw [prn, if_neg h]; rfl
theorem prn_yes {q : Qt} (h : chk pe q = 0) : prn q = txt q := by rw [prn, if_pos h]
set_option maxHeartbeats 6400000 in
set_option maxRecDepth 100000 in
theorem law9 (q : Qt) (v : Value) (w : World) (hn : sz q ≤ 4194304) (hq : QAt w w.heap.size q v) (hT : Tab w) : Calls Tryd.prog 9 #[v] w (AwOut w) := by
  obtain ⟨a, b, c, d, rfl⟩ := hq.flat
  have L0 := Lib.hid (Ld.start hq)
  obtain ⟨W0, hW0⟩ : ∃ W0, w.alloc (.cells #[a, b, c, d] 25) = W0 := ⟨_, rfl⟩
  rw [hW0] at L0
  have HW := Lib.hid hW0
  have HT0 := Lib.hid (show ∀ W, Below w.heap.size w W → Tab W from fun W hb => hT.below hb)
  clear hW0 hq hT
  obtain ⟨x0, x1, x2, x3⟩ := L0.out.cells
  have E1 := Lib.hid (few14 q _ W0 hn L0.out.q)
  obtain ⟨F, hF⟩ : ∃ F, fewB q = F := ⟨_, rfl⟩
  rw [hF] at E1
  go_enter Tryd.func9, Tryd.ntmps9
  go_wp2_with fail
  rw [HW.out]
  clear HW
  refine E1.out.mono ?_
  rintro e w1 ⟨rfl, hb1⟩
  have L1 := Lib.hid (L0.out.next hb1)
  clear hb1 x0 x1 x2 x3
  cases F
  · go_wp2_with fail
    refine (awake12 w1 (HT0.out w1 L1.out.k)).mono ?_
    rintro e w2 ⟨rfl, hb2⟩
    go_wp2_with fail
    go_ret
    exact ⟨rfl, (L1.out.next hb2).k⟩
  obtain ⟨hsz, hsh, htb⟩ := few_yes hF
  clear hF hsh
  obtain ⟨x0, x1, x2, x3⟩ := L1.out.cells
  have HN := Lib.hid hn
  have E2 := Lib.hid (print17 q _ w1 hn htb L1.out.q (HT0.out w1 L1.out.k))
  have E3 := Lib.hid (fun (W : World) (hb : Below w1.heap.size w1 W) => check18 q _ W hn htb (L1.out.next hb).q (HT0.out W (L1.out.next hb).k))
  clear hsz htb hn
  by_cases hC : chk pe q = 0
  case neg =>
    have HP := Lib.hid (prn_no hC)
    obtain ⟨C, hC'⟩ : ∃ C, chk pe q = C := ⟨_, rfl⟩
    rw [hC'] at hC
    have HC := Lib.hid hC'
    clear hC'
    have g : (C != 0) = true := by simp [hC]
    clear hC
    go_wp2_with fail
    refine E2.out.mono ?_
    rintro e w2 ⟨rfl, hb2⟩
    rw [HP.out, HC.out]
    have L2 := Lib.hid (L1.out.next hb2)
    have E4 := Lib.hid (E3.out w2 hb2)
    clear hb2 x0 x1 x2 x3
    obtain ⟨x0, x1, x2, x3⟩ := L2.out.cells
    go_wp2_with fail
    refine E4.out.mono ?_
    rintro e w3 ⟨rfl, hb3⟩
    rw [HC.out]
    have L3 := Lib.hid (L2.out.next hb3)
    clear hb3 x0 x1 x2 x3
    have E5 := Lib.hid (awake12 w3 (HT0.out w3 L3.out.k))
    go_wp2_with fail
    refine E5.out.mono ?_
    rintro e w4 ⟨rfl, hb4⟩
    go_wp2_with fail
    go_ret
    exact ⟨rfl, (L3.out.next hb4).k⟩
  obtain ⟨_, _, _, hwf, hlen⟩ := chk_zero hC
  obtain ⟨S, hS⟩ : ∃ S, str (prn q) = S := ⟨_, rfl⟩
  have hprs : prs S = .inl q := by rw [← hS, prn_yes hC]; exact prs_txt hwf (by omega)
  have hsize : S.size ≤ 4194303 := by rw [← hS, str_len, prn_yes hC]; omega
  have HP := Lib.hid hS
  have HC := Lib.hid hC
  have HR := Lib.hid (pq_of hprs hC)
  have HS := Lib.hid hsize
  clear hS hC hprs hsize hwf hlen
  go_wp2_with fail
  refine E2.out.mono ?_
  rintro e w2 ⟨rfl, hb2⟩
  rw [HP.out, HC.out]
  have L2 := Lib.hid (L1.out.next hb2)
  have K2 := Lib.hid hb2
  clear hb2 x0 x1 x2 x3
  have E4 := Lib.hid (parse13 S w2 HS.out (HT0.out w2 L2.out.k))
  go_wp2_with fail
  refine E4.out.mono ?_
  rintro e w3 ⟨hb3, v3, rfl, hq3⟩
  obtain ⟨o, r, t, A, n, cp, rfl, Y3, k3⟩ := pa_box hb3 hq3
  rw [HR.out.1] at Y3
  rw [HR.out.2.1, HR.out.2.2]
  obtain ⟨W3, hW3⟩ : ∃ W3, w3.alloc (.cells #[.int .i64 o, .int .i64 r, .string t, .slice A n cp] 25) = W3 := ⟨_, rfl⟩
  rw [hW3] at Y3 k3
  have HW3 := Lib.hid hW3
  have L3 := Lib.hid (L2.out.next k3)
  have M3 := Lib.hid Y3
  have K3 := Lib.hid (K2.out.trans (k3.mono K2.out.size))
  clear hb3 hq3 hW3 Y3 k3
  obtain ⟨x0, x1, x2, x3⟩ := L3.out.cells
  obtain ⟨y0, y1, y2, y3⟩ := M3.out.cells
  have E5 := Lib.hid (same24 _ _ _ _ W3 HN.out M3.out.q L3.out.q)
  go_upto_region 7 with (fail)
  rw [HW3.out]
  clear HW3
  go_wp2_with fail
  refine E5.out.mono ?_
  rintro e w4 ⟨rfl, hb4⟩
  rw [same_yes rfl]
  have L4 := Lib.hid (L3.out.next hb4)
  have E6 := Lib.hid (E3.out w4 (K3.out.trans (hb4.mono K3.out.size)))
  clear hb4 x0 x1 x2 x3 y0 y1 y2 y3
  obtain ⟨x0, x1, x2, x3⟩ := L4.out.cells
  go_wp2_with fail
  refine E6.out.mono ?_
  rintro e w5 ⟨rfl, hb5⟩
  rw [HC.out]
  have L5 := Lib.hid (L4.out.next hb5)
  clear hb5 x0 x1 x2 x3
  have E7 := Lib.hid (awake12 w5 (HT0.out w5 L5.out.k))
  go_wp2_with fail
  refine E7.out.mono ?_
  rintro e w6 ⟨rfl, hb6⟩
  go_wp2_with fail
  go_ret
  exact ⟨rfl, (L5.out.next hb6).k⟩
theorem slice_run0 (s : ByteArray) (b : Nat) (hb : b ≤ s.size) : ∀ wx : World, (Instr.slice 9 (.string s) none (some (.int .i64 (b : Int))) none).run Tryd.prog wx = .ok (.string (s.extract 0 b)) wx := fun wx => by
  have := run_slice_string_h (P := Tryd.prog) (w := wx) (t := 9) (s := s) Tryd.underlying9 .i64 (b : Int) (by omega) (by omega)
  simpa using this
theorem QAt.flat_op {w : World} {B : Nat} {q : Qt} {v : Value} (h : QAt w B q v) : ∃ b c d, v = .agg #[.int .i64 q.op, b, c, d] := by
  obtain ⟨o, r, t, ks⟩ := q
  obtain ⟨A, c, rfl, _⟩ := h.inv
  exact ⟨_, _, _, rfl⟩
theorem len0 {S : ByteArray} (h : 0 < S.size) : S.toList.isEmpty = false := by
  cases e : S.toList.isEmpty with
  | false => rfl
  | true =>
    have := (empty_iff S).1 e
    have h2 := size_list S
    rw [this] at h2
    simp at h2
    omega
set_option maxHeartbeats 6400000 in
set_option maxRecDepth 100000 in
theorem law11 (q : Qt) (v : Value) (n : Int) (w : World) (hn : sz q ≤ 4194304) (hwf : (Lit.int .u16 n).wf = true) (hq : QAt w w.heap.size q v) (hT : Tab w) : Calls Tryd.prog 11 #[v, .int .u16 n] w (AwOut w) := by
  obtain ⟨hn0, hn1⟩ : 0 ≤ n ∧ n ≤ 65535 := by
    simp [Lit.wf, IntKind.min, IntKind.max, IntKind.signed, IntKind.bits] at hwf
    omega
  clear hwf
  obtain ⟨b, c, d, rfl⟩ := hq.flat_op
  obtain ⟨o, ho⟩ : ∃ o, q.op = o := ⟨_, rfl⟩
  have L0 := Ld.start hq
  rw [ho] at L0 ⊢
  have L0 := Lib.hid L0
  obtain ⟨W0, hW0⟩ : ∃ W0, w.alloc (.cells #[.int .i64 o, b, c, d] 25) = W0 := ⟨_, rfl⟩
  rw [hW0] at L0
  have HW := Lib.hid hW0
  have HT0 := Lib.hid (show ∀ W, Below w.heap.size w W → Tab W from fun W hb => hT.below hb)
  clear hW0 hq hT
  obtain ⟨x0, x1, x2, x3⟩ := L0.out.cells
  have E1 := Lib.hid (few14 q _ W0 hn L0.out.q)
  obtain ⟨F, hF⟩ : ∃ F, fewB q = F := ⟨_, rfl⟩
  rw [hF] at E1
  go_enter Tryd.func11, Tryd.ntmps11
  go_wp2_with fail
  rw [HW.out]
  clear HW
  refine E1.out.mono ?_
  rintro e w1 ⟨rfl, hb1⟩
  have L1 := Lib.hid (L0.out.next hb1)
  clear hb1 x0 x1 x2 x3
  cases F
  · go_wp2_with fail
    refine (awake12 w1 (HT0.out w1 L1.out.k)).mono ?_
    rintro e w2 ⟨rfl, hb2⟩
    go_wp2_with fail
    go_ret
    exact ⟨rfl, (L1.out.next hb2).k⟩
  obtain ⟨hsz, hsh, htb⟩ := few_yes hF
  clear hF hsh
  obtain ⟨x0, x1, x2, x3⟩ := L1.out.cells
  by_cases ho0 : o = 0
  · subst ho0
    go_wp2_with fail
    refine (awake12 w1 (HT0.out w1 L1.out.k)).mono ?_
    rintro e w2 ⟨rfl, hb2⟩
    go_wp2_with fail
    go_ret
    exact ⟨rfl, (L1.out.next hb2).k⟩
  have E2 := Lib.hid (print17 q _ w1 hn htb L1.out.q (HT0.out w1 L1.out.k))
  clear hsz htb hn
  by_cases hC : chk pe q = 0
  case neg =>
    have HP := Lib.hid (prn_no hC)
    obtain ⟨C, hC'⟩ : ∃ C, chk pe q = C := ⟨_, rfl⟩
    rw [hC'] at hC
    have HC := Lib.hid hC'
    clear hC'
    have g : (C != 0) = true := by simp [hC]
    clear hC
    go_wp2_with fail
    refine E2.out.mono ?_
    rintro e w2 ⟨rfl, hb2⟩
    rw [HP.out, HC.out]
    have L2 := Lib.hid (L1.out.next hb2)
    clear hb2 x0 x1 x2 x3
    have E5 := Lib.hid (awake12 w2 (HT0.out w2 L2.out.k))
    go_wp2_with fail
    refine E5.out.mono ?_
    rintro e w4 ⟨rfl, hb4⟩
    go_wp2_with fail
    go_ret
    exact ⟨rfl, (L2.out.next hb4).k⟩
  obtain ⟨_, _, _, hwf, hlen⟩ := chk_zero hC
  obtain ⟨S, hS⟩ : ∃ S, str (prn q) = S := ⟨_, rfl⟩
  have hsl : S.size = (txt q).length := by rw [← hS, str_len, prn_yes hC]
  have hpos : 0 < S.size := by have := (wf_tb q hwf (by omega)).2; have := sz_pos q; omega
  obtain ⟨k, hk, hkl⟩ : ∃ k : Nat, Int.tmod n (S.size : Int) = (k : Int) ∧ k < S.size := by
    refine ⟨n.toNat % S.size, ?_, Nat.mod_lt _ hpos⟩
    rw [Int.tmod_eq_emod_of_nonneg hn0, Int.natCast_emod, Int.toNat_of_nonneg hn0]
  have hprs : prs (S.extract 0 k) = .inr k := by
    rw [← hS, prn_yes hC, ext_take _ _ (by omega)]
    exact prs_cut hwf (by rw [ho]; exact ho0) (by omega) (by omega)
  have hx : (S.extract 0 k).size ≤ 4194303 := by rw [← hS, prn_yes hC, ext_take _ _ (by omega), str_len, List.length_take]; omega
  obtain ⟨X, hX⟩ : ∃ X, S.extract 0 k = X := ⟨_, rfl⟩
  have hslice := slice_run0 S k (by omega)
  rw [hX] at hprs hx hslice
  have hne := len0 hpos
  have hp1 : ((S.size : Nat) : Int) ≠ 0 := by omega
  have hp2 : (0 : Int) < (S.size : Int) := by omega
  have hs3 : (S.size : Int) ≤ 100000 := by omega
  have hk9 : (k : Int) ≤ 100000 := by omega
  have HP := Lib.hid hS
  have HC := Lib.hid hC
  have HR := Lib.hid (show pAt (prs X) = k ∧ pEr (prs X) = 28 from by rw [hprs]; exact ⟨rfl, rfl⟩)
  have HS := Lib.hid hx
  clear hS hC hprs hwf hlen hx hX hsl
  go_wp2_with fail
  refine E2.out.mono ?_
  rintro e w2 ⟨rfl, hb2⟩
  rw [HP.out, HC.out]
  have L2 := Lib.hid (L1.out.next hb2)
  clear hb2 x0 x1 x2 x3
  have E4 := Lib.hid (parse13 X w2 HS.out (HT0.out w2 L2.out.k))
  go_wp2_with fail
  refine E4.out.mono ?_
  rintro e w3 ⟨hb3, v3, rfl, hq3⟩
  obtain ⟨o', r, t, A, m, cp, rfl, Y3, k3⟩ := pa_box hb3 hq3
  rw [HR.out.1, HR.out.2]
  obtain ⟨W3, hW3⟩ : ∃ W3, w3.alloc (.cells #[.int .i64 o', .int .i64 r, .string t, .slice A m cp] 25) = W3 := ⟨_, rfl⟩
  rw [hW3] at k3
  have HW3 := Lib.hid hW3
  have L3 := Lib.hid (L2.out.next k3)
  clear hb3 hq3 hW3 Y3 k3
  have E7 := Lib.hid (awake12 W3 (HT0.out W3 L3.out.k))
  go_upto_region 10 with (fail)
  rw [HW3.out]
  clear HW3
  go_wp2_with fail
  refine E7.out.mono ?_
  rintro e w6 ⟨rfl, hb6⟩
  go_wp2_with fail
  go_ret
  exact ⟨rfl, (L3.out.next hb6).k⟩
theorem chk_no28 {s : ByteArray} {q : Qt} (h : prs s = .inl q) : chk pe q ≠ 28 := fun e => by
  obtain ⟨n, hn⟩ := prs_28 (s := s) (by rw [h, pEr, e])
  rw [h] at hn
  cases hn
set_option maxHeartbeats 6400000 in
set_option maxRecDepth 100000 in
theorem law10 (s : ByteArray) (w : World) (hs : s.size ≤ 9223372036854775807) (hT : Tab w) : Calls Tryd.prog 10 #[.string s] w (AwOut w) := by
  have HT0 := Lib.hid (show ∀ W, Below w.heap.size w W → Tab W from fun W hb => hT.below hb)
  rcases Nat.lt_or_ge 1500 s.size with h15 | h15
  · have g : (1500 : Int) < (s.size : Int) := by omega
    go_enter Tryd.func10, Tryd.ntmps10
    go_wp2_with fail
    refine (awake12 w hT).mono ?_
    rintro e w2 ⟨rfl, hb2⟩
    go_wp2_with fail
    go_ret
    exact ⟨rfl, hb2⟩
  have g : ¬ (1500 : Int) < (s.size : Int) := by omega
  have g2 : (s.size : Int) ≤ 1500 := by omega
  have HS := Lib.hid (show s.size ≤ 4194303 by omega)
  have E1 := Lib.hid (parse13 s w HS.out hT)
  clear hT h15 hs
  cases hp : prs s with
  | inr n =>
    have hle := prs_inr hp
    have hN1 : (0 : Int) ≤ (n : Int) := by omega
    have hN2 : (n : Int) ≤ (s.size : Int) := by omega
    have HR := Lib.hid (show pAt (prs s) = n ∧ pEr (prs s) = 28 from by rw [hp]; exact ⟨rfl, rfl⟩)
    clear hp hle
    go_enter Tryd.func10, Tryd.ntmps10
    go_wp2_with fail
    refine E1.out.mono ?_
    rintro e w1 ⟨hb1, v1, rfl, hq1⟩
    obtain ⟨o, r, t, A, m, c, rfl, X1, k1⟩ := pa_box hb1 hq1
    obtain ⟨W1, hW1⟩ : ∃ W1, w1.alloc (.cells #[.int .i64 o, .int .i64 r, .string t, .slice A m c] 25) = W1 := ⟨_, rfl⟩
    rw [hW1] at k1
    rw [HR.out.1, HR.out.2]
    have HW1 := Lib.hid hW1
    have K1 := Lib.hid k1
    clear hb1 hq1 hW1 X1 k1
    have E4 := Lib.hid (awake12 W1 (HT0.out W1 K1.out))
    go_upto_region 4 with (fail)
    rw [HW1.out]
    clear HW1
    go_wp2_with fail
    refine E4.out.mono ?_
    rintro e w4 ⟨rfl, hb4⟩
    go_wp2_with fail
    go_ret
    exact ⟨rfl, K1.out.trans (hb4.mono K1.out.size)⟩
  | inl q =>
    have h28 := chk_no28 hp
    by_cases hC : chk pe q = 0
    case neg =>
      obtain ⟨C, hC'⟩ : ∃ C, chk pe q = C := ⟨_, rfl⟩
      rw [hC'] at hC h28
      have HR := Lib.hid (show pAt (prs s) = 0 ∧ pEr (prs s) = C from by rw [hp]; exact ⟨rfl, hC'⟩)
      have g3 : (C != 0) = true := by simp [hC]
      have g4 : (C == 28) = false := by simp [h28]
      have hN2 : (0 : Int) ≤ (s.size : Int) := by omega
      clear hp hC' hC h28
      go_enter Tryd.func10, Tryd.ntmps10
      go_wp2_with fail
      refine E1.out.mono ?_
      rintro e w1 ⟨hb1, v1, rfl, hq1⟩
      obtain ⟨o, r, t, A, m, c, rfl, X1, k1⟩ := pa_box hb1 hq1
      obtain ⟨W1, hW1⟩ : ∃ W1, w1.alloc (.cells #[.int .i64 o, .int .i64 r, .string t, .slice A m c] 25) = W1 := ⟨_, rfl⟩
      rw [hW1] at k1
      rw [HR.out.1, HR.out.2]
      have HW1 := Lib.hid hW1
      have K1 := Lib.hid k1
      clear hb1 hq1 hW1 X1 k1
      have E4 := Lib.hid (awake12 W1 (HT0.out W1 K1.out))
      go_upto_region 4 with (fail)
      rw [HW1.out]
      clear HW1
      go_wp2_with fail
      refine E4.out.mono ?_
      rintro e w4 ⟨rfl, hb4⟩
      go_wp2_with fail
      go_ret
      exact ⟨rfl, K1.out.trans (hb4.mono K1.out.size)⟩
    obtain ⟨htx, hwf⟩ := prs_inl hp
    obtain ⟨_, _, _, _, hlen⟩ := chk_zero hC
    have hpr : str (prn q) = s := by rw [prn_yes hC, htx, str_of]
    have htb := wf_tb q hwf (by omega)
    have HB := Lib.hid (And.intro htb.1 (show sz q ≤ 4194304 by omega))
    have HR := Lib.hid (pq_of hp hC)
    have HP := Lib.hid hpr
    have HC := Lib.hid hC
    have hpp : (s.toList == s.toList) = true := by simp
    clear hp h28 hC htx hwf hlen hpr htb
    go_enter Tryd.func10, Tryd.ntmps10
    go_wp2_with fail
    refine E1.out.mono ?_
    rintro e w1 ⟨hb1, v1, rfl, hq1⟩
    obtain ⟨o, r, t, A, m, c, rfl, X1, k1⟩ := pa_box hb1 hq1
    obtain ⟨W1, hW1⟩ : ∃ W1, w1.alloc (.cells #[.int .i64 o, .int .i64 r, .string t, .slice A m c] 25) = W1 := ⟨_, rfl⟩
    rw [hW1] at X1 k1
    rw [HR.out.1] at X1
    rw [HR.out.2.1, HR.out.2.2]
    have HW1 := Lib.hid hW1
    have L1 := Lib.hid X1
    have K1 := Lib.hid k1
    clear hb1 hq1 hW1 X1 k1
    obtain ⟨x0, x1, x2, x3⟩ := L1.out.cells
    have E2 := Lib.hid (print17 q _ W1 HB.out.2 HB.out.1 L1.out.q (HT0.out W1 K1.out))
    go_upto_region 4 with (fail)
    rw [HW1.out]
    clear HW1
    go_wp2_with fail
    refine E2.out.mono ?_
    rintro e w2 ⟨rfl, hb2⟩
    rw [HP.out, HC.out]
    have K2 := Lib.hid (K1.out.trans (hb2.mono K1.out.size))
    clear hb2 x0 x1 x2 x3
    have E4 := Lib.hid (awake12 w2 (HT0.out w2 K2.out))
    go_wp2_with fail
    refine E4.out.mono ?_
    rintro e w4 ⟨rfl, hb4⟩
    go_wp2_with fail
    go_ret
    exact ⟨rfl, K2.out.trans (hb4.mono K2.out.size)⟩
theorem ext_str (s : ByteArray) (n : Nat) : s.extract 0 n = str (s.data.toList.take n) := by
  apply ByteArray.ext
  apply Array.toList_inj.1
  rw [Lib.extract_data, str_list]
  simp
set_option maxHeartbeats 6400000 in
set_option maxRecDepth 100000 in
theorem law3 (s u : ByteArray) (w : World) (hs : s.size ≤ 9223372036854775807) (hu : u.size ≤ 9223372036854775807) (hT : Tab w) : Calls Tryd.prog 3 #[.string s, .string u] w (AwOut w) := by
  have HT0 := Lib.hid (show ∀ W, Below w.heap.size w W → Tab W from fun W hb => hT.below hb)
  rcases Nat.lt_or_ge 1500 s.size with h15 | h15
  · have g : (1500 : Int) < (s.size : Int) := by omega
    go_enter Tryd.func3, Tryd.ntmps3
    go_wp2_with fail
    refine (awake12 w hT).mono ?_
    rintro e w2 ⟨rfl, hb2⟩
    go_wp2_with fail
    go_ret
    exact ⟨rfl, hb2⟩
  have g : ¬ (1500 : Int) < (s.size : Int) := by omega
  have g2 : (s.size : Int) ≤ 1500 := by omega
  rcases Nat.lt_or_ge 300 u.size with h30 | h30
  · have g3 : (300 : Int) < (u.size : Int) := by omega
    go_enter Tryd.func3, Tryd.ntmps3
    go_wp2_with fail
    refine (awake12 w hT).mono ?_
    rintro e w2 ⟨rfl, hb2⟩
    go_wp2_with fail
    go_ret
    exact ⟨rfl, hb2⟩
  have g3 : ¬ (300 : Int) < (u.size : Int) := by omega
  have g4 : (u.size : Int) ≤ 300 := by omega
  have HS := Lib.hid (show s.size ≤ 4194303 by omega)
  have E1 := Lib.hid (parse13 s w HS.out hT)
  clear hT hs hu
  cases hp : prs s with
  | inl q =>
    have h28 := chk_no28 hp
    obtain ⟨C, hC'⟩ : ∃ C, chk pe q = C := ⟨_, rfl⟩
    rw [hC'] at h28
    have HR := Lib.hid (show pAt (prs s) = 0 ∧ pEr (prs s) = C from by rw [hp]; exact ⟨rfl, hC'⟩)
    have g5 : (C != 28) = true := by simp [h28]
    clear hp hC' h28
    go_enter Tryd.func3, Tryd.ntmps3
    go_wp2_with fail
    refine E1.out.mono ?_
    rintro e w1 ⟨hb1, v1, rfl, hq1⟩
    obtain ⟨o, r, t, A, m, c, rfl, X1, k1⟩ := pa_box hb1 hq1
    obtain ⟨W1, hW1⟩ : ∃ W1, w1.alloc (.cells #[.int .i64 o, .int .i64 r, .string t, .slice A m c] 25) = W1 := ⟨_, rfl⟩
    rw [hW1] at k1
    rw [HR.out.1, HR.out.2]
    have HW1 := Lib.hid hW1
    have K1 := Lib.hid k1
    clear hb1 hq1 hW1 X1 k1
    have E4 := Lib.hid (awake12 W1 (HT0.out W1 K1.out))
    go_upto_region 4 with (fail)
    rw [HW1.out]
    clear HW1
    go_wp2_with fail
    refine E4.out.mono ?_
    rintro e w4 ⟨rfl, hb4⟩
    go_wp2_with fail
    go_ret
    exact ⟨rfl, K1.out.trans (hb4.mono K1.out.size)⟩
  | inr n =>
    have hle := prs_inr hp
    have HR := Lib.hid (show pAt (prs s) = n ∧ pEr (prs s) = 28 from by rw [hp]; exact ⟨rfl, rfl⟩)
    rcases Nat.lt_or_ge n s.size with hlt | hge
    case inr =>
      have hN2 : (s.size : Int) ≤ (n : Int) := by omega
      clear hp hle
      go_enter Tryd.func3, Tryd.ntmps3
      go_wp2_with fail
      refine E1.out.mono ?_
      rintro e w1 ⟨hb1, v1, rfl, hq1⟩
      obtain ⟨o, r, t, A, m, c, rfl, X1, k1⟩ := pa_box hb1 hq1
      obtain ⟨W1, hW1⟩ : ∃ W1, w1.alloc (.cells #[.int .i64 o, .int .i64 r, .string t, .slice A m c] 25) = W1 := ⟨_, rfl⟩
      rw [hW1] at k1
      rw [HR.out.1, HR.out.2]
      have HW1 := Lib.hid hW1
      have K1 := Lib.hid k1
      clear hb1 hq1 hW1 X1 k1
      have E4 := Lib.hid (awake12 W1 (HT0.out W1 K1.out))
      go_upto_region 4 with (fail)
      rw [HW1.out]
      clear HW1
      go_wp2_with fail
      refine E4.out.mono ?_
      rintro e w4 ⟨rfl, hb4⟩
      go_wp2_with fail
      go_ret
      exact ⟨rfl, K1.out.trans (hb4.mono K1.out.size)⟩
    have hsl := size_list s
    have hul := size_list u
    have hw2 := prs_where hp hlt u.data.toList
    have hw3 : ∀ m, prs (s.extract 0 n) = .inr m → m = n := fun m hm => prs_cut2 hp hlt (by rw [ext_str] at hm; exact hm)
    obtain ⟨X, hX, hcat⟩ := cat_of (A := s.extract 0 (n + 1)) (B := u) (a := s.data.toList.take (n + 1)) (b := u.data.toList) (ext_str s (n + 1)) (str_of u).symm (by rw [List.length_take]; omega)
    rw [← hX] at hw2
    have hXs : X.size ≤ 4194303 := by rw [hX, str_len, List.length_append, List.length_take]; omega
    have hs1 := slice_run0 s (n + 1) (by omega)
    have hs2 := slice_run0 s n (by omega)
    have hYs : (s.extract 0 n).size ≤ 4194303 := by rw [ext_str, str_len, List.length_take]; omega
    obtain ⟨Y, hY⟩ : ∃ Y, s.extract 0 n = Y := ⟨_, rfl⟩
    obtain ⟨Z, hZ⟩ : ∃ Z, s.extract 0 (n + 1) = Z := ⟨_, rfl⟩
    rw [hY] at hw3 hs2 hYs
    rw [hZ] at hs1 hcat
    have hadd : ((n : Int) + 1) = ((n + 1 : Nat) : Int) := by omega
    rw [← hadd] at hs1
    have HR2 := Lib.hid (show pAt (prs X) = n ∧ pEr (prs X) = 28 from by rw [hw2]; exact ⟨rfl, rfl⟩)
    have HR3 : ∃ (M : Nat) (E : Int), pAt (prs Y) = M ∧ pEr (prs Y) = E ∧ (E = 28 → M = n) := by
      refine ⟨_, _, rfl, rfl, fun h => ?_⟩
      obtain ⟨m, hm⟩ := prs_28 h
      rw [hm, pAt]
      exact hw3 m hm
    obtain ⟨M, E, hM, hE, hME⟩ := HR3
    have HR3 := Lib.hid (And.intro hM hE)
    have HX := Lib.hid hXs
    have HY := Lib.hid hYs
    have hN1 : (n : Int) < (s.size : Int) := by omega
    have hN2 : (0 : Int) ≤ (n : Int) := by omega
    have hN3 : (n : Int) ≤ 1500 := by omega
    clear hp hle hsl hul hw2 hw3 hX hXs hY hYs hZ hadd hM hE h15 h30
    rcases (show E ≠ 28 ∨ (E = 28 ∧ M = n) from by by_cases h : E = 28; exact .inr ⟨h, hME h⟩; exact .inl h) with h28 | ⟨rfl, rfl⟩
    case' inl => have g5 : (E != 28) = true := by simp [h28]
    all_goals
      clear hME
      go_enter Tryd.func3, Tryd.ntmps3
      go_wp2_with fail
      refine E1.out.mono ?_
      rintro e w1 ⟨hb1, v1, rfl, hq1⟩
      obtain ⟨o, r, t, A, m, c, rfl, X1, k1⟩ := pa_box hb1 hq1
      obtain ⟨W1, hW1⟩ : ∃ W1, w1.alloc (.cells #[.int .i64 o, .int .i64 r, .string t, .slice A m c] 25) = W1 := ⟨_, rfl⟩
      rw [hW1] at k1
      rw [HR.out.1, HR.out.2]
      have HW1 := Lib.hid hW1
      have K1 := Lib.hid k1
      clear hb1 hq1 hW1 X1 k1
      have E2 := Lib.hid (parse13 X W1 HX.out (HT0.out W1 K1.out))
      go_upto_region 4 with (fail)
      rw [HW1.out]
      clear HW1
      go_wp2_with fail
      refine E2.out.mono ?_
      rintro e w2 ⟨hb2, v2, rfl, hq2⟩
      obtain ⟨o2, r2, t2, A2, m2, c2, rfl, X2, k2⟩ := pa_box hb2 hq2
      obtain ⟨W2, hW2⟩ : ∃ W2, w2.alloc (.cells #[.int .i64 o2, .int .i64 r2, .string t2, .slice A2 m2 c2] 25) = W2 := ⟨_, rfl⟩
      rw [hW2] at k2
      rw [HR2.out.1, HR2.out.2]
      have HW2 := Lib.hid hW2
      have K2 := Lib.hid (K1.out.trans (k2.mono K1.out.size))
      clear hb2 hq2 hW2 X2 k2
      have E3 := Lib.hid (parse13 Y W2 HY.out (HT0.out W2 K2.out))
      go_upto_region 9 with (fail)
      rw [HW2.out]
      clear HW2
      go_wp2_with fail
      refine E3.out.mono ?_
      rintro e w3 ⟨hb3, v3, rfl, hq3⟩
      obtain ⟨o3, r3, t3, A3, m3, c3, rfl, X3, k3⟩ := pa_box hb3 hq3
      obtain ⟨W3, hW3⟩ : ∃ W3, w3.alloc (.cells #[.int .i64 o3, .int .i64 r3, .string t3, .slice A3 m3 c3] 25) = W3 := ⟨_, rfl⟩
      rw [hW3] at k3
      rw [HR3.out.1, HR3.out.2]
      have HW3 := Lib.hid hW3
      have K3 := Lib.hid (K2.out.trans (k3.mono K2.out.size))
      clear hb3 hq3 hW3 X3 k3
      have E4 := Lib.hid (awake12 W3 (HT0.out W3 K3.out))
      go_upto_region 10 with (fail)
      rw [HW3.out]
      clear HW3
      go_wp2_with fail
      refine E4.out.mono ?_
      rintro e w4 ⟨rfl, hb4⟩
      go_wp2_with fail
      go_ret
      exact ⟨rfl, K3.out.trans (hb4.mono K3.out.size)⟩
end Go.Proofs.YtgbjldkbbbjnkaaDoor
