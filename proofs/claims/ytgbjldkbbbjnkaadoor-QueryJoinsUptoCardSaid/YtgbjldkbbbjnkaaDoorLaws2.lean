/-
  The laws QueryParses, QuerySame.
-/
import Derived.Test.YtgbjldkbbbjnkaaDoorLaws
namespace Go.Proofs.YtgbjldkbbbjnkaaDoor
open Go.RowKit Go.PlainAid Pl

theorem sz_pQ (x : Qt ⊕ Nat) : sz (pQ x) ≤ 60 := by
  cases x with
  | inr n => rw [pQ, noQt, sz, szs]; omega
  | inl q =>
    rw [pQ]
    split
    · rename_i h; exact (chk_zero h).2.1
    · rw [noQt, sz, szs]; omega
/-- What Parse has handed over, in its box. -/
theorem pa_box {s : ByteArray} {w w' : World} {v : Value} (hb : Below w.heap.size w w') (hq : QAt w' w'.heap.size (pQ (prs s)) v) :
    ∃ o r t A n c, v = .agg #[.int .i64 o, .int .i64 r, .string t, .slice A n c] ∧ Ld (.int .i64 o) (.int .i64 r) (.string t) (.slice A n c) (pQ (prs s)) w'.heap.size w' (w'.alloc (.cells #[.int .i64 o, .int .i64 r, .string t, .slice A n c] 25)) ∧ Below w.heap.size w (w'.alloc (.cells #[.int .i64 o, .int .i64 r, .string t, .slice A n c] 25)) := by
  obtain ⟨q, hQ⟩ : ∃ q, pQ (prs s) = q := ⟨_, rfl⟩
  rw [hQ] at hq ⊢
  obtain ⟨o, r, t, ks⟩ := q
  obtain ⟨A, c, rfl, _⟩ := hq.inv
  exact ⟨o, r, t, A, _, c, rfl, Ld.start hq, hb.trans ((below_one _ _).mono hb.size)⟩
theorem pos_at (s : ByteArray) : ∃ n : Nat, pAt (prs s) = n ∧ n ≤ s.size := by
  refine ⟨_, rfl, ?_⟩
  cases h : prs s with
  | inl q => exact Nat.zero_le _
  | inr n => exact prs_inr h
set_option maxHeartbeats 6400000 in
set_option maxRecDepth 100000 in
theorem law7 (s : ByteArray) (w : World) (hs : s.size ≤ 9223372036854775807) (hT : Tab w) : Calls Tryd.prog 7 #[.string s] w (AwOut w) := by
  have HT0 := Lib.hid (show ∀ W, Below w.heap.size w W → Tab W from fun W hb => hT.below hb)
  rcases Nat.lt_or_ge 1500 s.size with h15 | h15
  · have g : (1500 : Int) < (s.size : Int) := by omega
    go_enter Tryd.func7, Tryd.ntmps7
    go_wp2_with fail
    refine (awake12 w hT).mono ?_
    rintro e w2 ⟨rfl, hb2⟩
    go_wp2_with fail
    go_ret
    exact ⟨rfl, hb2⟩
  have g : ¬ (1500 : Int) < (s.size : Int) := by omega
  have g2 : (s.size : Int) ≤ 1500 := by omega
  have HZ := Lib.hid (sz_pQ (prs s))
  have HS := Lib.hid (show s.size ≤ 4194303 by omega)
  have E1 := Lib.hid (parse13 s w HS.out hT)
  clear hT h15 hs
  go_enter Tryd.func7, Tryd.ntmps7
  go_wp2_with fail
  refine E1.out.mono ?_
  rintro e w1 ⟨hb1, v1, rfl, hq1⟩
  obtain ⟨o, r, t, A, n, c, rfl, X1, k1⟩ := pa_box hb1 hq1
  obtain ⟨W1, hW1⟩ : ∃ W1, w1.alloc (.cells #[.int .i64 o, .int .i64 r, .string t, .slice A n c] 25) = W1 := ⟨_, rfl⟩
  rw [hW1] at X1 k1
  obtain ⟨AT, hAT⟩ : ∃ AT, ((pAt (prs s) : Nat) : Int) = AT := ⟨_, rfl⟩
  obtain ⟨ER, hER⟩ : ∃ ER, pEr (prs s) = ER := ⟨_, rfl⟩
  rw [hAT, hER]
  have HA := Lib.hid hAT
  have HE := Lib.hid hER
  have HW1 := Lib.hid hW1
  have L1 := Lib.hid X1
  have K1 := Lib.hid k1
  have E2 := Lib.hid (parse23 s W1 HS.out)
  clear hb1 hq1 hW1 X1 k1 hAT hER
  go_upto_region 4 with (fail)
  rw [HW1.out]
  clear HW1
  go_wp2_with fail
  refine E2.out.mono ?_
  rintro e w2 ⟨hb2, v2, rfl, hq2⟩
  rw [HA.out, HE.out]
  obtain ⟨o', r', t', A', n', c', rfl, Y2, k2⟩ := pa_box hb2 hq2
  obtain ⟨W2, hW2⟩ : ∃ W2, w2.alloc (.cells #[.int .i64 o', .int .i64 r', .string t', .slice A' n' c'] 25) = W2 := ⟨_, rfl⟩
  rw [hW2] at Y2 k2
  have HW2 := Lib.hid hW2
  have L2 := Lib.hid (L1.out.next k2)
  have M2 := Lib.hid Y2
  have K2 := Lib.hid (K1.out.trans (k2.mono K1.out.size))
  clear hb2 hq2 hW2 Y2 k2
  obtain ⟨x0, x1, x2, x3⟩ := L2.out.cells
  obtain ⟨y0, y1, y2, y3⟩ := M2.out.cells
  have E3 := Lib.hid (same24 _ _ _ _ W2 (Nat.le_trans HZ.out (by decide)) L2.out.q M2.out.q)
  go_upto_region 5 with (fail)
  rw [HW2.out]
  clear HW2
  go_wp2_with fail
  refine E3.out.mono ?_
  rintro e w3 ⟨rfl, hb3⟩
  rw [same_yes rfl]
  have K3 := Lib.hid (K2.out.trans (hb3.mono K2.out.size))
  clear hb3 x0 x1 x2 x3 y0 y1 y2 y3
  have E4 := Lib.hid (awake12 w3 (HT0.out w3 K3.out))
  go_wp2_with fail
  refine E4.out.mono ?_
  rintro e w4 ⟨rfl, hb4⟩
  go_wp2_with fail
  go_ret
  exact ⟨rfl, K3.out.trans (hb4.mono K3.out.size)⟩
theorem cells8 {a b c d a' b' c' d' : Value} {q r : Qt} {B C : Nat} {w w1 W : World} (h : Ld a b c d q B w W) (g : Ld a' b' c' d' r C w1 W) :
    W.cell? ⟨B, 0, none⟩ = some a ∧ W.cell? ⟨B, 1, none⟩ = some b ∧ W.cell? ⟨B, 2, none⟩ = some c ∧ W.cell? ⟨B, 3, none⟩ = some d ∧ W.cell? ⟨C, 0, none⟩ = some a' ∧ W.cell? ⟨C, 1, none⟩ = some b' ∧ W.cell? ⟨C, 2, none⟩ = some c' ∧ W.cell? ⟨C, 3, none⟩ = some d' :=
  ⟨h.cells.1, h.cells.2.1, h.cells.2.2.1, h.cells.2.2.2, g.cells.1, g.cells.2.1, g.cells.2.2.1, g.cells.2.2.2⟩
set_option maxHeartbeats 12800000 in
set_option maxRecDepth 100000 in
theorem law8 (q : Qt) (v : Value) (r : Qt) (u : Value) (w : World) (hn : sz q ≤ 4194304) (hm : sz r ≤ 4194304) (hq : QAt w w.heap.size q v) (hr : QAt w w.heap.size r u) (hT : Tab w) : Calls Tryd.prog 8 #[v, u] w (AwOut w) := by
  obtain ⟨a, b, c, d, rfl⟩ := hq.flat
  obtain ⟨a', b', c', d', rfl⟩ := hr.flat
  obtain ⟨W1, hW1⟩ : ∃ W1, w.alloc (.cells #[a, b, c, d] 25) = W1 := ⟨_, rfl⟩
  have X0 := Ld.start hq
  have hz1 := size_one w (.cells #[a, b, c, d] 25)
  have hr1 := hr.step (below_one w (.cells #[a, b, c, d] 25))
  rw [hW1] at X0 hz1 hr1
  have Y0 := Ld.start hr1
  have X1 := X0.next (below_one W1 (.cells #[a', b', c', d'] 25))
  obtain ⟨W0, hW0⟩ : ∃ W0, W1.alloc (.cells #[a', b', c', d'] 25) = W0 := ⟨_, rfl⟩
  rw [hW0] at Y0 X1
  rw [hz1] at Y0
  have LX := Lib.hid X1
  have LY := Lib.hid Y0
  have HW1 := Lib.hid hW1
  have HW0 := Lib.hid hW0
  have HT0 := Lib.hid (show ∀ W, Below w.heap.size w W → Tab W from fun W hb => hT.below hb)
  clear X0 X1 Y0 hW1 hW0 hz1 hr1 hq hr hT
  obtain ⟨x0, x1, x2, x3⟩ := LX.out.cells
  obtain ⟨y0, y1, y2, y3⟩ := LY.out.cells
  have E1 := Lib.hid (few14 q _ W0 hn LX.out.q)
  obtain ⟨F, hF⟩ : ∃ F, fewB q = F := ⟨_, rfl⟩
  rw [hF] at E1
  go_enter Tryd.func8, Tryd.ntmps8
  go_wp2_with fail
  rw [HW1.out, HW0.out]
  clear HW1 HW0
  refine E1.out.mono ?_
  rintro e w1 ⟨rfl, hb1⟩
  have LX1 := Lib.hid (LX.out.next hb1)
  have LY1 := Lib.hid (LY.out.next hb1)
  clear hb1 x0 x1 x2 x3 y0 y1 y2 y3 LX LY
  cases F
  · go_wp2_with fail
    refine (awake12 w1 (HT0.out w1 LX1.out.k)).mono ?_
    rintro e w2 ⟨rfl, hb2⟩
    go_wp2_with fail
    go_ret
    exact ⟨rfl, (LX1.out.next hb2).k⟩
  obtain ⟨hsz, hsh, htb⟩ := few_yes hF
  clear hF hsh htb hsz
  obtain ⟨y0, y1, y2, y3⟩ := LY1.out.cells
  have E2 := Lib.hid (few14 r _ w1 hm LY1.out.q)
  obtain ⟨G, hG⟩ : ∃ G, fewB r = G := ⟨_, rfl⟩
  rw [hG] at E2
  go_wp2_with fail
  refine E2.out.mono ?_
  rintro e w2 ⟨rfl, hb2⟩
  have LX2 := Lib.hid (LX1.out.next hb2)
  have LY2 := Lib.hid (LY1.out.next hb2)
  clear hb2 y0 y1 y2 y3 LX1 LY1 hG
  cases G
  · go_wp2_with fail
    refine (awake12 w2 (HT0.out w2 LX2.out.k)).mono ?_
    rintro e w3 ⟨rfl, hb3⟩
    go_wp2_with fail
    go_ret
    exact ⟨rfl, (LX2.out.next hb3).k⟩
  obtain ⟨x0, x1, x2, x3⟩ := LX2.out.cells
  obtain ⟨y0, y1, y2, y3⟩ := LY2.out.cells
  have hS0 := And.intro x0 (And.intro x1 (And.intro x2 (And.intro x3 (And.intro y0 (And.intro y1 (And.intro y2 y3))))))
  have KS := Lib.hid (fun (W : World) (hb : Below w2.heap.size w2 W) => cells8 (LX2.out.next hb) (LY2.out.next hb))
  have CA := Lib.hid (fun (W : World) (hb : Below w2.heap.size w2 W) => same25 q r _ _ W hn (LX2.out.next hb).q (LY2.out.next hb).q)
  have CB := Lib.hid (fun (W : World) (hb : Below w2.heap.size w2 W) => same24 q r _ _ W hn (LX2.out.next hb).q (LY2.out.next hb).q)
  have CC := Lib.hid (fun (W : World) (hb : Below w2.heap.size w2 W) => same25 q q _ _ W hn (LX2.out.next hb).q (LX2.out.next hb).q)
  have C12 := Lib.hid (fun (W : World) (hb : Below w2.heap.size w2 W) => awake12 W (HT0.out W (LX2.out.next hb).k))
  have HY := Lib.hid (same_yes (a := q) (b := q) rfl)
  obtain ⟨S, hS'⟩ : ∃ S, sameB q r = S := ⟨_, rfl⟩
  rw [hS'] at CA CB
  clear hn hm hS'
  cases S
  all_goals
    go_upto_region 3 with (fail)
    go_region_held3 (fun w' => w'.cell? ⟨w.heap.size, 0, none⟩ = some a ∧ w'.cell? ⟨w.heap.size, 1, none⟩ = some b ∧ w'.cell? ⟨w.heap.size, 2, none⟩ = some c ∧ w'.cell? ⟨w.heap.size, 3, none⟩ = some d ∧ w'.cell? ⟨w.heap.size + 1, 0, none⟩ = some a' ∧ w'.cell? ⟨w.heap.size + 1, 1, none⟩ = some b' ∧ w'.cell? ⟨w.heap.size + 1, 2, none⟩ = some c' ∧ w'.cell? ⟨w.heap.size + 1, 3, none⟩ = some d')
      (first | exact hS | exact hS0 | go_keep)
      (first
        | (go_at_call 25
           (with_reducible refine (CA.out _ (Below.refl _ _).drew).mono ?_)
           rintro e u1 ⟨rfl, hu1⟩
           have k1 : Below w2.heap.size w2 u1 := below_undrew hu1
           have hS := KS.out u1 k1)
        | (go_at_call 24
           (with_reducible refine (CB.out _ k1).mono ?_)
           rintro e u2 ⟨rfl, hu2⟩
           have k2 : Below w2.heap.size w2 u2 := k1.trans (hu2.mono k1.size)
           have hS := KS.out u2 k2)
        | (go_at_call 25
           (with_reducible refine (CC.out _ k2).mono ?_)
           rintro e u3 ⟨rfl, hu3⟩
           rw [HY.out]
           have k3 : Below w2.heap.size w2 u3 := k2.trans (hu3.mono k2.size)
           have hS := KS.out u3 k3)
        | (go_at_call 12
           (with_reducible refine (C12.out _ k3).mono ?_)
           rintro e u4 ⟨rfl, hu4⟩
           have k4 : Below w2.heap.size w2 u4 := k3.trans (hu4.mono k3.size)
           have hS := KS.out u4 k4))
    all_goals
      go_wp2_with fail
      go_ret
      exact ⟨rfl, (LX2.out.next k4).k⟩
end Go.Proofs.YtgbjldkbbbjnkaaDoor
