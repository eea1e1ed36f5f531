/-
  The law QueryJoins.
-/
import Derived.Test.YtgbjldkbbbjnkaaDoorLaws3
namespace Go.Proofs.YtgbjldkbbbjnkaaDoor
open Go.RowKit Go.PlainAid Pl
theorem oct_cell {w : World} {g i : Nat} {l : Array Value} {v : Value} (h : w.heap[g]? = some (.cells l 25)) (hi : l[i]? = some v) : w.cell? ⟨g, i, none⟩ = some v := by
  simp [World.cell?, h, hi]
theorem two_of {w : World} {B g : Nat} {a b c d a' b' c' d' : Value} {q r : Qt} {o p : Int} {t : ByteArray} {cap : Nat} (hg : w.heap[g]? = some (.cells #[a, b, c, d, a', b', c', d'] 25)) (hgB : g < B)
    (hq : QAt w B q (.agg #[a, b, c, d])) (hr : QAt w B r (.agg #[a', b', c', d'])) : QAt w B (.mk o p t [q, r]) (.agg #[.int .i64 o, .int .i64 p, .string t, .slice (some ⟨g, 0, none⟩) 2 cap]) := by
  refine .mk o p t [q, r] (some ⟨g, 0, none⟩) cap (fun j => if j = 0 then .agg #[a, b, c, d] else .agg #[a', b', c', d']) (fun j k hj => ?_) (fun j k hj => ?_)
  · match j, hj with
    | 0, hj => exact ⟨⟨g, 0, none⟩, _, _, _, _, rfl, hgB, rfl, oct_cell hg rfl, oct_cell hg rfl, oct_cell hg rfl, oct_cell hg rfl⟩
    | 1, hj => exact ⟨⟨g, 0, none⟩, _, _, _, _, rfl, hgB, rfl, oct_cell hg rfl, oct_cell hg rfl, oct_cell hg rfl, oct_cell hg rfl⟩
    | j + 2, hj => simp at hj
  · match j, hj with
    | 0, hj =>
      simp at hj
      subst hj
      exact hq
    | 1, hj =>
      simp at hj
      subst hj
      exact hr
    | j + 2, hj => simp at hj
theorem three_new (W : World) (x y z : Obj) : (((W.alloc x).alloc y).alloc z).drew.heap[W.heap.size]? = some x ∧ (((W.alloc x).alloc y).alloc z).drew.heap[W.heap.size + 1]? = some y ∧ (((W.alloc x).alloc y).alloc z).drew.heap[W.heap.size + 1 + 1]? = some z := by
  have h : (((W.alloc x).alloc y).alloc z).drew.heap = ((W.heap.push x).push y).push z := rfl
  rw [h]
  refine ⟨?_, ?_, ?_⟩
  · rw [Array.getElem?_push, if_neg (by simp; omega), Array.getElem?_push, if_neg (by simp), Array.getElem?_push, if_pos rfl]
  · rw [Array.getElem?_push, if_neg (by simp), Array.getElem?_push, if_pos (by simp)]
  · rw [Array.getElem?_push, if_pos (by simp)]
theorem jn_of {W : World} {x y z : Obj} {O : Int} {a b c d a' b' c' d' : Value} {q r : Qt} {B g : Nat}
    (hB : (((W.alloc x).alloc y).alloc z).drew.heap[B]? = some (.cells #[.int .i64 O, .int .i64 0, .string ⟨#[]⟩, .slice (some ⟨g, 0, none⟩) 2 2] 25))
    (hg : (((W.alloc x).alloc y).alloc z).drew.heap[g]? = some (.cells #[a, b, c, d, a', b', c', d'] 25))
    (hq : QAt W W.heap.size q (.agg #[a, b, c, d])) (hr : QAt W W.heap.size r (.agg #[a', b', c', d'])) :
    Ld (.int .i64 O) (.int .i64 0) (.string ⟨#[]⟩) (.slice (some ⟨g, 0, none⟩) 2 2) (.mk O 0 ⟨#[]⟩ [q, r]) B W (((W.alloc x).alloc y).alloc z).drew := by
  have h1 := (below_one W x).alloc (by rw [size_one]; omega) y
  have h2 := (h1.alloc (by have := h1.size; omega) z).drew
  exact ⟨h2, hB, two_of hg (lt_of_heap hg) (hq.step h2) (hr.step h2)⟩
theorem cells12 {a b c d a' b' c' d' a2 b2 c2 d2 : Value} {q r p : Qt} {B C D : Nat} {w w1 w2 W : World} (h : Ld a b c d q B w W) (g : Ld a' b' c' d' r C w1 W) (k : Ld a2 b2 c2 d2 p D w2 W) :
    W.cell? ⟨B, 0, none⟩ = some a ∧ W.cell? ⟨B, 1, none⟩ = some b ∧ W.cell? ⟨B, 2, none⟩ = some c ∧ W.cell? ⟨B, 3, none⟩ = some d ∧ W.cell? ⟨C, 0, none⟩ = some a' ∧ W.cell? ⟨C, 1, none⟩ = some b' ∧ W.cell? ⟨C, 2, none⟩ = some c' ∧ W.cell? ⟨C, 3, none⟩ = some d' ∧
      W.cell? ⟨D, 0, none⟩ = some a2 ∧ W.cell? ⟨D, 1, none⟩ = some b2 ∧ W.cell? ⟨D, 2, none⟩ = some c2 ∧ W.cell? ⟨D, 3, none⟩ = some d2 :=
  ⟨h.cells.1, h.cells.2.1, h.cells.2.2.1, h.cells.2.2.2, g.cells.1, g.cells.2.1, g.cells.2.2.1, g.cells.2.2.2, k.cells.1, k.cells.2.1, k.cells.2.2.1, k.cells.2.2.2⟩
theorem joins_cat {j : Nat} {A : ByteArray} (hj : j ≠ 2) (pre : List UInt8) (hpre : pre = [40] ++ opsL.getD j []) (hA : A = str pre) {q r : Qt} {P1 P2 P3 t : ByteArray} {O : Int} (h1 : P1 = str (txt q)) (h2 : P2 = str (txt r)) (hO : O = ((j + 1 : Nat) : Int))
    (h3 : P3 = str (txt (.mk O 0 t [q, r]))) (l1 : (txt q).length ≤ 100000) (l2 : (txt r).length ≤ 100000) (hp : pre.length ≤ 100) : ∃ S1 S2 S3 : ByteArray, (∀ w, (Op.stringOp .add A P1).run Tryd.prog w = .ok (.string S1) w) ∧
      (∀ w, (Op.stringOp .add S1 ⟨#[32]⟩).run Tryd.prog w = .ok (.string S2) w) ∧ (∀ w, (Op.stringOp .add S2 P2).run Tryd.prog w = .ok (.string S3) w) ∧ ∀ w, (Op.stringOp .add S3 ⟨#[41]⟩).run Tryd.prog w = .ok (.string P3) w := by
  obtain ⟨S1, e1, c1⟩ := cat_of hA h1 (by omega)
  obtain ⟨S2, e2, c2⟩ := cat_of (B := ⟨#[32]⟩) (b := [32]) e1 rfl (by simp; omega)
  obtain ⟨S3, e3, c3⟩ := cat_of e2 h2 (by simp; omega)
  obtain ⟨S4, e4, c4⟩ := cat_of (B := ⟨#[41]⟩) (b := [41]) e3 rfl (by simp; omega)
  have h : S4 = P3 := by rw [e4, h3, hO, txt_join hj, hpre]
  rw [h] at c4
  exact ⟨S1, S2, S3, c1, c2, c3, c4⟩
set_option maxHeartbeats 12800000 in
set_option maxRecDepth 100000 in
theorem law4 (q : Qt) (v : Value) (r : Qt) (u : Value) (n : Int) (w : World) (hn : sz q ≤ 4194304) (hm : sz r ≤ 4194304) (hwf : (Lit.int .u8 n).wf = true) (hq : QAt w w.heap.size q v) (hr : QAt w w.heap.size r u) (hT : Tab w) : Calls Tryd.prog 4 #[v, u, .int .u8 n] w (AwOut w) := by
  obtain ⟨hn0, hn1⟩ : 0 ≤ n ∧ n ≤ 255 := by
    simp [Lit.wf, IntKind.min, IntKind.max, IntKind.signed, IntKind.bits] at hwf
    omega
  clear hwf
  obtain ⟨a, b, c, A, d, e, rfl⟩ : ∃ a b c A d e, v = .agg #[.int .i64 a, .int .i64 b, .string c, .slice A d e] := by
    obtain ⟨o, p, t, ks⟩ := q
    obtain ⟨A, c, rfl, _⟩ := hq.inv
    exact ⟨_, _, _, _, _, _, rfl⟩
  obtain ⟨a', b', c', A', d', e', rfl⟩ : ∃ a b c A d e, u = .agg #[.int .i64 a, .int .i64 b, .string c, .slice A d e] := by
    obtain ⟨o, p, t, ks⟩ := r
    obtain ⟨A, c, rfl, _⟩ := hr.inv
    exact ⟨_, _, _, _, _, _, rfl⟩
  obtain ⟨W1, hW1⟩ : ∃ W1, w.alloc (.cells #[.int .i64 a, .int .i64 b, .string c, .slice A d e] 25) = W1 := ⟨_, rfl⟩
  have X0 := Ld.start hq
  have hz1 := size_one w (.cells #[.int .i64 a, .int .i64 b, .string c, .slice A d e] 25)
  have hr1 := hr.step (below_one w (.cells #[.int .i64 a, .int .i64 b, .string c, .slice A d e] 25))
  rw [hW1] at X0 hz1 hr1
  have Y0 := Ld.start hr1
  have X1 := X0.next (below_one W1 (.cells #[.int .i64 a', .int .i64 b', .string c', .slice A' d' e'] 25))
  obtain ⟨W0, hW0⟩ : ∃ W0, W1.alloc (.cells #[.int .i64 a', .int .i64 b', .string c', .slice A' d' e'] 25) = W0 := ⟨_, rfl⟩
  rw [hW0] at Y0 X1
  rw [hz1] at Y0
  have LX := Lib.hid X1
  have LY := Lib.hid Y0
  have HW1 := Lib.hid hW1
  have HW0 := Lib.hid hW0
  have HT0 := Lib.hid (show ∀ W, Below w.heap.size w W → Tab W from fun W hb => hT.below hb)
  clear X0 X1 Y0 hW1 hW0 hz1 hr1 hq hr hT
  obtain ⟨x0, x1, x2, x3⟩ := LX.out.cells
  obtain ⟨y0, y1, y2, y3⟩ := LY.out.cells
  have E1 := Lib.hid (few14 q _ W0 hn LX.out.q)
  obtain ⟨F, hF⟩ : ∃ F, fewB q = F := ⟨_, rfl⟩
  rw [hF] at E1
  go_enter Tryd.func4, Tryd.ntmps4
  go_wp2_with fail
  rw [HW1.out, HW0.out]
  clear HW1 HW0
  refine E1.out.mono ?_
  rintro e w1 ⟨rfl, hb1⟩
  have LX1 := Lib.hid (LX.out.next hb1)
  have LY1 := Lib.hid (LY.out.next hb1)
  clear hb1 x0 x1 x2 x3 y0 y1 y2 y3 LX LY
  cases F
  · go_wp2_with fail
    refine (awake12 w1 (HT0.out w1 LX1.out.k)).mono ?_
    rintro e w2 ⟨rfl, hb2⟩
    go_wp2_with fail
    go_ret
    exact ⟨rfl, (LX1.out.next hb2).k⟩
  obtain ⟨_, _, htb⟩ := few_yes hF
  clear hF
  have HB := Lib.hid htb
  clear htb
  obtain ⟨y0, y1, y2, y3⟩ := LY1.out.cells
  have E2 := Lib.hid (few14 r _ w1 hm LY1.out.q)
  obtain ⟨G, hG⟩ : ∃ G, fewB r = G := ⟨_, rfl⟩
  rw [hG] at E2
  go_wp2_with fail
  refine E2.out.mono ?_
  rintro e w2 ⟨rfl, hb2⟩
  have LX2 := Lib.hid (LX1.out.next hb2)
  have LY2 := Lib.hid (LY1.out.next hb2)
  clear hb2 y0 y1 y2 y3 LX1 LY1
  cases G
  · go_wp2_with fail
    refine (awake12 w2 (HT0.out w2 LX2.out.k)).mono ?_
    rintro e w3 ⟨rfl, hb3⟩
    go_wp2_with fail
    go_ret
    exact ⟨rfl, (LX2.out.next hb3).k⟩
  obtain ⟨_, _, htb⟩ := few_yes hG
  clear hG
  have HD := Lib.hid htb
  clear htb
  obtain ⟨x0, x1, x2, x3⟩ := LX2.out.cells
  have E3 := Lib.hid (nodes15 q _ w2 hn LX2.out.q)
  obtain ⟨N, hN⟩ : ∃ N, sz q = N := ⟨_, rfl⟩
  have HN := Lib.hid hN
  rw [hN] at E3 hn
  clear hN
  go_wp2_with fail
  refine E3.out.mono ?_
  rintro e w3 ⟨rfl, hb3⟩
  have LX3 := Lib.hid (LX2.out.next hb3)
  have LY3 := Lib.hid (LY2.out.next hb3)
  clear hb3 x0 x1 x2 x3 LX2 LY2
  rcases Nat.lt_or_ge 50 N with h50 | h50
  · have g : (50 : Int) < (N : Int) := by omega
    go_wp2_with fail
    refine (awake12 w3 (HT0.out w3 LX3.out.k)).mono ?_
    rintro e w4 ⟨rfl, hb4⟩
    go_wp2_with fail
    go_ret
    exact ⟨rfl, (LX3.out.next hb4).k⟩
  have g1 : (N : Int) ≤ 50 := by omega
  obtain ⟨y0, y1, y2, y3⟩ := LY3.out.cells
  have E4 := Lib.hid (nodes15 r _ w3 hm LY3.out.q)
  obtain ⟨M, hM⟩ : ∃ M, sz r = M := ⟨_, rfl⟩
  have HM := Lib.hid hM
  rw [hM] at E4 hm
  clear hM
  go_wp2_with fail
  refine E4.out.mono ?_
  rintro e w4 ⟨rfl, hb4⟩
  have LX4 := Lib.hid (LX3.out.next hb4)
  have LY4 := Lib.hid (LY3.out.next hb4)
  clear hb4 y0 y1 y2 y3 LX3 LY3
  rcases Nat.lt_or_ge 50 M with h51 | h51
  · have g : (50 : Int) < (M : Int) := by omega
    go_wp2_with fail
    refine (awake12 w4 (HT0.out w4 LX4.out.k)).mono ?_
    rintro e w5 ⟨rfl, hb5⟩
    go_wp2_with fail
    go_ret
    exact ⟨rfl, (LX4.out.next hb5).k⟩
  have g2 : (M : Int) ≤ 50 := by omega
  obtain ⟨x0, x1, x2, x3⟩ := LX4.out.cells
  obtain ⟨y0, y1, y2, y3⟩ := LY4.out.cells
  clear hn hm
  obtain ⟨T, hT, hT5, ht0, ht5⟩ : ∃ T, Int.tmod n 5 = T ∧ (T = 0 ∨ T = 1 ∨ T = 2 ∨ T = 3 ∨ T = 4) ∧ 0 ≤ T ∧ T < 5 := by
    refine ⟨_, rfl, ?_⟩
    rw [Int.tmod_eq_emod_of_nonneg hn0]
    omega
  have hl1 := lt_of_heap LX4.out.bx
  have hl2 := lt_of_heap LY4.out.bx
  go_upto_region 4 with (fail)
  clear hT hn0 hn1
  go_cut [8] (fun v wx => ∃ (O : Int) (B : Nat) (A2 : Option Addr), (T = 0 ∧ O = 1 ∨ T = 1 ∧ O = 2 ∨ T = 2 ∧ O = 4 ∨ T = 3 ∧ O = 5 ∨ T = 4 ∧ O = 6) ∧ v = .pointer (some ⟨B, 0, none⟩) ∧ Ld (.int .i64 O) (.int .i64 0) (.string ⟨#[]⟩) (.slice A2 2 2) (.mk O 0 ⟨#[]⟩ [q, r]) B w4 wx)
  case first =>
    rcases hT5 with rfl | rfl | rfl | rfl | rfl
    all_goals
      go_region
      all_goals
        go_wp2_with fail
        go_meet
        refine ⟨_, _, _, ?_, rfl, jn_of (by first | exact (three_new _ _ _ _).1 | exact (three_new _ _ _ _).2.1 | exact (three_new _ _ _ _).2.2) (by first | exact (three_new _ _ _ _).1 | exact (three_new _ _ _ _).2.1 | exact (three_new _ _ _ _).2.2) LX4.out.q LY4.out.q⟩
        simp
  case rest =>
    obtain ⟨O, B, A2, hO, rfl, hJ⟩ := hcut
    have LZ := Lib.hid hJ
    have LX := Lib.hid (LX4.out.next hJ.k)
    have LY := Lib.hid (LY4.out.next hJ.k)
    clear hJ x0 x1 x2 x3 y0 y1 y2 y3 hl1 hl2
    have hS0 := cells12 LX.out LY.out LZ.out
    have KS := Lib.hid (fun (W : World) (hb : Below wc.heap.size wc W) => cells12 (LX.out.next hb) (LY.out.next hb) (LZ.out.next hb))
    have hsz : sz (.mk O 0 ⟨#[]⟩ [q, r]) ≤ 4194304 := by rw [sz_join, HN.out, HM.out]; omega
    have hnq : sz q ≤ 4194304 := by rw [HN.out]; omega
    have hnr : sz r ≤ 4194304 := by rw [HM.out]; omega
    have hNz : ((sz (.mk O 0 ⟨#[]⟩ [q, r]) : Nat) : Int) = 1 + (N : Int) + (M : Int) := by rw [sz_join, HN.out, HM.out]; omega
    have hNq : ((sz q : Nat) : Int) = (N : Int) := by rw [HN.out]
    have hNr : ((sz r : Nat) : Int) = (M : Int) := by rw [HM.out]
    have hDz := dp_join O 0 ⟨#[]⟩ q r
    have hd1 := dp_sz q
    have hd2 := dp_sz r
    rw [HN.out] at hd1
    rw [HM.out] at hd2
    obtain ⟨D1, hD1⟩ : ∃ D1, dp q = D1 := ⟨_, rfl⟩
    obtain ⟨D2, hD2⟩ : ∃ D2, dp r = D2 := ⟨_, rfl⟩
    rw [hD1, hD2] at hDz
    rw [hD1] at hd1
    rw [hD2] at hd2
    have C15z := Lib.hid (fun (W : World) (hb : Below wc.heap.size wc W) => nodes15 _ _ W hsz (LZ.out.next hb).q)
    have C15x := Lib.hid (fun (W : World) (hb : Below wc.heap.size wc W) => nodes15 _ _ W hnq (LX.out.next hb).q)
    have C15y := Lib.hid (fun (W : World) (hb : Below wc.heap.size wc W) => nodes15 _ _ W hnr (LY.out.next hb).q)
    have C16z := Lib.hid (fun (W : World) (hb : Below wc.heap.size wc W) => depth16 _ _ W hsz (LZ.out.next hb).q)
    have C16x := Lib.hid (fun (W : World) (hb : Below wc.heap.size wc W) => depth16 _ _ W hnq (LX.out.next hb).q)
    have C16y := Lib.hid (fun (W : World) (hb : Below wc.heap.size wc W) => depth16 _ _ W hnr (LY.out.next hb).q)
    have HNz := Lib.hid hNz
    have HNq := Lib.hid hNq
    have HNr := Lib.hid hNr
    have HDz := Lib.hid (show ((dp (.mk O 0 ⟨#[]⟩ [q, r]) : Nat) : Int) = 1 + max (D1 : Int) (D2 : Int) by rw [hDz]; omega)
    have HDq := Lib.hid (show ((dp q : Nat) : Int) = (D1 : Int) by rw [hD1])
    have HDr := Lib.hid (show ((dp r : Nat) : Int) = (D2 : Int) by rw [hD2])
    have s1 : IntKind.i64.wrap (1 + (N : Int)) = 1 + (N : Int) := IntWalk.i64_in _ (by omega)
    have s2 : IntKind.i64.wrap (1 + (N : Int) + (M : Int)) = 1 + (N : Int) + (M : Int) := IntWalk.i64_in _ (by omega)
    have s3 : IntKind.i64.wrap (1 + max (D1 : Int) (D2 : Int)) = 1 + max (D1 : Int) (D2 : Int) := IntWalk.i64_in _ (by omega)
    clear hsz hnq hnr hNz hNq hNr hDz hd1 hd2 hD1 hD2 g1 g2
    go_upto_region 5 with (fail)
    go_cut [64] (fun v wx => v = .bool false ∧ Below wc.heap.size wc wx)
    case first =>
      go_region_held3 (fun w' => w'.cell? ⟨w.heap.size, 0, none⟩ = some (.int .i64 a) ∧ w'.cell? ⟨w.heap.size, 1, none⟩ = some (.int .i64 b) ∧ w'.cell? ⟨w.heap.size, 2, none⟩ = some (.string c) ∧ w'.cell? ⟨w.heap.size, 3, none⟩ = some (.slice A d e) ∧ w'.cell? ⟨w.heap.size + 1, 0, none⟩ = some (.int .i64 a') ∧ w'.cell? ⟨w.heap.size + 1, 1, none⟩ = some (.int .i64 b') ∧ w'.cell? ⟨w.heap.size + 1, 2, none⟩ = some (.string c') ∧ w'.cell? ⟨w.heap.size + 1, 3, none⟩ = some (.slice A' d' e') ∧ w'.cell? ⟨B, 0, none⟩ = some (.int .i64 O) ∧ w'.cell? ⟨B, 1, none⟩ = some (.int .i64 0) ∧ w'.cell? ⟨B, 2, none⟩ = some (.string ⟨#[]⟩) ∧ w'.cell? ⟨B, 3, none⟩ = some (.slice A2 2 2))
        (first | exact hS | exact hS0 | go_keep)
        (first
          | (go_at_call 15
             (with_reducible refine (C15z.out _ (Below.refl _ _).drew).mono ?_)
             rintro e u1 ⟨rfl, hu1⟩
             rw [HNz.out]
             have k1 : Below wc.heap.size wc u1 := below_undrew hu1
             have hS := KS.out u1 k1)
          | (go_at_call 15
             (with_reducible refine (C15x.out _ k1).mono ?_)
             rintro e u2 ⟨rfl, hu2⟩
             rw [HNq.out]
             have k2 : Below wc.heap.size wc u2 := k1.trans (hu2.mono k1.size)
             have hS := KS.out u2 k2)
          | (go_at_call 15
             (with_reducible refine (C15y.out _ k2).mono ?_)
             rintro e u3 ⟨rfl, hu3⟩
             rw [HNr.out]
             have k3 : Below wc.heap.size wc u3 := k2.trans (hu3.mono k2.size)
             have hS := KS.out u3 k3)
          | (go_at_call 16
             (with_reducible refine (C16z.out _ k3).mono ?_)
             rintro e u4 ⟨rfl, hu4⟩
             rw [HDz.out]
             have k4 : Below wc.heap.size wc u4 := k3.trans (hu4.mono k3.size)
             have hS := KS.out u4 k4)
          | (go_at_call 16
             (with_reducible refine (C16x.out _ k4).mono ?_)
             rintro e u5 ⟨rfl, hu5⟩
             rw [HDq.out]
             have k5 : Below wc.heap.size wc u5 := k4.trans (hu5.mono k4.size)
             have hS := KS.out u5 k5)
          | (go_at_call 16
             (with_reducible refine (C16y.out _ k5).mono ?_)
             rintro e u6 ⟨rfl, hu6⟩
             rw [HDr.out]
             have k6 : Below wc.heap.size wc u6 := k5.trans (hu6.mono k5.size)
             have hS := KS.out u6 k6))
      all_goals
        go_wp2_with fail
        go_meet
        exact ⟨rfl, k6⟩
    case rest =>
      obtain ⟨rfl, hb5⟩ := hcut
      have LX5 := Lib.hid (LX.out.next hb5)
      have LY5 := Lib.hid (LY.out.next hb5)
      have LZ5 := Lib.hid (LZ.out.next hb5)
      clear hb5 hS0 KS C15z C15x C15y C16z C16x C16y HNz HNq HNr HDz HDq HDr s1 s2 s3
      obtain ⟨x0, x1, x2, x3⟩ := LX5.out.cells
      have HZ := Lib.hid (show sz (.mk O 0 ⟨#[]⟩ [q, r]) ≤ 4194304 by rw [sz_join, HN.out, HM.out]; omega)
      have HU := Lib.hid (show tb (.mk O 0 ⟨#[]⟩ [q, r]) by simp only [tb, tbs]; exact ⟨by decide, HB.out, HD.out, trivial⟩)
      have E5 := Lib.hid (print17 q _ wc (by rw [HN.out]; omega) HB.out LX5.out.q (HT0.out wc LX5.out.k))
      have F5 := Lib.hid (fun (W : World) (hb : Below wc.heap.size wc W) => print17 r _ W (by rw [HM.out]; omega) HD.out (LY5.out.next hb).q (HT0.out W (LX5.out.next hb).k))
      have G5 := Lib.hid (fun (W : World) (hb : Below wc.heap.size wc W) => print17 (.mk O 0 ⟨#[]⟩ [q, r]) _ W HZ.out HU.out (LZ5.out.next hb).q (HT0.out W (LX5.out.next hb).k))
      clear LX LY LZ HZ HU
      have HK := Lib.hid (chk_kid (o := O) (r := 0) (t := ⟨#[]⟩) (a := q) (b := r) (by omega))
      have HL1 := Lib.hid (chk_zero (q := q))
      have HL2 := Lib.hid (chk_zero (q := r))
      obtain ⟨P1, hP1⟩ : ∃ P, str (prn q) = P := ⟨_, rfl⟩
      obtain ⟨P2, hP2⟩ : ∃ P, str (prn r) = P := ⟨_, rfl⟩
      obtain ⟨P3, hP3⟩ : ∃ P, str (prn (.mk O 0 ⟨#[]⟩ [q, r])) = P := ⟨_, rfl⟩
      obtain ⟨C1, hC1⟩ : ∃ P, chk pe q = P := ⟨_, rfl⟩
      obtain ⟨C2, hC2⟩ : ∃ P, chk pe r = P := ⟨_, rfl⟩
      obtain ⟨C3, hC3⟩ : ∃ P, chk pe (.mk O 0 ⟨#[]⟩ [q, r]) = P := ⟨_, rfl⟩
      have HP1 := Lib.hid hP1
      have HP2 := Lib.hid hP2
      have HP3 := Lib.hid hP3
      have HC1 := Lib.hid hC1
      have HC2 := Lib.hid hC2
      have HC3 := Lib.hid hC3
      clear hP1 hP2 hP3 hC1 hC2 hC3
      by_cases h3 : C3 = 0
      case neg =>
        have g3 : (C3 != 0) = true := by simp [h3]
        clear h3
        have hc : ((C1 != 0) = true ∧ C1 ≠ 0) ∨ C1 = 0 := by by_cases h : C1 = 0; exact .inr h; exact .inl ⟨by simp [h], h⟩
        have hd : ((C2 != 0) = true ∧ C2 ≠ 0) ∨ C2 = 0 := by by_cases h : C2 = 0; exact .inr h; exact .inl ⟨by simp [h], h⟩
        clear hO
        rcases hc with ⟨gc, _⟩ | rfl <;> rcases hd with ⟨gd, _⟩ | rfl
        all_goals
          go_wp2_with fail
          refine E5.out.mono ?_
          rintro e w6 ⟨rfl, hb6⟩
          rw [HP1.out, HC1.out]
          have LY6 := Lib.hid (LY5.out.next hb6)
          have K6 := Lib.hid hb6
          clear hb6 x0 x1 x2 x3
          obtain ⟨y0, y1, y2, y3⟩ := LY6.out.cells
          have F6 := Lib.hid (F5.out w6 K6.out)
          go_wp2_with fail
          refine F6.out.mono ?_
          rintro e w7 ⟨rfl, hb7⟩
          rw [HP2.out, HC2.out]
          have K7 := Lib.hid (K6.out.trans (hb7.mono K6.out.size))
          clear hb7 y0 y1 y2 y3
          obtain ⟨z0, z1, z2, z3⟩ := (LZ5.out.next K7.out).cells
          have G6 := Lib.hid (G5.out w7 K7.out)
          go_wp2_with fail
          refine G6.out.mono ?_
          rintro e w8 ⟨rfl, hb8⟩
          rw [HP3.out, HC3.out]
          have K8 := Lib.hid (K7.out.trans (hb8.mono K7.out.size))
          clear hb8 z0 z1 z2 z3
          have L8 := Lib.hid (LX5.out.next K8.out)
          have E9 := Lib.hid (awake12 w8 (HT0.out w8 L8.out.k))
          go_wp2_with fail
          refine E9.out.mono ?_
          rintro e w9 ⟨rfl, hb9⟩
          go_wp2_with fail
          go_ret
          exact ⟨rfl, (L8.out.next hb9).k⟩
      case pos =>
        subst h3
        obtain ⟨k1, k2⟩ := HK.out HC3.out
        obtain rfl : C1 = 0 := HC1.out.symm.trans k1
        obtain rfl : C2 = 0 := HC2.out.symm.trans k2
        have l1 := Lib.hid (HL1.out k1).2.2.2.2
        have l2 := Lib.hid (HL2.out k2).2.2.2.2
        have p1 := Lib.hid (show P1 = str (txt q) by rw [← HP1.out, prn_yes k1])
        have p2 := Lib.hid (show P2 = str (txt r) by rw [← HP2.out, prn_yes k2])
        have p3 := Lib.hid (show P3 = str (txt (.mk O 0 ⟨#[]⟩ [q, r])) by rw [← HP3.out, prn_yes HC3.out])
        have hpp : (P3.toList == P3.toList) = true := by simp
        go_wp2_with fail
        refine E5.out.mono ?_
        rintro e w6 ⟨rfl, hb6⟩
        rw [HP1.out, HC1.out]
        have LY6 := Lib.hid (LY5.out.next hb6)
        have K6 := Lib.hid hb6
        clear hb6 x0 x1 x2 x3
        obtain ⟨y0, y1, y2, y3⟩ := LY6.out.cells
        have F6 := Lib.hid (F5.out w6 K6.out)
        go_wp2_with fail
        refine F6.out.mono ?_
        rintro e w7 ⟨rfl, hb7⟩
        rw [HP2.out, HC2.out]
        have K7 := Lib.hid (K6.out.trans (hb7.mono K6.out.size))
        clear hb7 y0 y1 y2 y3
        obtain ⟨z0, z1, z2, z3⟩ := (LZ5.out.next K7.out).cells
        have G6 := Lib.hid (G5.out w7 K7.out)
        go_wp2_with fail
        refine G6.out.mono ?_
        rintro e w8 ⟨rfl, hb8⟩
        rw [HP3.out, HC3.out]
        have K8 := Lib.hid (K7.out.trans (hb8.mono K7.out.size))
        clear hb8 z0 z1 z2 z3
        have L8 := Lib.hid (LX5.out.next K8.out)
        have E9 := Lib.hid (fun (x : Obj) => awake12 (w8.alloc x) (HT0.out _ (L8.out.next (below_one w8 x)).k))
        rcases hO with ⟨rfl, rfl⟩ | ⟨rfl, rfl⟩ | ⟨rfl, rfl⟩ | ⟨rfl, rfl⟩ | ⟨rfl, rfl⟩
        · obtain ⟨S1, S2, S3, c1, c2, c3, c4⟩ := joins_cat (j := 0) (A := ⟨#[40, 97, 110, 100, 32]⟩) (by decide) [40, 97, 110, 100, 32] rfl rfl p1.out p2.out rfl p3.out l1.out l2.out (by decide)
          clear p1 p2 p3 l1 l2
          go_wp2_with fail
          refine (E9.out _).mono ?_
          rintro e w9 ⟨rfl, hb9⟩
          go_wp2_with fail
          go_ret
          exact ⟨rfl, ((L8.out.next (below_one w8 _)).next hb9).k⟩
        · obtain ⟨S1, S2, S3, c1, c2, c3, c4⟩ := joins_cat (j := 1) (A := ⟨#[40, 111, 114, 32]⟩) (by decide) [40, 111, 114, 32] rfl rfl p1.out p2.out rfl p3.out l1.out l2.out (by decide)
          clear p1 p2 p3 l1 l2
          go_wp2_with fail
          refine (E9.out _).mono ?_
          rintro e w9 ⟨rfl, hb9⟩
          go_wp2_with fail
          go_ret
          exact ⟨rfl, ((L8.out.next (below_one w8 _)).next hb9).k⟩
        · obtain ⟨S1, S2, S3, c1, c2, c3, c4⟩ := joins_cat (j := 3) (A := ⟨#[40, 116, 104, 101, 110, 32]⟩) (by decide) [40, 116, 104, 101, 110, 32] rfl rfl p1.out p2.out rfl p3.out l1.out l2.out (by decide)
          clear p1 p2 p3 l1 l2
          go_wp2_with fail
          refine (E9.out _).mono ?_
          rintro e w9 ⟨rfl, hb9⟩
          go_wp2_with fail
          go_ret
          exact ⟨rfl, ((L8.out.next (below_one w8 _)).next hb9).k⟩
        · obtain ⟨S1, S2, S3, c1, c2, c3, c4⟩ := joins_cat (j := 4) (A := ⟨#[40, 119, 105, 116, 104, 105, 110, 32]⟩) (by decide) [40, 119, 105, 116, 104, 105, 110, 32] rfl rfl p1.out p2.out rfl p3.out l1.out l2.out (by decide)
          clear p1 p2 p3 l1 l2
          go_wp2_with fail
          refine (E9.out _).mono ?_
          rintro e w9 ⟨rfl, hb9⟩
          go_wp2_with fail
          go_ret
          exact ⟨rfl, ((L8.out.next (below_one w8 _)).next hb9).k⟩
        · obtain ⟨S1, S2, S3, c1, c2, c3, c4⟩ := joins_cat (j := 5) (A := ⟨#[40, 104, 97, 115, 32]⟩) (by decide) [40, 104, 97, 115, 32] rfl rfl p1.out p2.out rfl p3.out l1.out l2.out (by decide)
          clear p1 p2 p3 l1 l2
          go_wp2_with fail
          refine (E9.out _).mono ?_
          rintro e w9 ⟨rfl, hb9⟩
          go_wp2_with fail
          go_ret
          exact ⟨rfl, ((L8.out.next (below_one w8 _)).next hb9).k⟩
end Go.Proofs.YtgbjldkbbbjnkaaDoor
