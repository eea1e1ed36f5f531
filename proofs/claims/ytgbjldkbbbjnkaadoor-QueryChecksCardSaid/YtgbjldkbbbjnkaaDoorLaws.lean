/-
  What few returns; the laws QueryChecks, QueryPrints, QuerySame. Printed by gen_laws.py.
-/
import Derived.Test.YtgbjldkbbbjnkaaDoorLawP
namespace Go.Proofs.YtgbjldkbbbjnkaaDoor
open Go.RowKit Go.PlainAid Pl

def fewB (q : Qt) : Bool := decide (sz q ≤ 150) && short q
theorem few_yes {q : Qt} (h : fewB q = true) : sz q ≤ 150 ∧ short q = true ∧ tb q := by
  unfold fewB at h
  simp only [Bool.and_eq_true, decide_eq_true_eq] at h
  exact ⟨h.1, h.2, short_tb q h.2⟩
/-- What a law has of a query in a box: the box at B0, and the query, in every later world. -/
structure Ld (a b c d : Value) (q : Qt) (B : Nat) (w W : World) : Prop where
  k : Below w.heap.size w W
  bx : W.heap[B]? = some (.cells #[a, b, c, d] 25)
  q : QAt W W.heap.size q (.agg #[a, b, c, d])
theorem Ld.next {a b c d : Value} {q : Qt} {B : Nat} {w W W' : World} (h : Ld a b c d q B w W) (hb : Below W.heap.size W W') : Ld a b c d q B w W' :=
  ⟨h.k.trans (hb.mono h.k.size), heap_below h.bx hb, h.q.step hb⟩
theorem Ld.start {a b c d : Value} {q : Qt} {w : World} (h : QAt w w.heap.size q (.agg #[a, b, c, d])) : Ld a b c d q w.heap.size w (w.alloc (.cells #[a, b, c, d] 25)) :=
  ⟨below_one _ _, quad_new w a b c d 25, h.step (below_one _ _)⟩
theorem Ld.cells {a b c d : Value} {q : Qt} {B : Nat} {w W : World} (h : Ld a b c d q B w W) : W.cell? ⟨B, 0, none⟩ = some a ∧ W.cell? ⟨B, 1, none⟩ = some b ∧ W.cell? ⟨B, 2, none⟩ = some c ∧ W.cell? ⟨B, 3, none⟩ = some d := quad_cells h.bx
set_option maxHeartbeats 1600000 in
set_option maxRecDepth 100000 in
theorem few14 (q : Qt) (v : Value) (w : World) (hn : sz q ≤ 4194304) (hq : QAt w w.heap.size q v) : Calls Tryd.prog 14 #[v] w (BoolIs (fewB q) w) := by
  obtain ⟨a, b, c, d, rfl⟩ := hq.flat
  have L0 := Lib.hid (Ld.start hq)
  obtain ⟨W0, hW0⟩ : ∃ W0, w.alloc (.cells #[a, b, c, d] 25) = W0 := ⟨_, rfl⟩
  rw [hW0] at L0
  have HW := Lib.hid hW0
  clear hW0 hq
  obtain ⟨x0, x1, x2, x3⟩ := L0.out.cells
  have E1 := Lib.hid (nodes20 q _ W0 hn L0.out.q)
  obtain ⟨N, hN⟩ : ∃ N, sz q = N := ⟨_, rfl⟩
  have HF := Lib.hid (show fewB q = (decide (N ≤ 150) && short q) by rw [fewB, hN])
  have HN := Lib.hid hN
  rw [hN] at E1 hn
  clear hN
  go_enter Tryd.func14, Tryd.ntmps14
  go_wp2_with fail
  rw [HW.out]
  clear HW
  refine E1.out.mono ?_
  rintro e w1 ⟨rfl, hb1⟩
  by_cases h150 : N ≤ 150
  · have L1 := Lib.hid (L0.out.next hb1)
    have E2 := Lib.hid (texts28 q _ w1 (by rw [HN.out]; exact hn) L1.out.q)
    have HR := Lib.hid (show fewB q = short q by rw [HF.out, decide_eq_true h150]; rfl)
    obtain ⟨sh, hsh⟩ : ∃ sh, short q = sh := ⟨_, rfl⟩
    rw [hsh] at E2 HR
    clear hb1 hsh
    obtain ⟨y0, y1, y2, y3⟩ := L1.out.cells
    go_wp2_with fail
    refine E2.out.mono ?_
    rintro e w2 ⟨rfl, hb2⟩
    go_wp2_with fail
    go_ret
    exact ⟨by rw [HR.out]; rfl, (L1.out.next hb2).k⟩
  · have HR := Lib.hid (show fewB q = false by rw [HF.out, decide_eq_false h150]; rfl)
    go_wp2_with fail
    go_ret
    exact ⟨by rw [HR.out]; rfl, (L0.out.next hb1).k⟩
set_option maxHeartbeats 6400000 in
set_option maxRecDepth 100000 in
theorem law5 (q : Qt) (v : Value) (w : World) (hn : sz q ≤ 4194304) (hq : QAt w w.heap.size q v) (hT : Tab w) : Calls Tryd.prog 5 #[v] w (AwOut w) := by
  obtain ⟨a, b, c, d, rfl⟩ := hq.flat
  have L0 := Lib.hid (Ld.start hq)
  obtain ⟨W0, hW0⟩ : ∃ W0, w.alloc (.cells #[a, b, c, d] 25) = W0 := ⟨_, rfl⟩
  rw [hW0] at L0
  have HW := Lib.hid hW0
  have HT0 := Lib.hid (show ∀ W, Below w.heap.size w W → Tab W from fun W hb => hT.below hb)
  clear hW0 hq hT
  obtain ⟨x0, x1, x2, x3⟩ := L0.out.cells
  have E1 := Lib.hid (few14 q _ W0 hn L0.out.q)
  obtain ⟨F, hF⟩ : ∃ F, fewB q = F := ⟨_, rfl⟩
  rw [hF] at E1
  go_enter Tryd.func5, Tryd.ntmps5
  go_wp2_with fail
  rw [HW.out]
  clear HW
  refine E1.out.mono ?_
  rintro e w1 ⟨rfl, hb1⟩
  have L1 := Lib.hid (L0.out.next hb1)
  clear hb1 x0 x1 x2 x3
  cases F
  · go_wp2_with fail
    refine (awake12 w1 (HT0.out w1 L1.out.k)).mono ?_
    rintro e w2 ⟨rfl, hb2⟩
    go_wp2_with fail
    go_ret
    exact ⟨rfl, (L1.out.next hb2).k⟩
  obtain ⟨hsz, hsh, htb⟩ := few_yes hF
  clear hF hsh
  obtain ⟨x0, x1, x2, x3⟩ := L1.out.cells
  have hS0 := And.intro x0 (And.intro x1 (And.intro x2 x3))
  have KS := Lib.hid (fun (W : World) (hb : Below w1.heap.size w1 W) => (L1.out.next hb).cells)
  have C18 := Lib.hid (fun (W : World) (hb : Below w1.heap.size w1 W) => check18 q _ W hn htb (L1.out.next hb).q (HT0.out W (L1.out.next hb).k))
  have C19 := Lib.hid (fun (W : World) (hb : Below w1.heap.size w1 W) => check19 q _ W hn htb (L1.out.next hb).q)
  have C15 := Lib.hid (fun (W : World) (hb : Below w1.heap.size w1 W) => nodes15 q _ W hn (L1.out.next hb).q)
  have C20 := Lib.hid (fun (W : World) (hb : Below w1.heap.size w1 W) => nodes20 q _ W hn (L1.out.next hb).q)
  have C16 := Lib.hid (fun (W : World) (hb : Below w1.heap.size w1 W) => depth16 q _ W hn (L1.out.next hb).q)
  have C21 := Lib.hid (fun (W : World) (hb : Below w1.heap.size w1 W) => depth21 q _ W hn (L1.out.next hb).q)
  have C12 := Lib.hid (fun (W : World) (hb : Below w1.heap.size w1 W) => awake12 W (HT0.out W (L1.out.next hb).k))
  obtain ⟨C, hC⟩ : ∃ C, chk pe q = C := ⟨_, rfl⟩
  obtain ⟨N, hN⟩ : ∃ N, ((sz q : Nat) : Int) = N := ⟨_, rfl⟩
  obtain ⟨D, hD⟩ : ∃ D, ((dp q : Nat) : Int) = D := ⟨_, rfl⟩
  have HC := Lib.hid hC
  have HN := Lib.hid hN
  have HD := Lib.hid hD
  clear hC hN hD hn hsz
  go_upto_region 3 with (fail)
  go_region_held3 (fun w' => w'.cell? ⟨w.heap.size, 0, none⟩ = some a ∧ w'.cell? ⟨w.heap.size, 1, none⟩ = some b ∧ w'.cell? ⟨w.heap.size, 2, none⟩ = some c ∧ w'.cell? ⟨w.heap.size, 3, none⟩ = some d)
    (first | exact hS | exact hS0 | go_keep)
    (first
      | (go_at_call 18
         (with_reducible refine (C18.out _ (Below.refl _ _).drew).mono ?_)
         rintro e u1 ⟨rfl, hu1⟩
         rw [HC.out]
         have k1 : Below w1.heap.size w1 u1 := below_undrew hu1
         have hS := KS.out u1 k1)
      | (go_at_call 19
         (with_reducible refine (C19.out _ k1).mono ?_)
         rintro e u2 ⟨rfl, hu2⟩
         rw [HC.out]
         have k2 : Below w1.heap.size w1 u2 := k1.trans (hu2.mono k1.size)
         have hS := KS.out u2 k2)
      | (go_at_call 15
         (with_reducible refine (C15.out _ k2).mono ?_)
         rintro e u3 ⟨rfl, hu3⟩
         rw [HN.out]
         have k3 : Below w1.heap.size w1 u3 := k2.trans (hu3.mono k2.size)
         have hS := KS.out u3 k3)
      | (go_at_call 20
         (with_reducible refine (C20.out _ k3).mono ?_)
         rintro e u4 ⟨rfl, hu4⟩
         rw [HN.out]
         have k4 : Below w1.heap.size w1 u4 := k3.trans (hu4.mono k3.size)
         have hS := KS.out u4 k4)
      | (go_at_call 16
         (with_reducible refine (C16.out _ k4).mono ?_)
         rintro e u5 ⟨rfl, hu5⟩
         rw [HD.out]
         have k5 : Below w1.heap.size w1 u5 := k4.trans (hu5.mono k4.size)
         have hS := KS.out u5 k5)
      | (go_at_call 21
         (with_reducible refine (C21.out _ k5).mono ?_)
         rintro e u6 ⟨rfl, hu6⟩
         rw [HD.out]
         have k6 : Below w1.heap.size w1 u6 := k5.trans (hu6.mono k5.size)
         have hS := KS.out u6 k6)
      | (go_at_call 12
         (with_reducible refine (C12.out _ k6).mono ?_)
         rintro e u7 ⟨rfl, hu7⟩
         have k7 : Below w1.heap.size w1 u7 := k6.trans (hu7.mono k6.size)
         have hS := KS.out u7 k7))
  all_goals
    go_wp2_with fail
    go_ret
    exact ⟨rfl, (L1.out.next k7).k⟩
set_option maxHeartbeats 6400000 in
set_option maxRecDepth 100000 in
theorem law6 (q : Qt) (v : Value) (w : World) (hn : sz q ≤ 4194304) (hq : QAt w w.heap.size q v) (hT : Tab w) : Calls Tryd.prog 6 #[v] w (AwOut w) := by
  obtain ⟨a, b, c, d, rfl⟩ := hq.flat
  have L0 := Lib.hid (Ld.start hq)
  obtain ⟨W0, hW0⟩ : ∃ W0, w.alloc (.cells #[a, b, c, d] 25) = W0 := ⟨_, rfl⟩
  rw [hW0] at L0
  have HW := Lib.hid hW0
  have HT0 := Lib.hid (show ∀ W, Below w.heap.size w W → Tab W from fun W hb => hT.below hb)
  clear hW0 hq hT
  obtain ⟨x0, x1, x2, x3⟩ := L0.out.cells
  have E1 := Lib.hid (few14 q _ W0 hn L0.out.q)
  obtain ⟨F, hF⟩ : ∃ F, fewB q = F := ⟨_, rfl⟩
  rw [hF] at E1
  go_enter Tryd.func6, Tryd.ntmps6
  go_wp2_with fail
  rw [HW.out]
  clear HW
  refine E1.out.mono ?_
  rintro e w1 ⟨rfl, hb1⟩
  have L1 := Lib.hid (L0.out.next hb1)
  clear hb1 x0 x1 x2 x3
  cases F
  · go_wp2_with fail
    refine (awake12 w1 (HT0.out w1 L1.out.k)).mono ?_
    rintro e w2 ⟨rfl, hb2⟩
    go_wp2_with fail
    go_ret
    exact ⟨rfl, (L1.out.next hb2).k⟩
  obtain ⟨hsz, hsh, htb⟩ := few_yes hF
  clear hF hsh
  obtain ⟨x0, x1, x2, x3⟩ := L1.out.cells
  obtain ⟨P, hP⟩ : ∃ P, str (prn q) = P := ⟨_, rfl⟩
  obtain ⟨C, hC⟩ : ∃ C, chk pe q = C := ⟨_, rfl⟩
  have HP := Lib.hid hP
  have HC := Lib.hid hC
  have HN := Lib.hid hn
  have HB := Lib.hid htb
  have E2 := Lib.hid (print17 q _ w1 hn htb L1.out.q (HT0.out w1 L1.out.k))
  clear hP hC hn hsz htb
  go_wp2_with fail
  refine E2.out.mono ?_
  rintro e w2 ⟨rfl, hb2⟩
  rw [HP.out, HC.out]
  have L2 := Lib.hid (L1.out.next hb2)
  clear hb2 x0 x1 x2 x3
  obtain ⟨x0, x1, x2, x3⟩ := L2.out.cells
  have E3 := Lib.hid (print22 q _ w2 HN.out HB.out L2.out.q)
  go_wp2_with fail
  refine E3.out.mono ?_
  rintro e w3 ⟨rfl, hb3⟩
  rw [HP.out, HC.out]
  have L3 := Lib.hid (L2.out.next hb3)
  clear hb3 x0 x1 x2 x3
  have E4 := Lib.hid (awake12 w3 (HT0.out w3 L3.out.k))
  have hpp : (P.toList == P.toList) = true := by simp
  go_wp2_with fail
  refine E4.out.mono ?_
  rintro e w4 ⟨rfl, hb4⟩
  go_wp2_with fail
  go_ret
  exact ⟨rfl, (L3.out.next hb4).k⟩
end Go.Proofs.YtgbjldkbbbjnkaaDoor
