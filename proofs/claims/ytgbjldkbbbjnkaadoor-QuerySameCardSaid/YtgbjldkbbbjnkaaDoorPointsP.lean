/-
  What Points of the program returns.
-/
import Derived.Test.YtgbjldkbbbjnkaaDoorShelf2
import Derived.Test.YtgbjldkbbbjnkaaDoorOfP
import Derived.Test.YtgbjldkbbbjnkaaDoorPat
import Derived.RangeFuncBox
import Derived.RangeFuncNested
import Derived.RangeFuncLeaves
import Derived.Shelf.Abstract
import Derived.OwnWalkIn
import Derived.TacticsInMore
import Derived.LoopNIn
import Derived.LoopIn
import Derived.Lib.OthersKept
import Derived.WalkSmall
import Derived.Lib.TrimU
namespace Go.Proofs.YtgbjldkbbbjnkaaDoor
open Go.RowKit Go.PlainAid Go.Shelf
attribute [local go_sem] Oper.semAt_some
set_option maxHeartbeats 1000000 in
theorem scalars71_in (F : Fence) (n : Nat) (h63 : F.fn 71) (hro : F.round = none) (s : ByteArray) (w : World) :
    CallsIn F n Tryd.prog 71 #[.string s] w fun e w' => e = .returned (.func (.func 83) #[] #[.pointer (some ⟨w.heap.size, 0, none⟩)]) ∧ w' = w.alloc (.cells #[.string s] 9) := by
  refine callsIn_of_wp Tryd.func71 rfl h63 ?_ hro
  simp only [Tryd.ntmps71, List.size_toArray, List.length_cons, List.length_nil, Nat.reduceAdd, Nat.reduceSub, Array.replicate_succ, Array.replicate_zero, List.push_toArray, List.append_toArray, List.nil_append, List.cons_append]
  gi_wp2
  go_ret
  exact ⟨rfl, rfl⟩
theorem grown_iterAt (w : World) (k : Nat) (s : ByteArray) (pos : Nat) : w.grownBy (w.iterAt k s pos) (some k) :=
  ⟨rfl, rfl, rfl, by rw [Lib.iterAt_size]; exact Nat.le_refl _, fun i _ hne => Lib.iterAt_other w k i s pos (fun e => hne (by rw [e]))⟩
set_option maxRecDepth 100000 in
set_option maxHeartbeats 2000000 in
theorem scalars83_in (F : Fence) (n : Nat) (h66 : F.fn 83) (hro : F.round = none) (hn : 1 ≤ n) (l Bs : Nat) (s : ByteArray) (J Jx : List (Nat × Int) → World → Prop) (W : World)
    (hJ : AbidesFrom W.heap.size J)
    (hY : ∀ pre x W, J pre W → pre.length < s.size → YieldAt F (n - 1) Tryd.prog l #[.int .i64 (x.1 : Int), .int .i64 x.2] W fun e W' =>
      (e = .returned (.bool true) ∧ J (pre ++ [x]) W' ∧ KeepsWalks W W') ∨ (e = .returned (.bool false) ∧ Jx (pre ++ [x]) W'))
    (hBs : W.cell? ⟨Bs, 0, none⟩ = some (.string s)) (h0 : J [] W) :
    CallsIn F n Tryd.prog 83 #[.func (.yield l) #[] #[], .pointer (some ⟨Bs, 0, none⟩)] W fun e W' => (∃ v, e = .returned v) ∧
      ((∃ ys, True ∧ J ys W') ∨ (∃ pre, True ∧ Jx pre W')) := by
  refine callsIn_of_wp Tryd.func83 rfl h66 ?_ hro
  simp only [Tryd.ntmps83, List.size_toArray, List.length_cons, List.length_nil, Nat.reduceAdd, Nat.reduceSub, Array.replicate_succ, Array.replicate_zero, List.push_toArray, List.append_toArray, List.nil_append, List.cons_append]
  gi_wp2
  gi_loopw [] (fun wr => ∃ (pos : Nat) (pre : List (Nat × Int)), pre.length ≤ pos ∧ J pre wr ∧ wr.heap[W.heap.size]? = some (.stringIter s pos)) (fun wr => s.size - wr.iterPos W.heap.size)
  case atStart => exact ⟨0, [], Nat.le_refl _, hJ _ _ _ none h0 (World.grownBy_alloc W _ none) (fun r e => by cases e), World.iter_heap W s 0⟩
  case round =>
    obtain ⟨pos, pre, hpp, hJs, hk⟩ := hrel
    have hip := iterPos_of hk
    by_cases hlt : pos < s.size
    · have hnx := fun ty => Lib.run_next_any_at (P := Tryd.prog) wr W.heap.size s pos ty hk hlt
      have hd := Lib.width_pos s pos
      have hr := Lib.rune_le s pos
      obtain ⟨r, hre⟩ : ∃ r, (Utf8.decode s pos).1 = r := ⟨_, rfl⟩
      obtain ⟨d, hde⟩ : ∃ d, (Utf8.decode s pos).2 = d := ⟨_, rfl⟩
      rw [hre] at hr
      rw [hde] at hd
      rw [hre, hde] at hnx
      clear hre hde
      have hJ2 := hJ pre wr (wr.iterAt W.heap.size s (pos + d)) (some W.heap.size) hJs (grown_iterAt wr _ _ _) (fun r e => by cases e; exact ⟨Nat.le_refl _, _, hk, rfl⟩)
      have hk2 := Lib.iterAt_heap wr W.heap.size s pos (pos + d) hk
      obtain ⟨fn, tmps, assign, body, hy, hR⟩ := hY pre (pos, (r : Int)) _ hJ2 (by omega)
      dsimp only at hy
      gi_wp2
      refine hR.mono ?_
      rintro e W3 (⟨rfl, hJ3, hk3⟩ | ⟨rfl, hJx3⟩)
      · have hk4 := hk3.same _ _ hk2 rfl
        have hip2 := iterPos_of hk4
        gi_wp2
        go_roundw
        case rel => exact ⟨pos + d, pre ++ [(pos, (r : Int))], by simp; omega, hJ3, hk4⟩
        case measure => rw [hip, hip2]; omega
      · gi_wp2
        refine bodyPost_ret (results_none rfl _ _ _) rfl ?_
        exact ⟨⟨_, rfl⟩, .inr ⟨_, trivial, hJx3⟩⟩
    · have hnx := fun ty => Lib.run_next_end_at (P := Tryd.prog) wr W.heap.size s pos ty hk hlt
      gi_wp2
      go_end0
      exact ⟨⟨_, rfl⟩, .inl ⟨pre, trivial, hJs⟩⟩
theorem scalars_stops (F : Fence) (n : Nat) (h66 : F.fn 83) (hro : F.round = none) (hn : 1 ≤ n) (Bs : Nat) (s : ByteArray) (w : World) (hBs : Bs < w.heap.size) (hc : w.cell? ⟨Bs, 0, none⟩ = some (.string s)) :
    SeqStopsK F n Tryd.prog 83 #[.pointer (some ⟨Bs, 0, none⟩)] (fun x : Nat × Int => #[Value.int .i64 (x.1 : Int), Value.int .i64 x.2]) KeepsWalks (fun _ => True) (fun _ => True) s.size w := fun l J Jx W hW hJ _ hY h0 =>
  scalars83_in F n h66 hro hn l Bs s J Jx W hJ hY ((hW.cell (p := ⟨Bs, 0, none⟩) hBs).trans hc) h0
def PtsOut (s : ByteArray) (w : World) (e : Ending) (w' : World) : Prop := ∃ v, e = .returned (.tuple #[v, .bool (Lib.validD s.data.toList)]) ∧ Below w.heap.size w w'
theorem points56_no (s : ByteArray) (w : World) (hs : s.size ≤ 1000) (hT : Lib.Utf8Tabs 2 3 w) (hv : Lib.validD s.data.toList = false) : Calls Tryd.prog 56 #[.string s] w (PtsOut s w) := by
  have HV := Lib.hid (Tryd.utf8_ValidString s w (by omega) hT)
  rw [hv] at HV
  have E := Lib.hid hv
  clear hv hT
  go_enter Tryd.func56, Tryd.ntmps56
  go_wp2_with fail
  refine HV.out.mono ?_
  rintro e w1 ⟨rfl, hb1⟩
  go_wp2_with fail
  go_ret2
  exact ⟨_, by rw [E.out]; rfl, hb1⟩
set_option maxRecDepth 100000 in
set_option maxHeartbeats 2000000 in
theorem points56_yes (s : ByteArray) (w : World) (hs : s.size ≤ 1000) (hT : Lib.Utf8Tabs 2 3 w) (hv : Lib.validD s.data.toList = true) : Calls Tryd.prog 56 #[.string s] w (PtsOut s w) := by
  have HV := Lib.hid (Tryd.utf8_ValidString s w (by omega) hT)
  rw [hv] at HV
  have E := Lib.hid hv
  clear hv hT
  obtain ⟨i0, hi, hz0, hz1, hz2⟩ := info_parts info3
  have HI3 := Lib.hid hi
  have HZ0 := Lib.hid hz0
  have HZ1 := Lib.hid hz1
  have HZ2 := Lib.hid hz2
  clear hi hz0 hz1 hz2
  refine (callsIn_wide (n := 5)).1 ?_
  have hro : Fence.wide.round = none := rfl
  refine callsIn_of_wp_marks Tryd.func56 rfl trivial ?_ hro
  simp only [Tryd.ntmps56, List.size_toArray, List.length_cons, List.length_nil, Nat.reduceAdd, Nat.reduceSub, Array.replicate_succ, Array.replicate_zero, List.push_toArray, List.append_toArray, List.nil_append, List.cons_append]
  gi_wp2_with (first | (refine ⟨trivial, ?_⟩; gi_at_call 70; refine (callsIn_wide.2 HV.out).mono ?_; rintro e w1 ⟨rfl, hb1⟩) | (refine ⟨trivial, ?_⟩; gi_at_call 71; refine (scalars71_in Fence.wide _ trivial hro _ _).mono ?_; rintro e w' ⟨rfl, rfl⟩))
  have bO := Boxed.new w1 32 (.slice none 0 0)
  have bN := Boxed.new (w1.alloc (.cells #[.slice none 0 0] 32)) 9 (.string s)
  rw [World.size_alloc] at bN
  have hB0 : Below w1.heap.size w1 ((w1.alloc (.cells #[.slice none 0 0] 32)).alloc (.cells #[.string s] 9)) := ((Below.refl _ w1).alloc (Nat.le_refl _) _).alloc (by simp) _
  refine wpIn_rangeFunc_ownG hro (by omega) (gf := 83) (lb := #[.pointer (some ⟨w1.heap.size + 1, 0, none⟩)]) rfl trivial (enters_of Tryd.func83 (by kernel_rfl) rfl)
    (scalars_stops Fence.wide 4 trivial hro (by omega) (w1.heap.size + 1) s _ (by simp) bN.cell) walksK_t walksK_b (Below.refl _ _) (fun _ => rfl)
    (fun pre W => (∃ v, Boxed W w1.heap.size 32 v ∧ W.ownsRow w1.heap.size 3 1 v pre.length (pre.map fun x => Value.int .i64 x.2) ∧ True) ∧ Below w1.heap.size w1 W)
    (fun _ _ _ => False)
    (OwnFrom.and (Own.from (holdsRow_own w1.heap.size w1.heap.size 32 3 1 (fun pre : List (Nat × Int) => pre.length) (fun pre : List (Nat × Int) => pre.map fun x => Value.int .i64 x.2) (fun _ _ => True)) _) (ownFrom_below (Nat.le_refl _) (by simp; omega)))
    (fun _ _ _ _ _ hs _ _ => hs)
    ⟨⟨_, bO.alloc _, World.ownsRow_nil _ _ _ _, trivial⟩, hB0⟩
    (fun x => { tmps := #[.string s, undef, .slice none 0 0, .bool false, .pointer (some ⟨w1.heap.size, 0, none⟩), undef, .int .i64 x.2, .string s, .bool true, .bool false, .string s, .func (.func 83) #[] #[.pointer (some ⟨w1.heap.size + 1, 0, none⟩)], .int .i64 (x.1 : Int), .int .i64 x.2, undef, undef, undef, undef, undef], defers := [] }) ?assign ?body ?done ?stop
  case assign =>
    intro l x W K hK
    gi_wp2
    exact hK
  case body =>
    rintro l pre x W ⟨⟨v, hv, hrow, _⟩, hB⟩ hlt
    have hc := hv.cell
    gi_wp2_with (gi_at_builtin; refine wpListIn_append_own _ rfl _ _ 32 rfl w1.heap.size 3 i0 (.int .i64 0) 1 8 Tryd.underlying32 HI3.out HZ0.out HZ1.out HZ2.out rfl (by decide) _ _ _ rfl (hrow.alloc _) ⟨W.heap.size, 0, none⟩ 1 1 [.int .i64 x.2] rfl rfl (cell_one_new _ _ _) (by simp [Value.oneCell']) (by unfold maxLen; omega) (by omega) (by have := hB.size; simp; omega) ?_; intro v' w3 hown' hgrow _; obtain ⟨g', cap', rfl⟩ := ownsRow_succ hown'; obtain ⟨hv1, hv2, hr2, hk2, hb2⟩ := hv.appended (by decide) hrow hB.size (Nat.le_refl _) hown' hgrow; have hc1 := hv1.cell; have hf1 := hv1.frozen)
    exact ⟨hk2.from _, hk2.walks, ⟨_, hv2, by simpa using hr2, trivial⟩, hB.trans hb2⟩
  case done =>
    rintro D ys W hD _ ⟨⟨v, hv, hrow, _⟩, hB⟩ hK
    have hc := hv.cell
    gi_wp2
    refine ⟨by simp, .inl ⟨_, _, rfl, run_takeDeferred hK, ?_⟩⟩
    refine ⟨_, results_tmp2 rfl _ _ _, v, by rw [E.out]; rfl, ?_⟩
    have hB2 := hB.trans (belowK_b (w := w1) (Nat.le_refl _) W D _ (.deferred none) (by simp at hD; omega) hK rfl rfl)
    exact hb1.trans (hB2.mono hb1.size)
  case stop =>
    rintro D c pre W _ _ h _
    exact h.elim
theorem points56 (s : ByteArray) (w : World) (hs : s.size ≤ 1000) (hT : Lib.Utf8Tabs 2 3 w) : Calls Tryd.prog 56 #[.string s] w (PtsOut s w) := by
  cases hv : Lib.validD s.data.toList
  · exact points56_no s w hs hT hv
  · exact points56_yes s w hs hT hv
end Go.Proofs.YtgbjldkbbbjnkaaDoor
