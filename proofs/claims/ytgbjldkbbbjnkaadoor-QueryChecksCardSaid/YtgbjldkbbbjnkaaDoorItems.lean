/-
  What items of the program's patterns returns. Printed by gen_items.py.
-/
import Derived.Test.YtgbjldkbbbjnkaaDoorPointsP
namespace Go.Proofs.YtgbjldkbbbjnkaaDoor
open Go.RowKit Go.PlainAid

theorem info106 : (Tryd.prog.info? 106).map (fun i => (i.zero, i.size, i.bytes)) = some (some (.agg #[.int .i64 0, .int .i32 0]), 2, 16) := by kernel_rfl
def ItemsOut (s : ByteArray) (w : World) (e : Ending) (w' : World) : Prop := ∃ v, e = .returned (.tuple #[v, .bool (decide (autE (pre s s.size) = some false))]) ∧ Below w.heap.size w w'
theorem autE_none {s : ByteArray} {k n : Nat} (h : autE (pre s k) = none) (hk : k ≤ n) : autE (pre s n) = none := by
  rw [show n = k + (n - k) by omega, pre_add, autE, List.foldl_append]
  rw [autE] at h
  rw [h]
  exact foldE_none _
theorem two_new (w : World) (a b : Value) (t : TypeId) : ∀ (j : Nat) (x : Value), [a, b][j]? = some x → (w.alloc (.cells #[a, b] t)).cell? ((⟨w.heap.size, 0, none⟩ : Addr).add j) = some x := by
  intro j x hx
  match j, hx with
  | 0, hx => simp at hx; subst hx; simp [Addr.add, World.cell?_alloc_new]
  | 1, hx => simp at hx; subst hx; simp [Addr.add, World.cell?_alloc_new]
  | j + 2, hx => simp at hx
theorem heap_gr {w w' : World} {r : Option Nat} {o : Obj} {B : Nat} (h : w.heap[B]? = some o) (hg : w.grownBy w' r) (hr : ∀ i, r = some i → B ≠ i) : w'.heap[B]? = some o := by
  rw [hg.block B (lt_of_heap h) (fun e => hr _ e.symm rfl)]
  exact h
theorem items_step {s : ByteArray} {pos : Nat} {e : Bool} {x : Option Bool} {r : Int} {d : Nat} (h : autE (pre s (pos + d)) = stE (autE (pre s pos)) r) (he : autE (pre s pos) = some e) (hx : stE (some e) r = x) : autE (pre s (pos + d)) = x := by rw [h, he, hx]
set_option maxHeartbeats 3200000 in
set_option maxRecDepth 100000 in
theorem items57 (s : ByteArray) (w : World) (hs : s.size ≤ 1000) : Calls Tryd.prog 57 #[.string s] w (ItemsOut s w) := by
  obtain ⟨i0, hi, hz0, hz1, hz2⟩ := info_parts info106
  have HI := Lib.hid hi
  have HZ0 := Lib.hid hz0
  have HZ1 := Lib.hid hz1
  have HZ2 := Lib.hid hz2
  clear hi hz0 hz1 hz2
  go_enter Tryd.func57, Tryd.ntmps57
  go_wp2_with fail
  go_loopw [4, 5] (fun v e wr => ∃ (pos n : Nat) (xs : List Value) (eb : Bool), pos ≤ s.size ∧ n ≤ pos ∧ e = .bool eb ∧ autE (pre s pos) = some eb ∧ wr.ownsRow (w.heap.size + 1) 106 2 v n xs ∧ wr.heap[w.heap.size]? = some (.stringIter s pos) ∧ Below w.heap.size w wr) (fun _ _ wr => s.size - wr.iterPos w.heap.size)
  case atStart => exact ⟨0, 0, [], false, Nat.zero_le _, Nat.le_refl _, rfl, rfl, World.ownsRow_nil _ _ _ _, World.iter_heap w s 0, below_one _ _⟩
  case round =>
    obtain ⟨pos, n, xs, eb, hpos, hn, rfl, haut, hown, hit, hb⟩ := hrel
    have hip := Lib.hid (iterPos_of hit)
    have HAUT := Lib.hid haut
    have HOWN := Lib.hid hown
    have HB := Lib.hid hb
    have HIT := Lib.hid hit
    clear haut hown
    by_cases hlt : pos < s.size
    · obtain ⟨hd1, hd2, hstep⟩ := dec_step hlt
      have hnx := fun ty => Lib.run_next_any_at (P := Tryd.prog) wr w.heap.size s pos ty hit hlt
      obtain ⟨r, hre⟩ : ∃ r, (Utf8.decode s pos).1 = r := ⟨_, rfl⟩
      obtain ⟨d, hde⟩ : ∃ d, (Utf8.decode s pos).2 = d := ⟨_, rfl⟩
      rw [hde] at hd1 hd2
      rw [hre, hde] at hnx hstep
      clear hre hde hit hb
      have HST := Lib.hid hstep
      clear hstep
      have HIT2 := Lib.hid (Lib.iterAt_heap wr w.heap.size s pos (pos + d) HIT.out)
      have HG := Lib.hid (show Onl w.heap.size wr (wr.iterAt w.heap.size s (pos + d)) from grown_iterAt wr _ _ _)
      have HO2 := Lib.hid (own_onl HOWN.out (Nat.lt_succ_self _) HG.out)
      have HB2 := Lib.hid (HB.out.trans (HG.out.to (Nat.le_refl _) HB.out.size))
      have hz2 := HB2.out.size
      obtain ⟨w2, hw2⟩ : ∃ w2, wr.iterAt w.heap.size s (pos + d) = w2 := ⟨_, rfl⟩
      rw [hw2] at hnx HIT2 HO2 HB2 hz2
      clear HG hw2
      cases t42 : ((r : Int) == 42)
      case true =>
        have hr : (r : Int) = 42 := by simpa using t42
        have hrn : r = 42 := by omega
        subst hrn
        clear hr t42
        cases eb
        case true =>
          have HX := Lib.hid (items_step HST.out HAUT.out (x := some false) (by rfl))
          go_wp2_with (at_builtin; refine wpList_append_own _ rfl _ _ 83 rfl (w.heap.size + 1) 106 i0 (.agg #[.int .i64 0, .int .i32 0]) 2 16 Tryd.underlying83 HI.out HZ0.out HZ1.out HZ2.out rfl (by decide) _ _ _ rfl (HO2.out.alloc _) ⟨w2.heap.size, 0, none⟩ 1 1 [.int .i64 0, .int .i32 42] rfl rfl ?c1 ?c2 ?c3 ?c4 ?c5 ?_)
          case c1 => exact two_new w2 _ _ 106
          case c2 => intro u hu; simp at hu; rcases hu with rfl | rfl <;> rfl
          case c3 => unfold maxLen; omega
          case c4 => omega
          case c5 => have := lt_of_heap HIT2.out; simp; omega
          intro v4 w4 hown4 hgrow4 hnil4
          clear hnil4
          have HB4 := Lib.hid ((HB2.out.alloc hz2 _).grown hgrow4 (by simp; omega) (fun k hk => Nat.le_trans (Nat.le_succ _) (HO2.out.lt k hk).1))
          have HI4 := Lib.hid (heap_gr (heap_later HIT2.out _) hgrow4 (fun k hk => by have := (HO2.out.lt k hk).1; omega))
          have HO4 := Lib.hid hown4
          clear hown4 hgrow4
          go_wp2_with fail
          go_roundw
          case rel => exact ⟨pos + d, n + 1, _, false, hd2, by omega, rfl, HX.out, HO4.out, HI4.out, HB4.out⟩
          case measure => rw [hip.out, iterPos_of HI4.out]; omega
        case false =>
          have HX := Lib.hid (items_step HST.out HAUT.out (x := some false) (by rfl))
          go_wp2_with (at_builtin; refine wpList_append_own _ rfl _ _ 83 rfl (w.heap.size + 1) 106 i0 (.agg #[.int .i64 0, .int .i32 0]) 2 16 Tryd.underlying83 HI.out HZ0.out HZ1.out HZ2.out rfl (by decide) _ _ _ rfl (HO2.out.alloc _) ⟨w2.heap.size, 0, none⟩ 1 1 [.int .i64 2, .int .i32 0] rfl rfl ?c1 ?c2 ?c3 ?c4 ?c5 ?_)
          case c1 => exact two_new w2 _ _ 106
          case c2 => intro u hu; simp at hu; rcases hu with rfl | rfl <;> rfl
          case c3 => unfold maxLen; omega
          case c4 => omega
          case c5 => have := lt_of_heap HIT2.out; simp; omega
          intro v4 w4 hown4 hgrow4 hnil4
          clear hnil4
          have HB4 := Lib.hid ((HB2.out.alloc hz2 _).grown hgrow4 (by simp; omega) (fun k hk => Nat.le_trans (Nat.le_succ _) (HO2.out.lt k hk).1))
          have HI4 := Lib.hid (heap_gr (heap_later HIT2.out _) hgrow4 (fun k hk => by have := (HO2.out.lt k hk).1; omega))
          have HO4 := Lib.hid hown4
          clear hown4 hgrow4
          go_wp2_with fail
          go_roundw
          case rel => exact ⟨pos + d, n + 1, _, false, hd2, by omega, rfl, HX.out, HO4.out, HI4.out, HB4.out⟩
          case measure => rw [hip.out, iterPos_of HI4.out]; omega
      cases t63 : ((r : Int) == 63)
      case true =>
        have hr : (r : Int) = 63 := by simpa using t63
        have hrn : r = 63 := by omega
        subst hrn
        clear hr t63 t42
        cases eb
        case true =>
          have HX := Lib.hid (items_step HST.out HAUT.out (x := some false) (by rfl))
          go_wp2_with (at_builtin; refine wpList_append_own _ rfl _ _ 83 rfl (w.heap.size + 1) 106 i0 (.agg #[.int .i64 0, .int .i32 0]) 2 16 Tryd.underlying83 HI.out HZ0.out HZ1.out HZ2.out rfl (by decide) _ _ _ rfl (HO2.out.alloc _) ⟨w2.heap.size, 0, none⟩ 1 1 [.int .i64 0, .int .i32 63] rfl rfl ?c1 ?c2 ?c3 ?c4 ?c5 ?_)
          case c1 => exact two_new w2 _ _ 106
          case c2 => intro u hu; simp at hu; rcases hu with rfl | rfl <;> rfl
          case c3 => unfold maxLen; omega
          case c4 => omega
          case c5 => have := lt_of_heap HIT2.out; simp; omega
          intro v4 w4 hown4 hgrow4 hnil4
          clear hnil4
          have HB4 := Lib.hid ((HB2.out.alloc hz2 _).grown hgrow4 (by simp; omega) (fun k hk => Nat.le_trans (Nat.le_succ _) (HO2.out.lt k hk).1))
          have HI4 := Lib.hid (heap_gr (heap_later HIT2.out _) hgrow4 (fun k hk => by have := (HO2.out.lt k hk).1; omega))
          have HO4 := Lib.hid hown4
          clear hown4 hgrow4
          go_wp2_with fail
          go_roundw
          case rel => exact ⟨pos + d, n + 1, _, false, hd2, by omega, rfl, HX.out, HO4.out, HI4.out, HB4.out⟩
          case measure => rw [hip.out, iterPos_of HI4.out]; omega
        case false =>
          have HX := Lib.hid (items_step HST.out HAUT.out (x := some false) (by rfl))
          go_wp2_with (at_builtin; refine wpList_append_own _ rfl _ _ 83 rfl (w.heap.size + 1) 106 i0 (.agg #[.int .i64 0, .int .i32 0]) 2 16 Tryd.underlying83 HI.out HZ0.out HZ1.out HZ2.out rfl (by decide) _ _ _ rfl (HO2.out.alloc _) ⟨w2.heap.size, 0, none⟩ 1 1 [.int .i64 1, .int .i32 0] rfl rfl ?c1 ?c2 ?c3 ?c4 ?c5 ?_)
          case c1 => exact two_new w2 _ _ 106
          case c2 => intro u hu; simp at hu; rcases hu with rfl | rfl <;> rfl
          case c3 => unfold maxLen; omega
          case c4 => omega
          case c5 => have := lt_of_heap HIT2.out; simp; omega
          intro v4 w4 hown4 hgrow4 hnil4
          clear hnil4
          have HB4 := Lib.hid ((HB2.out.alloc hz2 _).grown hgrow4 (by simp; omega) (fun k hk => Nat.le_trans (Nat.le_succ _) (HO2.out.lt k hk).1))
          have HI4 := Lib.hid (heap_gr (heap_later HIT2.out _) hgrow4 (fun k hk => by have := (HO2.out.lt k hk).1; omega))
          have HO4 := Lib.hid hown4
          clear hown4 hgrow4
          go_wp2_with fail
          go_roundw
          case rel => exact ⟨pos + d, n + 1, _, false, hd2, by omega, rfl, HX.out, HO4.out, HI4.out, HB4.out⟩
          case measure => rw [hip.out, iterPos_of HI4.out]; omega
      cases t92 : ((r : Int) == 92)
      case true =>
        have hr : (r : Int) = 92 := by simpa using t92
        have hrn : r = 92 := by omega
        subst hrn
        clear hr t92 t42 t63
        cases eb
        case true =>
          have HX := Lib.hid (items_step HST.out HAUT.out (x := some false) (by rfl))
          go_wp2_with (at_builtin; refine wpList_append_own _ rfl _ _ 83 rfl (w.heap.size + 1) 106 i0 (.agg #[.int .i64 0, .int .i32 0]) 2 16 Tryd.underlying83 HI.out HZ0.out HZ1.out HZ2.out rfl (by decide) _ _ _ rfl (HO2.out.alloc _) ⟨w2.heap.size, 0, none⟩ 1 1 [.int .i64 0, .int .i32 92] rfl rfl ?c1 ?c2 ?c3 ?c4 ?c5 ?_)
          case c1 => exact two_new w2 _ _ 106
          case c2 => intro u hu; simp at hu; rcases hu with rfl | rfl <;> rfl
          case c3 => unfold maxLen; omega
          case c4 => omega
          case c5 => have := lt_of_heap HIT2.out; simp; omega
          intro v4 w4 hown4 hgrow4 hnil4
          clear hnil4
          have HB4 := Lib.hid ((HB2.out.alloc hz2 _).grown hgrow4 (by simp; omega) (fun k hk => Nat.le_trans (Nat.le_succ _) (HO2.out.lt k hk).1))
          have HI4 := Lib.hid (heap_gr (heap_later HIT2.out _) hgrow4 (fun k hk => by have := (HO2.out.lt k hk).1; omega))
          have HO4 := Lib.hid hown4
          clear hown4 hgrow4
          go_wp2_with fail
          go_roundw
          case rel => exact ⟨pos + d, n + 1, _, false, hd2, by omega, rfl, HX.out, HO4.out, HI4.out, HB4.out⟩
          case measure => rw [hip.out, iterPos_of HI4.out]; omega
        case false =>
          have HX := Lib.hid (items_step HST.out HAUT.out (x := some true) (by rfl))
          go_wp2_with fail
          go_roundw
          case rel => exact ⟨pos + d, n, xs, true, hd2, by omega, rfl, HX.out, HO2.out, HIT2.out, HB2.out⟩
          case measure => rw [hip.out, iterPos_of HIT2.out]; omega
      cases eb
      case true =>
        have HX := Lib.hid (items_step HST.out HAUT.out (x := none) (by simp only [stE, specB, t42, t63, t92]; rfl))
        have HNO := Lib.hid (show decide (autE (pre s s.size) = some false) = false by rw [autE_none HX.out hd2]; rfl)
        go_wp2_with fail
        go_ret2
        exact ⟨_, by rw [HNO.out]; rfl, HB2.out⟩
      case false =>
        have HX := Lib.hid (items_step HST.out HAUT.out (x := some false) (by simp only [stE, t92]; rfl))
        go_wp2_with (at_builtin; refine wpList_append_own _ rfl _ _ 83 rfl (w.heap.size + 1) 106 i0 (.agg #[.int .i64 0, .int .i32 0]) 2 16 Tryd.underlying83 HI.out HZ0.out HZ1.out HZ2.out rfl (by decide) _ _ _ rfl (HO2.out.alloc _) ⟨w2.heap.size, 0, none⟩ 1 1 [.int .i64 0, .int .i32 (r : Int)] rfl rfl ?c1 ?c2 ?c3 ?c4 ?c5 ?_)
        case c1 => exact two_new w2 _ _ 106
        case c2 => intro u hu; simp at hu; rcases hu with rfl | rfl <;> rfl
        case c3 => unfold maxLen; omega
        case c4 => omega
        case c5 => have := lt_of_heap HIT2.out; simp; omega
        intro v4 w4 hown4 hgrow4 hnil4
        clear hnil4
        have HB4 := Lib.hid ((HB2.out.alloc hz2 _).grown hgrow4 (by simp; omega) (fun k hk => Nat.le_trans (Nat.le_succ _) (HO2.out.lt k hk).1))
        have HI4 := Lib.hid (heap_gr (heap_later HIT2.out _) hgrow4 (fun k hk => by have := (HO2.out.lt k hk).1; omega))
        have HO4 := Lib.hid hown4
        clear hown4 hgrow4
        go_wp2_with fail
        go_roundw
        case rel => exact ⟨pos + d, n + 1, _, false, hd2, by omega, rfl, HX.out, HO4.out, HI4.out, HB4.out⟩
        case measure => rw [hip.out, iterPos_of HI4.out]; omega
    · have hnx := fun ty => Lib.run_next_end_at (P := Tryd.prog) wr w.heap.size s pos ty hit hlt
      obtain rfl : s.size = pos := by omega
      clear hit hb
      cases eb
      · have HD := Lib.hid (show decide (autE (pre s s.size) = some false) = true by rw [HAUT.out]; rfl)
        go_wp2_with fail
        go_ret2
        exact ⟨_, by rw [HD.out]; rfl, HB.out⟩
      · have HD := Lib.hid (show decide (autE (pre s s.size) = some false) = false by rw [HAUT.out]; rfl)
        go_wp2_with fail
        go_ret2
        exact ⟨_, by rw [HD.out]; rfl, HB.out⟩
end Go.Proofs.YtgbjldkbbbjnkaaDoor
