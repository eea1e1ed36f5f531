/-
  What query of the program's parser does. Printed by gen_quep.py.
-/
import Derived.Test.YtgbjldkbbbjnkaaDoorQuePre
import Derived.Deep.DeepCutAuto
import Derived.Deep.RegionHeld3
import Derived.Outline
namespace Go.Proofs.YtgbjldkbbbjnkaaDoor
open Go.RowKit Go.PlainAid Pl

theorem seq_ok {α β : Type} {R : Bs → Rd α} {K : α → Bs → Rd β} {r : Bs} {a : α} {n : Nat} (h : R r = .ok a n) : seq R K r = (K a (r.drop n)).sh n := by rw [seq, h]
theorem seq_no {α β : Type} {R : Bs → Rd α} {K : α → Bs → Rd β} {r : Bs} {n : Nat} (h : R r = .bad n) : seq R K r = .bad n := by rw [seq, h]
/-- The state at the head of the loop over the kids. -/
def LSt (f : Nat) (s : ByteArray) (k O RO p : Nat) (ks : List Qt) (fl : Bool) : Prop :=
  (fl = false ∧ ks = [] ∧ KInv true f s k O RO p []) ∨
  (fl = false ∧ ∃ ks0 q p0 n, ks = ks0 ++ [q] ∧ KInv true f s k O RO p0 ks0 ∧ ks0.length < (enders O).length ∧ pq true f (rest s p0) = .ok q n ∧ p = p0 + n ∧ p ≤ s.size) ∨
  (fl = true ∧ k ≤ p ∧ p ≤ s.size ∧ pq true (f + 1) (rest s k) = .bad (p - k))
/-- The state ahead of a kid. -/
def NSt (f : Nat) (s : ByteArray) (k O RO p : Nat) (ks : List Qt) (j : Nat) (fl : Bool) : Prop :=
  (fl = false ∧ ks.length = j ∧ KInv true f s k O RO p ks) ∨ (fl = true ∧ k ≤ p ∧ p ≤ s.size ∧ pq true (f + 1) (rest s k) = .bad (p - k))
/-- The row of the kids, as long as nothing failed. -/
def RowF (fl : Bool) (w : World) (lo : Nat) (g : Option Nat) (ks : List Qt) (xs : List Value) : Prop := fl = false → Row w lo w.heap.size g ks xs
section
variable {fl : Bool} {w w' w0 : World} {lo g : Nat} {r : Option Nat} {ks : List Qt} {xs : List Value}
theorem RowF.off : RowF true w lo r ks xs := fun h => by cases h
theorem RowF.onl (h : RowF fl w lo r ks xs) (ho : Onl g w w') (hg : g < lo) : RowF fl w' lo r ks xs := fun e => (h e).onl ho hg
theorem Onl.grownR (h : Onl g w0 w) (hg : w.grownBy w' r) (hr : ∀ i, r = some i → w0.heap.size ≤ i) : Onl g w0 w' :=
  ⟨hg.os.trans h.os, hg.tape.trans h.tape, hg.output.trans h.output, Nat.le_trans h.size hg.size, fun k hk hn => (hg.block k (Nat.lt_of_lt_of_le hk h.size) (fun e => by have := hr _ e.symm; omega)).trans (h.block k hk hn)⟩
theorem Onl.undrew (h : Onl g w.drew w') : Onl g w w' := ⟨h.os, h.tape, h.output, h.size, h.block⟩
theorem reads_four (w : World) (a b c d : Value) : Reads (w.alloc (.cells #[a, b, c, d] 25)) (w.heap.size + 1) 4 (some ⟨w.heap.size, 0, none⟩) 1 [a, b, c, d] := ⟨rfl, fun _ => ⟨_, rfl, Nat.lt_succ_self _, cells_four w a b c d 25⟩⟩
theorem one_four (o r : Int) (t : ByteArray) (A : Option Addr) (l c : Nat) : ∀ u ∈ [Value.int .i64 o, .int .i64 r, .string t, .slice A l c], u.oneCell' = true := by
  intro u hu
  simp at hu
  rcases hu with rfl | rfl | rfl | rfl <;> rfl
theorem base_le {o : Obj} {B : Nat} (h : w.heap[B]? = some o) (o' : Obj) : B + 1 ≤ (w.alloc o').heap.size := by
  have := lt_of_heap h
  simp
  omega
theorem heap_grown {o : Obj} {B : Nat} (h : w.heap[B]? = some o) (hg : w.grownBy w' r) (hr : ∀ i, r = some i → B ≠ i) : w'.heap[B]? = some o := by
  rw [hg.block B (lt_of_heap h) (fun e => hr _ e.symm rfl)]
  exact h
end
/-- A kid for what stands there behind a failure. -/
def noQt : Qt := .mk 0 0 ⟨#[]⟩ []
/-- Behind a kid: what the loop's head asks for. -/
theorem kid_done {f : Nat} {s : ByteArray} {k O RO pc : Nat} {ks : List Qt} {xs : List Value} {g b5 : Nat} {W0 wc w9 w10 : World} {A A10 A9 : Option Addr} {cv c10 l9 c9 : Nat} {a9 r9 : Int} {t9 : ByteArray}
    (hK : KInv true f s k O RO pc ks) (hkl : ks.length < (enders O).length) (hgb : g < b5) (hWb : W0.heap.size ≤ b5)
    (hQ : wc.heap[b5]? = some (.cells #[.int .i64 (O : Int), .int .i64 (RO : Int), .string ⟨#[]⟩, .slice A ks.length cv] 25)) (hOw : wc.ownsRow (b5 + 1) 25 4 (.slice A ks.length cv) ks.length xs) (hR : RowF false wc (b5 + 1) (Value.slice A ks.length cv).ownBlock ks xs)
    (hO : Onl g W0 wc) (ho9 : Onl g wc w9) (hok : ∀ q n, pq true f (rest s pc) = .ok q n → QN w9 wc.drew.heap.size w9.heap.size q (.agg #[.int .i64 a9, .int .i64 r9, .string t9, .slice A9 l9 c9]) ∧ PS w9 g s (pc + n) false)
    (hbad : ∀ n, pq true f (rest s pc) = .bad n → PS w9 g s (pc + n) true) (hg : (w9.alloc (.cells #[.int .i64 a9, .int .i64 r9, .string t9, .slice A9 l9 c9] 25)).grownBy w10 (Value.slice A ks.length cv).ownBlock)
    (hown : w10.ownsRow (b5 + 1) 25 4 (.slice A10 (ks.length + 1) c10) (ks.length + 1) (xs ++ [.int .i64 a9, .int .i64 r9, .string t9, .slice A9 l9 c9]))
    (hblk : (Value.slice A10 (ks.length + 1) c10).ownBlock = (Value.slice A ks.length cv).ownBlock ∨ (Value.slice A10 (ks.length + 1) c10).ownBlock = some (w9.alloc (.cells #[.int .i64 a9, .int .i64 r9, .string t9, .slice A9 l9 c9] 25)).heap.size) :
    ∃ (p' : Nat) (q : Qt) (fl : Bool), LSt f s k O RO p' (ks ++ [q]) fl ∧ PS (w10.setCell ⟨b5, 3, none⟩ (.slice A10 (ks.length + 1) c10)) g s p' fl ∧
      (w10.setCell ⟨b5, 3, none⟩ (.slice A10 (ks.length + 1) c10)).heap[b5]? = some (.cells #[.int .i64 (O : Int), .int .i64 (RO : Int), .string ⟨#[]⟩, .slice A10 (ks ++ [q]).length c10] 25) ∧
      (w10.setCell ⟨b5, 3, none⟩ (.slice A10 (ks.length + 1) c10)).ownsRow (b5 + 1) 25 4 (.slice A10 (ks ++ [q]).length c10) (ks ++ [q]).length (xs ++ [.int .i64 a9, .int .i64 r9, .string t9, .slice A9 l9 c9]) ∧
      RowF fl (w10.setCell ⟨b5, 3, none⟩ (.slice A10 (ks.length + 1) c10)) (b5 + 1) (Value.slice A10 (ks ++ [q]).length c10).ownBlock (ks ++ [q]) (xs ++ [.int .i64 a9, .int .i64 r9, .string t9, .slice A9 l9 c9]) ∧ Onl g W0 (w10.setCell ⟨b5, 3, none⟩ (.slice A10 (ks.length + 1) c10)) := by
  have hb9 := heap_onl hQ ho9 (by omega)
  have hrow : ∀ i, (Value.slice A ks.length cv).ownBlock = some i → b5 ≠ i := fun i hi => by have := (hOw.lt i hi).1; omega
  have hrowg : ∀ i, (Value.slice A ks.length cv).ownBlock = some i → g ≠ i := fun i hi => by have := (hOw.lt i hi).1; omega
  have hb10 := heap_grown (heap_later hb9 (.cells #[.int .i64 a9, .int .i64 r9, .string t9, .slice A9 l9 c9] 25)) hg hrow
  have hps : ∀ j b, PS w9 g s j b → PS (w10.setCell ⟨b5, 3, none⟩ (.slice A10 (ks.length + 1) c10)) g s j b := fun j b h =>
    heap_set (p := ⟨b5, 3, none⟩) (heap_grown (heap_later h _) hg hrowg) (by show g ≠ b5; omega)
  have hlen : ∀ q : Qt, (ks ++ [q]).length = ks.length + 1 := fun q => by simp
  have hset := quad_set3 (x := .slice A10 (ks.length + 1) c10) hb10
  have hows := own_set hown (p := ⟨b5, 3, none⟩) (.slice A10 (ks.length + 1) c10) (fun i hi => by have := (hown.lt i hi).1; show i ≠ b5; omega)
  have hwo : Onl g W0 (w10.setCell ⟨b5, 3, none⟩ (.slice A10 (ks.length + 1) c10)) :=
    (((hO.trans ho9).alloc _).grownR hg (fun i hi => by have := (hOw.lt i hi).1; omega)).setN (p := ⟨b5, 3, none⟩) (by show W0.heap.size ≤ b5; exact hWb) _
  have hpos := pq_bd true f (rest s pc)
  rw [rest_len] at hpos
  have hk := hK.2.1
  have hp := hK.2.2.1
  cases e : pq true f (rest s pc) with
  | bad n =>
    rw [e, Rd.pos] at hpos
    refine ⟨pc + n, noQt, true, .inr (.inr ⟨rfl, by omega, by omega, ?_⟩), hps _ _ (hbad n e), by rw [hlen]; exact hset, by rw [hlen]; exact hows, RowF.off, hwo⟩
    rw [hK.kid_bad hkl e]
    congr 1
    omega
  | ok q n =>
    rw [e, Rd.pos] at hpos
    obtain ⟨hq, hP⟩ := hok q n e
    refine ⟨pc + n, q, false, .inr (.inl ⟨rfl, ks, q, pc, n, rfl, hK, hkl, e, rfl, by omega⟩), hps _ _ hP, by rw [hlen]; exact hset, by rw [hlen]; exact hows, fun _ => ?_, hwo⟩
    have hsz : wc.heap.size ≤ w9.heap.size := ho9.size
    have hbc : b5 < wc.heap.size := lt_of_heap hQ
    have h1 := ((((hR rfl).onl ho9 (by omega)).step (below_one w9 (.cells #[.int .i64 a9, .int .i64 r9, .string t9, .slice A9 l9 c9] 25))).snoc
      (hq.keep (w' := w9.alloc (.cells #[.int .i64 a9, .int .i64 r9, .string t9, .slice A9 l9 c9] 25)) fun p _ hp => World.cell?_alloc_lt _ _ _ hp) (by show b5 + 1 ≤ wc.heap.size; omega) (by rw [size_one]; omega) (fun i hi => .inl (hOw.lt i hi).2)).grow (g' := (Value.slice A10 (ks.length + 1) c10).ownBlock) hg hblk
    have h2 := h1.set (p := ⟨b5, 3, none⟩) (by show b5 < b5 + 1; omega) (.slice A10 (ks.length + 1) c10)
    have hz : (w10.setCell ⟨b5, 3, none⟩ (.slice A10 (ks.length + 1) c10)).heap.size = w10.heap.size := by simp
    rw [hz, hlen]
    exact h2
theorem six_new (w : World) (c : Array Value) : (w.alloc (.cells c 3)).heap[w.heap.size]? = some (.cells c 3) := by
  show (w.heap.push _)[w.heap.size]? = _
  simp
theorem six_cell {w : World} {B o : Nat} (h : w.heap[B]? = some (.cells #[.int .i64 1, .int .i64 2, .int .i64 3, .int .i64 4, .int .i64 5, .int .i64 6] 3)) (ho : o < 6) : w.cell? ⟨B, o, none⟩ = some (.int .i64 ((o : Int) + 1)) := by
  unfold World.cell?
  rcases (show o = 0 ∨ o = 1 ∨ o = 2 ∨ o = 3 ∨ o = 4 ∨ o = 5 by omega) with rfl | rfl | rfl | rfl | rfl | rfl <;> simp [h]
/-- The operator is read, or the text is bad here. -/
def OpSt (f : Nat) (s : ByteArray) (k O p : Nat) (fl : Bool) : Prop :=
  (fl = false ∧ k < p ∧ p ≤ s.size ∧ pq true (f + 1) (rest s k) = ((if O = 3 then seq (ER rolesL) (fun ro => kidsR (pq true f) 3 (ro + 1)) else kidsR (pq true f) O 0) (rest s p)).sh (p - k)) ∨
  (fl = true ∧ O = 1 ∧ k ≤ p ∧ p ≤ s.size ∧ pq true (f + 1) (rest s k) = .bad (p - k))
set_option maxHeartbeats 6400000 in
set_option maxRecDepth 100000 in
theorem query27_ (g : Nat) (hg5 : 5 ≤ g) (s : ByteArray) (hs : s.size ≤ 4194304) : ∀ (f k : Nat) (w : World), k ≤ s.size → s.size - k < f → PS w g s k false → Tab w → Calls Tryd.prog 27 #[.pointer (some ⟨g, 0, none⟩)] w (QPOut (pq true f (rest s k)) g s k w) := by
  intro f
  induction f with
  | zero => intro k w _ h; omega
  | succ f ih =>
    intro k w hk hf hP hT
    have IH := Lib.hid ih
    have hgw := hP.lt
    have HTw := Lib.hid hT
    obtain ⟨x1, hi0, hz0, hz1, hz2⟩ := info_parts info25
    have HI25 := Lib.hid hi0
    have HY0 := Lib.hid hz0
    have HY1 := Lib.hid hz1
    have HY2 := Lib.hid hz2
    clear ih hi0 hz0 hz1 hz2
    obtain ⟨W0, hW0⟩ : ∃ W0, w.alloc (.cells #[.int .i64 0, .int .i64 0, .string ⟨#[]⟩, .slice none 0 0] 25) = W0 := ⟨_, rfl⟩
    have hbox := quad_new w (.int .i64 0) (.int .i64 0) (.string ⟨#[]⟩) (.slice none 0 0) 25
    have hz := size_one w (.cells #[.int .i64 0, .int .i64 0, .string ⟨#[]⟩, .slice none 0 0] 25)
    have hb0 := below_one w (.cells #[.int .i64 0, .int .i64 0, .string ⟨#[]⟩, .slice none 0 0] 25)
    rw [hW0] at hbox hz hb0
    have HP0 := Lib.hid (hP.below hb0)
    have HT0 := Lib.hid (hT.below hb0)
    have HW := Lib.hid hW0
    have HBOX := Lib.hid hbox
    have HO0 := Lib.hid (show Onl g w W0 from Onl.below hb0)
    have HZS := Lib.hid hz
    clear hW0 hbox hz hb0 hP hT
    have E1 := Lib.hid (show Calls Tryd.prog 35 #[.pointer (some ⟨g, 0, none⟩), .slice (some ⟨w.heap.size + 1, 0, none⟩) 6 6] (W0.alloc (.cells #[.string { data := #[116, 101, 120, 116, 58] }, .string { data := #[119, 111, 114, 100, 58] }, .string { data := #[109, 111, 114, 112, 104, 58] }, .string { data := #[103, 108, 111, 115, 115, 58] }, .string { data := #[102, 114, 101, 101, 58] }, .string { data := #[40] }] 9)) (ChOut tops g s k (newS W0 tops)) from
      choose35 tops g s k (some ⟨w.heap.size + 1, 0, none⟩) 6 (newS W0 tops) hk hs (by decide) (by decide) (by decide) pf_tops (by have h := newS_strs W0 tops; rw [HZS.out] at h; exact h) (HP0.out.below (newS_below W0 tops)))
    have HO1 := Lib.hid (show Onl g W0 (newS W0 tops) from Onl.below (newS_below W0 tops))
    have HBX1 := Lib.hid (heap_below HBOX.out (newS_below W0 tops))
    have hpos := er_bd tops (rest s k)
    rw [rest_len] at hpos
    go_enter Tryd.func27, Tryd.ntmps27
    go_wp2_with fail
    rw [HW.out]
    clear HW
    refine E1.out.mono ?_
    rintro e w3 ⟨ho3, hc3⟩
    have HOa3 := Lib.hid (HO1.out.trans ho3)
    have HO3 := Lib.hid (HO0.out.trans HOa3.out)
    have HB3 := Lib.hid (heap_onl HBX1.out ho3 (by omega))
    have HT3 := Lib.hid (HT0.out.onl ((Onl.below (newS_below W0 tops)).trans ho3) hg5)
    clear ho3
    rcases hc3 with ⟨i, n, e1, rfl, hp3⟩ | ⟨n, e1, rfl, hp3⟩
    · obtain ⟨hi6, hn1⟩ := er_tops_le e1
      rw [e1] at hpos
      have hpos' : n ≤ s.size - k := hpos
      clear hpos
      have HP3 := Lib.hid hp3
      obtain ⟨p0, p1, p2⟩ := tri_cells hp3
      clear hp3
      by_cases hi5 : i < 5
      · have hr := Lib.hid (show pq true (f + 1) (rest s k) = ((pw true (rest s (k + n))).map (leaf i)).sh n by rw [pq, seq, e1]; simp only; rw [topR, if_pos hi5, rest_drop])
        have hwr : IntKind.i64.wrap ((i : Int) + 1) = (i : Int) + 1 := wrap_in (by omega)
        have hd5 : (i : Int) < 5 := by omega
        have E2 := Lib.hid (word36 g s (k + n) w3 (by omega) hs HP3.out)
        clear e1
        go_wp2_with fail
        refine E2.out.mono ?_
        rintro e w4 ⟨ho4, t, rfl, hok, hbad⟩
        have HO4 := Lib.hid (HO3.out.trans ho4)
        have HB4 := Lib.hid (heap_onl HB3.out ho4 (by omega))
        clear ho4
        obtain ⟨c0, c1, c2, c3⟩ := quad_cells HB4.out
        obtain ⟨d0, d1, d2, d3⟩ := quad_soft HB4.out
        cases e3 : pw true (rest s (k + n)) with
        | bad j =>
          have hr2 := Lib.hid (show pq true (f + 1) (rest s k) = .bad (n + j) by rw [hr.out, e3]; rfl)
          have HP4 := Lib.hid (hbad j e3)
          clear e3 hok hbad
          go_wp2_with fail
          obtain ⟨W9, hW9⟩ : ∃ W9, ((((w4.setCell ⟨w.heap.size, 0, none⟩ (.int .i64 0)).setCell ⟨w.heap.size, 1, none⟩ (.int .i64 ((i : Int) + 1))).setCell ⟨w.heap.size, 2, none⟩ (.string t)).setCell ⟨w.heap.size, 3, none⟩ (.slice none 0 0)) = W9 := ⟨_, rfl⟩
          have hq := quad_set4 (a' := .int .i64 0) (b' := .int .i64 ((i : Int) + 1)) (c' := .string t) (d' := .slice none 0 0) HB4.out
          have hw9 := Onl.set4 (B := w.heap.size) (a' := .int .i64 0) (b' := .int .i64 ((i : Int) + 1)) (c' := .string t) (d' := .slice none 0 0) HO4.out (Nat.le_refl _)
          have hp9 := heap_set4 (B := w.heap.size) (a' := .int .i64 0) (b' := .int .i64 ((i : Int) + 1)) (c' := .string t) (d' := .slice none 0 0) HP4.out (by omega)
          rw [hW9] at hq hw9 hp9
          rw [hW9]
          obtain ⟨z0, z1, z2, z3⟩ := quad_cells hq
          exact bodyPost_ret (v := .agg #[.int .i64 0, .int .i64 ((i : Int) + 1), .string t, .slice none 0 0]) (by simp [results, Tryd.results27, go_sem, z0, z1, z2, z3]) rfl (qp_bad hr2.out (by omega) hw9 hp9)
        | ok l j =>
          have hr2 := Lib.hid (show pq true (f + 1) (rest s k) = .ok (leaf i l) (n + j) by rw [hr.out, e3]; rfl)
          obtain ⟨rfl, hp4⟩ := hok l j e3
          have HP4 := Lib.hid hp4
          have hzz := HO4.out.size
          have hlt4 := lt_of_heap HB4.out
          clear e3 hok hbad hp4
          go_wp2_with fail
          have hq9 := QN.set4 (qn_leaf (w := w4) (lo := w.heap.size + 1) (B := w4.heap.size) (i := i) (l := l)) (b := w.heap.size) (by omega) (.int .i64 0) (.int .i64 ((i : Int) + 1)) (.string ⟨l.toArray⟩) (.slice none 0 0)
          obtain ⟨W9, hW9⟩ : ∃ W9, ((((w4.setCell ⟨w.heap.size, 0, none⟩ (.int .i64 0)).setCell ⟨w.heap.size, 1, none⟩ (.int .i64 ((i : Int) + 1))).setCell ⟨w.heap.size, 2, none⟩ (.string ⟨l.toArray⟩)).setCell ⟨w.heap.size, 3, none⟩ (.slice none 0 0)) = W9 := ⟨_, rfl⟩
          have hq := quad_set4 (a' := .int .i64 0) (b' := .int .i64 ((i : Int) + 1)) (c' := .string ⟨l.toArray⟩) (d' := .slice none 0 0) HB4.out
          have hw9 := Onl.set4 (B := w.heap.size) (a' := .int .i64 0) (b' := .int .i64 ((i : Int) + 1)) (c' := .string ⟨l.toArray⟩) (d' := .slice none 0 0) HO4.out (Nat.le_refl _)
          have hp9 := heap_set4 (B := w.heap.size) (a' := .int .i64 0) (b' := .int .i64 ((i : Int) + 1)) (c' := .string ⟨l.toArray⟩) (d' := .slice none 0 0) HP4.out (by omega)
          rw [hW9] at hq hw9 hp9
          rw [hW9] at hq9
          rw [hW9]
          obtain ⟨z0, z1, z2, z3⟩ := quad_cells hq
          exact bodyPost_ret (v := .agg #[.int .i64 0, .int .i64 ((i : Int) + 1), .string ⟨l.toArray⟩, .slice none 0 0]) (by simp [results, Tryd.results27, go_sem, z0, z1, z2, z3]) rfl (qp_ok hr2.out (by omega) hw9 hp9 (qn_fin hq9 (by omega) (by rw [← hW9]; simp)))
      · obtain rfl : i = 5 := by omega
        have hr := Lib.hid (show pq true (f + 1) (rest s k) = (opR (pq true f) (rest s (k + n))).sh n by rw [pq, seq, e1]; simp only; rw [topR, if_neg (by omega), rest_drop])
        clear e1 hi6 hi5
        rw [show ((5 : Nat) : Int) = 5 from rfl]
        go_upto_region 7 with (fail)
        go_cut [5] (fun v wx => ∃ (b5 O p : Nat) (fl : Bool), v = .pointer (some ⟨b5, 0, none⟩) ∧ w.heap.size + 1 ≤ b5 ∧ 1 ≤ O ∧ O ≤ 6 ∧ wx.heap[b5]? = some (.cells #[.int .i64 (O : Int), .int .i64 0, .string ⟨#[]⟩, .slice none 0 0] 25) ∧ PS wx g s p fl ∧ Onl g W0 wx ∧ OpSt f s k O p fl)
        case first =>
          obtain ⟨W4, hW4⟩ : ∃ W4, w3.alloc (.cells #[.int .i64 1, .int .i64 2, .int .i64 3, .int .i64 4, .int .i64 5, .int .i64 6] 3) = W4 := ⟨_, rfl⟩
          have hz4 : W4.heap.size = w3.heap.size + 1 := by rw [← hW4]; exact size_one _ _
          have hb4 : Below w3.heap.size w3 W4 := by rw [← hW4]; exact below_one _ _
          have hints : W4.heap[w3.heap.size]? = some (.cells #[.int .i64 1, .int .i64 2, .int .i64 3, .int .i64 4, .int .i64 5, .int .i64 6] 3) := by rw [← hW4]; exact six_new _ _
          rw [hW4]
          have HO4 := Lib.hid (HOa3.out.new (hb4.trans ((newS_below W4 opsL).mono hb4.size)))
          have HP4 := Lib.hid ((HP3.out.below hb4).below (newS_below W4 opsL))
          have HI4 := Lib.hid (heap_below hints (newS_below W4 opsL))
          have HZ4 := Lib.hid hz4
          have E2 := Lib.hid (show Calls Tryd.prog 35 #[.pointer (some ⟨g, 0, none⟩), .slice (some ⟨W4.heap.size, 0, none⟩) 6 6] (W4.alloc (.cells #[.string { data := #[97, 110, 100, 32] }, .string { data := #[111, 114, 32] }, .string { data := #[110, 111, 116, 32] }, .string { data := #[116, 104, 101, 110, 32] }, .string { data := #[119, 105, 116, 104, 105, 110, 32] }, .string { data := #[104, 97, 115, 32] }] 9)) (ChOut opsL g s (k + n) (newS W4 opsL)) from
            choose35 opsL g s (k + n) (some ⟨W4.heap.size, 0, none⟩) 6 (newS W4 opsL) (by omega) hs (by decide) (by decide) (by decide) pf_ops (newS_strs W4 opsL) HP4.out)
          have hpos2 := er_bd opsL (rest s (k + n))
          rw [rest_len] at hpos2
          have hlt3 := HOa3.out.size
          rw [HZS.out] at hlt3
          clear hW4 hz4 hb4 hints p0 p1 p2
          go_wp2_with fail
          refine E2.out.mono ?_
          rintro e w5 ⟨ho5, hc5⟩
          have HO5 := Lib.hid (HO4.out.trans ho5)
          have HI5 := Lib.hid (heap_onl HI4.out ho5 (by omega))
          have hlt5 := lt_of_heap HI5.out
          clear ho5
          rcases hc5 with ⟨o, m, e2, rfl, hp5⟩ | ⟨m, e2, rfl, hp5⟩
          · have ho6 : o < 6 := er_lt e2
            have hcell := six_cell HI5.out ho6
            rw [e2] at hpos2
            have hpos3 : m ≤ s.size - (k + n) := hpos2
            clear hpos2
            have q0 : (0 : Int) ≤ (o : Int) := by omega
            have q1 : (o : Int) < 6 := by omega
            have hst := Lib.hid (show OpSt f s k (o + 1) (k + (n + m)) false from .inl ⟨rfl, by omega, by omega, by
              rw [hr.out, opR, seq, e2]
              simp only
              rw [rest_drop, map_sh_id, show k + n + m = k + (n + m) by omega, show k + (n + m) - k = n + m by omega]
              by_cases ho : o = 2
              · rw [if_pos ho, if_pos (by omega)]
              · rw [if_neg ho, if_neg (by omega)]⟩)
            have HP5 := Lib.hid hp5
            clear e2 hp5
            go_wp2_with fail
            go_meet
            exact ⟨w5.heap.size, o + 1, k + (n + m), false, rfl, by omega, by omega, by omega, quad_new _ _ _ _ _ _, heap_later (by rw [← Nat.add_assoc]; exact HP5.out) _, HO5.out.alloc _, hst.out⟩
          · have hcell : w5.cell? ⟨w3.heap.size, 0, none⟩ = some (.int .i64 1) := six_cell HI5.out (o := 0) (by omega)
            rw [e2] at hpos2
            have hpos3 : m ≤ s.size - (k + n) := hpos2
            clear hpos2
            have hst := Lib.hid (show OpSt f s k 1 (k + (n + m)) true from .inr ⟨rfl, rfl, by omega, by omega, by
              rw [hr.out, opR, seq, e2, show k + (n + m) - k = n + m by omega]
              rfl⟩)
            have HP5 := Lib.hid hp5
            clear e2 hp5
            go_wp2_with fail
            go_meet
            exact ⟨w5.heap.size, 1, k + (n + m), true, rfl, by omega, by omega, by omega, quad_new _ _ _ _ _ _, heap_later (by rw [← Nat.add_assoc]; exact HP5.out) _, HO5.out.alloc _, hst.out⟩
        case rest =>
          obtain ⟨b5, O, p, fl, rfl, hb5, hO1, hO6, hq5, hp5, ho5, hst⟩ := hcut
          have HQ5 := Lib.hid hq5
          have HP5 := Lib.hid hp5
          have HO5 := Lib.hid ho5
          have HST := Lib.hid hst
          have HT5 := Lib.hid (HT0.out.onl ho5 hg5)
          clear hq5 hp5 ho5 hst p0 p1 p2
          obtain ⟨x0, x1', x2, x3⟩ := quad_cells HQ5.out
          go_upto_if 34 with (fail)
          go_cut [] (fun wx => ∃ (RO p2 : Nat) (fl2 : Bool), wx.heap[b5]? = some (.cells #[.int .i64 (O : Int), .int .i64 (RO : Int), .string ⟨#[]⟩, .slice none 0 0] 25) ∧ PS wx g s p2 fl2 ∧ Onl g W0 wx ∧ LSt f s k O RO p2 [] fl2)
          case first =>
            by_cases hO3 : O = 3
            · subst hO3
              rcases HST.out with ⟨rfl, hkp, hps, hpq⟩ | ⟨_, h1, _⟩
              · have hpq' := Lib.hid (show pq true (f + 1) (rest s k) = ((seq (ER rolesL) fun ro => kidsR (pq true f) 3 (ro + 1)) (rest s p)).sh (p - k) from by rw [hpq]; rfl)
                clear hpq
                have HPn := Lib.hid (HP5.out.below (newS_below wc rolesL))
                have E3 := Lib.hid (show Calls Tryd.prog 35 #[.pointer (some ⟨g, 0, none⟩), .slice (some ⟨wc.heap.size, 0, none⟩) 5 5] (wc.alloc (.cells #[.string { data := #[116, 101, 120, 116, 32] }, .string { data := #[119, 111, 114, 100, 32] }, .string { data := #[109, 111, 114, 112, 104, 32] }, .string { data := #[103, 108, 111, 115, 115, 32] }, .string { data := #[102, 114, 101, 101, 32] }] 9)) (ChOut rolesL g s p (newS wc rolesL)) from
                  choose35 rolesL g s p (some ⟨wc.heap.size, 0, none⟩) 5 (newS wc rolesL) hps hs (by decide) (by decide) (by decide) pf_roles (newS_strs wc rolesL) HPn.out)
                have hpos3 := er_bd rolesL (rest s p)
                rw [rest_len] at hpos3
                go_wp2_with fail
                refine E3.out.mono ?_
                rintro e w6 ⟨ho6, hc6⟩
                have HO6 := Lib.hid ((HO5.out.new (newS_below wc rolesL)).trans ho6)
                have HQ6 := Lib.hid (heap_onl (heap_below HQ5.out (newS_below wc rolesL)) ho6 (by omega))
                clear ho6
                obtain ⟨y0, y1, y2, y3⟩ := quad_cells HQ6.out
                obtain ⟨f0, f1, f2, f3⟩ := quad_soft HQ6.out
                rcases hc6 with ⟨ro, m, e3, rfl, hp6⟩ | ⟨m, e3, rfl, hp6⟩
                · have hro : ro < 5 := er_lt e3
                  rw [e3] at hpos3
                  have hpos4 : m ≤ s.size - p := hpos3
                  have hwr : IntKind.i64.wrap (1 + (ro : Int)) = 1 + (ro : Int) := wrap_in (by omega)
                  have hst := Lib.hid (show LSt f s k 3 (ro + 1) (p + m) [] false from .inl ⟨rfl, rfl, by
                    have h := kinv_of (b := true) (f := f) (s := s) (k := k) (O := 3) (RO := ro + 1) (n := p + m - k) (by
                      rw [hpq'.out, seq_ok e3]
                      rw [rest_drop, map_sh_id, show k + (p + m - k) = p + m by omega, show p - k + m = p + m - k by omega]) (by omega) (by omega) (by omega) (by omega)
                    rw [show k + (p + m - k) = p + m by omega] at h
                    exact h⟩)
                  have HP6 := Lib.hid hp6
                  clear e3 hp6 hpos3
                  go_wp2_with fail
                  go_meet
                  exact ⟨ro + 1, p + m, false, by rw [show ((ro + 1 : Nat) : Int) = 1 + (ro : Int) by omega]; exact quad_set1 HQ6.out, heap_set (p := ⟨b5, 1, none⟩) HP6.out (by show g ≠ b5; omega), HO6.out.setN (p := ⟨b5, 1, none⟩) (by show W0.heap.size ≤ b5; rw [HZS.out]; exact hb5) _, hst.out⟩
                · rw [e3] at hpos3
                  have hpos4 : m ≤ s.size - p := hpos3
                  have hst := Lib.hid (show LSt f s k 3 1 (p + m) [] true from .inr (.inr ⟨rfl, by omega, by omega, by
                    rw [hpq'.out, seq_no e3, show p + m - k = p - k + m by omega]
                    rfl⟩))
                  have HP6 := Lib.hid hp6
                  clear e3 hp6 hpos3
                  go_wp2_with fail
                  go_meet
                  exact ⟨1, p + m, true, quad_set1 HQ6.out, heap_set (p := ⟨b5, 1, none⟩) HP6.out (by show g ≠ b5; omega), HO6.out.setN (p := ⟨b5, 1, none⟩) (by show W0.heap.size ≤ b5; rw [HZS.out]; exact hb5) _, hst.out⟩
              · omega
            · have ht3 : ((O : Int) == 3) = false := by simp; omega
              have hst := Lib.hid (show LSt f s k O 0 p [] fl from by
                rcases HST.out with ⟨rfl, hkp, hps, hpq⟩ | ⟨rfl, h1, h2, h3, h4⟩
                · refine .inl ⟨rfl, rfl, ?_⟩
                  have h := kinv_of (b := true) (f := f) (s := s) (k := k) (O := O) (RO := 0) (n := p - k) (by
                    rw [hpq, if_neg hO3, show k + (p - k) = p by omega]) (by omega) (by omega) hO1 hO6
                  rw [show k + (p - k) = p by omega] at h
                  exact h
                · exact .inr (.inr ⟨rfl, h2, h3, h4⟩))
              clear hO3
              go_wp2_with fail
              go_meet
              exact ⟨0, p, fl, HQ5.out, HP5.out, HO5.out, hst.out⟩
          case rest =>
            obtain ⟨RO, p2, fl2, hq7, hp7, ho7, hst7⟩ := hcut
            have HQ7 := Lib.hid hq7
            have HP7 := Lib.hid hp7
            have HO7 := Lib.hid ho7
            have HS7 := Lib.hid hst7
            have EO := Lib.hid (of37 (O : Int) wc (HT0.out.onl ho7 hg5))
            clear hq7 hp7 ho7 hst7
            obtain ⟨x0, x1', x2, x3⟩ := quad_cells HQ7.out
            obtain ⟨V, hV⟩ : ∃ V, ofV (O : Int) = V := ⟨_, rfl⟩
            rw [hV] at EO
            have HVV := Lib.hid hV
            clear hV
            have HK := enders_len O
            obtain ⟨nK, hnK⟩ : ∃ nK, (enders O).length = nK := ⟨_, rfl⟩
            rw [hnK] at HK
            go_upto_region 11 with (go_at_call 37; refine EO.out.mono ?_; rintro e w' ⟨rfl, rfl⟩)
            go_cut [47, 48] (fun v i wx => v = .int .i64 (nK : Int) ∧ i = .int .i64 0 ∧ Below w'.heap.size w' wx)
            case first =>
              by_cases hO3 : O = 3
              · subst hO3
                obtain rfl : nK = 1 := hnK.symm
                obtain rfl : V = .iface 61 (.agg #[]) := HVV.out.symm
                clear hnK HK
                go_wp2_with fail
                refine (negation116 _).mono ?_
                rintro e w8 ⟨rfl, hb8⟩
                go_wp2_with fail
                go_meet
                exact ⟨rfl, rfl, hb8⟩
              · have h2 : nK = 2 := by rw [← hnK]; unfold enders; rw [if_neg hO3]; rfl
                subst h2
                obtain ⟨nm, rfl⟩ : ∃ nm, V = .iface 59 (.agg #[.string nm]) := ⟨_, HVV.out.symm.trans (ofV_pair (o := (O : Int)) (by omega) (by omega) (by omega))⟩
                clear hnK HK hO3 HVV EO
                go_wp2_with fail
                refine (pair115 _ _).mono ?_
                rintro e w8 ⟨rfl, hb8⟩
                go_wp2_with fail
                go_meet
                exact ⟨rfl, rfl, hb8⟩
            case rest =>
              obtain ⟨rfl, rfl, hb8⟩ := hcut
              have HQ8 := Lib.hid (heap_below HQ7.out hb8)
              have HP8 := Lib.hid (HP7.out.below hb8)
              have HO8 := Lib.hid (HO7.out.new hb8)
              have HNK := Lib.hid hnK
              clear hb8 hnK
              go_wp2_with fail
              go_loopw [48] (fun i wr => ∃ (p : Nat) (ks : List Qt) (xs : List Value) (A : Option Addr) (cv j : Nat) (fl : Bool), i = .int .i64 (j : Int) ∧ j ≤ nK ∧ ks.length ≤ j ∧ (fl = false → ks.length = j) ∧ LSt f s k O RO p ks fl ∧ PS wr g s p fl ∧
                wr.heap[b5]? = some (.cells #[.int .i64 (O : Int), .int .i64 (RO : Int), .string ⟨#[]⟩, .slice A ks.length cv] 25) ∧ wr.ownsRow (b5 + 1) 25 4 (.slice A ks.length cv) ks.length xs ∧ RowF fl wr (b5 + 1) (Value.slice A ks.length cv).ownBlock ks xs ∧ Onl g W0 wr) (fun i _ => nK - (intOf i).toNat)
              case atStart => exact ⟨p2, [], [], none, 0, 0, fl2, rfl, Nat.zero_le _, Nat.le_refl _, fun _ => rfl, HS7.out, HP8.out, HQ8.out, World.ownsRow_nil _ _ _ _, fun _ => Row.nil, HO8.out⟩
              case round =>
                obtain ⟨p, ks, xs, A, cv, j, fl, rfl, hj, hkj, hfk, hS, hP, hQ, hOw, hR, hO⟩ := hrel
                have HP := Lib.hid hP
                have HQ := Lib.hid hQ
                have HOW := Lib.hid hOw
                have HR := Lib.hid hR
                have HO := Lib.hid hO
                have HS := Lib.hid hS
                have HFK := Lib.hid hfk
                clear hP hQ hOw hR hO hS hfk
                by_cases hlt : j < nK
                · go_upto_if 52 with (fail)
                  go_cut [] (fun wx => ∃ (p2 : Nat) (fl2 : Bool), PS wx g s p2 fl2 ∧ wx.heap[b5]? = some (.cells #[.int .i64 (O : Int), .int .i64 (RO : Int), .string ⟨#[]⟩, .slice A ks.length cv] 25) ∧ wx.ownsRow (b5 + 1) 25 4 (.slice A ks.length cv) ks.length xs ∧ RowF fl2 wx (b5 + 1) (Value.slice A ks.length cv).ownBlock ks xs ∧ Onl g W0 wx ∧ NSt f s k O RO p2 ks j fl2)
                  case first =>
                    rcases HS.out with ⟨rfl, hks, hK⟩ | ⟨rfl, ks0, q, p0, n0, hks, hK, hk0, hq0, hpp, hps⟩ | ⟨rfl, h1, h2, h3⟩
                    · have hst := Lib.hid (show NSt f s k O RO p ks j false from .inl ⟨rfl, HFK.out rfl, by rw [hks]; exact hK⟩)
                      have HJ0 := Lib.hid (show j = 0 by have h := HFK.out rfl; rw [hks] at h; exact h.symm)
                      clear hks hK
                      cases hd : decide (0 < j)
                      · go_wp2_with fail
                        go_meet
                        exact ⟨p, false, HP.out, HQ.out, HOW.out, HR.out, HO.out, hst.out⟩
                      · exfalso
                        rw [HJ0.out] at hd
                        cases hd
                    · have hkl : ks.length = ks0.length + 1 := by rw [hks, List.length_append]; rfl
                      have HJL := Lib.hid (show ks.length = j from HFK.out rfl)
                      have hjl := HJL.out
                      have hd : decide (0 < j) = true := by simp; omega
                      have hee : endOf O ks0.length = [32] := by unfold endOf; rw [if_neg (by rw [HNK.out]; omega)]
                      have HPn := Lib.hid (HP.out.below (newS_below wr [[32]]))
                      have E5 := Lib.hid (show Calls Tryd.prog 35 #[.pointer (some ⟨g, 0, none⟩), .slice (some ⟨wr.heap.size, 0, none⟩) 1 1] (wr.alloc (.cells #[.string { data := #[32] }] 9)) (ChOut [[32]] g s p (newS wr [[32]])) from
                        choose35 [[32]] g s p (some ⟨wr.heap.size, 0, none⟩) 1 (newS wr [[32]]) hps hs (by decide) (by decide) (by decide) (pf_one _) (newS_strs wr [[32]]) HPn.out)
                      have hpos5 := er_bd [[32]] (rest s p)
                      rw [rest_len] at hpos5
                      have HQK := Lib.hid (And.intro hK (And.intro hk0 (And.intro hq0 (And.intro hpp (And.intro hks hee)))))
                      clear hK hk0 hq0 hpp hks hee
                      go_wp2_with fail
                      refine E5.out.mono ?_
                      rintro e w9 ⟨ho9, hc9⟩
                      have ho9' := (Onl.below (newS_below wr [[32]])).trans ho9
                      have HQ9 := Lib.hid (heap_onl HQ.out ho9' (by omega))
                      have HOW9 := Lib.hid (own_onl HOW.out (by omega) ho9')
                      have HR9 := Lib.hid (HR.out.onl ho9' (by omega))
                      have HO9 := Lib.hid (HO.out.trans ho9')
                      clear ho9 ho9'
                      rcases hc9 with ⟨i9, m9, e9, rfl, hp9⟩ | ⟨m9, e9, rfl, hp9⟩
                      · rw [e9] at hpos5
                        have hpos6 : m9 ≤ s.size - p := hpos5
                        have hst := Lib.hid (show NSt f s k O RO (p + m9) ks j false from .inl ⟨rfl, HJL.out, by
                          obtain ⟨hK, hk0, hq0, hpp, hks, hee⟩ := HQK.out
                          have h := hK.next hk0 hq0 (by rw [hee, ← hpp]; exact e9) (by omega)
                          rw [← hpp, ← hks] at h
                          exact h⟩)
                        have HP9 := Lib.hid hp9
                        clear e9 hp9 hpos5
                        go_wp2_with fail
                        go_meet
                        exact ⟨p + m9, false, HP9.out, HQ9.out, HOW9.out, HR9.out, HO9.out, hst.out⟩
                      · rw [e9] at hpos5
                        have hpos6 : m9 ≤ s.size - p := hpos5
                        have hst := Lib.hid (show NSt f s k O RO (p + m9) ks j true from .inr (by
                          obtain ⟨hK, hk0, hq0, hpp, hks, hee⟩ := HQK.out
                          have h := hK.end_bad hk0 hq0 (by rw [hee, ← hpp]; exact e9)
                          have h1 := hK.2.1
                          refine ⟨rfl, by omega, by omega, ?_⟩
                          rw [h]
                          congr 1
                          omega))
                        have HP9 := Lib.hid hp9
                        clear e9 hp9 hpos5
                        go_wp2_with fail
                        go_meet
                        exact ⟨p + m9, true, HP9.out, HQ9.out, HOW9.out, RowF.off, HO9.out, hst.out⟩
                    · have hst := Lib.hid (show NSt f s k O RO p ks j true from .inr ⟨rfl, h1, h2, h3⟩)
                      have HPn := Lib.hid (HP.out.below (newS_below wr [[32]]))
                      clear h1 h2 h3
                      cases hd : decide (0 < j)
                      · go_wp2_with fail
                        go_meet
                        exact ⟨p, true, HP.out, HQ.out, HOW.out, HR.out, HO.out, hst.out⟩
                      · have E5 := Lib.hid (show Calls Tryd.prog 35 #[.pointer (some ⟨g, 0, none⟩), .slice (some ⟨wr.heap.size, 0, none⟩) 1 1] (wr.alloc (.cells #[.string { data := #[32] }] 9)) (fun e w' => e = .returned (.int .i64 0) ∧ Below (newS wr [[32]]).heap.size (newS wr [[32]]) w') from
                          choose35_f g s p (some ⟨wr.heap.size, 0, none⟩) 1 1 (newS wr [[32]]) HPn.out)
                        go_wp2_with fail
                        refine E5.out.mono ?_
                        rintro e w9 ⟨rfl, hb9⟩
                        have hb9' := (newS_below wr [[32]]).trans (hb9.mono (newS_below wr [[32]]).size)
                        have HQ9 := Lib.hid (heap_below HQ.out hb9')
                        have HOW9 := Lib.hid (own_below HOW.out hb9')
                        have HO9 := Lib.hid (HO.out.new hb9')
                        have HP9 := Lib.hid (HP.out.below hb9')
                        clear hb9 hb9'
                        go_wp2_with fail
                        go_meet
                        exact ⟨p, true, HP9.out, HQ9.out, HOW9.out, RowF.off, HO9.out, hst.out⟩
                  case rest =>
                    obtain ⟨pc, flc, hpc, hqc, howc, hrc, hoc, hstc⟩ := hcut
                    have HPc := Lib.hid hpc
                    have HQc := Lib.hid hqc
                    have HOWc := Lib.hid howc
                    have HRc := Lib.hid hrc
                    have HOc := Lib.hid hoc
                    have HSTc := Lib.hid hstc
                    have HTc := Lib.hid (HT0.out.onl hoc hg5)
                    clear hpc hqc howc hrc hoc hstc
                    obtain ⟨p0, p1, p2⟩ := tri_cells HPc.out
                    cases flc
                    · obtain ⟨hjl, hK⟩ : ks.length = j ∧ KInv true f s k O RO pc ks := by
                        rcases HSTc.out with ⟨_, h⟩ | ⟨h, _⟩
                        · exact h
                        · cases h
                      have hkp := hK.2.1
                      have hps := hK.2.2.1
                      have HKI := Lib.hid hK
                      have HJL := Lib.hid hjl
                      have hkl := Lib.hid (show ks.length < (enders O).length by rw [HNK.out]; omega)
                      have E7 := Lib.hid (IH.out pc wc.drew hps (by omega) HPc.out HTc.out.drew)
                      have hposq := pq_bd true f (rest s pc)
                      rw [rest_len] at hposq
                      clear hK hjl
                      obtain ⟨y0, y1, y2, y3⟩ := quad_cells HQc.out
                      have hks2 : ks.length + 1 ≤ 2 := by rw [HJL.out]; omega
                      have hkm : ks.length + 1 ≤ maxLen := by unfold maxLen; omega
                      have hkb : (ks.length + 1) * 56 ≤ 140737488355328 := by omega
                      have hszc : b5 < wc.heap.size := lt_of_heap HQc.out
                      have hgb5 : g < b5 := by omega
                      have hWb5 : W0.heap.size ≤ b5 := by rw [HZS.out]; exact hb5
                      have hrow : ∀ i, (Value.slice A ks.length cv).ownBlock = some i → b5 ≠ i := fun i hi => by have := (HOWc.out.lt i hi).1; omega
                      go_wp2_with fail
                      go_region_law
                        (first
                          | (refine step_append_any _ rfl _ _ 23 rfl (b5 + 1) 25 x1 (.agg #[.int .i64 0, .int .i64 0, .string ⟨#[]⟩, .slice none 0 0]) 4 56 Tryd.underlying23 HI25.out HY0.out HY1.out HY2.out rfl (by decide) _ _ _ rfl ((own_onl HOWc.out (by omega) ho9').alloc _) (w9.heap.size + 1) (some ⟨w9.heap.size, 0, none⟩) 1 1 [.int .i64 a9, .int .i64 r9, .string t9, .slice A9 l9 c9] rfl (reads_four w9 _ _ _ _) (one_four _ _ _ _ _ _) hkm hkb (base_le hb9 _) ?_
                             intro v10 w10 hown10 hgrow10 hblk10
                             have hb10 := heap_grown (heap_later hb9 _) hgrow10 hrow
                             have hc10 := (quad_cells hb10).2.2.2
                             have hf10 := (quad_soft hb10).2.2.2
                             obtain ⟨A10, c10, rfl⟩ := own_form hown10)
                          | (go_simp
                             go_at_call 27
                             refine E7.out.mono ?_
                             rintro e w9 ⟨ho9, a9, r9, t9, A9, l9, c9, rfl, hok9, hbad9⟩
                             have ho9' := Onl.undrew ho9
                             have hb9 := heap_onl HQc.out ho9' (by omega)
                             have hc9 := (quad_cells hb9).2.2.2
                             have hd9 := fun o : Obj => (quad_cells (heap_later hb9 o)).2.2.2
                             go_wp2_with fail))
                      all_goals
                        have HKD := Lib.hid (kid_done (k := k) HKI.out hkl.out hgb5 hWb5 HQc.out HOWc.out HRc.out HOc.out ho9' hok9 hbad9 hgrow10 hown10 hblk10)
                        clear ho9 ho9' hok9 hbad9 hb9 hc9 hd9 hgrow10 hown10 hblk10 hb10 hc10 hf10
                        go_wp2_with fail
                        go_roundw
                        case rel =>
                          obtain ⟨p', q, fl, h1, h2, h3, h4, h5, h6⟩ := HKD.out
                          exact ⟨p', ks ++ [q], _, A10, c10, j + 1, fl, by go_num, by omega, by simp; omega, fun _ => by rw [List.length_append, HJL.out]; rfl, h1, h2, h3, h4, h5, h6⟩
                        case measure => simp [intOf]; omega
                    · have hst := Lib.hid (show LSt f s k O RO pc ks true from .inr (.inr (by
                        rcases HSTc.out with ⟨h, _⟩ | h
                        · cases h
                        · exact h)))
                      go_wp2_with fail
                      go_roundw
                      case rel => exact ⟨pc, ks, xs, A, cv, j + 1, true, by go_num, by omega, by omega, (fun h => by cases h), hst.out, HPc.out, HQc.out, HOWc.out, RowF.off, HOc.out⟩
                      case measure => simp [intOf]; omega
                · have hjn : j = nK := by omega
                  have HJN := Lib.hid hjn
                  have hgeq : decide (j < nK) = false := by simp; omega
                  clear hjn
                  have HBR := Lib.hid (heap_onl HBOX.out HO.out (by omega))
                  have HWR := Lib.hid (HO0.out.trans HO.out)
                  have hszb : b5 < wr.heap.size := lt_of_heap HQ.out
                  rcases HS.out with ⟨rfl, hks, hK⟩ | ⟨rfl, ks0, q, p0, n0, hks, hK, hk0, hq0, hpp, hps⟩ | ⟨rfl, h1, h2, h3⟩
                  · have h1 := HFK.out rfl
                    rw [hks] at h1
                    have h2 : 0 = j := h1
                    have h3 := HJN.out
                    omega
                  · have hee : endOf O ks0.length = [41] := by
                      unfold endOf
                      have h1 := HFK.out rfl
                      rw [hks, List.length_append] at h1
                      have h2 : ks0.length + 1 = j := h1
                      rw [if_pos (by rw [HNK.out]; have := HJN.out; omega)]
                    have hfull := Lib.hid (show ks.length = (enders O).length by rw [HFK.out rfl, HJN.out, HNK.out])
                    have HPn := Lib.hid (HP.out.below (newS_below wr [[41]]))
                    have E5 := Lib.hid (show Calls Tryd.prog 35 #[.pointer (some ⟨g, 0, none⟩), .slice (some ⟨wr.heap.size, 0, none⟩) 1 1] (wr.alloc (.cells #[.string { data := #[41] }] 9)) (ChOut [[41]] g s p (newS wr [[41]])) from
                      choose35 [[41]] g s p (some ⟨wr.heap.size, 0, none⟩) 1 (newS wr [[41]]) hps hs (by decide) (by decide) (by decide) (pf_one _) (newS_strs wr [[41]]) HPn.out)
                    have hpos5 := er_bd [[41]] (rest s p)
                    rw [rest_len] at hpos5
                    have HQK := Lib.hid (And.intro hK (And.intro hk0 (And.intro hq0 (And.intro hpp (And.intro hks hee)))))
                    clear hK hk0 hq0 hpp hks hee
                    go_wp2_with fail
                    refine E5.out.mono ?_
                    rintro e w9 ⟨ho9, hc9⟩
                    have ho9' := (Onl.below (newS_below wr [[41]])).trans ho9
                    have HQ9 := Lib.hid (heap_onl HQ.out ho9' (by omega))
                    have HOW9 := Lib.hid (own_onl HOW.out (by omega) ho9')
                    have HR9 := Lib.hid (HR.out.onl ho9' (by omega))
                    have HW9 := Lib.hid (HWR.out.trans ho9')
                    have HB9 := Lib.hid (heap_onl HBR.out ho9' (by omega))
                    have hs9 := ho9'.size
                    clear ho9 ho9'
                    obtain ⟨z0, z1, z2, z3⟩ := quad_cells HQ9.out
                    obtain ⟨c0, c1, c2, c3⟩ := quad_cells HB9.out
                    obtain ⟨d0, d1, d2, d3⟩ := quad_soft HB9.out
                    rcases hc9 with ⟨i9, m9, e9, rfl, hp9⟩ | ⟨m9, e9, rfl, hp9⟩
                    · rw [e9] at hpos5
                      have hpos6 : m9 ≤ s.size - p := hpos5
                      have hkk := Lib.hid (show pq true (f + 1) (rest s k) = .ok (node O RO ks) (p + m9 - k) ∧ k ≤ p by
                        obtain ⟨hK, hk0, hq0, hpp, hks, hee⟩ := HQK.out
                        have h := hK.next hk0 hq0 (by rw [hee, ← hpp]; exact e9) (by omega)
                        rw [← hpp, ← hks] at h
                        have h1 := hK.2.1
                        exact ⟨h.done hfull.out, by omega⟩)
                      have hkle := hkk.out.2
                      have HP9 := Lib.hid hp9
                      have hqn := Lib.hid ((HR9.out rfl).node HOW9.out rfl (Nat.le_refl _) (O : Int) (RO : Int) ⟨#[]⟩)
                      clear e9 hp9 hpos5
                      go_wp2_with fail
                      have hq9 := QN.set4 (hqn.out) (b := w.heap.size) (by omega) (.int .i64 (O : Int)) (.int .i64 (RO : Int)) (.string ⟨#[]⟩) (.slice A ks.length cv)
                      obtain ⟨W9, hW9⟩ : ∃ W9, ((((w9.setCell ⟨w.heap.size, 0, none⟩ (.int .i64 (O : Int))).setCell ⟨w.heap.size, 1, none⟩ (.int .i64 (RO : Int))).setCell ⟨w.heap.size, 2, none⟩ (.string ⟨#[]⟩)).setCell ⟨w.heap.size, 3, none⟩ (.slice A ks.length cv)) = W9 := ⟨_, rfl⟩
                      have hq := quad_set4 (a' := .int .i64 (O : Int)) (b' := .int .i64 (RO : Int)) (c' := .string ⟨#[]⟩) (d' := .slice A ks.length cv) HB9.out
                      have hw9 := Onl.set4 (B := w.heap.size) (a' := .int .i64 (O : Int)) (b' := .int .i64 (RO : Int)) (c' := .string ⟨#[]⟩) (d' := .slice A ks.length cv) HW9.out (Nat.le_refl _)
                      have hp9 := heap_set4 (B := w.heap.size) (a' := .int .i64 (O : Int)) (b' := .int .i64 (RO : Int)) (c' := .string ⟨#[]⟩) (d' := .slice A ks.length cv) HP9.out (by omega)
                      rw [hW9] at hq hw9 hp9
                      rw [hW9] at hq9
                      rw [hW9]
                      obtain ⟨z0, z1, z2, z3⟩ := quad_cells hq
                      exact bodyPost_ret (v := .agg #[.int .i64 (O : Int), .int .i64 (RO : Int), .string ⟨#[]⟩, .slice A ks.length cv]) (by simp [results, Tryd.results27, go_sem, z0, z1, z2, z3]) rfl (qp_ok hkk.out.1 (by omega) hw9 hp9 (qn_fin hq9 (by omega) (by rw [← hW9]; simp)))
                    · rw [e9] at hpos5
                      have hpos6 : m9 ≤ s.size - p := hpos5
                      have hkk := Lib.hid (show pq true (f + 1) (rest s k) = .bad (p + m9 - k) ∧ k ≤ p by
                        obtain ⟨hK, hk0, hq0, hpp, hks, hee⟩ := HQK.out
                        have h := hK.end_bad hk0 hq0 (by rw [hee, ← hpp]; exact e9)
                        have h1 := hK.2.1
                        refine ⟨?_, by omega⟩
                        rw [h]
                        congr 1
                        omega)
                      have hkle := hkk.out.2
                      have HP9 := Lib.hid hp9
                      clear e9 hp9 hpos5
                      go_wp2_with fail
                      obtain ⟨W9, hW9⟩ : ∃ W9, ((((w9.setCell ⟨w.heap.size, 0, none⟩ (.int .i64 (O : Int))).setCell ⟨w.heap.size, 1, none⟩ (.int .i64 (RO : Int))).setCell ⟨w.heap.size, 2, none⟩ (.string ⟨#[]⟩)).setCell ⟨w.heap.size, 3, none⟩ (.slice A ks.length cv)) = W9 := ⟨_, rfl⟩
                      have hq := quad_set4 (a' := .int .i64 (O : Int)) (b' := .int .i64 (RO : Int)) (c' := .string ⟨#[]⟩) (d' := .slice A ks.length cv) HB9.out
                      have hw9 := Onl.set4 (B := w.heap.size) (a' := .int .i64 (O : Int)) (b' := .int .i64 (RO : Int)) (c' := .string ⟨#[]⟩) (d' := .slice A ks.length cv) HW9.out (Nat.le_refl _)
                      have hp9 := heap_set4 (B := w.heap.size) (a' := .int .i64 (O : Int)) (b' := .int .i64 (RO : Int)) (c' := .string ⟨#[]⟩) (d' := .slice A ks.length cv) HP9.out (by omega)
                      rw [hW9] at hq hw9 hp9
                      rw [hW9]
                      obtain ⟨z0, z1, z2, z3⟩ := quad_cells hq
                      exact bodyPost_ret (v := .agg #[.int .i64 (O : Int), .int .i64 (RO : Int), .string ⟨#[]⟩, .slice A ks.length cv]) (by simp [results, Tryd.results27, go_sem, z0, z1, z2, z3]) rfl (qp_bad hkk.out.1 (by omega) hw9 hp9)
                  · have hbadp := Lib.hid h3
                    have HPn := Lib.hid (HP.out.below (newS_below wr [[41]]))
                    have E5 := Lib.hid (show Calls Tryd.prog 35 #[.pointer (some ⟨g, 0, none⟩), .slice (some ⟨wr.heap.size, 0, none⟩) 1 1] (wr.alloc (.cells #[.string { data := #[41] }] 9)) (fun e w' => e = .returned (.int .i64 0) ∧ Below (newS wr [[41]]).heap.size (newS wr [[41]]) w') from
                      choose35_f g s p (some ⟨wr.heap.size, 0, none⟩) 1 1 (newS wr [[41]]) HPn.out)
                    clear h3
                    go_wp2_with fail
                    refine E5.out.mono ?_
                    rintro e w9 ⟨rfl, hb9⟩
                    have hb9' := (newS_below wr [[41]]).trans (hb9.mono (newS_below wr [[41]]).size)
                    have HQ9 := Lib.hid (heap_below HQ.out hb9')
                    have HW9 := Lib.hid (HWR.out.new hb9')
                    have HP9 := Lib.hid (HP.out.below hb9')
                    have HB9 := Lib.hid (heap_below HBR.out hb9')
                    clear hb9 hb9'
                    obtain ⟨z0, z1, z2, z3⟩ := quad_cells HQ9.out
                    obtain ⟨c0, c1, c2, c3⟩ := quad_cells HB9.out
                    obtain ⟨d0, d1, d2, d3⟩ := quad_soft HB9.out
                    go_wp2_with fail
                    obtain ⟨W9, hW9⟩ : ∃ W9, ((((w9.setCell ⟨w.heap.size, 0, none⟩ (.int .i64 (O : Int))).setCell ⟨w.heap.size, 1, none⟩ (.int .i64 (RO : Int))).setCell ⟨w.heap.size, 2, none⟩ (.string ⟨#[]⟩)).setCell ⟨w.heap.size, 3, none⟩ (.slice A ks.length cv)) = W9 := ⟨_, rfl⟩
                    have hq := quad_set4 (a' := .int .i64 (O : Int)) (b' := .int .i64 (RO : Int)) (c' := .string ⟨#[]⟩) (d' := .slice A ks.length cv) HB9.out
                    have hw9 := Onl.set4 (B := w.heap.size) (a' := .int .i64 (O : Int)) (b' := .int .i64 (RO : Int)) (c' := .string ⟨#[]⟩) (d' := .slice A ks.length cv) HW9.out (Nat.le_refl _)
                    have hp9 := heap_set4 (B := w.heap.size) (a' := .int .i64 (O : Int)) (b' := .int .i64 (RO : Int)) (c' := .string ⟨#[]⟩) (d' := .slice A ks.length cv) HP9.out (by omega)
                    rw [hW9] at hq hw9 hp9
                    rw [hW9]
                    obtain ⟨z0, z1, z2, z3⟩ := quad_cells hq
                    exact bodyPost_ret (v := .agg #[.int .i64 (O : Int), .int .i64 (RO : Int), .string ⟨#[]⟩, .slice A ks.length cv]) (by simp [results, Tryd.results27, go_sem, z0, z1, z2, z3]) rfl (qp_bad hbadp.out (by omega) hw9 hp9)
    · have hr := Lib.hid (show pq true (f + 1) (rest s k) = .bad n by rw [pq, seq, e1])
      have HP3 := Lib.hid hp3
      obtain ⟨p0, p1, p2⟩ := tri_cells hp3
      obtain ⟨c0, c1, c2, c3⟩ := quad_cells HB3.out
      obtain ⟨d0, d1, d2, d3⟩ := quad_soft HB3.out
      clear e1 hp3
      go_wp2_with fail
      obtain ⟨W9, hW9⟩ : ∃ W9, ((((w3.setCell ⟨w.heap.size, 0, none⟩ (.int .i64 0)).setCell ⟨w.heap.size, 1, none⟩ (.int .i64 0)).setCell ⟨w.heap.size, 2, none⟩ (.string ⟨#[]⟩)).setCell ⟨w.heap.size, 3, none⟩ (.slice none 0 0)) = W9 := ⟨_, rfl⟩
      have hq := quad_set4 (a' := .int .i64 0) (b' := .int .i64 0) (c' := .string ⟨#[]⟩) (d' := .slice none 0 0) HB3.out
      have hw9 := Onl.set4 (B := w.heap.size) (a' := .int .i64 0) (b' := .int .i64 0) (c' := .string ⟨#[]⟩) (d' := .slice none 0 0) HO3.out (Nat.le_refl _)
      have hp9 := heap_set4 (B := w.heap.size) (a' := .int .i64 0) (b' := .int .i64 0) (c' := .string ⟨#[]⟩) (d' := .slice none 0 0) HP3.out (by omega)
      rw [hW9] at hq hw9 hp9
      rw [hW9]
      obtain ⟨z0, z1, z2, z3⟩ := quad_cells hq
      exact bodyPost_ret (v := .agg #[.int .i64 0, .int .i64 0, .string ⟨#[]⟩, .slice none 0 0]) (by simp [results, Tryd.results27, go_sem, z0, z1, z2, z3]) rfl (qp_bad hr.out (by omega) hw9 hp9)
end Go.Proofs.YtgbjldkbbbjnkaaDoor
