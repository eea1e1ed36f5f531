/-
  awake returns true.
-/
import Derived.Test.YtoechdnhgkelfaaDoorEx
namespace Go.Proofs.YtoechdnhgkelfaaDoor
open Go.RowKit Go.PlainAid Pl
/-- The example in memory. -/
def xW (w : World) : World :=
  (((((((w.alloc (.cells #[.string ⟨#[116]⟩, .int .i64 0, .string ⟨#[104]⟩, .int .i64 0, .string ⟨#[116, 104]⟩, .int .i64 0] 54)).alloc (.cells #[.slice (some ⟨w.heap.size, 0, none⟩) 3 3] 24)).alloc (.cells #[.int .i64 1] 3)).alloc (.cells #[.int .i64 2] 3)).alloc (.cells #[.int .i64 3] 3)).alloc
    (.cells #[.string ⟨#[116]⟩, .slice (some ⟨w.heap.size + 1 + 1, 0, none⟩) 1 1, .string ⟨#[104]⟩, .slice (some ⟨w.heap.size + 1 + 1 + 1, 0, none⟩) 1 1, .string ⟨#[116, 104]⟩, .slice (some ⟨w.heap.size + 1 + 1 + 1 + 1, 0, none⟩) 1 1] 47)).alloc
    (.cells #[.string ⟨#[112, 108, 97, 105, 110]⟩, .slice (some ⟨w.heap.size + 1 + 1 + 1 + 1 + 1, 0, none⟩) 3 3, .slice none 0 0] 28))
def xVo (h : Nat) : Value := .agg #[.string ⟨#[112, 108, 97, 105, 110]⟩, .slice (some ⟨h + 1 + 1 + 1 + 1 + 1, 0, none⟩) 3 3, .slice none 0 0]
def xVi (h : Nat) : Value := .agg #[.slice (some ⟨h, 0, none⟩) 3 3]
theorem xsize (w : World) : (xW w).heap.size = w.heap.size + 7 := by simp [xW]
theorem xbelow (w : World) : Below w.heap.size w (xW w) :=
  (((((((Below.refl _ _).alloc (Nat.le_refl _) _).alloc (by simp) _).alloc (by simp; omega) _).alloc (by simp; omega) _).alloc (by simp; omega) _).alloc (by simp; omega) _).alloc (by simp; omega) _
theorem ints_one {w : World} {B g : Nat} {x : Int} (hg : g < B) (h : w.cell? ⟨g, 0, none⟩ = some (.int .i64 x)) : Ints w B (some ⟨g, 0, none⟩) [x] := by
  refine ⟨by simp [IS], fun _ => ⟨_, rfl, hg, fun j u hu => ?_⟩⟩
  match j, hu with
  | 0, hu => simp [IS, I] at hu; subst hu; simpa [Addr.add] using h
  | j + 1, hu => simp [IS] at hu
theorem xinv (w : World) : VAt (xW w) (xW w).heap.size xP (xVi w.heap.size) := by
  refine ⟨_, _, rfl, fun j p hp => ?_⟩
  have hb : w.heap.size < (xW w).heap.size := by rw [xsize]; omega
  match j, hp with
  | 0, hp => cases hp; exact ⟨_, rfl, hb, by unfold xW; go_simp, by unfold xW; go_simp⟩
  | 1, hp => cases hp; exact ⟨_, rfl, hb, by unfold xW; go_simp, by unfold xW; go_simp⟩
  | 2, hp => cases hp; exact ⟨_, rfl, hb, by unfold xW; go_simp, by unfold xW; go_simp⟩
  | j + 3, hp => simp [xP] at hp
theorem xort (w : World) : OAt (xW w) (xW w).heap.size xO (xVo w.heap.size) := by
  refine ⟨_, _, _, _, rfl, fun j u hu => ?_, fun j l hl => by simp [xO] at hl⟩
  have hb : w.heap.size + 1 + 1 + 1 + 1 + 1 < (xW w).heap.size := by rw [xsize]; omega
  match j, hu with
  | 0, hu => cases hu; exact ⟨_, some ⟨w.heap.size + 1 + 1, 0, none⟩, 1, rfl, hb, by unfold xW; go_simp, by unfold xW; go_simp, ints_one (by rw [xsize]; omega) (by unfold xW; go_simp)⟩
  | 1, hu => cases hu; exact ⟨_, some ⟨w.heap.size + 1 + 1 + 1, 0, none⟩, 1, rfl, hb, by unfold xW; go_simp, by unfold xW; go_simp, ints_one (by rw [xsize]; omega) (by unfold xW; go_simp)⟩
  | 2, hu => cases hu; exact ⟨_, some ⟨w.heap.size + 1 + 1 + 1 + 1, 0, none⟩, 1, rfl, hb, by unfold xW; go_simp, by unfold xW; go_simp, ints_one (by rw [xsize]; omega) (by unfold xW; go_simp)⟩
  | j + 3, hu => simp [xO, xU] at hu
theorem xcap (h : Nat) : UCap (xVo h) := by
  intro nm A n cap B m c2 e
  unfold xVo at e
  injection e with e
  simp at e
  omega
theorem xbox (w : World) : (xW w).cell? ⟨w.heap.size + 1, 0, none⟩ = some (.slice (some ⟨w.heap.size, 0, none⟩) 3 3) ∧ (xW w).cell? ⟨w.heap.size + 1 + 1 + 1 + 1 + 1 + 1, 0, none⟩ = some (.string ⟨#[112, 108, 97, 105, 110]⟩) ∧
    (xW w).cell? ⟨w.heap.size + 1 + 1 + 1 + 1 + 1 + 1, 1, none⟩ = some (.slice (some ⟨w.heap.size + 1 + 1 + 1 + 1 + 1, 0, none⟩) 3 3) ∧ (xW w).cell? ⟨w.heap.size + 1 + 1 + 1 + 1 + 1 + 1, 2, none⟩ = some (.slice none 0 0) :=
  ⟨by unfold xW; go_simp, by unfold xW; go_simp, by unfold xW; go_simp, by unfold xW; go_simp⟩
/-- What a world that goes on from the example still holds. -/
structure Xs (w W : World) : Prop where
  k : Below (xW w).heap.size (xW w) W
  i0 : W.cell? ⟨w.heap.size + 1, 0, none⟩ = some (.slice (some ⟨w.heap.size, 0, none⟩) 3 3)
  o0 : W.cell? ⟨w.heap.size + 1 + 1 + 1 + 1 + 1 + 1, 0, none⟩ = some (.string ⟨#[112, 108, 97, 105, 110]⟩)
  o1 : W.cell? ⟨w.heap.size + 1 + 1 + 1 + 1 + 1 + 1, 1, none⟩ = some (.slice (some ⟨w.heap.size + 1 + 1 + 1 + 1 + 1, 0, none⟩) 3 3)
  o2 : W.cell? ⟨w.heap.size + 1 + 1 + 1 + 1 + 1 + 1, 2, none⟩ = some (.slice none 0 0)
  v : VAt W W.heap.size xP (xVi w.heap.size)
  o : OAt W W.heap.size xO (xVo w.heap.size)
theorem Xs.of {w W : World} (k : Below (xW w).heap.size (xW w) W) : Xs w W := by
  obtain ⟨a, b, c, d⟩ := xbox w
  have z := xsize w
  exact ⟨k, (k.cell (p := ⟨w.heap.size + 1, 0, none⟩) (by show w.heap.size + 1 < _; omega)).trans a, (k.cell (p := ⟨w.heap.size + 1 + 1 + 1 + 1 + 1 + 1, 0, none⟩) (by show w.heap.size + 1 + 1 + 1 + 1 + 1 + 1 < _; omega)).trans b,
    (k.cell (p := ⟨w.heap.size + 1 + 1 + 1 + 1 + 1 + 1, 1, none⟩) (by show w.heap.size + 1 + 1 + 1 + 1 + 1 + 1 < _; omega)).trans c, (k.cell (p := ⟨w.heap.size + 1 + 1 + 1 + 1 + 1 + 1, 2, none⟩) (by show w.heap.size + 1 + 1 + 1 + 1 + 1 + 1 < _; omega)).trans d, (xinv w).below k, (xort w).below k⟩
theorem Xs.next {w W W' : World} (h : Xs w W) (hb : Below W.heap.size W W') : Xs w W' := Xs.of (h.k.trans (hb.mono h.k.size))
theorem Xs.more {w W : World} (h : Xs w W) (o : Obj) : Xs w (W.alloc o) := h.next (below_one W o)
theorem Xs.all {w W : World} (h : Xs w W) : Below w.heap.size w W := (xbelow w).trans (h.k.mono (xbelow w).size)
theorem lit_ints (W : World) (l : List Int) : Ints (W.alloc (.cells (IS l).toArray 3)) (W.alloc (.cells (IS l).toArray 3)).heap.size (some ⟨W.heap.size, 0, none⟩) l := by
  refine ⟨by simp [IS], fun _ => ⟨_, rfl, by simp, fun j u hu => ?_⟩⟩
  have ha : (⟨W.heap.size, 0, none⟩ : Addr).add j = ⟨W.heap.size, j, none⟩ := by unfold Addr.add; split <;> simp_all
  rw [ha]
  simp [World.cell?_alloc_new, hu]
theorem x_rd {w W : World} (h : Xs w W) {s : ByteArray} {out : List Int} {p q : Int} (hs : s.size ≤ 100) (hr : RdP xU s.data.toList out p q) : Calls Tryd.prog 18 #[xVo w.heap.size, .string s] W fun e w' => ∃ v, e = .returned (.tuple #[v, .int .i64 p, .int .i64 q]) ∧ w'.ownsRow W.heap.size 3 1 v out.length (IS out) ∧ Below W.heap.size W w' :=
  (read18 xO _ s W h.o (by omega) xgood).mono fun e w' ⟨v, o, p', q', he, hp, ho, hb⟩ => by
    obtain ⟨rfl, rfl, rfl⟩ := hr.unique hp
    exact ⟨v, he, ho, hb⟩
theorem x_sp {w W : World} (h : Xs w W) {r : List Int} {t : List UInt8} {p q : Int} (hl : r.length ≤ 100) (hs : SpP xU r t p q) : Calls Tryd.prog 21 #[xVo w.heap.size, .slice (some ⟨W.heap.size, 0, none⟩) r.length r.length] (W.alloc (.cells (IS r).toArray 3)) fun e w' => e = .returned (.tuple #[.string ⟨t.toArray⟩, .int .i64 p, .int .i64 q]) ∧ Below (W.alloc (.cells (IS r).toArray 3)).heap.size (W.alloc (.cells (IS r).toArray 3)) w' :=
  (spell21 xO _ _ _ r _ (h.more _).o (lit_ints W r) (Nat.le_refl _) (by omega) xgood).mono fun e w' ⟨t', p', q', he, hp, hb⟩ => by
    obtain ⟨rfl, rfl, rfl⟩ := hs.unique hp
    exact ⟨he, hb⟩
theorem x_un {w W : World} (h : Xs w W) : Calls Tryd.prog 16 #[xVo w.heap.size, .string ⟨#[116, 104, 116, 104, 63]⟩] W fun e w' => ∃ v, e = .returned (.tuple #[v, .int .i64 4]) ∧ w'.ownsRow W.heap.size 3 1 v 2 (IS [2, 2]) ∧ Below W.heap.size W w' :=
  (units16 xO _ ⟨#[116, 104, 116, 104, 63]⟩ W h.o (by decide) xgood).mono fun e w' ⟨v, l, a, he, hd, ho, hb⟩ => by
    obtain ⟨rfl, rfl⟩ := x_units.unique hd
    exact ⟨v, he, ho, hb⟩
theorem x_ck {w W : World} (h : Xs w W) (hT : Lib.Utf8Tabs 0 1 W) : Calls Tryd.prog 13 #[xVi w.heap.size, xVo w.heap.size] W fun e w' => e = .returned (.int .i64 0) ∧ Below W.heap.size W w' :=
  (check13 xP xO _ _ W h.v h.o x_few (xcap _) hT (lets_nil _ _ rfl)).mono fun e w' ⟨q, he, hq, hb⟩ => by
    obtain rfl := x_chk_only hq
    exact ⟨he, hb⟩
theorem zcap : UCap (.agg #[.string ⟨#[]⟩, .slice none 0 0, .slice none 0 0]) := by
  intro nm A n cap B m c2 e
  cases e
  exact Nat.le_refl _
theorem z_ck {w W : World} (h : Xs w W) (hT : Lib.Utf8Tabs 0 1 W) : Calls Tryd.prog 13 #[xVi w.heap.size, .agg #[.string ⟨#[]⟩, .slice none 0 0, .slice none 0 0]] W fun e w' => e = .returned (.int .i64 7) ∧ Below W.heap.size W w' :=
  (check13 xP zO _ _ W h.v ⟨none, 0, none, 0, rfl, fun j u hu => by simp [zO] at hu, fun j l hl => by simp [zO] at hl⟩ z_few zcap hT (lets_nil _ _ rfl)).mono fun e w' ⟨q, he, hq, hb⟩ => by
    obtain rfl := z_chk_only hq
    exact ⟨he, hb⟩
theorem x_ex {w W : World} (h : Xs w W) {r : List Int} {b : Bool} (hl : r.length ≤ 100) (hx : b = true ↔ ExP xU r) : Calls Tryd.prog 23 #[xVo w.heap.size, .slice (some ⟨W.heap.size, 0, none⟩) r.length r.length] (W.alloc (.cells (IS r).toArray 3)) fun e w' => e = .returned (.bool b) ∧ Below (W.alloc (.cells (IS r).toArray 3)).heap.size (W.alloc (.cells (IS r).toArray 3)) w' :=
  (exact23 xO _ _ _ r _ (h.more _).o (lit_ints W r) (Nat.le_refl _) (by omega) xgood).mono fun e w' ⟨b', he, hb', hb⟩ => by
    have : b' = b := by rw [Bool.eq_iff_iff]; exact hb'.trans hx.symm
    subst this
    exact ⟨he, hb⟩
theorem x_sm {W : World} {A : Option Addr} {cap : Nat} {l : List Int} (hl : l.length ≤ 100) (h : Ints W W.heap.size A l) : Calls Tryd.prog 20 #[.slice A l.length cap, .slice (some ⟨W.heap.size, 0, none⟩) l.length l.length] (W.alloc (.cells (IS l).toArray 3)) fun e w' => e = .returned (.bool true) ∧ Below (W.alloc (.cells (IS l).toArray 3)).heap.size (W.alloc (.cells (IS l).toArray 3)) w' := by
  have := same20 A (some ⟨W.heap.size, 0, none⟩) cap l.length l l (W.alloc (.cells (IS l).toArray 3)) (by omega) ((h.keep fun p hp => World.cell?_alloc_lt W _ p hp : Ints (W.alloc (.cells (IS l).toArray 3)) _ _ _).more (by simp)) (lit_ints W l)
  rw [eqB_self] at this
  exact this
theorem Ints.step {W W' : World} {A : Option Addr} {l : List Int} (h : Ints W W.heap.size A l) (hb : Below W.heap.size W W') : Ints W' W'.heap.size A l := (h.keep (w' := W') fun p hp => hb.cell (p := p) hp).more hb.size
theorem Ints.step2 {W W' : World} {A : Option Addr} {l : List Int} (h : Ints W W.heap.size A l) {o : Obj} (hb : Below (W.alloc o).heap.size (W.alloc o) W') : Ints W' W'.heap.size A l := (h.step (below_one W o)).step hb
set_option maxHeartbeats 3200000 in
set_option maxRecDepth 100000 in
theorem awake12 (w : World) (hT : Lib.Utf8Tabs 0 1 w) : Calls Tryd.prog 12 #[] w (fun e w' => e = .returned (.bool true) ∧ Below w.heap.size w w') := by
  have HT := Lib.hid hT
  clear hT
  have X0 := Lib.hid (Xs.of (Below.refl (xW w).heap.size (xW w)))
  go_enter Tryd.func12, Tryd.ntmps12
  go_wp2_with fail
  change Calls Tryd.prog 18 #[xVo w.heap.size, _] (xW w) _
  refine (x_rd X0.out (by decide) r_th).mono ?_
  rintro e w1 ⟨v1, rfl, ho1, hb1⟩
  have X1 := Lib.hid (X0.out.next hb1)
  obtain ⟨A1, cap1, rfl, hr1⟩ := ints_of rfl ho1
  have O1 := Lib.hid hr1
  clear ho1 hr1 hb1 X0
  have a0 := X1.out.o0
  have a1 := X1.out.o1
  have a2 := X1.out.o2
  go_wp2_with fail
  refine (x_sp X1.out (r := [1, 2]) (by decide) s_12).mono ?_
  rintro e w2 ⟨rfl, hb2⟩
  have X2 := Lib.hid ((X1.out.more _).next hb2)
  have O2 := Lib.hid (O1.out.step2 hb2)
  clear O1 hb2 X1 a0 a1 a2
  have a0 := X2.out.o0
  have a1 := X2.out.o1
  have a2 := X2.out.o2
  go_wp2_with fail
  refine (x_rd X2.out (by decide) r_tx).mono ?_
  rintro e w3 ⟨v3, rfl, ho3, hb3⟩
  have X3 := Lib.hid (X2.out.next hb3)
  have O3 := Lib.hid (O2.out.step hb3)
  clear O2 hb3 X2 a0 a1 a2 ho3
  have a0 := X3.out.o0
  have a1 := X3.out.o1
  have a2 := X3.out.o2
  go_wp2_with fail
  refine (x_sp X3.out (r := [1, 4]) (by decide) s_14).mono ?_
  rintro e w4 ⟨rfl, hb4⟩
  have X4 := Lib.hid ((X3.out.more _).next hb4)
  have O4 := Lib.hid (O3.out.step2 hb4)
  clear O3 hb4 X3 a0 a1 a2
  have a0 := X4.out.o0
  have a1 := X4.out.o1
  have a2 := X4.out.o2
  go_wp2_with fail
  refine (x_rd X4.out (by decide) r_no).mono ?_
  rintro e w5 ⟨v5, rfl, ho5, hb5⟩
  have X5 := Lib.hid (X4.out.next hb5)
  have O5 := Lib.hid (O4.out.step hb5)
  clear O4 hb5 X4 a0 a1 a2 ho5
  have a0 := X5.out.o0
  have a1 := X5.out.o1
  have a2 := X5.out.o2
  go_wp2_with fail
  refine (x_un X5.out).mono ?_
  rintro e w6 ⟨v6, rfl, ho6, hb6⟩
  have X6 := Lib.hid (X5.out.next hb6)
  have O6 := Lib.hid (O5.out.step hb6)
  obtain ⟨A6, cap6, rfl, hr6⟩ := ints_of (n := 2) (xs := [2, 2]) rfl ho6
  have Q6 := Lib.hid hr6
  clear O5 hb6 X5 a0 a1 a2 ho6 hr6
  have a0 := X6.out.o0
  have a1 := X6.out.o1
  have a2 := X6.out.o2
  have a3 := X6.out.i0
  go_wp2_with fail
  refine (x_ck X6.out (tabs_below HT.out X6.out.all)).mono ?_
  rintro e w7 ⟨rfl, hb7⟩
  have X7 := Lib.hid (X6.out.next hb7)
  have O7 := Lib.hid (O6.out.step hb7)
  have Q7 := Lib.hid (Q6.out.step hb7)
  clear O6 Q6 hb7 X6 a0 a1 a2 a3
  have a3 := X7.out.i0
  go_wp2_with fail
  refine (z_ck X7.out (tabs_below HT.out X7.out.all)).mono ?_
  rintro e w8 ⟨rfl, hb8⟩
  have X8 := Lib.hid (X7.out.next hb8)
  have O8 := Lib.hid (O7.out.step hb8)
  have Q8 := Lib.hid (Q7.out.step hb8)
  clear O7 Q7 hb8 X7 a3
  go_wp2_with fail
  refine (x_sm (l := [3]) (by decide) O8.out).mono ?_
  rintro e w9 ⟨rfl, hb9⟩
  have X9 := Lib.hid ((X8.out.more _).next hb9)
  have Q9 := Lib.hid (Q8.out.step2 hb9)
  clear O8 Q8 hb9 X8
  have a0 := X9.out.o0
  have a1 := X9.out.o1
  have a2 := X9.out.o2
  go_wp2_with fail
  refine (x_ex X9.out (r := [1, 2]) (b := false) (by decide) ⟨(fun h => nomatch h), fun h => absurd h ex_12⟩).mono ?_
  rintro e w10 ⟨rfl, hb10⟩
  have X10 := Lib.hid ((X9.out.more _).next hb10)
  have Q10 := Lib.hid (Q9.out.step2 hb10)
  clear Q9 hb10 X9 a0 a1 a2
  have a0 := X10.out.o0
  have a1 := X10.out.o1
  have a2 := X10.out.o2
  go_wp2_with fail
  refine (x_ex X10.out (r := [2, 1]) (b := true) (by decide) ⟨fun _ => ex_21, fun _ => rfl⟩).mono ?_
  rintro e w11 ⟨rfl, hb11⟩
  have X11 := Lib.hid ((X10.out.more _).next hb11)
  have Q11 := Lib.hid (Q10.out.step2 hb11)
  clear Q10 hb11 X10 a0 a1 a2
  go_wp2_with fail
  refine (x_sm (l := [2, 2]) (by decide) Q11.out).mono ?_
  rintro e w12 ⟨rfl, hb12⟩
  have k12 := (X11.out.more (.cells (IS [2, 2]).toArray 3)).all.trans (hb12.mono (X11.out.more (.cells (IS [2, 2]).toArray 3)).all.size)
  clear Q11 hb12 X11
  go_wp2_with fail
  go_ret
  exact ⟨rfl, k12⟩
end Go.Proofs.YtoechdnhgkelfaaDoor
