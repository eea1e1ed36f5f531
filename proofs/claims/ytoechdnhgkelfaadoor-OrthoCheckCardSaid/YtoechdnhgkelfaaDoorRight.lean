/-
  What right returns; how each law begins; the law OrthoReads.
-/
import Derived.Test.YtoechdnhgkelfaaDoorAwake
namespace Go.Proofs.YtoechdnhgkelfaaDoor
open Go.RowKit Go.PlainAid Pl
/-- Where a law keeps its arguments. -/
structure Ls (ps : List (ByteArray × Int)) (o : Ort) (A : Option Addr) (cap : Nat) (AU : Option Addr) (capU : Nat) (AL : Option Addr) (capL : Nat) (w W : World) : Prop where
  k : Below w.heap.size w W
  i0 : W.cell? ⟨w.heap.size, 0, none⟩ = some (.slice A ps.length cap)
  o0 : W.cell? ⟨w.heap.size + 1, 0, none⟩ = some (.string o.name)
  o1 : W.cell? ⟨w.heap.size + 1, 1, none⟩ = some (.slice AU o.us.length capU)
  o2 : W.cell? ⟨w.heap.size + 1, 2, none⟩ = some (.slice AL o.ls.length capL)
  v : VAt W W.heap.size ps (.agg #[.slice A ps.length cap])
  o : OAt W W.heap.size o (.agg #[.string o.name, .slice AU o.us.length capU, .slice AL o.ls.length capL])
  t : Lib.Utf8Tabs 0 1 W
  z : w.heap.size + 2 ≤ W.heap.size
section
variable {ps : List (ByteArray × Int)} {o : Ort} {A : Option Addr} {cap : Nat} {AU : Option Addr} {capU : Nat} {AL : Option Addr} {capL : Nat} {w W W' : World}
theorem Ls.next (h : Ls ps o A cap AU capU AL capL w W) (hb : Below W.heap.size W W') : Ls ps o A cap AU capU AL capL w W' := by
  have z := h.z
  exact ⟨h.k.trans (hb.mono h.k.size), (hb.cell (p := ⟨w.heap.size, 0, none⟩) (by show w.heap.size < _; omega)).trans h.i0, (hb.cell (p := ⟨w.heap.size + 1, 0, none⟩) (by show w.heap.size + 1 < _; omega)).trans h.o0,
    (hb.cell (p := ⟨w.heap.size + 1, 1, none⟩) (by show w.heap.size + 1 < _; omega)).trans h.o1, (hb.cell (p := ⟨w.heap.size + 1, 2, none⟩) (by show w.heap.size + 1 < _; omega)).trans h.o2, h.v.below hb, h.o.below hb, tabs_below h.t hb, Nat.le_trans z hb.size⟩
theorem Ls.start (hv : VAt w w.heap.size ps (.agg #[.slice A ps.length cap])) (ho : OAt w w.heap.size o (.agg #[.string o.name, .slice AU o.us.length capU, .slice AL o.ls.length capL])) (hT : Lib.Utf8Tabs 0 1 w) :
    Ls ps o A cap AU capU AL capL w ((w.alloc (.cells #[.slice A ps.length cap] 24)).alloc (.cells #[.string o.name, .slice AU o.us.length capU, .slice AL o.ls.length capL] 28)) := by
  have hb : Below w.heap.size w ((w.alloc (.cells #[.slice A ps.length cap] 24)).alloc (.cells #[.string o.name, .slice AU o.us.length capU, .slice AL o.ls.length capL] 28)) := ((Below.refl _ _).alloc (Nat.le_refl _) _).alloc (by simp) _
  exact ⟨hb, by go_simp, by go_simp, by go_simp, by go_simp, hv.below hb, ho.below hb, tabs_below hT hb, by simp⟩
end
def RightOut (_ps : List (ByteArray × Int)) (o : Ort) (w : World) (e : Ending) (w' : World) : Prop := ∃ b : Bool, e = .returned (.bool b) ∧ (b = true → Good o.us) ∧ Below w.heap.size w w'
theorem few_good {ps : List (ByteArray × Int)} {o : Ort} (hf : Few ps o) (h : ChkP ps.length o 0) : Good o.us := h.good hf.ug
set_option maxHeartbeats 1600000 in
set_option maxRecDepth 100000 in
theorem right15 (ps : List (ByteArray × Int)) (o : Ort) (A : Option Addr) (cap : Nat) (AU : Option Addr) (capU : Nat) (AL : Option Addr) (capL : Nat) (w : World) (hv : VAt w w.heap.size ps (.agg #[.slice A ps.length cap])) (ho : OAt w w.heap.size o (.agg #[.string o.name, .slice AU o.us.length capU, .slice AL o.ls.length capL])) (hT : Lib.Utf8Tabs 0 1 w) :
    Calls Tryd.prog 15 #[.agg #[.slice A ps.length cap], .agg #[.string o.name, .slice AU o.us.length capU, .slice AL o.ls.length capL]] w (RightOut ps o w) := by
  have L0 := Lib.hid (Ls.start hv ho hT)
  clear hv ho hT
  obtain ⟨W0, hW0⟩ : ∃ W0, (w.alloc (.cells #[.slice A ps.length cap] 24)).alloc (.cells #[.string o.name, .slice AU o.us.length capU, .slice AL o.ls.length capL] 28) = W0 := ⟨_, rfl⟩
  rw [hW0] at L0
  have HW := Lib.hid hW0
  clear hW0
  go_enter Tryd.func15, Tryd.ntmps15
  go_wp2_with fail
  rw [HW.out]
  clear HW
  refine (few10 ps o _ _ W0 L0.out.v L0.out.o).mono ?_
  rintro e w1 ⟨b, rfl, hf, hb1⟩
  have HF := Lib.hid hf
  have L1 := Lib.hid (L0.out.next hb1)
  clear hf hb1 L0
  cases b
  · go_wp2_with fail
    go_ret
    exact ⟨false, rfl, (fun h => nomatch h), L1.out.k⟩
  have FW := Lib.hid (HF.out rfl)
  clear HF
  have a := L1.out.i0
  go_wp2_with fail
  refine (check11 ps _ w1 L1.out.v FW.out.pn FW.out.p).mono ?_
  rintro e w2 ⟨q, rfl, _, hb2⟩
  have L2 := Lib.hid (L1.out.next hb2)
  clear hb2 L1 a
  cases hq : (q == 0)
  · go_wp2_with fail
    go_ret
    exact ⟨false, rfl, (fun h => nomatch h), L2.out.k⟩
  have a := L2.out.i0
  have a0 := L2.out.o0
  have a1 := L2.out.o1
  have a2 := L2.out.o2
  go_wp2_with fail
  refine (check14 ps o _ _ w2 L2.out.v L2.out.o FW.out).mono ?_
  rintro e w3 ⟨q, rfl, hc, hb3⟩
  have HC := Lib.hid hc
  have L3 := Lib.hid (L2.out.next hb3)
  clear hb3 L2 a a0 a1 a2 hc
  cases hq2 : (q == 0)
  · go_wp2_with fail
    go_ret
    exact ⟨false, rfl, (fun h => nomatch h), L3.out.k⟩
  · obtain rfl : q = 0 := by simpa using hq2
    clear hq2
    go_wp2_with fail
    go_ret
    exact ⟨true, rfl, fun _ => few_good FW.out HC.out, L3.out.k⟩
abbrev True_ (w : World) : Ending → World → Prop := fun e w' => e = .returned (.bool true) ∧ Below w.heap.size w w'
set_option maxHeartbeats 1600000 in
set_option maxRecDepth 100000 in
theorem law4 (ps : List (ByteArray × Int)) (o : Ort) (A : Option Addr) (cap : Nat) (AU : Option Addr) (capU : Nat) (AL : Option Addr) (capL : Nat) (s : ByteArray) (w : World) (hv : VAt w w.heap.size ps (.agg #[.slice A ps.length cap])) (ho : OAt w w.heap.size o (.agg #[.string o.name, .slice AU o.us.length capU, .slice AL o.ls.length capL])) (hT : Lib.Utf8Tabs 0 1 w) (hsm : s.size ≤ 9223372036854775807) :
    Calls Tryd.prog 4 #[.agg #[.slice A ps.length cap], .agg #[.string o.name, .slice AU o.us.length capU, .slice AL o.ls.length capL], .string s] w (True_ w) := by
  have L0 := Lib.hid (Ls.start hv ho hT)
  clear hv ho hT
  obtain ⟨W0, hW0⟩ : ∃ W0, (w.alloc (.cells #[.slice A ps.length cap] 24)).alloc (.cells #[.string o.name, .slice AU o.us.length capU, .slice AL o.ls.length capL] 28) = W0 := ⟨_, rfl⟩
  rw [hW0] at L0
  have HW := Lib.hid hW0
  clear hW0
  go_enter Tryd.func4, Tryd.ntmps4
  go_wp2_with fail
  rw [HW.out]
  clear HW
  refine (right15 ps o A cap AU capU AL capL W0 L0.out.v L0.out.o L0.out.t).mono ?_
  rintro e w1 ⟨b, rfl, hg, hb1⟩
  have HG := Lib.hid hg
  have L1 := Lib.hid (L0.out.next hb1)
  clear hg hb1 L0
  cases b
  · go_wp2_with fail
    refine (awake12 w1 L1.out.t).mono ?_
    rintro e w2 ⟨rfl, hb2⟩
    go_wp2_with fail
    go_ret
    exact ⟨rfl, (L1.out.next hb2).k⟩
  by_cases h500 : 500 < s.size
  · have h500' : (500 : Int) < (s.size : Int) := by omega
    go_wp2_with fail
    refine (awake12 w1 L1.out.t).mono ?_
    rintro e w2 ⟨rfl, hb2⟩
    go_wp2_with fail
    go_ret
    exact ⟨rfl, (L1.out.next hb2).k⟩
  have h500' : ¬ (500 : Int) < (s.size : Int) := by omega
  have GD := Lib.hid (HG.out rfl)
  clear HG
  have a0 := L1.out.o0
  have a1 := L1.out.o1
  have a2 := L1.out.o2
  go_wp2_with fail
  refine (units16 o _ s w1 L1.out.o (by omega) GD.out).mono ?_
  rintro e w2 ⟨v2, l, at_, rfl, hd, ho2, hb2⟩
  have L2 := Lib.hid (L1.out.next hb2)
  have HD := Lib.hid hd
  have hll := dv_count GD.out hd.1
  have hal := hd.1.le
  rw [size_list] at hal
  obtain ⟨A2, c2, rfl, hr2⟩ := ints_of (nz_len l).symm ho2
  have R2 := Lib.hid hr2
  clear hb2 hd ho2 hr2 L1 a0 a1 a2
  have a0 := L2.out.o0
  have a1 := L2.out.o1
  have a2 := L2.out.o2
  go_wp2_with fail
  refine (units17 o _ s w2 L2.out.o (by omega) GD.out).mono ?_
  rintro e w3 ⟨v3, l', at', rfl, hd', ho3, hb3⟩
  obtain ⟨rfl, rfl⟩ := HD.out.unique hd'
  have L3 := Lib.hid (L2.out.next hb3)
  have R3 := Lib.hid (R2.out.step hb3)
  obtain ⟨A3, c3, rfl, hr3⟩ := ints_of (nz_len l).symm ho3
  have S3 := Lib.hid hr3
  clear hb3 hd' ho3 hr3 L2 R2 a0 a1 a2
  have a0 := L3.out.o0
  have a1 := L3.out.o1
  have a2 := L3.out.o2
  go_wp2_with fail
  refine (read18 o _ s w3 L3.out.o (by omega) GD.out).mono ?_
  rintro e w4 ⟨v4, out, p, q, rfl, hp, ho4, hb4⟩
  have L4 := Lib.hid (L3.out.next hb4)
  have HP := Lib.hid hp
  have hol := hp.len
  have R4 := Lib.hid (R3.out.step hb4)
  have S4 := Lib.hid (S3.out.step hb4)
  obtain ⟨A4, c4, rfl, hr4⟩ := ints_of rfl ho4
  have T4 := Lib.hid hr4
  clear hb4 hp ho4 hr4 L3 R3 S3 a0 a1 a2
  have a0 := L4.out.o0
  have a1 := L4.out.o1
  have a2 := L4.out.o2
  go_wp2_with fail
  refine (read19 o _ s w4 L4.out.o (by omega) GD.out).mono ?_
  rintro e w5 ⟨v5, out', p', q', rfl, hp', ho5, hb5⟩
  obtain ⟨rfl, rfl, rfl⟩ := HP.out.unique hp'
  have L5 := Lib.hid (L4.out.next hb5)
  have R5 := Lib.hid (R4.out.step hb5)
  have S5 := Lib.hid (S4.out.step hb5)
  have T5 := Lib.hid (T4.out.step hb5)
  obtain ⟨A5, c5, rfl, hr5⟩ := ints_of rfl ho5
  have U5 := Lib.hid hr5
  clear hb5 hp' ho5 hr5 L4 R4 S4 T4 a0 a1 a2
  have hnz := nz_len l
  have E1 := Lib.hid (same20 A2 A3 c2 c3 (nz l) (nz l) w5 (by omega) R5.out S5.out)
  rw [eqB_self] at E1
  have hpp : (p == p) = true := by simp
  have hqq : (q == q) = true := by simp
  clear hnz
  go_wp2_with fail
  refine E1.out.mono ?_
  rintro e w6 ⟨rfl, hb6⟩
  have L6 := Lib.hid (L5.out.next hb6)
  have T6 := Lib.hid (T5.out.step hb6)
  have U6 := Lib.hid (U5.out.step hb6)
  have E2 := Lib.hid (same20 A4 A5 c4 c5 out out w6 (by omega) T6.out U6.out)
  rw [eqB_self] at E2
  clear hb6 L5 E1 R5 S5 T5 U5
  go_wp2_with fail
  refine E2.out.mono ?_
  rintro e w7 ⟨rfl, hb7⟩
  have L7 := Lib.hid (L6.out.next hb7)
  clear hb7 L6 E2
  go_wp2_with fail
  refine (awake12 w7 L7.out.t).mono ?_
  rintro e w8 ⟨rfl, hb8⟩
  go_wp2_with fail
  go_ret
  exact ⟨rfl, (L7.out.next hb8).k⟩
end Go.Proofs.YtoechdnhgkelfaaDoor
