/-
  The law OrthoSpells: the walk.
-/
import Derived.Test.YtoechdnhgkelfaaDoorRight
namespace Go.Proofs.YtoechdnhgkelfaaDoor
open Go.RowKit Go.PlainAid

/-- What Exact answers. -/
noncomputable def exB (us : List U) (r : List Int) : Bool := @decide (ExP us r) (Classical.propDecidable _)
theorem exB_of {us : List U} {r : List Int} {b : Bool} (h : b = true ↔ ExP us r) : b = exB us r := by
  unfold exB
  by_cases hx : ExP us r
  · rw [h.2 hx]
    exact (@decide_eq_true _ (Classical.propDecidable _) hx).symm
  · have hb : b = false := by
      cases b
      · rfl
      · exact absurd (h.1 rfl) hx
    rw [hb]
    exact (@decide_eq_false _ (Classical.propDecidable _) hx).symm
set_option maxHeartbeats 1600000 in
set_option maxRecDepth 100000 in
theorem law5 (ps : List (ByteArray × Int)) (o : Ort) (A : Option Addr) (cap : Nat) (AU : Option Addr) (capU : Nat) (AL : Option Addr) (capL : Nat) (B : Option Addr) (r : List Int) (capB : Nat) (w : World) (hv : VAt w w.heap.size ps (.agg #[.slice A ps.length cap])) (ho : OAt w w.heap.size o (.agg #[.string o.name, .slice AU o.us.length capU, .slice AL o.ls.length capL])) (hT : Lib.Utf8Tabs 0 1 w) (hcb : r.length ≤ capB) (_hmx : capB ≤ 9223372036854775807) (hr : Ints w w.heap.size B r) :
    Calls Tryd.prog 5 #[.agg #[.slice A ps.length cap], .agg #[.string o.name, .slice AU o.us.length capU, .slice AL o.ls.length capL], .slice B r.length capB] w (True_ w) := by
  have L0 := Lib.hid (Ls.start hv ho hT)
  have R0 := Lib.hid (hr.step ((Ls.start hv ho hT).k))
  clear hv ho hT hr
  obtain ⟨W0, hW0⟩ : ∃ W0, (w.alloc (.cells #[.slice A ps.length cap] 24)).alloc (.cells #[.string o.name, .slice AU o.us.length capU, .slice AL o.ls.length capL] 28) = W0 := ⟨_, rfl⟩
  rw [hW0] at L0 R0
  have HW := Lib.hid hW0
  clear hW0
  go_enter Tryd.func5, Tryd.ntmps5
  go_wp2_with fail
  rw [HW.out]
  clear HW
  refine (right15 ps o A cap AU capU AL capL W0 L0.out.v L0.out.o L0.out.t).mono ?_
  rintro e w1 ⟨b, rfl, hg, hb1⟩
  have HG := Lib.hid hg
  have L1 := Lib.hid (L0.out.next hb1)
  have R1 := Lib.hid (R0.out.step hb1)
  clear hg hb1 L0 R0
  cases b
  · go_wp2_with fail
    refine (awake12 w1 L1.out.t).mono ?_
    rintro e w2 ⟨rfl, hb2⟩
    go_wp2_with fail
    go_ret
    exact ⟨rfl, (L1.out.next hb2).k⟩
  by_cases h500 : 100 < r.length
  · have h500' : (100 : Int) < (r.length : Int) := by omega
    go_wp2_with fail
    refine (awake12 w1 L1.out.t).mono ?_
    rintro e w2 ⟨rfl, hb2⟩
    go_wp2_with fail
    go_ret
    exact ⟨rfl, (L1.out.next hb2).k⟩
  have h500' : ¬ (100 : Int) < (r.length : Int) := by omega
  have GD := Lib.hid (HG.out rfl)
  clear HG
  have a0 := L1.out.o0
  have a1 := L1.out.o1
  have a2 := L1.out.o2
  go_wp2_with fail
  refine (spell21 o _ B capB r w1 L1.out.o R1.out hcb (by omega) GD.out).mono ?_
  rintro e w2 ⟨t, p, q, rfl, hd, hb2⟩
  have L2 := Lib.hid (L1.out.next hb2)
  have R2 := Lib.hid (R1.out.step hb2)
  have HD := Lib.hid hd
  clear hb2 hd L1 R1 a0 a1 a2
  have a0 := L2.out.o0
  have a1 := L2.out.o1
  have a2 := L2.out.o2
  go_wp2_with fail
  refine (spell22 o _ B capB r w2 L2.out.o R2.out (by omega) GD.out).mono ?_
  rintro e w3 ⟨t', p', q', rfl, hd', hb3⟩
  obtain ⟨rfl, rfl, rfl⟩ := HD.out.unique hd'
  have L3 := Lib.hid (L2.out.next hb3)
  have R3 := Lib.hid (R2.out.step hb3)
  clear hb3 hd' L2 R2 a0 a1 a2
  have inst : Nonempty (WS (Below w3.heap.size w3)) := ⟨⟨_, Below.refl _ _⟩⟩
  have f0 : ∀ x : WS (Below w3.heap.size w3), x.w.cell? ⟨w.heap.size + 1, 0, none⟩ = some (.string o.name) := fun x => (L3.out.next x.h).o0
  have f1 : ∀ x : WS (Below w3.heap.size w3), x.w.cell? ⟨w.heap.size + 1, 1, none⟩ = some (.slice AU o.us.length capU) := fun x => (L3.out.next x.h).o1
  have f2 : ∀ x : WS (Below w3.heap.size w3), x.w.cell? ⟨w.heap.size + 1, 2, none⟩ = some (.slice AL o.ls.length capL) := fun x => (L3.out.next x.h).o2
  have HC := Lib.hid (show ∀ x : WS (Below w3.heap.size w3), Calls Tryd.prog 23 #[.agg #[.string o.name, .slice AU o.us.length capU, .slice AL o.ls.length capL], .slice B r.length capB] x.w fun e w' => e = .returned (.bool (exB o.us r)) ∧ ∃ y : WS (Below w3.heap.size w3), w' = y.w from fun x =>
    (exact23 o _ B capB r x.w (L3.out.next x.h).o (R3.out.step x.h) hcb (by omega) GD.out).mono fun e w' ⟨b, he, hb, hb'⟩ => ⟨by rw [he, exB_of hb], ⟨w', x.h.trans (hb'.mono x.h.size)⟩, rfl⟩)
  have HE := Lib.hid (show ∀ x : WS (Below w3.heap.size w3), Calls Tryd.prog 24 #[.agg #[.string o.name, .slice AU o.us.length capU, .slice AL o.ls.length capL], .slice B r.length capB] x.w fun e w' => e = .returned (.bool (exB o.us r)) ∧ ∃ y : WS (Below w3.heap.size w3), w' = y.w from fun x =>
    (exact24 o _ B capB r x.w (L3.out.next x.h).o (R3.out.step x.h) (by omega) GD.out).mono fun e w' ⟨b, he, hb, hb'⟩ => ⟨by rw [he, exB_of hb], ⟨w', x.h.trans (hb'.mono x.h.size)⟩, rfl⟩)
  have HA := Lib.hid (show ∀ x : WS (Below w3.heap.size w3), Calls Tryd.prog 12 #[] x.w fun e w' => e = .returned (.bool true) ∧ ∃ y : WS (Below w3.heap.size w3), w' = y.w from fun x =>
    (awake12 x.w (L3.out.next x.h).t).mono fun e w' ⟨he, hb'⟩ => ⟨he, ⟨w', x.h.trans (hb'.mono x.h.size)⟩, rfl⟩)
  have htt : ((⟨t.toArray⟩ : ByteArray).toList == (⟨t.toArray⟩ : ByteArray).toList) = true := by simp
  have hpp : (p == p) = true := by simp
  have hqq : (q == q) = true := by simp
  obtain ⟨bx, hbx⟩ : ∃ bx, exB o.us r = bx := ⟨_, rfl⟩
  rw [hbx] at HC HE
  clear hbx
  have hbb : (bx == bx) = true := by simp
  have hD0 := Lib.hid (Below.refl w3.heap.size w3)
  go_wp2_with fail
  refine region_sub (Below w3.heap.size w3) (by kernel_rfl) (by kernel_rfl) hD0.out.drew ?_
  repeat (first | go_big_quiet_step ((first | (go_at_call 23; exact HC.out _) | (go_at_call 24; exact HE.out _) | (go_at_call 12; exact HA.out _))) | quiet_step ((first | (go_at_call 23; exact HC.out _) | (go_at_call 24; exact HE.out _) | (go_at_call 12; exact HA.out _))))
  refine wpQuiet_nil ?_
  intro _ hw'
  obtain ⟨x, hw''⟩ := hw'
  subst hw''
  have hbx := x.h
  go_wp2_with fail
  go_ret
  exact ⟨rfl, (L3.out.next hbx).k⟩
end Go.Proofs.YtoechdnhgkelfaaDoor
