/-
  The law OrthoCheck: the walk.
-/
import Derived.Test.YtoechdnhgkelfaaDoorLetters
namespace Go.Proofs.YtoechdnhgkelfaaDoor
open Go.RowKit Go.PlainAid

/-- What Check answers. -/
noncomputable def chkV (np : Nat) (o : Ort) : Int := Classical.epsilon (ChkP np o)
theorem chkV_of {np : Nat} {o : Ort} {q : Int} (h : ChkP np o q) : q = chkV np o := h.unique (Classical.epsilon_spec (p := ChkP np o) ⟨q, h⟩)
theorem chkG_of {np : Nat} {o : Ort} {q : Int} (h : ChkG PlQ np o q) : q = chkV np o := by
  rw [pl_eq] at h
  exact chkV_of ((chkP_is np o q).2 h)
theorem ucap_of {nm : ByteArray} {A C : Option Addr} {n cap m c2 : Nat} (h : n ≤ cap) : UCap (.agg #[.string nm, .slice A n cap, .slice C m c2]) := by
  intro nm' A' n' cap' B' m' c2' he
  simp at he
  obtain ⟨_, ⟨_, rfl, rfl⟩, _⟩ := he
  exact h
set_option maxHeartbeats 1600000 in
set_option maxRecDepth 100000 in
theorem law3 (ps : List (ByteArray × Int)) (o : Ort) (A : Option Addr) (cap : Nat) (AU : Option Addr) (capU : Nat) (AL : Option Addr) (capL : Nat) (w : World) (hv : VAt w w.heap.size ps (.agg #[.slice A ps.length cap])) (ho : OAt w w.heap.size o (.agg #[.string o.name, .slice AU o.us.length capU, .slice AL o.ls.length capL])) (hcu : o.us.length ≤ capU) (hT : Lib.Utf8Tabs 0 1 w) :
    Calls Tryd.prog 3 #[.agg #[.slice A ps.length cap], .agg #[.string o.name, .slice AU o.us.length capU, .slice AL o.ls.length capL]] w (True_ w) := by
  have L0 := Lib.hid (Ls.start hv ho hT)
  clear hv ho hT
  obtain ⟨W0, hW0⟩ : ∃ W0, (w.alloc (.cells #[.slice A ps.length cap] 24)).alloc (.cells #[.string o.name, .slice AU o.us.length capU, .slice AL o.ls.length capL] 28) = W0 := ⟨_, rfl⟩
  rw [hW0] at L0
  have HW := Lib.hid hW0
  clear hW0
  go_enter Tryd.func3, Tryd.ntmps3
  go_wp2_with fail
  rw [HW.out]
  clear HW
  refine (few10 ps o _ _ W0 L0.out.v L0.out.o).mono ?_
  rintro e w1 ⟨b, rfl, hf, hb1⟩
  have HF := Lib.hid hf
  have L1 := Lib.hid (L0.out.next hb1)
  clear hf hb1 L0
  cases b
  · go_wp2_with fail
    refine (awake12 w1 L1.out.t).mono ?_
    rintro e wz ⟨rfl, hbz⟩
    go_wp2_with fail
    go_ret
    exact ⟨rfl, (L1.out.next hbz).k⟩
  have FW := Lib.hid (HF.out rfl)
  clear HF
  have a := L1.out.i0
  go_wp2_with fail
  refine (check11 ps _ w1 L1.out.v FW.out.pn FW.out.p).mono ?_
  rintro e w2 ⟨q, rfl, _, hb2⟩
  have L2 := Lib.hid (L1.out.next hb2)
  clear hb2 L1 a
  by_cases hq : q = 0
  case neg =>
    have hq' : (q != 0) = true := by simp [hq]
    go_wp2_with fail
    refine (awake12 w2 L2.out.t).mono ?_
    rintro e wz ⟨rfl, hbz⟩
    go_wp2_with fail
    go_ret
    exact ⟨rfl, (L2.out.next hbz).k⟩
  subst hq
  have inst : Nonempty (WS (Below w2.heap.size w2)) := ⟨⟨_, Below.refl _ _⟩⟩
  have fi : ∀ x : WS (Below w2.heap.size w2), x.w.cell? ⟨w.heap.size, 0, none⟩ = some (.slice A ps.length cap) := fun x => (L2.out.next x.h).i0
  have f0 : ∀ x : WS (Below w2.heap.size w2), x.w.cell? ⟨w.heap.size + 1, 0, none⟩ = some (.string o.name) := fun x => (L2.out.next x.h).o0
  have f1 : ∀ x : WS (Below w2.heap.size w2), x.w.cell? ⟨w.heap.size + 1, 1, none⟩ = some (.slice AU o.us.length capU) := fun x => (L2.out.next x.h).o1
  have f2 : ∀ x : WS (Below w2.heap.size w2), x.w.cell? ⟨w.heap.size + 1, 2, none⟩ = some (.slice AL o.ls.length capL) := fun x => (L2.out.next x.h).o2
  have HC := Lib.hid (show ∀ x : WS (Below w2.heap.size w2), Calls Tryd.prog 13 #[.agg #[.slice A ps.length cap], .agg #[.string o.name, .slice AU o.us.length capU, .slice AL o.ls.length capL]] x.w fun e w' => e = .returned (.int .i64 (chkV ps.length o)) ∧ ∃ y : WS (Below w2.heap.size w2), w' = y.w from fun x =>
    (check13 ps o _ _ x.w (L2.out.next x.h).v (L2.out.next x.h).o FW.out (ucap_of hcu) (L2.out.next x.h).t (letters32 ps o _ FW.out)).mono fun e w' ⟨q, he, hq, hb'⟩ => ⟨by rw [he, chkG_of hq], ⟨w', x.h.trans (hb'.mono x.h.size)⟩, rfl⟩)
  have HE := Lib.hid (show ∀ x : WS (Below w2.heap.size w2), Calls Tryd.prog 14 #[.agg #[.slice A ps.length cap], .agg #[.string o.name, .slice AU o.us.length capU, .slice AL o.ls.length capL]] x.w fun e w' => e = .returned (.int .i64 (chkV ps.length o)) ∧ ∃ y : WS (Below w2.heap.size w2), w' = y.w from fun x =>
    (check14 ps o _ _ x.w (L2.out.next x.h).v (L2.out.next x.h).o FW.out).mono fun e w' ⟨q, he, hq, hb'⟩ => ⟨by rw [he, chkV_of hq], ⟨w', x.h.trans (hb'.mono x.h.size)⟩, rfl⟩)
  have HA := Lib.hid (show ∀ x : WS (Below w2.heap.size w2), Calls Tryd.prog 12 #[] x.w fun e w' => e = .returned (.bool true) ∧ ∃ y : WS (Below w2.heap.size w2), w' = y.w from fun x =>
    (awake12 x.w (L2.out.next x.h).t).mono fun e w' ⟨he, hb'⟩ => ⟨he, ⟨w', x.h.trans (hb'.mono x.h.size)⟩, rfl⟩)
  obtain ⟨cv, hcv⟩ : ∃ cv, chkV ps.length o = cv := ⟨_, rfl⟩
  rw [hcv] at HC HE
  clear hcv
  have hcc : (cv == cv) = true := by simp
  have hD0 := Lib.hid (Below.refl w2.heap.size w2)
  go_wp2_with fail
  refine region_sub (Below w2.heap.size w2) (by kernel_rfl) (by kernel_rfl) hD0.out.drew ?_
  repeat (first | go_big_quiet_step ((first | (go_at_call 13; exact HC.out _) | (go_at_call 14; exact HE.out _) | (go_at_call 12; exact HA.out _))) | quiet_step ((first | (go_at_call 13; exact HC.out _) | (go_at_call 14; exact HE.out _) | (go_at_call 12; exact HA.out _))))
  refine wpQuiet_nil ?_
  intro _ hw'
  obtain ⟨x, hw''⟩ := hw'
  subst hw''
  have hbx := x.h
  go_wp2_with fail
  go_ret
  exact ⟨rfl, (L2.out.next hbx).k⟩
end Go.Proofs.YtoechdnhgkelfaaDoor
