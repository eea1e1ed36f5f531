/-
  What Exact of the program and of the reference returns.
-/
import Derived.Test.YtoechdnhgkelfaaDoorSpellR
namespace Go.Proofs.YtoechdnhgkelfaaDoor
open Go.RowKit Go.PlainAid Pl
/-- A word that is read back. -/
def ExP (us : List U) (r : List Int) : Prop := ∃ t : List UInt8, SpP us r t 0 0 ∧ RdP us t r 0 0
theorem SpP.zero {us : List U} {r : List Int} {t : List UInt8} {p : Int} (h : SpP us r t p 0) : p = 0 := by
  rcases h with ⟨_, _, _, h⟩ | ⟨_, _, _, h⟩ | ⟨_, _, _, _, _, ⟨_, _, _, h⟩ | ⟨_, _, h, _⟩⟩
  · omega
  · omega
  · omega
  · exact h
theorem RdP.zero {us : List U} {s : List UInt8} {o : List Int} {p : Int} (h : RdP us s o p 0) : p = 0 := by
  rcases h with ⟨_, _, _, h⟩ | ⟨_, _, _, _, ⟨_, _, _, h⟩ | ⟨_, _, _, _, h⟩ | ⟨_, _, _, h, _⟩⟩
  · omega
  · omega
  · omega
  · exact h
theorem ExP.no1 {us : List U} {r : List Int} {t : List UInt8} {p q : Int} (h : SpP us r t p q) (hq : q ≠ 0) : ¬ ExP us r := fun ⟨_, h1, _⟩ => hq (h.unique h1).2.2
theorem ExP.no2 {us : List U} {r : List Int} {t : List UInt8} {p p' q' : Int} {o : List Int} (h : SpP us r t p 0) (h' : RdP us t o p' q') (hq : q' ≠ 0) : ¬ ExP us r := fun ⟨t', h1, h2⟩ => by
  obtain ⟨rfl, _⟩ := h.unique h1
  exact hq (h'.unique h2).2.2
theorem ExP.iff {us : List U} {r : List Int} {t : List UInt8} {p p' : Int} {o : List Int} (h : SpP us r t p 0) (h' : RdP us t o p' 0) : eqB o r = true ↔ ExP us r := by
  rw [eqB_true]
  constructor
  · rintro rfl
    refine ⟨t, ?_, ?_⟩
    · have := h.zero; subst this; exact h
    · have := h'.zero; subst this; exact h'
  · rintro ⟨t', h1, h2⟩
    obtain ⟨rfl, _⟩ := h.unique h1
    exact (h'.unique h2).1
def ExactOut (us : List U) (r : List Int) (w : World) (e : Ending) (w' : World) : Prop := ∃ b : Bool, e = .returned (.bool b) ∧ (b = true ↔ ExP us r) ∧ Below w.heap.size w w'
set_option maxHeartbeats 1600000 in
set_option maxRecDepth 100000 in
theorem exact23 (o : Ort) (vo : Value) (A : Option Addr) (cap : Nat) (r : List Int) (w : World) (ho : OAt w w.heap.size o vo) (hr : Ints w w.heap.size A r) (hcap : r.length ≤ cap) (hl : r.length ≤ 1000) (hg : Good o.us) :
    Calls Tryd.prog 23 #[vo, .slice A r.length cap] w (ExactOut o.us r w) := by
  have HO := Lib.hid ho
  obtain ⟨AU, capU, AL, capL, rfl, hU, hL⟩ := ho
  obtain ⟨d0, d1, d2⟩ := box_o w o.name (.slice AU o.us.length capU) (.slice AL o.ls.length capL) 28
  have hbw := below_one w (.cells #[.string o.name, .slice AU o.us.length capU, .slice AL o.ls.length capL] 28)
  have hz := size_one w (.cells #[.string o.name, .slice AU o.us.length capU, .slice AL o.ls.length capL] 28)
  obtain ⟨w2, hw2⟩ : ∃ w2, w.alloc (.cells #[.string o.name, .slice AU o.us.length capU, .slice AL o.ls.length capL] 28) = w2 := ⟨_, rfl⟩
  rw [hw2] at d0 d1 d2 hbw hz
  have HR2 := Lib.hid ((hr.keep fun _ hp => hbw.cell hp : Ints w2 _ _ _).more hbw.size)
  have HO2 := Lib.hid (HO.out.below hbw)
  have HW2 := Lib.hid hw2
  have HZ := Lib.hid hz
  have HG := Lib.hid hg
  clear hU hL hw2 hz hr hg
  go_enter Tryd.func23, Tryd.ntmps23
  go_wp2_with fail
  rw [HW2.out]
  clear HW2
  refine (spell21 o _ A cap r w2 HO2.out HR2.out hcap hl HG.out).mono ?_
  rintro e w3 ⟨t, p, q, rfl, hsp, hb3⟩
  have HS := Lib.hid hsp
  have htl := hsp.len HG.out
  clear hsp
  by_cases hq : q = 0
  · subst hq
    have hlt2 : w.heap.size < w2.heap.size := by have := HZ.out; omega
    have e0 := (hb3.cell (p := ⟨w.heap.size, 0, none⟩) hlt2).trans d0
    have e1 := (hb3.cell (p := ⟨w.heap.size, 1, none⟩) hlt2).trans d1
    have e2 := (hb3.cell (p := ⟨w.heap.size, 2, none⟩) hlt2).trans d2
    have HO3 := Lib.hid (HO2.out.below hb3)
    have HR3 := Lib.hid ((HR2.out.keep fun _ hp => hb3.cell hp : Ints w3 _ _ _).more hb3.size)
    have k3 := hbw.trans (hb3.mono hbw.size)
    clear hb3 d0 d1 d2 HO2 HR2
    go_wp2_with fail
    refine (read18 o _ ⟨t.toArray⟩ w3 HO3.out (by rw [str_size]; omega) HG.out).mono ?_
    rintro e w4 ⟨v, out, p', q', rfl, hrd, hown, hb4⟩
    rw [str_data] at hrd
    have hol := hrd.len
    have HRD := Lib.hid hrd
    obtain ⟨A2, cap2, rfl, hr2⟩ := ints_of rfl hown
    have HI2 := Lib.hid hr2
    have HR4 := Lib.hid ((HR3.out.keep fun _ hp => hb4.cell hp : Ints w4 _ _ _).more hb4.size)
    have k4 := k3.trans (hb4.mono k3.size)
    clear hrd hown hr2 hb4 e0 e1 e2 HO3 HR3 k3
    by_cases hq' : q' = 0
    · subst hq'
      have HX := Lib.hid (ExP.iff HS.out HRD.out)
      go_wp2_with fail
      refine (same42 A2 A cap2 cap out r w4 (by omega) HI2.out HR4.out).mono ?_
      rintro e w5 ⟨rfl, hb5⟩
      generalize eqB out r = b at HX
      go_wp2_with fail
      go_ret
      exact ⟨b, rfl, HX.out, k4.trans (hb5.mono k4.size)⟩
    · have HX := Lib.hid (ExP.no2 HS.out HRD.out hq')
      have hqb : (q' == 0) = false := beq_eq_false_iff_ne.2 hq'
      clear hq'
      go_wp2_with fail
      go_ret
      exact ⟨false, rfl, ⟨(fun h => nomatch h), fun h => absurd h HX.out⟩, k4⟩
  · have HX := Lib.hid (ExP.no1 HS.out hq)
    have hqb : (q != 0) = true := bne_iff_ne.2 hq
    clear hq
    go_wp2_with fail
    go_ret
    exact ⟨false, rfl, ⟨(fun h => nomatch h), fun h => absurd h HX.out⟩, hbw.trans (hb3.mono hbw.size)⟩
set_option maxHeartbeats 1600000 in
set_option maxRecDepth 100000 in
theorem exact24 (o : Ort) (vo : Value) (A : Option Addr) (cap : Nat) (r : List Int) (w : World) (ho : OAt w w.heap.size o vo) (hr : Ints w w.heap.size A r) (hl : r.length ≤ 1000) (hg : Good o.us) :
    Calls Tryd.prog 24 #[vo, .slice A r.length cap] w (ExactOut o.us r w) := by
  have HO := Lib.hid ho
  obtain ⟨AU, capU, AL, capL, rfl, hU, hL⟩ := ho
  obtain ⟨d0, d1, d2⟩ := box_o w o.name (.slice AU o.us.length capU) (.slice AL o.ls.length capL) 28
  have hbw := below_one w (.cells #[.string o.name, .slice AU o.us.length capU, .slice AL o.ls.length capL] 28)
  have hz := size_one w (.cells #[.string o.name, .slice AU o.us.length capU, .slice AL o.ls.length capL] 28)
  obtain ⟨w2, hw2⟩ : ∃ w2, w.alloc (.cells #[.string o.name, .slice AU o.us.length capU, .slice AL o.ls.length capL] 28) = w2 := ⟨_, rfl⟩
  rw [hw2] at d0 d1 d2 hbw hz
  have HR2 := Lib.hid ((hr.keep fun _ hp => hbw.cell hp : Ints w2 _ _ _).more hbw.size)
  have HO2 := Lib.hid (HO.out.below hbw)
  have HW2 := Lib.hid hw2
  have HZ := Lib.hid hz
  have HG := Lib.hid hg
  clear hU hL hw2 hz hr hg
  go_enter Tryd.func24, Tryd.ntmps24
  go_wp2_with fail
  rw [HW2.out]
  clear HW2
  refine (spell22 o _ A cap r w2 HO2.out HR2.out hl HG.out).mono ?_
  rintro e w3 ⟨t, p, q, rfl, hsp, hb3⟩
  have HS := Lib.hid hsp
  have htl := hsp.len HG.out
  clear hsp
  by_cases hq : q = 0
  · subst hq
    have hlt2 : w.heap.size < w2.heap.size := by have := HZ.out; omega
    have e0 := (hb3.cell (p := ⟨w.heap.size, 0, none⟩) hlt2).trans d0
    have e1 := (hb3.cell (p := ⟨w.heap.size, 1, none⟩) hlt2).trans d1
    have e2 := (hb3.cell (p := ⟨w.heap.size, 2, none⟩) hlt2).trans d2
    have HO3 := Lib.hid (HO2.out.below hb3)
    have HR3 := Lib.hid ((HR2.out.keep fun _ hp => hb3.cell hp : Ints w3 _ _ _).more hb3.size)
    have k3 := hbw.trans (hb3.mono hbw.size)
    clear hb3 d0 d1 d2 HO2 HR2
    go_wp2_with fail
    refine (read19 o _ ⟨t.toArray⟩ w3 HO3.out (by rw [str_size]; omega) HG.out).mono ?_
    rintro e w4 ⟨v, out, p', q', rfl, hrd, hown, hb4⟩
    rw [str_data] at hrd
    have hol := hrd.len
    have HRD := Lib.hid hrd
    obtain ⟨A2, cap2, rfl, hr2⟩ := ints_of rfl hown
    have HI2 := Lib.hid hr2
    have HR4 := Lib.hid ((HR3.out.keep fun _ hp => hb4.cell hp : Ints w4 _ _ _).more hb4.size)
    have k4 := k3.trans (hb4.mono k3.size)
    clear hrd hown hr2 hb4 e0 e1 e2 HO3 HR3 k3
    by_cases hq' : q' = 0
    · subst hq'
      have HX := Lib.hid (ExP.iff HS.out HRD.out)
      go_wp2_with fail
      refine (same43 A2 A cap2 cap out r w4 (by omega) HI2.out HR4.out).mono ?_
      rintro e w5 ⟨rfl, hb5⟩
      generalize eqB out r = b at HX
      go_wp2_with fail
      go_ret
      exact ⟨b, rfl, HX.out, k4.trans (hb5.mono k4.size)⟩
    · have HX := Lib.hid (ExP.no2 HS.out HRD.out hq')
      have hqb : (q' == 0) = false := beq_eq_false_iff_ne.2 hq'
      clear hq'
      go_wp2_with fail
      go_ret
      exact ⟨false, rfl, ⟨(fun h => nomatch h), fun h => absurd h HX.out⟩, k4⟩
  · have HX := Lib.hid (ExP.no1 HS.out hq)
    have hqb : (q != 0) = true := bne_iff_ne.2 hq
    clear hq
    go_wp2_with fail
    go_ret
    exact ⟨false, rfl, ⟨(fun h => nomatch h), fun h => absurd h HX.out⟩, hbw.trans (hb3.mono hbw.size)⟩
end Go.Proofs.YtoechdnhgkelfaaDoor
