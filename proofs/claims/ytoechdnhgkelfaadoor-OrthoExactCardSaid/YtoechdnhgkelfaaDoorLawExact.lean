/-
  The law OrthoExact: the walk.
-/
import Derived.Test.YtoechdnhgkelfaaDoorRight
namespace Go.Proofs.YtoechdnhgkelfaaDoor
open Go.RowKit Go.PlainAid

section
variable {o : Ort} {vo : Value} {A : Option Addr} {cap : Nat} {r : List Int} {w : World}
theorem exact_yes (ho : OAt w w.heap.size o vo) (hr : Ints w w.heap.size A r) (hcap : r.length ≤ cap) (hl : r.length ≤ 1000) (hg : Good o.us) (hx : ExP o.us r) :
    Calls Tryd.prog 23 #[vo, .slice A r.length cap] w (fun e w' => e = .returned (.bool true) ∧ Below w.heap.size w w') :=
  (exact23 o vo A cap r w ho hr hcap hl hg).mono fun e w' ⟨b, he, hb, hb'⟩ => ⟨by rw [he, hb.2 hx], hb'⟩
theorem exact_no (ho : OAt w w.heap.size o vo) (hr : Ints w w.heap.size A r) (hcap : r.length ≤ cap) (hl : r.length ≤ 1000) (hg : Good o.us) (hx : ¬ ExP o.us r) :
    Calls Tryd.prog 23 #[vo, .slice A r.length cap] w (fun e w' => e = .returned (.bool false) ∧ Below w.heap.size w w') :=
  (exact23 o vo A cap r w ho hr hcap hl hg).mono fun e w' ⟨b, he, hb, hb'⟩ => ⟨by
    cases b
    · exact he
    · exact absurd (hb.1 rfl) hx, hb'⟩
end
theorem ExP.spell {us : List U} {r : List Int} {t : List UInt8} {p q : Int} (hx : ExP us r) (h : SpP us r t p q) : q = 0 ∧ RdP us t r 0 0 := by
  obtain ⟨t', h1, h2⟩ := hx
  obtain ⟨rfl, rfl, rfl⟩ := h.unique h1
  exact ⟨rfl, h2⟩
/-- Words that are exact are spelled alike where they are alike, and there alone. -/
theorem ExP.apart {us : List U} {r r' : List Int} {t t' : List UInt8} {p q p' q' : Int} (hx : ExP us r) (hx' : ExP us r') (h : SpP us r t p q) (h' : SpP us r' t' p' q') : (t == t') = eqB r r' := by
  by_cases e : r = r'
  · subst e
    obtain ⟨rfl, _⟩ := h.unique h'
    rw [eqB_self]
    simp
  · have h2 : eqB r r' = false := by
      cases hq : eqB r r'
      · rfl
      · exact absurd (eqB_true.1 hq) e
    rw [h2, beq_eq_false_iff_ne]
    intro ht
    subst ht
    exact e ((hx.spell h).2.unique (hx'.spell h').2).1
set_option maxHeartbeats 1600000 in
set_option maxRecDepth 100000 in
theorem law8 (ps : List (ByteArray × Int)) (o : Ort) (A : Option Addr) (cap : Nat) (AU : Option Addr) (capU : Nat) (AL : Option Addr) (capL : Nat) (B : Option Addr) (r : List Int) (capB : Nat) (C : Option Addr) (s : List Int) (capC : Nat) (w : World) (hv : VAt w w.heap.size ps (.agg #[.slice A ps.length cap])) (ho : OAt w w.heap.size o (.agg #[.string o.name, .slice AU o.us.length capU, .slice AL o.ls.length capL])) (hT : Lib.Utf8Tabs 0 1 w) (hcb : r.length ≤ capB) (_hmb : capB ≤ 9223372036854775807) (hr : Ints w w.heap.size B r) (hcc : s.length ≤ capC) (_hmc : capC ≤ 9223372036854775807) (hs : Ints w w.heap.size C s) :
    Calls Tryd.prog 8 #[.agg #[.slice A ps.length cap], .agg #[.string o.name, .slice AU o.us.length capU, .slice AL o.ls.length capL], .slice B r.length capB, .slice C s.length capC] w (True_ w) := by
  have L0 := Lib.hid (Ls.start hv ho hT)
  have R0 := Lib.hid (hr.step ((Ls.start hv ho hT).k))
  have S0 := Lib.hid (hs.step ((Ls.start hv ho hT).k))
  clear hv ho hT hr hs
  obtain ⟨W0, hW0⟩ : ∃ W0, (w.alloc (.cells #[.slice A ps.length cap] 24)).alloc (.cells #[.string o.name, .slice AU o.us.length capU, .slice AL o.ls.length capL] 28) = W0 := ⟨_, rfl⟩
  rw [hW0] at L0 R0 S0
  have HW := Lib.hid hW0
  clear hW0
  go_enter Tryd.func8, Tryd.ntmps8
  go_wp2_with fail
  rw [HW.out]
  clear HW
  refine (right15 ps o A cap AU capU AL capL W0 L0.out.v L0.out.o L0.out.t).mono ?_
  rintro e w1 ⟨b, rfl, hg, hb1⟩
  have HG := Lib.hid hg
  have L1 := Lib.hid (L0.out.next hb1)
  have R1 := Lib.hid (R0.out.step hb1)
  have S1 := Lib.hid (S0.out.step hb1)
  clear hg hb1 L0 R0 S0
  cases b
  · go_wp2_with fail
    refine (awake12 w1 L1.out.t).mono ?_
    rintro e wz ⟨rfl, hbz⟩
    go_wp2_with fail
    go_ret
    exact ⟨rfl, (L1.out.next hbz).k⟩
  by_cases h500 : 100 < r.length
  · have h500' : (100 : Int) < (r.length : Int) := by omega
    go_wp2_with fail
    refine (awake12 w1 L1.out.t).mono ?_
    rintro e wz ⟨rfl, hbz⟩
    go_wp2_with fail
    go_ret
    exact ⟨rfl, (L1.out.next hbz).k⟩
  have h500' : ¬ (100 : Int) < (r.length : Int) := by omega
  by_cases h600 : 100 < s.length
  · have h600' : (100 : Int) < (s.length : Int) := by omega
    go_wp2_with fail
    refine (awake12 w1 L1.out.t).mono ?_
    rintro e wz ⟨rfl, hbz⟩
    go_wp2_with fail
    go_ret
    exact ⟨rfl, (L1.out.next hbz).k⟩
  have h600' : ¬ (100 : Int) < (s.length : Int) := by omega
  have GD := Lib.hid (HG.out rfl)
  clear HG
  have a0 := L1.out.o0
  have a1 := L1.out.o1
  have a2 := L1.out.o2
  go_wp2_with fail
  refine (spell21 o _ B capB r w1 L1.out.o R1.out hcb (by omega) GD.out).mono ?_
  rintro e w2 ⟨t, p, q, rfl, hd, hb2⟩
  have L2 := Lib.hid (L1.out.next hb2)
  have R2 := Lib.hid (R1.out.step hb2)
  have S2 := Lib.hid (S1.out.step hb2)
  have HD := Lib.hid hd
  have htl := hd.len GD.out
  clear hb2 hd L1 R1 S1 a0 a1 a2
  have a0 := L2.out.o0
  have a1 := L2.out.o1
  have a2 := L2.out.o2
  go_wp2_with fail
  refine (spell21 o _ C capC s w2 L2.out.o S2.out hcc (by omega) GD.out).mono ?_
  rintro e w3 ⟨t', p', q', rfl, hd', hb3⟩
  have L3 := Lib.hid (L2.out.next hb3)
  have R3 := Lib.hid (R2.out.step hb3)
  have S3 := Lib.hid (S2.out.step hb3)
  have HE := Lib.hid hd'
  clear hb3 hd' L2 R2 S2 a0 a1 a2
  have a0 := L3.out.o0
  have a1 := L3.out.o1
  have a2 := L3.out.o2
  have hsz : (⟨t.toArray⟩ : ByteArray).size = t.length := by simp [ByteArray.size]
  go_wp2_with fail
  refine (read18 o _ ⟨t.toArray⟩ w3 L3.out.o (by omega) GD.out).mono ?_
  rintro e w4 ⟨v4, out, p4, q4, rfl, hp, ho4, hb4⟩
  have L4 := Lib.hid (L3.out.next hb4)
  have R4 := Lib.hid (R3.out.step hb4)
  have S4 := Lib.hid (S3.out.step hb4)
  have HP := Lib.hid (show RdP o.us t out p4 q4 by simpa using hp)
  have hol := hp.len
  obtain ⟨A4, c4, rfl, hr4⟩ := ints_of rfl ho4
  have T4 := Lib.hid hr4
  clear hb4 hp ho4 hr4 L3 R3 S3 a0 a1 a2
  have a0 := L4.out.o0
  have a1 := L4.out.o1
  have a2 := L4.out.o2
  by_cases hx : ExP o.us r
  · obtain ⟨rfl, hrd⟩ := hx.spell HD.out
    obtain ⟨hor, rfl, rfl⟩ := HP.out.unique hrd
    have hro := hor.symm
    clear hor
    subst hro
    have HX := Lib.hid hx
    clear hx hrd
    go_wp2_with fail
    refine (exact_yes L4.out.o R4.out hcb (by omega) GD.out HX.out).mono ?_
    rintro e w5 ⟨rfl, hb5⟩
    have L5 := Lib.hid (L4.out.next hb5)
    have R5 := Lib.hid (R4.out.step hb5)
    have S5 := Lib.hid (S4.out.step hb5)
    have T5 := Lib.hid (T4.out.step hb5)
    clear hb5 L4 a0 a1 a2
    have a0 := L5.out.o0
    have a1 := L5.out.o1
    have a2 := L5.out.o2
    have E1 := Lib.hid (same20 A4 B c4 capB r r w5 (by omega) T5.out R5.out)
    rw [eqB_self] at E1
    go_wp2_with fail
    refine E1.out.mono ?_
    clear E1
    rintro e w6 ⟨rfl, hb6⟩
    have L6 := Lib.hid (L5.out.next hb6)
    have R6 := Lib.hid (R5.out.step hb6)
    have S6 := Lib.hid (S5.out.step hb6)
    clear hb6 L5 a0 a1 a2
    have a0 := L6.out.o0
    have a1 := L6.out.o1
    have a2 := L6.out.o2
    go_wp2_with fail
    refine (exact_yes L6.out.o R6.out hcb (by omega) GD.out HX.out).mono ?_
    rintro e w7 ⟨rfl, hb7⟩
    have L7 := Lib.hid (L6.out.next hb7)
    have R7 := Lib.hid (R6.out.step hb7)
    have S7 := Lib.hid (S6.out.step hb7)
    clear hb7 L6 a0 a1 a2
    have a0 := L7.out.o0
    have a1 := L7.out.o1
    have a2 := L7.out.o2
    by_cases hy : ExP o.us s
    · obtain ⟨rfl, _⟩ := hy.spell HE.out
      have hst := HX.out.apart hy HD.out HE.out
      have HY := Lib.hid hy
      clear hy
      go_wp2_with fail
      refine (exact_yes L7.out.o S7.out hcc (by omega) GD.out HY.out).mono ?_
      rintro e w8 ⟨rfl, hb8⟩
      have L8 := Lib.hid (L7.out.next hb8)
      have R8 := Lib.hid (R7.out.step hb8)
      have S8 := Lib.hid (S7.out.step hb8)
      clear hb8 L7 a0 a1 a2
      have a0 := L8.out.o0
      have a1 := L8.out.o1
      have a2 := L8.out.o2
      have E1 := Lib.hid (same20 B C capB capC r s w8 (by omega) R8.out S8.out)
      obtain ⟨bx, hbx⟩ : ∃ bx, eqB r s = bx := ⟨_, rfl⟩
      rw [hbx] at hst E1
      clear hbx
      have hbb : (bx == bx) = true := by simp
      go_wp2_with fail
      refine E1.out.mono ?_
      clear E1
      rintro e w9 ⟨rfl, hb9⟩
      have L9 := Lib.hid (L8.out.next hb9)
      clear hb9 L8 a0 a1 a2
      have a0 := L9.out.o0
      have a1 := L9.out.o1
      have a2 := L9.out.o2
      go_wp2_with fail
      refine (awake12 w9 L9.out.t).mono ?_
      rintro e wz ⟨rfl, hbz⟩
      go_wp2_with fail
      go_ret
      exact ⟨rfl, (L9.out.next hbz).k⟩
    · go_wp2_with fail
      refine (exact_no L7.out.o S7.out hcc (by omega) GD.out hy).mono ?_
      rintro e w8 ⟨rfl, hb8⟩
      have L8 := Lib.hid (L7.out.next hb8)
      clear hb8 L7 a0 a1 a2
      have a0 := L8.out.o0
      have a1 := L8.out.o1
      have a2 := L8.out.o2
      go_wp2_with fail
      refine (awake12 w8 L8.out.t).mono ?_
      rintro e wz ⟨rfl, hbz⟩
      go_wp2_with fail
      go_ret
      exact ⟨rfl, (L8.out.next hbz).k⟩
  · by_cases hq : q = 0
    · subst hq
      by_cases hq4 : q4 = 0
      · subst hq4
        have hne : eqB out r = false := by
          cases hb : eqB out r
          · rfl
          · exact absurd ((ExP.iff HD.out HP.out).1 hb) hx
        have HX := Lib.hid hx
        clear hx
        go_wp2_with fail
        refine (exact_no L4.out.o R4.out hcb (by omega) GD.out HX.out).mono ?_
        rintro e w5 ⟨rfl, hb5⟩
        have L5 := Lib.hid (L4.out.next hb5)
        have R5 := Lib.hid (R4.out.step hb5)
        have S5 := Lib.hid (S4.out.step hb5)
        have T5 := Lib.hid (T4.out.step hb5)
        clear hb5 L4 a0 a1 a2
        have a0 := L5.out.o0
        have a1 := L5.out.o1
        have a2 := L5.out.o2
        have E1 := Lib.hid (same20 A4 B c4 capB out r w5 (by omega) T5.out R5.out)
        rw [hne] at E1
        clear hne
        go_wp2_with fail
        refine E1.out.mono ?_
        clear E1
        rintro e w6 ⟨rfl, hb6⟩
        have L6 := Lib.hid (L5.out.next hb6)
        have R6 := Lib.hid (R5.out.step hb6)
        have S6 := Lib.hid (S5.out.step hb6)
        clear hb6 L5 a0 a1 a2
        have a0 := L6.out.o0
        have a1 := L6.out.o1
        have a2 := L6.out.o2
        go_wp2_with fail
        refine (exact_no L6.out.o R6.out hcb (by omega) GD.out HX.out).mono ?_
        rintro e w7 ⟨rfl, hb7⟩
        have L7 := Lib.hid (L6.out.next hb7)
        clear hb7 L6 a0 a1 a2
        have a0 := L7.out.o0
        have a1 := L7.out.o1
        have a2 := L7.out.o2
        go_wp2_with fail
        refine (awake12 w7 L7.out.t).mono ?_
        rintro e wz ⟨rfl, hbz⟩
        go_wp2_with fail
        go_ret
        exact ⟨rfl, (L7.out.next hbz).k⟩
      · have hq4' : (q4 == 0) = false := by simp [hq4]
        have HX := Lib.hid hx
        clear hx
        go_wp2_with fail
        refine (exact_no L4.out.o R4.out hcb (by omega) GD.out HX.out).mono ?_
        rintro e w5 ⟨rfl, hb5⟩
        have L5 := Lib.hid (L4.out.next hb5)
        have R5 := Lib.hid (R4.out.step hb5)
        have S5 := Lib.hid (S4.out.step hb5)
        clear hb5 L4 a0 a1 a2
        have a0 := L5.out.o0
        have a1 := L5.out.o1
        have a2 := L5.out.o2
        go_wp2_with fail
        refine (exact_no L5.out.o R5.out hcb (by omega) GD.out HX.out).mono ?_
        rintro e w6 ⟨rfl, hb6⟩
        have L6 := Lib.hid (L5.out.next hb6)
        clear hb6 L5 a0 a1 a2
        have a0 := L6.out.o0
        have a1 := L6.out.o1
        have a2 := L6.out.o2
        go_wp2_with fail
        refine (awake12 w6 L6.out.t).mono ?_
        rintro e wz ⟨rfl, hbz⟩
        go_wp2_with fail
        go_ret
        exact ⟨rfl, (L6.out.next hbz).k⟩
    · have hq' : (q == 0) = false := by simp [hq]
      have HX := Lib.hid hx
      clear hx
      go_wp2_with fail
      refine (exact_no L4.out.o R4.out hcb (by omega) GD.out HX.out).mono ?_
      rintro e w5 ⟨rfl, hb5⟩
      have L5 := Lib.hid (L4.out.next hb5)
      have R5 := Lib.hid (R4.out.step hb5)
      have S5 := Lib.hid (S4.out.step hb5)
      clear hb5 L4 a0 a1 a2
      have a0 := L5.out.o0
      have a1 := L5.out.o1
      have a2 := L5.out.o2
      go_wp2_with fail
      refine (exact_no L5.out.o R5.out hcb (by omega) GD.out HX.out).mono ?_
      rintro e w6 ⟨rfl, hb6⟩
      have L6 := Lib.hid (L5.out.next hb6)
      clear hb6 L5 a0 a1 a2
      have a0 := L6.out.o0
      have a1 := L6.out.o1
      have a2 := L6.out.o2
      go_wp2_with fail
      refine (awake12 w6 L6.out.t).mono ?_
      rintro e wz ⟨rfl, hbz⟩
      go_wp2_with fail
      go_ret
      exact ⟨rfl, (L6.out.next hbz).k⟩
end Go.Proofs.YtoechdnhgkelfaaDoor
