/-
  The law OrthoDivides: the walk.
-/
import Derived.Test.YtoechdnhgkelfaaDoorRight
namespace Go.Proofs.YtoechdnhgkelfaaDoor
open Go.RowKit Go.PlainAid Pl

theorem OAt.units {w : World} {B : Nat} {o : Ort} {A C : Option Addr} {cap cap2 : Nat} (h : OAt w B o (.agg #[.string o.name, .slice A o.us.length cap, .slice C o.ls.length cap2])) : UAt w B A o.us := by
  obtain ⟨A', cap', C', cap2', he, hU, _⟩ := h
  simp at he
  obtain ⟨⟨rfl, rfl⟩, rfl, rfl⟩ := he
  exact hU
theorem slice_from (s : ByteArray) (a : Nat) (h : a ≤ s.size) : ∀ wx : World, (Instr.slice 9 (.string s) (some (.int .i64 (a : Int))) none none).run Tryd.prog wx = .ok (.string (s.extract a s.size)) wx := fun wx => by
  have := run_slice_string_from_if (P := Tryd.prog) wx 9 s .i64 (a : Int) Tryd.underlying9
  rw [this, if_pos (by omega)]
  simp
theorem take_next {α : Type} {l : List α} {k : Nat} {i : α} (h : l[k]? = some i) : l.take (k + 1) = l.take k ++ [i] := by
  obtain ⟨hk, rfl⟩ := List.getElem?_eq_some_iff.1 h
  exact List.take_succ_eq_append_getElem hk
set_option maxHeartbeats 3200000 in
set_option maxRecDepth 100000 in
theorem law6 (ps : List (ByteArray × Int)) (o : Ort) (A : Option Addr) (cap : Nat) (AU : Option Addr) (capU : Nat) (AL : Option Addr) (capL : Nat) (s : ByteArray) (w : World) (hv : VAt w w.heap.size ps (.agg #[.slice A ps.length cap])) (ho : OAt w w.heap.size o (.agg #[.string o.name, .slice AU o.us.length capU, .slice AL o.ls.length capL])) (hT : Lib.Utf8Tabs 0 1 w) (hsm : s.size ≤ 9223372036854775807) :
    Calls Tryd.prog 6 #[.agg #[.slice A ps.length cap], .agg #[.string o.name, .slice AU o.us.length capU, .slice AL o.ls.length capL], .string s] w (True_ w) := by
  have L0 := Lib.hid (Ls.start hv ho hT)
  clear hv ho hT
  obtain ⟨W0, hW0⟩ : ∃ W0, (w.alloc (.cells #[.slice A ps.length cap] 24)).alloc (.cells #[.string o.name, .slice AU o.us.length capU, .slice AL o.ls.length capL] 28) = W0 := ⟨_, rfl⟩
  rw [hW0] at L0
  have HW := Lib.hid hW0
  clear hW0
  go_enter Tryd.func6, Tryd.ntmps6
  go_wp2_with fail
  rw [HW.out]
  clear HW
  refine (right15 ps o A cap AU capU AL capL W0 L0.out.v L0.out.o L0.out.t).mono ?_
  rintro e w1 ⟨b, rfl, hg, hb1⟩
  have HG := Lib.hid hg
  have L1 := Lib.hid (L0.out.next hb1)
  clear hg hb1 L0
  cases b
  · go_wp2_with fail
    refine (awake12 w1 L1.out.t).mono ?_
    rintro e w2 ⟨rfl, hb2⟩
    go_wp2_with fail
    go_ret
    exact ⟨rfl, (L1.out.next hb2).k⟩
  by_cases h500 : 500 < s.size
  · have h500' : (500 : Int) < (s.size : Int) := by omega
    go_wp2_with fail
    refine (awake12 w1 L1.out.t).mono ?_
    rintro e w2 ⟨rfl, hb2⟩
    go_wp2_with fail
    go_ret
    exact ⟨rfl, (L1.out.next hb2).k⟩
  have h500' : ¬ (500 : Int) < (s.size : Int) := by omega
  have GD := Lib.hid (HG.out rfl)
  clear HG
  have a0 := L1.out.o0
  have a1 := L1.out.o1
  have a2 := L1.out.o2
  go_wp2_with fail
  refine (units16 o _ s w1 L1.out.o (by omega) GD.out).mono ?_
  rintro e w2 ⟨v2, l, at_, rfl, hd, ho2, hb2⟩
  have L2 := Lib.hid (L1.out.next hb2)
  have HD := Lib.hid hd
  have hll := dv_count GD.out hd.1
  have hal := hd.1.le
  rw [size_list] at hal
  obtain ⟨A2, c2, rfl, hr2⟩ := ints_of (nz_len l).symm ho2
  have R2 := Lib.hid hr2
  clear hb2 hd ho2 hr2 L1 a0 a1 a2
  have hn : o.us.length ≤ 120 := GD.out.n
  have OU := Lib.hid (show ∀ wr, Below w2.heap.size w2 wr → wr.cell? ⟨w.heap.size + 1, 1, none⟩ = some (.slice AU o.us.length capU) from fun wr hb => (L2.out.next hb).o1)
  have CU := Lib.hid (show ∀ wr, Below w2.heap.size w2 wr → ∀ (k : Nat) (u : U), o.us[k]? = some u → ∃ ad, AU = some ad ∧ wr.cell? (ad.add (k * 2)) = some (.string u.1) from fun wr hb k u hu => by
    obtain ⟨ad, _, _, rfl, _, c1, _, _⟩ := (L2.out.next hb).o.units k u hu
    exact ⟨ad, rfl, c1⟩)
  have CL := Lib.hid (show ∀ wr, Below w2.heap.size w2 wr → ∀ (k i : Nat), l[k]? = some i → ∃ ad, A2 = some ad ∧ wr.cell? (ad.add k) = some (.int .i64 (i : Int)) from fun wr hb k i hi => by
    obtain ⟨ad, h1, _, h2⟩ := (R2.out.step hb).at_ (nz_at hi)
    exact ⟨ad, h1, h2⟩)
  clear R2
  obtain ⟨us, hus⟩ : ∃ us, o.us = us := ⟨_, rfl⟩
  rw [hus] at OU CU HD GD hn
  have hD0 := Lib.hid (Below.refl w2.heap.size w2)
  rw [nz_len]
  go_wp2_with fail
  go_loopw [9, 10, 11] (fun f i _ wr => ∃ (k b : Nat), k ≤ l.length ∧ i = .int .i64 k ∧ f = .int .i64 b ∧ Dv us.length (gr us) s.data.toList (l.take k) b ∧ Below w2.heap.size w2 wr) (fun _ i _ _ => l.length - (intOf i).toNat)
  case atStart => exact ⟨0, 0, Nat.zero_le _, rfl, rfl, .nil, hD0.out⟩
  case round =>
    obtain ⟨k, b, hk, rfl, rfl, hdv, hb⟩ := hrel
    have hbl := hdv.le
    rw [size_list] at hbl
    have HV := Lib.hid hdv
    clear hdv
    have e1 := OU.out _ hb
    by_cases hlt : k < l.length
    · obtain ⟨i, hi⟩ := get_lt hlt
      obtain ⟨b', hv1, hbs, hbest⟩ := HD.out.1.at_ hi
      obtain rfl := HV.out.same hv1
      have HI := Lib.hid hi
      have HB := Lib.hid hbest
      have hin := hbest.lt
      rw [size_list] at hbs
      obtain ⟨u, hu⟩ := get_lt hin
      have g2 := GD.out.g2 u (List.mem_of_getElem? hu)
      have HU := Lib.hid hu
      have HBE := Lib.hid (show begB (s.extract b s.size) u.1 = true from begB_iff.2 (by rw [ext_drop, ← gr_at hu]; exact hbest.beg.2))
      obtain ⟨adl, hA2, cl⟩ := CL.out _ hb k i hi
      obtain ⟨ad, hAU, c1⟩ := CU.out _ hb i u hu
      clear hi hu hbest hv1
      subst hA2 hAU
      have q0 : (0 : Int) ≤ (k : Int) := by omega
      have q1 : (k : Int) < (l.length : Int) := by omega
      have q2 : (0 : Int) ≤ (i : Int) := by omega
      have q3 : (i : Int) < (us.length : Int) := by omega
      have q4 : decide ((i : Int) < 0) = false := by simp
      have q5 : decide ((i : Int) ≥ (us.length : Int)) = false := by simp; omega
      have q6 : decide ((us.length : Int) ≤ (i : Int)) = false := by simp; omega
      have hsl := slice_from s b (by omega)
      have HC := Lib.hid (fun (x : World) => begins25 (s.extract b s.size) u.1 x)
      rw [HBE.out] at HC
      clear HBE
      go_wp2_with fail
      go_quiet ((go_at_call 25; exact Calls.quiet_of_same ((HC.out _).mono fun _ _ h => ⟨h.1, h.2.symm⟩)))
      go_wp2_with fail
      go_loopw [11] (fun j wq => ∃ k2 : Nat, k2 ≤ us.length ∧ j = .int .i64 k2 ∧ Below w2.heap.size w2 wq) (fun j _ => us.length - (intOf j).toNat)
      case atStart => exact ⟨0, Nat.zero_le _, rfl, below_drewN hb _⟩
      case round =>
        obtain ⟨k2, hk2, rfl, hb2⟩ := hrel
        clear e1 cl c1 HC q4 q5 q6
        have e1 := OU.out _ hb2
        obtain ⟨adl', hA2, cl⟩ := CL.out _ hb2 k i HI.out
        obtain ⟨ad', hAU, c1⟩ := CU.out _ hb2 i u HU.out
        obtain rfl : adl = adl' := Option.some.inj hA2
        obtain rfl : ad = ad' := Option.some.inj hAU
        clear hA2 hAU
        by_cases hlt2 : k2 < us.length
        · obtain ⟨u2, hu2⟩ := get_lt hlt2
          have g3 := GD.out.g2 u2 (List.mem_of_getElem? hu2)
          obtain ⟨ad', hAU, c3⟩ := CU.out _ hb2 k2 u2 hu2
          obtain rfl : ad = ad' := Option.some.inj hAU
          have HM := Lib.hid (show begB (s.extract b s.size) u2.1 = true → u2.1.size ≤ u.1.size from fun h => by
            have h1 := begB_iff.1 h
            rw [ext_drop, ← gr_at hu2] at h1
            have h2 := HB.out.most k2 ⟨hlt2, h1⟩
            rw [gr_at hu2, gr_at HU.out, size_list, size_list] at h2
            exact h2)
          clear hAU hu2
          have q7 : (0 : Int) ≤ (k2 : Int) := by omega
          have q8 : (k2 : Int) < (us.length : Int) := by omega
          have HC := Lib.hid (fun (x : World) => begins25 (s.extract b s.size) u2.1 x)
          cases hq : begB (s.extract b s.size) u2.1
          · rw [hq] at HC
            clear hq HM
            go_wp2_with fail
            go_quiet ((go_at_call 25; exact Calls.quiet_of_same ((HC.out _).mono fun _ _ h => ⟨h.1, h.2.symm⟩)))
            go_wp2_with fail
            go_roundw
            case rel => exact ⟨k2 + 1, by omega, by go_num, below_drewN hb2 _⟩
            case measure => simp [intOf]; omega
          · rw [hq] at HC
            have hle := HM.out hq
            have q9 : decide ((u.1.size : Int) < (u2.1.size : Int)) = false := by simp; omega
            clear hq HM
            go_wp2_with fail
            go_quiet ((go_at_call 25; exact Calls.quiet_of_same ((HC.out _).mono fun _ _ h => ⟨h.1, h.2.symm⟩)))
            go_wp2_with fail
            go_roundw
            case rel => exact ⟨k2 + 1, by omega, by go_num, below_drewN hb2 _⟩
            case measure => simp [intOf]; omega
        · have hwr : IntKind.i64.wrap ((b : Int) + (u.1.size : Int)) = (b : Int) + (u.1.size : Int) := wrap_small _ (by omega)
          go_wp2_with fail
          go_quiet (fail)
          go_wp2_with fail
          go_roundw
          case rel =>
            refine ⟨k + 1, b + u.1.size, by omega, by go_num, by go_num, ?_, below_drewN hb2 _⟩
            rw [take_next HI.out]
            have := Dv.snoc HV.out (by rw [size_list]; omega) HB.out
            rw [gr_at HU.out, size_list] at this
            exact this
          case measure => simp [intOf]; omega
    · obtain rfl : l.length = k := by omega
      have hba : b = at_ := by
        have := HV.out
        rw [List.take_length] at this
        exact this.same HD.out.1
      subst hba
      clear HV
      go_wp2_with fail
      go_loopw [12] (fun j wq => ∃ k2 : Nat, k2 ≤ us.length ∧ j = .int .i64 k2 ∧ Below w2.heap.size w2 wq) (fun j _ => us.length - (intOf j).toNat)
      case atStart => exact ⟨0, Nat.zero_le _, rfl, hb⟩
      case round =>
        obtain ⟨k2, hk2, rfl, hb2⟩ := hrel
        clear e1
        have e1 := OU.out _ hb2
        by_cases hlt2 : k2 < us.length
        · obtain ⟨u2, hu2⟩ := get_lt hlt2
          obtain ⟨ad, hAU, c3⟩ := CU.out _ hb2 k2 u2 hu2
          subst hAU
          have HU := Lib.hid hu2
          clear hu2
          have q7 : (0 : Int) ≤ (k2 : Int) := by omega
          have q8 : (k2 : Int) < (us.length : Int) := by omega
          by_cases hend : b < s.size
          · have q9 : decide ((b : Int) < (s.size : Int)) = true := by simp; omega
            have HNB := Lib.hid (show begB (s.extract b s.size) u2.1 = false from by
              cases hq : begB (s.extract b s.size) u2.1
              · rfl
              · exfalso
                have h1 := begB_iff.1 hq
                rw [ext_drop, ← gr_at HU.out] at h1
                rcases HD.out.2 with h | h
                · rw [size_list] at h; omega
                · exact h k2 ⟨hlt2, h1⟩)
            have HC := Lib.hid (fun (x : World) => begins25 (s.extract b s.size) u2.1 x)
            rw [HNB.out] at HC
            clear HNB
            have hsl := slice_from s b (by omega)
            go_wp2_with fail
            go_quiet ((go_at_call 25; exact Calls.quiet_of_same ((HC.out _).mono fun _ _ h => ⟨h.1, h.2.symm⟩)))
            go_wp2_with fail
            go_roundw
            case rel => exact ⟨k2 + 1, by omega, by go_num, below_drewN hb2 _⟩
            case measure => simp [intOf]; omega
          · have q9 : decide ((b : Int) < (s.size : Int)) = false := by simp; omega
            go_wp2_with fail
            go_quiet (fail)
            go_wp2_with fail
            go_roundw
            case rel => exact ⟨k2 + 1, by omega, by go_num, below_drewN hb2 _⟩
            case measure => simp [intOf]; omega
        · have L3 := Lib.hid (L2.out.next hb2)
          go_wp2_with fail
          refine (awake12 _ L3.out.t).mono ?_
          rintro e w3 ⟨rfl, hb3⟩
          go_wp2_with fail
          go_ret
          exact ⟨rfl, (L3.out.next hb3).k⟩
end Go.Proofs.YtoechdnhgkelfaaDoor
