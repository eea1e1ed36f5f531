/-
  The law OrthoAdds: the walk.
-/
import Derived.Test.YtoechdnhgkelfaaDoorPrefix
namespace Go.Proofs.YtoechdnhgkelfaaDoor
open Go.RowKit Go.PlainAid Pl

theorem RdP.read {us : List U} {s : List UInt8} {o : List Int} {p : Int} (h : RdP us s o p 0) : s ≠ [] ∧ ∃ l, Done us.length (gr us) s l s.length ∧ o = segs us l := by
  rcases h with ⟨_, _, _, h⟩ | ⟨hs, l, a, hd, ⟨_, _, _, h⟩ | ⟨_, _, _, _, h⟩ | ⟨ha, _, ho, _, _⟩⟩
  · omega
  · omega
  · omega
  · subst ha; exact ⟨hs, l, hd, ho⟩
/-- Two strings that are read, one after the other. -/
theorem RdP.add {us : List U} (hf : Free us.length (gr us)) {s t : List UInt8} {o o' : List Int} {p p' : Int} (h : RdP us s o p 0) (h' : RdP us t o' p' 0) :
    (24 < (o ++ o').length → RdP us (s ++ t) [] 0 5) ∧ (¬ 24 < (o ++ o').length → RdP us (s ++ t) (o ++ o') 0 0) := by
  obtain ⟨hs, l, hd, rfl⟩ := h.read
  obtain ⟨_, l', hd', rfl⟩ := h'.read
  have hn : s ++ t ≠ [] := by simp [hs]
  have hD := hd.add hf hd'
  have e : segs us l ++ segs us l' = segs us (l ++ l') := by unfold segs; rw [List.flatMap_append]
  rw [e]
  exact ⟨fun h24 => .inr ⟨hn, _, _, hD, .inr (.inl ⟨rfl, h24, rfl, rfl, rfl⟩)⟩, fun h24 => .inr ⟨hn, _, _, hD, .inr (.inr ⟨rfl, by omega, rfl, rfl, rfl⟩)⟩⟩
theorem own_list {w : World} {base : Nat} {v : Value} {n : Nat} {xs : List Value} {l : List Int} (h : w.ownsRow base 3 1 v n xs) (hn : n = l.length) (hx : xs = IS l) : w.ownsRow base 3 1 v l.length (IS l) := by
  rw [← hn, ← hx]; exact h
set_option maxHeartbeats 1600000 in
set_option maxRecDepth 100000 in
theorem law9 (ps : List (ByteArray × Int)) (o : Ort) (A : Option Addr) (cap : Nat) (AU : Option Addr) (capU : Nat) (AL : Option Addr) (capL : Nat) (s t : ByteArray) (w : World) (hv : VAt w w.heap.size ps (.agg #[.slice A ps.length cap])) (ho : OAt w w.heap.size o (.agg #[.string o.name, .slice AU o.us.length capU, .slice AL o.ls.length capL])) (hT : Lib.Utf8Tabs 0 1 w) (hsm : s.size ≤ 9223372036854775807) (htm : t.size ≤ 9223372036854775807) :
    Calls Tryd.prog 9 #[.agg #[.slice A ps.length cap], .agg #[.string o.name, .slice AU o.us.length capU, .slice AL o.ls.length capL], .string s, .string t] w (True_ w) := by
  obtain ⟨i0, hi, hz0, hz1, hz2⟩ := info_parts info3
  have HI3 := Lib.hid hi
  have HZ0 := Lib.hid hz0
  have HZ1 := Lib.hid hz1
  have HZ2 := Lib.hid hz2
  clear hi hz0 hz1 hz2
  have L0 := Lib.hid (Ls.start hv ho hT)
  clear hv ho hT
  obtain ⟨W0, hW0⟩ : ∃ W0, (w.alloc (.cells #[.slice A ps.length cap] 24)).alloc (.cells #[.string o.name, .slice AU o.us.length capU, .slice AL o.ls.length capL] 28) = W0 := ⟨_, rfl⟩
  rw [hW0] at L0
  have HW := Lib.hid hW0
  clear hW0
  go_enter Tryd.func9, Tryd.ntmps9
  go_wp2_with fail
  rw [HW.out]
  clear HW
  refine (right15 ps o A cap AU capU AL capL W0 L0.out.v L0.out.o L0.out.t).mono ?_
  rintro e w1 ⟨b, rfl, hg, hb1⟩
  have HG := Lib.hid hg
  have L1 := Lib.hid (L0.out.next hb1)
  clear hg hb1 L0
  cases b
  · go_wp2_with fail
    refine (awake12 w1 L1.out.t).mono ?_
    rintro e wz ⟨rfl, hbz⟩
    go_wp2_with fail
    go_ret
    exact ⟨rfl, (L1.out.next hbz).k⟩
  by_cases h500 : 250 < s.size
  · have h500' : (250 : Int) < (s.size : Int) := by omega
    go_wp2_with fail
    refine (awake12 w1 L1.out.t).mono ?_
    rintro e wz ⟨rfl, hbz⟩
    go_wp2_with fail
    go_ret
    exact ⟨rfl, (L1.out.next hbz).k⟩
  have h500' : ¬ (250 : Int) < (s.size : Int) := by omega
  by_cases h600 : 250 < t.size
  · have h600' : (250 : Int) < (t.size : Int) := by omega
    go_wp2_with fail
    refine (awake12 w1 L1.out.t).mono ?_
    rintro e wz ⟨rfl, hbz⟩
    go_wp2_with fail
    go_ret
    exact ⟨rfl, (L1.out.next hbz).k⟩
  have h600' : ¬ (250 : Int) < (t.size : Int) := by omega
  have GD := Lib.hid (HG.out rfl)
  clear HG
  have a0 := L1.out.o0
  have a1 := L1.out.o1
  have a2 := L1.out.o2
  go_wp2_with fail
  refine (prefixes27 o _ w1 L1.out.o GD.out).mono ?_
  rintro e w2 ⟨b, rfl, hf, hb2⟩
  have HF := Lib.hid hf
  have L2 := Lib.hid (L1.out.next hb2)
  clear hf hb2 L1 a0 a1 a2
  cases b
  case true =>
    go_wp2_with fail
    refine (awake12 w2 L2.out.t).mono ?_
    rintro e wz ⟨rfl, hbz⟩
    go_wp2_with fail
    go_ret
    exact ⟨rfl, (L2.out.next hbz).k⟩
  have FR := Lib.hid (HF.out rfl)
  clear HF
  have a0 := L2.out.o0
  have a1 := L2.out.o1
  have a2 := L2.out.o2
  go_wp2_with fail
  refine (read18 o _ s w2 L2.out.o (by omega) GD.out).mono ?_
  rintro e w3 ⟨v3, out, p, q, rfl, hp, ho3, hb3⟩
  have L3 := Lib.hid (L2.out.next hb3)
  have HP := Lib.hid hp
  have hol := hp.len
  obtain ⟨A3, c3, rfl, hr3⟩ := ints_of rfl ho3
  have R3 := Lib.hid hr3
  clear hb3 hp ho3 hr3 L2 a0 a1 a2
  have a0 := L3.out.o0
  have a1 := L3.out.o1
  have a2 := L3.out.o2
  go_wp2_with fail
  refine (read18 o _ t w3 L3.out.o (by omega) GD.out).mono ?_
  rintro e w4 ⟨v4, out2, p2, q2, rfl, hp2, ho4, hb4⟩
  have L4 := Lib.hid (L3.out.next hb4)
  have HP2 := Lib.hid hp2
  have hol2 := hp2.len
  have R4 := Lib.hid (R3.out.step hb4)
  obtain ⟨A4, c4, rfl, hr4⟩ := ints_of rfl ho4
  have S4 := Lib.hid hr4
  clear hb4 hp2 ho4 hr4 L3 R3 a0 a1 a2
  by_cases hq : q = 0
  case neg =>
    have hq' : (q != 0) = true := by simp [hq]
    go_wp2_with fail
    refine (awake12 w4 L4.out.t).mono ?_
    rintro e wz ⟨rfl, hbz⟩
    go_wp2_with fail
    go_ret
    exact ⟨rfl, (L4.out.next hbz).k⟩
  subst hq
  by_cases hq2 : q2 = 0
  case neg =>
    have hq2' : (q2 != 0) = true := by simp [hq2]
    go_wp2_with fail
    refine (awake12 w4 L4.out.t).mono ?_
    rintro e wz ⟨rfl, hbz⟩
    go_wp2_with fail
    go_ret
    exact ⟨rfl, (L4.out.next hbz).k⟩
  subst hq2
  have HN := Lib.hid (World.ownsRow_nil w4 w4.heap.size 3 1)
  go_wp2_with (at_builtin; refine wpList_append_any _ rfl _ _ 34 rfl w4.heap.size 3 i0 (.int .i64 0) 1 8 Tryd.underlying34 HI3.out HZ0.out HZ1.out HZ2.out rfl (by decide) _ _ _ rfl HN.out w4.heap.size A3 out.length c3 (IS out) rfl R4.out (IS_one _) ?c3 ?c4 (Nat.le_refl _) ?_)
  case c3 => unfold maxLen; omega
  case c4 => omega
  intro v5 w5 hown hgrow hnil
  clear hnil
  have hb5 := (Below.refl w4.heap.size w4).grown hgrow (Nat.le_refl _) (fun k hk => (HN.out.lt k hk).1)
  have OW := Lib.hid (own_list (l := out) hown (by simp) (by simp))
  have L5 := Lib.hid (L4.out.next hb5)
  have S5 := Lib.hid (S4.out.step hb5)
  have hsz5 := hb5.size
  have L4' := Lib.hid L4.out
  have HB5 := Lib.hid hb5
  clear hown hgrow hb5 HN L4 R4 S4
  go_wp2_with (at_builtin; refine wpList_append_any _ rfl _ _ 34 rfl w4.heap.size 3 i0 (.int .i64 0) 1 8 Tryd.underlying34 HI3.out HZ0.out HZ1.out HZ2.out rfl (by decide) _ _ _ rfl OW.out w5.heap.size A4 out2.length c4 (IS out2) rfl S5.out (IS_one _) ?c3 ?c4 hsz5 ?_)
  case c3 => unfold maxLen; omega
  case c4 => omega
  intro v6 w6 hown hgrow hnil
  clear hnil
  have hb6 := HB5.out.grown hgrow hsz5 (fun k hk => (OW.out.lt k hk).1)
  obtain ⟨all, hall⟩ : ∃ all, out ++ out2 = all := ⟨_, rfl⟩
  have hlen : all.length ≤ 48 := by rw [← hall, List.length_append]; omega
  obtain ⟨A6, c6, rfl, hr6⟩ := ints_of rfl (own_list (l := all) hown (by rw [← hall, List.length_append]) (by rw [← hall, IS_append]))
  have R6 := Lib.hid hr6
  have HADD := Lib.hid (HP.out.add FR.out HP2.out)
  rw [hall] at HADD
  have L6 := Lib.hid (L4'.out.next hb6)
  clear hown hgrow hb6 hr6 OW L5 S5 HB5 hall HP HP2
  have a0 := L6.out.o0
  have a1 := L6.out.o1
  have a2 := L6.out.o2
  obtain ⟨st, hst⟩ : ∃ st, s ++ t = st := ⟨_, rfl⟩
  have hstl : st.data.toList = s.data.toList ++ t.data.toList := by rw [← hst]; simp
  have hsts : st.size ≤ 500 := by rw [← hst]; simp; omega
  rw [← hstl] at HADD
  go_wp2_with fail
  clear hst hstl
  refine (read18 o _ st w6 L6.out.o (by omega) GD.out).mono ?_
  rintro e w7 ⟨v7, out7, p7, q7, rfl, hp7, ho7, hb7⟩
  have L7 := Lib.hid (L6.out.next hb7)
  have R7 := Lib.hid (R6.out.step hb7)
  obtain ⟨A7, c7, rfl, hr7⟩ := ints_of rfl ho7
  have S7 := Lib.hid hr7
  clear hb7 ho7 hr7 L6 R6 a0 a1 a2
  by_cases h24 : 24 < all.length
  · obtain ⟨rfl, rfl, rfl⟩ := hp7.unique (HADD.out.1 h24)
    have h24' : (24 : Int) < (all.length : Int) := by omega
    have hl0 : ([] : List Int).length = 0 := rfl
    rw [hl0]
    clear hp7 HADD
    go_wp2_with fail
    refine (awake12 w7 L7.out.t).mono ?_
    rintro e wz ⟨rfl, hbz⟩
    go_wp2_with fail
    go_ret
    exact ⟨rfl, (L7.out.next hbz).k⟩
  · obtain ⟨rfl, rfl, rfl⟩ := hp7.unique (HADD.out.2 h24)
    have h24' : ¬ (24 : Int) < (out7.length : Int) := by omega
    have E1 := Lib.hid (same20 A7 A6 c7 c6 out7 out7 w7 (by omega) S7.out R7.out)
    rw [eqB_self] at E1
    clear hp7 HADD
    go_wp2_with fail
    refine E1.out.mono ?_
    rintro e w8 ⟨rfl, hb8⟩
    have L8 := Lib.hid (L7.out.next hb8)
    clear hb8 L7 E1
    go_wp2_with fail
    refine (awake12 w8 L8.out.t).mono ?_
    rintro e wz ⟨rfl, hbz⟩
    go_wp2_with fail
    go_ret
    exact ⟨rfl, (L8.out.next hbz).k⟩
end Go.Proofs.YtoechdnhgkelfaaDoor
