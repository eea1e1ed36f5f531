/-
  The law OrthoSums: the walk.
-/
import Derived.Test.YtoechdnhgkelfaaDoorSpelled
namespace Go.Proofs.YtoechdnhgkelfaaDoor
open Go.RowKit Go.PlainAid Pl

/-- What is read has as many segments as units, or more. -/
theorem segs_ge {us : List U} (hg : Good us) : ∀ (l : List Nat), (∀ i ∈ l, i < us.length) → l.length ≤ (segs us l).length
  | [], _ => by simp
  | i :: l, h => by
    have ih := segs_ge hg l fun j hj => h j (List.mem_cons_of_mem _ hj)
    obtain ⟨u, hu⟩ := get_lt (h i (List.mem_cons_self ..))
    have h1 := hg.s1 u (List.mem_of_getElem? hu)
    unfold segs at *
    rw [List.flatMap_cons, List.length_append, sg_at hu, List.length_cons]
    omega
theorem RdP.sums {us : List U} (hg : Good us) {s : List UInt8} {o : List Int} {p : Int} {l : List Nat} {a : Nat} (h : RdP us s o p 0) (hd : Done us.length (gr us) s l a) : l.length ≤ o.length ∧ o.length ≤ 3 * s.length := by
  rcases h with ⟨_, _, _, h⟩ | ⟨_, l', a', hd', ⟨_, _, _, h⟩ | ⟨_, _, _, _, h⟩ | ⟨ha, _, ho, _, _⟩⟩
  · omega
  · omega
  · omega
  · obtain ⟨rfl, rfl⟩ := hd.unique hd'
    subst ho
    have h1 := segs_ge hg l hd.1.mem
    have h2 := segs_len hg l
    have h3 := dv_count hg hd.1
    omega
set_option maxHeartbeats 1600000 in
set_option maxRecDepth 100000 in
theorem law7 (ps : List (ByteArray × Int)) (o : Ort) (A : Option Addr) (cap : Nat) (AU : Option Addr) (capU : Nat) (AL : Option Addr) (capL : Nat) (B : Option Addr) (r : List Int) (capB : Nat) (s : ByteArray) (w : World) (hv : VAt w w.heap.size ps (.agg #[.slice A ps.length cap])) (ho : OAt w w.heap.size o (.agg #[.string o.name, .slice AU o.us.length capU, .slice AL o.ls.length capL])) (hT : Lib.Utf8Tabs 0 1 w) (hcb : r.length ≤ capB) (_hmb : capB ≤ 9223372036854775807) (hr : Ints w w.heap.size B r) (hsm : s.size ≤ 9223372036854775807) :
    Calls Tryd.prog 7 #[.agg #[.slice A ps.length cap], .agg #[.string o.name, .slice AU o.us.length capU, .slice AL o.ls.length capL], .slice B r.length capB, .string s] w (True_ w) := by
  have L0 := Lib.hid (Ls.start hv ho hT)
  have R0 := Lib.hid (hr.step ((Ls.start hv ho hT).k))
  clear hv ho hT hr
  obtain ⟨W0, hW0⟩ : ∃ W0, (w.alloc (.cells #[.slice A ps.length cap] 24)).alloc (.cells #[.string o.name, .slice AU o.us.length capU, .slice AL o.ls.length capL] 28) = W0 := ⟨_, rfl⟩
  rw [hW0] at L0 R0
  have HW := Lib.hid hW0
  clear hW0
  go_enter Tryd.func7, Tryd.ntmps7
  go_wp2_with fail
  rw [HW.out]
  clear HW
  refine (right15 ps o A cap AU capU AL capL W0 L0.out.v L0.out.o L0.out.t).mono ?_
  rintro e w1 ⟨b, rfl, hg, hb1⟩
  have HG := Lib.hid hg
  have L1 := Lib.hid (L0.out.next hb1)
  have R1 := Lib.hid (R0.out.step hb1)
  clear hg hb1 L0 R0
  cases b
  · go_wp2_with fail
    refine (awake12 w1 L1.out.t).mono ?_
    rintro e wz ⟨rfl, hbz⟩
    go_wp2_with fail
    go_ret
    exact ⟨rfl, (L1.out.next hbz).k⟩
  by_cases h500 : 100 < r.length
  · have h500' : (100 : Int) < (r.length : Int) := by omega
    go_wp2_with fail
    refine (awake12 w1 L1.out.t).mono ?_
    rintro e wz ⟨rfl, hbz⟩
    go_wp2_with fail
    go_ret
    exact ⟨rfl, (L1.out.next hbz).k⟩
  have h500' : ¬ (100 : Int) < (r.length : Int) := by omega
  by_cases h600 : 500 < s.size
  · have h600' : (500 : Int) < (s.size : Int) := by omega
    go_wp2_with fail
    refine (awake12 w1 L1.out.t).mono ?_
    rintro e wz ⟨rfl, hbz⟩
    go_wp2_with fail
    go_ret
    exact ⟨rfl, (L1.out.next hbz).k⟩
  have h600' : ¬ (500 : Int) < (s.size : Int) := by omega
  have GD := Lib.hid (HG.out rfl)
  clear HG
  have a0 := L1.out.o0
  have a1 := L1.out.o1
  have a2 := L1.out.o2
  go_wp2_with fail
  refine (read18 o _ s w1 L1.out.o (by omega) GD.out).mono ?_
  rintro e w2 ⟨v2, out, p, q, rfl, hp, ho2, hb2⟩
  have L2 := Lib.hid (L1.out.next hb2)
  have R2 := Lib.hid (R1.out.step hb2)
  have HP := Lib.hid hp
  have hol := hp.len
  obtain ⟨A2, c2, rfl, _⟩ := ints_of rfl ho2
  clear hb2 hp ho2 L1 R1 a0 a1 a2
  have a0 := L2.out.o0
  have a1 := L2.out.o1
  have a2 := L2.out.o2
  go_wp2_with fail
  refine (units16 o _ s w2 L2.out.o (by omega) GD.out).mono ?_
  rintro e w3 ⟨v3, l, at_, rfl, hd, ho3, hb3⟩
  have L3 := Lib.hid (L2.out.next hb3)
  have R3 := Lib.hid (R2.out.step hb3)
  have hsum := Lib.hid (show q = 0 → l.length ≤ out.length ∧ out.length ≤ 3 * s.size from fun h => by subst h; have := HP.out.sums GD.out hd; rw [size_list] at this; exact this)
  obtain ⟨A3, c3, rfl, _⟩ := ints_of (nz_len l).symm ho3
  rw [nz_len]
  clear hb3 hd ho3 L2 R2 a0 a1 a2 HP
  have a0 := L3.out.o0
  have a1 := L3.out.o1
  have a2 := L3.out.o2
  have hmul : IntKind.i64.wrap (3 * (s.size : Int)) = 3 * (s.size : Int) := wrap_small _ (by omega)
  by_cases hq : q = 0
  case pos =>
    subst hq
    obtain ⟨k1, k2⟩ := hsum.out rfl
    have j1 : ¬ (out.length : Int) < (l.length : Int) := by omega
    have j2 : ¬ 3 * (s.size : Int) < (out.length : Int) := by omega
    have j3 : ¬ (24 : Int) < (out.length : Int) := by omega
    go_wp2_with fail
    refine (spell21 o _ B capB r w3 L3.out.o R3.out hcb (by omega) GD.out).mono ?_
    rintro e w4 ⟨t, p4, q4, rfl, hsp, hb4⟩
    have L4 := Lib.hid (L3.out.next hb4)
    have R4 := Lib.hid (R3.out.step hb4)
    have HS := Lib.hid hsp
    have htl := hsp.len GD.out
    clear hb4 hsp L3 R3 a0 a1 a2
    have a0 := L4.out.o0
    have a1 := L4.out.o1
    have a2 := L4.out.o2
    have hsz : (⟨t.toArray⟩ : ByteArray).size = t.length := by simp [ByteArray.size]
    go_wp2_with fail
    refine (spelled26 o _ B capB r ⟨t.toArray⟩ w4 L4.out.o R4.out hcb (by omega) (by omega) GD.out).mono ?_
    rintro e w5 ⟨b, rfl, hb, hb5⟩
    have L5 := Lib.hid (L4.out.next hb5)
    have hb' : (q4 == 0) = b := by
      have hx : b = true ↔ SpP o.us r t 0 0 := by simpa using hb
      cases b
      · rw [beq_eq_false_iff_ne]
        intro h0
        subst h0
        have := HS.out.zero
        subst this
        have := hx.2 HS.out
        cases this
      · rw [beq_iff_eq]
        exact (HS.out.unique (hx.1 rfl)).2.2
    have hbb : (b == b) = true := by simp
    clear hb hb5 L4 R4 HS a0 a1 a2
    go_wp2_with fail
    refine (awake12 w5 L5.out.t).mono ?_
    rintro e wz ⟨rfl, hbz⟩
    go_wp2_with fail
    go_ret
    exact ⟨rfl, (L5.out.next hbz).k⟩
  case neg =>
    have hq' : (q == 0) = false := by simp [hq]
    go_wp2_with fail
    refine (spell21 o _ B capB r w3 L3.out.o R3.out hcb (by omega) GD.out).mono ?_
    rintro e w4 ⟨t, p4, q4, rfl, hsp, hb4⟩
    have L4 := Lib.hid (L3.out.next hb4)
    have R4 := Lib.hid (R3.out.step hb4)
    have HS := Lib.hid hsp
    have htl := hsp.len GD.out
    clear hb4 hsp L3 R3 a0 a1 a2
    have a0 := L4.out.o0
    have a1 := L4.out.o1
    have a2 := L4.out.o2
    have hsz : (⟨t.toArray⟩ : ByteArray).size = t.length := by simp [ByteArray.size]
    go_wp2_with fail
    refine (spelled26 o _ B capB r ⟨t.toArray⟩ w4 L4.out.o R4.out hcb (by omega) (by omega) GD.out).mono ?_
    rintro e w5 ⟨b, rfl, hb, hb5⟩
    have L5 := Lib.hid (L4.out.next hb5)
    have hb' : (q4 == 0) = b := by
      have hx : b = true ↔ SpP o.us r t 0 0 := by simpa using hb
      cases b
      · rw [beq_eq_false_iff_ne]
        intro h0
        subst h0
        have := HS.out.zero
        subst this
        have := hx.2 HS.out
        cases this
      · rw [beq_iff_eq]
        exact (HS.out.unique (hx.1 rfl)).2.2
    have hbb : (b == b) = true := by simp
    clear hb hb5 L4 R4 HS a0 a1 a2
    go_wp2_with fail
    refine (awake12 w5 L5.out.t).mono ?_
    rintro e wz ⟨rfl, hbz⟩
    go_wp2_with fail
    go_ret
    exact ⟨rfl, (L5.out.next hbz).k⟩
end Go.Proofs.YtoechdnhgkelfaaDoor
