/-
  What Read of the program and of the reference returns.
-/
import Derived.Test.YtoechdnhgkelfaaDoorUnits
namespace Go.Proofs.YtoechdnhgkelfaaDoor
open Go.RowKit Go.PlainAid Pl
/-- The segments of units. -/
def segs (us : List U) (l : List Nat) : List Int := l.flatMap (sg us)
theorem segs_take {us : List U} {l : List Nat} {k i : Nat} (h : l[k]? = some i) : segs us (l.take (k + 1)) = segs us (l.take k) ++ sg us i := by
  unfold segs
  rw [take_one h, List.flatMap_append]
  simp
theorem segs_len {us : List U} (hg : Good us) (l : List Nat) : (segs us l).length ≤ 3 * l.length := by
  unfold segs
  induction l with
  | nil => simp
  | cons i l ih =>
    rw [List.flatMap_cons, List.length_append, List.length_cons]
    have : (sg us i).length ≤ 3 := by
      unfold sg
      cases h : us[i]? with
      | none => simp
      | some u => exact hg.s2 u (List.mem_of_getElem? h)
    omega
/-- What Read says. -/
def RdP (us : List U) (s : List UInt8) (out : List Int) (p q : Int) : Prop :=
  (s = [] ∧ out = [] ∧ p = 0 ∧ q = 4) ∨ (s ≠ [] ∧ ∃ (l : List Nat) (a : Nat), Done us.length (gr us) s l a ∧
    ((a < s.length ∧ out = [] ∧ p = a ∧ q = 20) ∨ (a = s.length ∧ 24 < (segs us l).length ∧ out = [] ∧ p = 0 ∧ q = 5) ∨ (a = s.length ∧ (segs us l).length ≤ 24 ∧ out = segs us l ∧ p = 0 ∧ q = 0)))
theorem RdP.unique {us : List U} {s : List UInt8} {o o' : List Int} {p p' q q' : Int} (h : RdP us s o p q) (h' : RdP us s o' p' q') : o = o' ∧ p = p' ∧ q = q' := by
  rcases h with ⟨hs, rfl, rfl, rfl⟩ | ⟨hs, l, a, hd, h⟩
  · rcases h' with ⟨_, rfl, rfl, rfl⟩ | ⟨hn, _⟩
    · exact ⟨rfl, rfl, rfl⟩
    · exact absurd hs hn
  · rcases h' with ⟨hn, _⟩ | ⟨_, l', a', hd', h'⟩
    · exact absurd hn hs
    · obtain ⟨rfl, rfl⟩ := hd.unique hd'
      rcases h with ⟨h1, rfl, rfl, rfl⟩ | ⟨h1, h2, rfl, rfl, rfl⟩ | ⟨h1, h2, rfl, rfl, rfl⟩ <;> rcases h' with ⟨h1', rfl, rfl, rfl⟩ | ⟨h1', h2', rfl, rfl, rfl⟩ | ⟨h1', h2', rfl, rfl, rfl⟩ <;> first | exact ⟨rfl, rfl, rfl⟩ | omega
theorem RdP.len {us : List U} {s : List UInt8} {o : List Int} {p q : Int} (h : RdP us s o p q) : o.length ≤ 24 := by
  rcases h with ⟨hs, rfl, rfl, rfl⟩ | ⟨hs, l, a, hd, ⟨_, rfl, _⟩ | ⟨_, _, rfl, _⟩ | ⟨_, h, rfl, _⟩⟩ <;> simp_all
def ReadOut (us : List U) (s : List UInt8) (w : World) (e : Ending) (w' : World) : Prop :=
  ∃ (v : Value) (out : List Int) (p q : Int), e = .returned (.tuple #[v, .int .i64 p, .int .i64 q]) ∧ RdP us s out p q ∧ w'.ownsRow w.heap.size 3 1 v out.length (IS out) ∧ Below w.heap.size w w'
/-- A row of the call's own is a slice that reads as its list. -/
theorem ints_of {w : World} {base : Nat} {v : Value} {n : Nat} {xs : List Int} (hn : n = xs.length) (h : w.ownsRow base 3 1 v n (IS xs)) : ∃ A cap, v = .slice A xs.length cap ∧ Ints w w.heap.size A xs := by
  subst hn
  have hf : ∃ A cap, v = .slice A xs.length cap := by
    rcases h.2 with ⟨hv, h0⟩ | ⟨g, cap, cur, hv, _⟩
    · exact ⟨none, 0, by rw [hv, h0]⟩
    · exact ⟨_, _, hv⟩
  obtain ⟨A, cap, rfl⟩ := hf
  exact ⟨A, cap, rfl, Reads.of_own h⟩
theorem empty_iff (s : ByteArray) : s.toList.isEmpty = true ↔ s.data.toList = [] := by rw [Lib.toList_data, List.isEmpty_iff]
theorem read_empty18 (vo : Value) (o : Ort) (s : ByteArray) (w : World) (ho : OAt w w.heap.size o vo) (h : s.toList.isEmpty = true) : Calls Tryd.prog 18 #[vo, .string s] w (ReadOut o.us s.data.toList w) := by
  obtain ⟨AU, capU, AL, capL, rfl, hU, hL⟩ := ho
  have E := Lib.hid ((empty_iff s).1 h)
  go_enter Tryd.func18, Tryd.ntmps18
  go_wp2_with fail
  go_ret3
  exact ⟨_, [], 0, 4, rfl, .inl ⟨E.out, rfl, rfl, rfl⟩, World.ownsRow_nil _ _ _ _, below_one _ _⟩
theorem read_empty19 (vo : Value) (o : Ort) (s : ByteArray) (w : World) (ho : OAt w w.heap.size o vo) (h : s.toList.isEmpty = true) : Calls Tryd.prog 19 #[vo, .string s] w (ReadOut o.us s.data.toList w) := by
  obtain ⟨AU, capU, AL, capL, rfl, hU, hL⟩ := ho
  have E := Lib.hid ((empty_iff s).1 h)
  go_enter Tryd.func19, Tryd.ntmps19
  go_wp2_with fail
  go_ret3
  exact ⟨_, [], 0, 4, rfl, .inl ⟨E.out, rfl, rfl, rfl⟩, World.ownsRow_nil _ _ _ _, below_one _ _⟩
set_option maxHeartbeats 1600000 in
set_option maxRecDepth 100000 in
theorem read_some18 (o : Ort) (vo : Value) (s : ByteArray) (w : World) (ho : OAt w w.heap.size o vo) (hs : s.size ≤ 65536) (hg : Good o.us) (h : s.toList.isEmpty = false) :
    Calls Tryd.prog 18 #[vo, .string s] w (ReadOut o.us s.data.toList w) := by
  have NE := Lib.hid (show s.data.toList ≠ [] from fun e => by rw [(empty_iff s).2 e] at h; cases h)
  obtain ⟨i0, hi, hz0, hz1, hz2⟩ := info_parts info3
  have HI3 := Lib.hid hi
  have HZ0 := Lib.hid hz0
  have HZ1 := Lib.hid hz1
  have HZ2 := Lib.hid hz2
  clear hi hz0 hz1 hz2
  have HO := Lib.hid ho
  obtain ⟨AU, capU, AL, capL, rfl, hU, hL⟩ := ho
  obtain ⟨d0, d1, d2⟩ := box_o w o.name (.slice AU o.us.length capU) (.slice AL o.ls.length capL) 28
  have hbw := below_one w (.cells #[.string o.name, .slice AU o.us.length capU, .slice AL o.ls.length capL] 28)
  have hz := size_one w (.cells #[.string o.name, .slice AU o.us.length capU, .slice AL o.ls.length capL] 28)
  obtain ⟨w2, hw2⟩ : ∃ w2, w.alloc (.cells #[.string o.name, .slice AU o.us.length capU, .slice AL o.ls.length capL] 28) = w2 := ⟨_, rfl⟩
  rw [hw2] at d0 d1 d2 hbw hz
  have hU2 := Lib.hid (hU.keep fun _ hp => hbw.cell hp)
  have HW2 := Lib.hid hw2
  have HZ := Lib.hid hz
  have D1 := Lib.hid d1
  have HO2 := Lib.hid (HO.out.below hbw)
  clear hU hL hw2 hz
  have HG := Lib.hid hg
  have hn : o.us.length ≤ 120 := hg.n
  clear hg
  go_enter Tryd.func18, Tryd.ntmps18
  go_wp2_with fail
  rw [HW2.out]
  clear HW2
  refine (units16 o _ s _ HO2.out hs HG.out).mono ?_
  rintro e w3 ⟨v, l, a, rfl, hd, hown, hb3⟩
  have hc := dv_count HG.out hd.1
  have hal := hd.1.le
  rw [size_list] at hal
  have HD := Lib.hid hd
  obtain ⟨A, cap, rfl, hr⟩ := ints_of (nz_len l).symm hown
  have HR := Lib.hid hr
  have hb3' := hbw.trans (hb3.mono hbw.size)
  have hsl := segs_len HG.out
  clear hd hown hr d0 d1 d2
  rw [nz_len]
  by_cases hlt : a < s.size
  · go_wp2_with fail
    go_ret3
    exact ⟨_, [], a, 20, rfl, .inr ⟨NE.out, l, a, HD.out, .inl ⟨by rw [size_list]; exact hlt, rfl, rfl, rfl⟩⟩, World.ownsRow_nil _ _ _ _, hb3'⟩
  · have hsz3 : w.heap.size + 1 ≤ w3.heap.size := by have := hb3.size; have := HZ.out; omega
    have hb3z := hb3
    rw [HZ.out] at hb3z
    clear hb3
    go_wp2_with fail
    go_loopw [9, 27] (fun v i wr => ∃ k : Nat, k ≤ l.length ∧ i = .int .i64 k ∧ wr.ownsRow w3.heap.size 3 1 v (segs o.us (l.take k)).length (IS (segs o.us (l.take k))) ∧ Below w3.heap.size w3 wr) (fun _ i _ => l.length - (intOf i).toNat)
    case atStart => exact ⟨0, Nat.zero_le _, rfl, World.ownsRow_nil _ _ _ _, Below.refl _ _⟩
    case round =>
      obtain ⟨k, hk, rfl, hI, hb⟩ := hrel
      have HI := Lib.hid hI
      clear hI
      have hll := hsl (l.take k)
      rw [List.length_take] at hll
      have hsz : w3.heap.size ≤ wr.heap.size := hb.size
      by_cases hkl : k < l.length
      · obtain ⟨i, hi⟩ := get_lt hkl
        have hin : i < o.us.length := HD.out.1.mem i (List.mem_of_getElem? hi)
        obtain ⟨u, hu⟩ := get_lt hin
        have s2 := HG.out.s2 u (List.mem_of_getElem? hu)
        have SU := Lib.hid (segs_take (us := o.us) hi)
        rw [sg_at hu] at SU
        obtain ⟨ad, rfl, hblk, c⟩ := (HR.out.below hb).at_ (nz_at hi)
        have e1 := ((hb.mono hsz3).cell (p := ⟨w.heap.size, 1, none⟩) (by simp)).trans ((hb3z.cell (p := ⟨w.heap.size, 1, none⟩) (by simp)).trans D1.out)
        obtain ⟨ad2, Aj, cj, hAU, hblk2, _, c2, hints⟩ := hU2.out i u hu
        have hk2 : ∀ p : Addr, p.block < w.heap.size → wr.cell? p = w2.cell? p := fun p hp => ((hb.mono hsz3).cell (p := p) (by omega)).trans (hb3z.cell (p := p) (by omega))
        have c2' := (hk2 ⟨(ad2.add (i * 2)).block, (ad2.add (i * 2)).off + 1, none⟩ (by show (ad2.add (i * 2)).block < _; rw [block_of_add]; exact hblk2)).trans c2
        have HJ := Lib.hid (hints.keep hk2)
        subst hAU
        clear hu hi c2 hk2 hints
        go_wp2_with (at_builtin; refine wpList_append_any _ rfl _ _ 34 rfl w3.heap.size 3 i0 (.int .i64 0) 1 8 Tryd.underlying34 HI3.out HZ0.out HZ1.out HZ2.out rfl (by decide) _ _ _ rfl HI.out w.heap.size Aj u.2.length cj (IS u.2) rfl HJ.out (IS_one _) ?c3 ?c4 hsz ?_)
        case c3 => unfold maxLen; omega
        case c4 => omega
        intro v' w4 hown' hgrow hnil
        clear hnil
        have HO4 := Lib.hid hown'
        clear hown'
        have hb4 := hb.grown hgrow hsz (fun k hk => (HI.out.lt k hk).1)
        clear hgrow
        go_wp2_with fail
        go_roundw
        case rel =>
          refine ⟨k + 1, by omega, by go_num, ?_, hb4⟩
          rw [SU.out, IS_append, List.length_append]
          exact HO4.out
        case measure => simp [intOf]; omega
      · have hall : l.take k = l := List.take_of_length_le (by omega)
        rw [hall] at HI
        clear hall
        have hbe := hb3'.trans (hb.mono (by omega))
        obtain ⟨A2, cap2, rfl, _⟩ := ints_of rfl HI.out
        have ha : a = s.data.toList.length := by rw [size_list]; omega
        have HA := Lib.hid ha
        clear ha
        by_cases h24 : 24 < (segs o.us l).length
        · have h24' : (24 : Int) < ((segs o.us l).length : Int) := by omega
          go_wp2_with fail
          go_ret3
          exact ⟨_, [], 0, 5, rfl, .inr ⟨NE.out, l, a, HD.out, .inr (.inl ⟨HA.out, h24, rfl, rfl, rfl⟩)⟩, World.ownsRow_nil _ _ _ _, hbe⟩
        · have h24' : ¬ (24 : Int) < ((segs o.us l).length : Int) := by omega
          go_wp2_with fail
          go_ret3
          exact ⟨_, segs o.us l, 0, 0, rfl, .inr ⟨NE.out, l, a, HD.out, .inr (.inr ⟨HA.out, by omega, rfl, rfl, rfl⟩)⟩, own_base HI.out (by omega), hbe⟩
set_option maxHeartbeats 1600000 in
set_option maxRecDepth 100000 in
theorem read_some19 (o : Ort) (vo : Value) (s : ByteArray) (w : World) (ho : OAt w w.heap.size o vo) (hs : s.size ≤ 65536) (hg : Good o.us) (h : s.toList.isEmpty = false) :
    Calls Tryd.prog 19 #[vo, .string s] w (ReadOut o.us s.data.toList w) := by
  have NE := Lib.hid (show s.data.toList ≠ [] from fun e => by rw [(empty_iff s).2 e] at h; cases h)
  obtain ⟨i0, hi, hz0, hz1, hz2⟩ := info_parts info3
  have HI3 := Lib.hid hi
  have HZ0 := Lib.hid hz0
  have HZ1 := Lib.hid hz1
  have HZ2 := Lib.hid hz2
  clear hi hz0 hz1 hz2
  have HO := Lib.hid ho
  obtain ⟨AU, capU, AL, capL, rfl, hU, hL⟩ := ho
  obtain ⟨d0, d1, d2⟩ := box_o w o.name (.slice AU o.us.length capU) (.slice AL o.ls.length capL) 28
  have hbw := below_one w (.cells #[.string o.name, .slice AU o.us.length capU, .slice AL o.ls.length capL] 28)
  have hz := size_one w (.cells #[.string o.name, .slice AU o.us.length capU, .slice AL o.ls.length capL] 28)
  obtain ⟨w2, hw2⟩ : ∃ w2, w.alloc (.cells #[.string o.name, .slice AU o.us.length capU, .slice AL o.ls.length capL] 28) = w2 := ⟨_, rfl⟩
  rw [hw2] at d0 d1 d2 hbw hz
  have hU2 := Lib.hid (hU.keep fun _ hp => hbw.cell hp)
  have HW2 := Lib.hid hw2
  have HZ := Lib.hid hz
  have D1 := Lib.hid d1
  have HO2 := Lib.hid (HO.out.below hbw)
  clear hU hL hw2 hz
  have HG := Lib.hid hg
  have hn : o.us.length ≤ 120 := hg.n
  clear hg
  go_enter Tryd.func19, Tryd.ntmps19
  go_wp2_with fail
  rw [HW2.out]
  clear HW2
  refine (units17 o _ s _ HO2.out hs HG.out).mono ?_
  rintro e w3 ⟨v, l, a, rfl, hd, hown, hb3⟩
  have hc := dv_count HG.out hd.1
  have hal := hd.1.le
  rw [size_list] at hal
  have HD := Lib.hid hd
  obtain ⟨A, cap, rfl, hr⟩ := ints_of (nz_len l).symm hown
  have HR := Lib.hid hr
  have hb3' := hbw.trans (hb3.mono hbw.size)
  have hsl := segs_len HG.out
  clear hd hown hr d0 d1 d2
  rw [nz_len]
  by_cases hlt : a < s.size
  · go_wp2_with fail
    go_ret3
    exact ⟨_, [], a, 20, rfl, .inr ⟨NE.out, l, a, HD.out, .inl ⟨by rw [size_list]; exact hlt, rfl, rfl, rfl⟩⟩, World.ownsRow_nil _ _ _ _, hb3'⟩
  · have hsz3 : w.heap.size + 1 ≤ w3.heap.size := by have := hb3.size; have := HZ.out; omega
    have hb3z := hb3
    rw [HZ.out] at hb3z
    clear hb3
    go_wp2_with fail
    go_loopw [9, 10] (fun v i wr => ∃ k : Nat, k ≤ l.length ∧ i = .int .i64 k ∧ wr.ownsRow w3.heap.size 3 1 v (segs o.us (l.take k)).length (IS (segs o.us (l.take k))) ∧ Below w3.heap.size w3 wr) (fun _ i _ => l.length - (intOf i).toNat)
    case atStart => exact ⟨0, Nat.zero_le _, rfl, World.ownsRow_nil _ _ _ _, Below.refl _ _⟩
    case round =>
      obtain ⟨k, hk, rfl, hI, hb⟩ := hrel
      have HI := Lib.hid hI
      clear hI
      have hll := hsl (l.take k)
      rw [List.length_take] at hll
      have hsz : w3.heap.size ≤ wr.heap.size := hb.size
      by_cases hkl : k < l.length
      · obtain ⟨i, hi⟩ := get_lt hkl
        have hin : i < o.us.length := HD.out.1.mem i (List.mem_of_getElem? hi)
        obtain ⟨u, hu⟩ := get_lt hin
        have s2 := HG.out.s2 u (List.mem_of_getElem? hu)
        have SU := Lib.hid (segs_take (us := o.us) hi)
        rw [sg_at hu] at SU
        obtain ⟨ad, rfl, hblk, c⟩ := (HR.out.below hb).at_ (nz_at hi)
        have e1 := ((hb.mono hsz3).cell (p := ⟨w.heap.size, 1, none⟩) (by simp)).trans ((hb3z.cell (p := ⟨w.heap.size, 1, none⟩) (by simp)).trans D1.out)
        obtain ⟨ad2, Aj, cj, hAU, hblk2, _, c2, hints⟩ := hU2.out i u hu
        have hk2 : ∀ p : Addr, p.block < w.heap.size → wr.cell? p = w2.cell? p := fun p hp => ((hb.mono hsz3).cell (p := p) (by omega)).trans (hb3z.cell (p := p) (by omega))
        have c2' := (hk2 ⟨(ad2.add (i * 2)).block, (ad2.add (i * 2)).off + 1, none⟩ (by show (ad2.add (i * 2)).block < _; rw [block_of_add]; exact hblk2)).trans c2
        have HJ := Lib.hid (hints.keep hk2)
        subst hAU
        clear hu hi c2 hk2 hints
        have q0 : (0 : Int) ≤ (k : Int) := by omega
        have q1 : (k : Int) < (l.length : Int) := by omega
        have q2 : (0 : Int) ≤ (i : Int) := by omega
        have q3 : (i : Int) < (o.us.length : Int) := by omega
        go_wp2_with fail
        go_still_tail 10, (by kernel_rfl)
        have hb2 := hb.drew
        have HI2 := Lib.hid (show wr.drew.ownsRow w3.heap.size 3 1 u9 (segs o.us (l.take k)).length (IS (segs o.us (l.take k))) from HI.out)
        have HJ2 := Lib.hid (show Ints wr.drew w.heap.size Aj u.2 from HJ.out)
        have hsz2 : w3.heap.size ≤ wr.drew.heap.size := hsz
        change wpList _ _ _ _ _ wr.drew
        generalize wr.drew = wx at HI2 hb2 HJ2 hsz2 ⊢
        clear HI hb e1 c2' c hsz HJ
        go_wp2_with (at_builtin; refine wpList_append_any _ rfl _ _ 34 rfl w3.heap.size 3 i0 (.int .i64 0) 1 8 Tryd.underlying34 HI3.out HZ0.out HZ1.out HZ2.out rfl (by decide) _ _ _ rfl HI2.out w.heap.size Aj u.2.length cj (IS u.2) rfl HJ2.out (IS_one _) ?c3 ?c4 hsz2 ?_)
        case c3 => unfold maxLen; omega
        case c4 => omega
        intro v' w4 hown' hgrow hnil
        clear hnil
        have HO4 := Lib.hid hown'
        clear hown'
        have hb4 := hb2.grown hgrow hsz2 (fun k hk => (HI2.out.lt k hk).1)
        clear hgrow
        go_wp2_with fail
        go_roundw
        case rel =>
          refine ⟨k + 1, by omega, by go_num, ?_, hb4⟩
          rw [SU.out, IS_append, List.length_append]
          exact HO4.out
        case measure => simp [intOf]; omega
      · have hall : l.take k = l := List.take_of_length_le (by omega)
        rw [hall] at HI
        clear hall
        have hbe := hb3'.trans (hb.mono (by omega))
        obtain ⟨A2, cap2, rfl, _⟩ := ints_of rfl HI.out
        have ha : a = s.data.toList.length := by rw [size_list]; omega
        have HA := Lib.hid ha
        clear ha
        by_cases h24 : 24 < (segs o.us l).length
        · have h24' : (24 : Int) < ((segs o.us l).length : Int) := by omega
          go_wp2_with fail
          go_ret3
          exact ⟨_, [], 0, 5, rfl, .inr ⟨NE.out, l, a, HD.out, .inr (.inl ⟨HA.out, h24, rfl, rfl, rfl⟩)⟩, World.ownsRow_nil _ _ _ _, hbe⟩
        · have h24' : ¬ (24 : Int) < ((segs o.us l).length : Int) := by omega
          go_wp2_with fail
          go_ret3
          exact ⟨_, segs o.us l, 0, 0, rfl, .inr ⟨NE.out, l, a, HD.out, .inr (.inr ⟨HA.out, by omega, rfl, rfl, rfl⟩)⟩, own_base HI.out (by omega), hbe⟩
theorem read18 (o : Ort) (vo : Value) (s : ByteArray) (w : World) (ho : OAt w w.heap.size o vo) (hs : s.size ≤ 65536) (hg : Good o.us) : Calls Tryd.prog 18 #[vo, .string s] w (ReadOut o.us s.data.toList w) := by
  cases h : s.toList.isEmpty
  · exact read_some18 o vo s w ho hs hg h
  · exact read_empty18 vo o s w ho h
theorem read19 (o : Ort) (vo : Value) (s : ByteArray) (w : World) (ho : OAt w w.heap.size o vo) (hs : s.size ≤ 65536) (hg : Good o.us) : Calls Tryd.prog 19 #[vo, .string s] w (ReadOut o.us s.data.toList w) := by
  cases h : s.toList.isEmpty
  · exact read_some19 o vo s w ho hs hg h
  · exact read_empty19 vo o s w ho h
end Go.Proofs.YtoechdnhgkelfaaDoor
