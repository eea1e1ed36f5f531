/-
  What Units of the program returns.
-/
import Derived.Test.YtoechdnhgkelfaaDoorUnitsR
import Derived.Deep.LoopGhost
import Derived.WalkMore
namespace Go.Proofs.YtoechdnhgkelfaaDoor
open Go.RowKit Go.PlainAid Pl
def MostTo (us : List U) (k m : Nat) : Prop := ∀ j, j < k → (gr us j).length ≤ m
def NoGt (us : List U) (r : List UInt8) (n : Nat) : Prop := ∀ k, Beg us.length (gr us) r k → (gr us k).length ≤ n
def NoEq (us : List U) (r : List UInt8) (n i : Nat) : Prop := ∀ k, k < i → Beg us.length (gr us) r k → (gr us k).length ≠ n
theorem NoGt.hit {us : List U} {r : List UInt8} {n i : Nat} (h : NoGt us r n) (h2 : NoEq us r n i) (hi : i < us.length) (hn : n ≤ r.length) (he : gr us i = r.take n) : Best us.length (gr us) r i := by
  have hl : (gr us i).length = n := by rw [he, List.length_take]; omega
  exact ⟨⟨hi, by rw [he]; exact List.take_prefix _ _⟩, fun k hk => by rw [hl]; exact h k hk, fun k hk hb => by have := h k hb; have := h2 k hk hb; omega⟩
theorem NoEq.next {us : List U} {r : List UInt8} {n i : Nat} (h : NoEq us r n i) (he : gr us i ≠ r.take n) : NoEq us r n (i + 1) := fun k hk hb => by
  by_cases e : k = i
  · subst e
    intro hl
    apply he
    have := List.prefix_iff_eq_take.1 hb.2
    rw [hl] at this
    exact this
  · exact h k (by omega) hb
theorem NoGt.down {us : List U} {r : List UInt8} {n : Nat} (h : NoGt us r (n + 1)) (h2 : NoEq us r (n + 1) us.length) : NoGt us r n := fun k hk => by
  have := h k hk
  have := h2 k hk.1 hk
  omega
theorem NoGt.start {us : List U} {r : List UInt8} {m : Nat} (h : MostTo us us.length m) : NoGt us r (min m r.length) := fun k hk => by
  have h1 := h k hk.1
  have h2 := hk.2.length_le
  omega
theorem NoGt.nob {us : List U} (hg : Good us) {r : List UInt8} (h : NoGt us r 0) : Nob us.length (gr us) r := fun k hk => by
  have h1 := h k hk
  obtain ⟨u, hu⟩ := get_lt hk.1
  have h2 := hg.g1 u (List.mem_of_getElem? hu)
  rw [gr_at hu, size_list] at h1
  omega
theorem ext_eq {g s : ByteArray} {a n : Nat} : (g.toList == (s.extract a (a + n)).toList) = true ↔ g.data.toList = (s.data.toList.drop a).take n := by
  rw [beq_iff_eq, Lib.toList_data, Lib.toList_data, Lib.extract_data, Nat.add_sub_cancel_left]
theorem wrap_small (n : Int) (h : -9223372036854775808 ≤ n ∧ n ≤ 9223372036854775807) : IntKind.i64.wrap n = n := by rw [Go.PlainAid.i64_is]; exact Go.IntWalk.wrap64_in _ h
theorem slice_run (s : ByteArray) (a b : Nat) (h : a ≤ b) (hb : b ≤ s.size) : ∀ wx : World, (Instr.slice 9 (.string s) (some (.int .i64 (a : Int))) (some (.int .i64 (b : Int))) none).run Tryd.prog wx = .ok (.string (s.extract a b)) wx := fun wx => by
  have := run_slice_string (P := Tryd.prog) wx 9 s .i64 .i64 (a : Int) (b : Int) Tryd.underlying9 (by omega) (by omega) (by omega)
  simpa using this
theorem max_if (m n : Nat) : Value.int .i64 (if m < n then (n : Int) else (m : Int)) = .int .i64 ((max m n : Nat) : Int) := by
  congr 1
  split <;> omega
theorem MostTo.succ {us : List U} {k m : Nat} (h : MostTo us k m) {n : Nat} (hn : (gr us k).length = n) : MostTo us (k + 1) (max m n) := fun j hj => by
  by_cases e : j = k
  · subst e; omega
  · have := h j (by omega); omega
set_option maxHeartbeats 3200000 in
set_option maxRecDepth 100000 in
theorem units16 (o : Ort) (vo : Value) (s : ByteArray) (w : World) (ho : OAt w w.heap.size o vo) (hs : s.size ≤ 65536) (hg : Good o.us) :
    Calls Tryd.prog 16 #[vo, .string s] w (UnitsOut o.us s.data.toList w) := by
  obtain ⟨i0, hi, hz0, hz1, hz2⟩ := info_parts info3
  have HI3 := Lib.hid hi
  have HZ0 := Lib.hid hz0
  have HZ1 := Lib.hid hz1
  have HZ2 := Lib.hid hz2
  clear hi hz0 hz1 hz2
  obtain ⟨AU, capU, AL, capL, rfl, hU, hL⟩ := ho
  obtain ⟨d0, d1, d2⟩ := box_o w o.name (.slice AU o.us.length capU) (.slice AL o.ls.length capL) 28
  have hbw := below_one w (.cells #[.string o.name, .slice AU o.us.length capU, .slice AL o.ls.length capL] 28)
  have hz := size_one w (.cells #[.string o.name, .slice AU o.us.length capU, .slice AL o.ls.length capL] 28)
  obtain ⟨w2, hw2⟩ : ∃ w2, w.alloc (.cells #[.string o.name, .slice AU o.us.length capU, .slice AL o.ls.length capL] 28) = w2 := ⟨_, rfl⟩
  rw [hw2] at d0 d1 d2 hbw hz
  have hU2 := Lib.hid (hU.keep fun _ hp => hbw.cell hp)
  have HW2 := Lib.hid hw2
  have HZ := Lib.hid hz
  have D1 := Lib.hid d1
  clear hU hL hw2 d0 d2 hz
  have HG := Lib.hid hg
  have hn : o.us.length ≤ 120 := hg.n
  clear hg
  obtain ⟨us, hus⟩ : ∃ us, o.us = us := ⟨_, rfl⟩
  rw [hus] at hU2 HW2 HG d1 D1 hn
  rw [hus]
  clear hus
  go_enter Tryd.func16, Tryd.ntmps16
  go_wp2_with fail
  go_step3
  rw [HW2.out]
  clear HW2
  go_wp2_with fail
  go_loopw [6, 17] (fun v i wr => ∃ (k m : Nat), k ≤ us.length ∧ m ≤ 100 ∧ i = .int .i64 k ∧ v = .int .i64 m ∧ MostTo us k m ∧ Below (w.heap.size + 1) w2 wr) (fun _ i _ => us.length - (intOf i).toNat)
  case atStart => exact ⟨0, 0, Nat.zero_le _, by omega, rfl, rfl, fun j hj => by omega, Below.refl _ _⟩
  case round =>
    obtain ⟨k, m, hk, hm, rfl, rfl, hmost, hb⟩ := hrel
    have HM := Lib.hid hmost
    clear hmost
    have hsz : w.heap.size + 1 ≤ wr.heap.size := by have := hb.size; have := HZ.out; omega
    by_cases hlt : k < us.length
    · obtain ⟨u, hu⟩ := get_lt hlt
      have g2 := HG.out.g2 u (List.mem_of_getElem? hu)
      have GU := Lib.hid (gr_at hu)
      obtain ⟨ad, Aj, cj, rfl, hblk, c1, c2, _⟩ := hU2.out k u hu
      have c1' := (hb.cell (p := ad.add (k * 2)) (by rw [block_of_add]; omega)).trans c1
      have c2' := (hb.cell (p := ⟨(ad.add (k * 2)).block, (ad.add (k * 2)).off + 1, none⟩) (by show (ad.add (k * 2)).block < _; rw [block_of_add]; omega)).trans c2
      clear hu c1 c2
      go_wp2_with fail
      go_roundw
      case rel =>
        refine ⟨k + 1, max m u.1.size, by omega, by omega, by go_num, ?_, ?_, ?_⟩
        · exact max_if _ _
        · exact HM.out.succ (by rw [GU.out, size_list])
        · exact hb.alloc hsz _
      case measure => simp [intOf]; omega
    · obtain rfl : us.length = k := by omega
      obtain ⟨wo, rfl⟩ : ∃ wo : World, wo = wr := ⟨_, rfl⟩
      go_wp2_with fail
      go_step3
      go_wp2_with fail
      go_loopg [9, 10] s.size (fun g v i wr => ∃ (l : List Nat) (a : Nat), a + g = s.size ∧ i = .int .i64 a ∧ Dv us.length (gr us) s.data.toList l a ∧ wr.ownsRow (w.heap.size + 1) 3 1 v l.length (IS (nz l)) ∧ Below (w.heap.size + 1) w2 wr)
      case atStart => exact ⟨[], 0, by omega, rfl, .nil, World.ownsRow_nil _ _ _ _, hb⟩
      case round =>
        obtain ⟨l, a, hag, rfl, hst, hI, hb⟩ := hrel
        have HI := Lib.hid hI
        have HST := Lib.hid hst
        have hc := dv_count HG.out hst
        have hsz : w.heap.size + 1 ≤ wr.heap.size := by have := hb.size; have := HZ.out; omega
        clear hI hst
        by_cases hlt : a < s.size
        · obtain ⟨go, rfl⟩ : ∃ go, go = gk := ⟨_, rfl⟩
          have HAG := Lib.hid hag
          clear hag
          obtain ⟨wo2, rfl⟩ : ∃ wo : World, wo = wr := ⟨_, rfl⟩
          go_wp2_with fail
          all_goals
            have hst := Lib.hid (NoGt.start (r := s.data.toList.drop a) HM.out)
            rw [List.length_drop, size_list] at hst
            go_loopg [9, 10, 11] (min m (s.size - a)) (fun n v i j wr => j = .int .i64 n ∧ i = .int .i64 a ∧ n ≤ s.size - a ∧ NoGt us (s.data.toList.drop a) n ∧ wr.ownsRow (w.heap.size + 1) 3 1 v l.length (IS (nz l)) ∧ Below (w.heap.size + 1) w2 wr)
            case atStart => exact ⟨by congr 1; omega, rfl, by omega, hst.out, HI.out, hb⟩
            case round =>
              obtain ⟨rfl, rfl, hn2, hgt, hI, hb⟩ := hrel
              obtain ⟨n, rfl⟩ : ∃ n, n = gk := ⟨_, rfl⟩
              have HI := Lib.hid hI
              have HGT := Lib.hid hgt
              have hsz : w.heap.size + 1 ≤ wr.heap.size := by have := hb.size; have := HZ.out; omega
              have e1 := (hb.cell (p := ⟨w.heap.size, 1, none⟩) (by simp)).trans D1.out
              clear hI hgt
              by_cases hn0 : 0 < n
              · obtain ⟨wo3, rfl⟩ : ∃ wo : World, wo = wr := ⟨_, rfl⟩
                go_wp2_with fail
                go_loopg [9, 10, 44] us.length (fun g v i j wr => ∃ k : Nat, k + g = us.length ∧ j = .int .i64 k ∧ i = .int .i64 a ∧ NoEq us (s.data.toList.drop a) n k ∧ wr.ownsRow (w.heap.size + 1) 3 1 v l.length (IS (nz l)) ∧ Below (w.heap.size + 1) w2 wr)
                case atStart => exact ⟨0, by omega, rfl, rfl, fun k hk => by omega, HI.out, hb⟩
                case round =>
                  obtain ⟨k, hkg, rfl, rfl, hne, hI, hb⟩ := hrel
                  have HKG := Lib.hid hkg
                  have hklt : ¬ k < us.length → k = us.length := by omega
                  have HI := Lib.hid hI
                  have HNE := Lib.hid hne
                  have hsz : w.heap.size + 1 ≤ wr.heap.size := by have := hb.size; have := HZ.out; omega
                  clear hI hne hkg
                  by_cases hk : k < us.length
                  · clear hklt
                    obtain ⟨u, hu⟩ := get_lt hk
                    have g1 := HG.out.g1 u (List.mem_of_getElem? hu)
                    have g2 := HG.out.g2 u (List.mem_of_getElem? hu)
                    have GU := Lib.hid (gr_at hu)
                    obtain ⟨ad, Aj, cj, rfl, hblk, c1, c2, _⟩ := hU2.out k u hu
                    have c1' := (hb.cell (p := ad.add (k * 2)) (by rw [block_of_add]; omega)).trans c1
                    have c2' := (hb.cell (p := ⟨(ad.add (k * 2)).block, (ad.add (k * 2)).off + 1, none⟩) (by show (ad.add (k * 2)).block < _; rw [block_of_add]; omega)).trans c2
                    clear hu c1 c2 e1
                    have HEQ := Lib.hid (ext_eq (g := u.1) (s := s) (a := a) (n := n))
                    cases hq : (u.1.toList == (s.extract a (a + n)).toList)
                    · have HQ := Lib.hid (show gr us k ≠ (s.data.toList.drop a).take n from fun h => by rw [GU.out] at h; have := HEQ.out.2 h; rw [hq] at this; cases this)
                      have hwr : IntKind.i64.wrap ((a : Int) + (n : Int)) = (a : Int) + (n : Int) := wrap_small _ (by omega)
                      have hsl := slice_run s a (a + n) (by omega) (by omega)
                      rw [show ((a + n : Nat) : Int) = (a : Int) + (n : Int) by omega] at hsl
                      go_wp2_with fail
                      go_quiet (fail)
                      go_wp2_with fail
                      go_roundg (us.length - (k + 1))
                      case measure => have := HKG.out; omega
                      case rel => exact ⟨k + 1, by have := HKG.out; omega, by go_num, rfl, HNE.out.next HQ.out, (HI.out.alloc _), below_drewN (hb.alloc hsz _) _⟩
                    · have HQ := Lib.hid (show gr us k = (s.data.toList.drop a).take n from by rw [GU.out]; exact HEQ.out.1 hq)
                      have HB := Lib.hid (HGT.out.hit HNE.out hk (by rw [List.length_drop, size_list]; omega) HQ.out)
                      have HL := Lib.hid (show (gr us k).length = n by rw [HQ.out, List.length_take, List.length_drop, size_list]; omega)
                      have hwr : IntKind.i64.wrap ((a : Int) + (n : Int)) = (a : Int) + (n : Int) := wrap_small _ (by omega)
                      have hsl := slice_run s a (a + n) (by omega) (by omega)
                      rw [show ((a + n : Nat) : Int) = (a : Int) + (n : Int) by omega] at hsl
                      go_wp2_with fail
                      go_quiet (fail)
                      have hb3 := below_drewN (hb.alloc hsz (.cells #[.string u.1, .slice Aj u.2.length cj] 47)) nq
                      have HI3' := Lib.hid (show ((wr.alloc (.cells #[.string u.1, .slice Aj u.2.length cj] 47)).drewN nq).ownsRow (w.heap.size + 1) 3 1 u9 l.length (IS (nz l)) from HI.out.alloc _)
                      have hsz3 : w.heap.size + 1 ≤ ((wr.alloc (.cells #[.string u.1, .slice Aj u.2.length cj] 47)).drewN nq).heap.size := by simp; omega
                      generalize (wr.alloc (.cells #[.string u.1, .slice Aj u.2.length cj] 47)).drewN nq = wx at hb3 HI3' hsz3 ⊢
                      clear hb HI hsz
                      go_wp2_with (at_builtin; refine wpList_append_own _ rfl _ _ 34 rfl (w.heap.size + 1) 3 i0 (.int .i64 0) 1 8 Tryd.underlying34 HI3.out HZ0.out HZ1.out HZ2.out rfl (by decide) _ _ _ rfl (HI3'.out.alloc _) ⟨wx.heap.size, 0, none⟩ 1 1 [.int .i64 (k : Int)] rfl rfl (cells_one wx _ 3) (by intro u hu; simp at hu; subst hu; rfl) (by unfold maxLen; omega) (by omega) (by simp; omega) ?_)
                      intro v' w4 hown' hgrow hnil
                      clear hnil
                      have HO4 := Lib.hid hown'
                      clear hown'
                      have hb4 := (hb3.alloc hsz3 _).grown hgrow (by simp; omega) (fun k hk => (HI3'.out.lt k hk).1)
                      clear hgrow hb3
                      go_wp2_with fail
                      go_roundg (go - n)
                      case measure => have := HAG.out; omega
                      case rel =>
                        refine ⟨l ++ [k], a + n, by have := HAG.out; omega, by go_num, ?_, by rw [nz_snoc]; simpa using HO4.out, hb4⟩
                        have := HST.out.snoc (by rw [size_list]; exact hlt) HB.out
                        rw [HL.out] at this
                        exact this
                  · obtain rfl : k = us.length := hklt hk
                    clear hklt
                    have HGD := Lib.hid (show NoGt us (s.data.toList.drop a) (n - 1) from by
                      obtain ⟨n', rfl⟩ : ∃ n', n = n' + 1 := ⟨n - 1, by omega⟩
                      exact HGT.out.down HNE.out)
                    go_wp2_with fail
                    go_roundg (n - 1)
                    case measure => omega
                    case rel => exact ⟨by congr 1; omega, rfl, by omega, HGD.out, HI.out, hb⟩
              · obtain rfl : n = 0 := by omega
                have HNB := Lib.hid (HGT.out.nob HG.out)
                go_wp2_with fail
                rw [Exit.noGoto_ret]
                go_ret2
                exact ⟨_, l, a, rfl, ⟨HST.out, .inr HNB.out⟩, own_base HI.out (by omega), hbw.trans (hb.mono (by omega))⟩
        · go_wp2_with fail
          try rw [Exit.noGoto_ret]
          go_ret2
          exact ⟨_, l, a, rfl, ⟨HST.out, .inl (by rw [size_list]; omega)⟩, own_base HI.out (by omega), hbw.trans (hb.mono (by omega))⟩
end Go.Proofs.YtoechdnhgkelfaaDoor
