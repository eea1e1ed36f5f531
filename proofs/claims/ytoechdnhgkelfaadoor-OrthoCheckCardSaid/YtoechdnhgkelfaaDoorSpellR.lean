/-
  What Spell of the reference returns.
-/
import Derived.Test.YtoechdnhgkelfaaDoorSpell
namespace Go.Proofs.YtoechdnhgkelfaaDoor
open Go.RowKit Go.PlainAid Pl
theorem spell_empty22 (vo : Value) (o : Ort) (A : Option Addr) (cap : Nat) (w : World) (ho : OAt w w.heap.size o vo) : Calls Tryd.prog 22 #[vo, .slice A ([] : List Int).length cap] w (SpellOut o.us [] w) := by
  obtain ⟨AU, capU, AL, capL, rfl, hU, hL⟩ := ho
  go_enter Tryd.func22, Tryd.ntmps22
  go_wp2_with fail
  go_ret3
  exact ⟨[], 0, 4, rfl, .inl ⟨rfl, rfl, rfl, rfl⟩, below_one _ _⟩
theorem spell_long22 (vo : Value) (o : Ort) (A : Option Addr) (cap : Nat) (r : List Int) (w : World) (ho : OAt w w.heap.size o vo) (h : 24 < r.length) (h2 : r.length ≤ 1000) : Calls Tryd.prog 22 #[vo, .slice A r.length cap] w (SpellOut o.us r w) := by
  obtain ⟨AU, capU, AL, capL, rfl, hU, hL⟩ := ho
  have h0 : ((r.length : Int) == 0) = false := by rw [beq_eq_false_iff_ne]; omega
  have h1 : (24 : Int) < (r.length : Int) := by omega
  go_enter Tryd.func22, Tryd.ntmps22
  go_wp2_with fail
  go_ret3
  exact ⟨[], 0, 5, rfl, .inr (.inl ⟨h, rfl, rfl, rfl⟩), below_one _ _⟩
/-- A world of a class. -/
structure WS (D : World → Prop) where
  w : World
  h : D w
/-- A region that draws its order, whose callees may make memory: one walk of the text's order, for every world of a class. -/
theorem region_sub {P : Program} {id : Nat} {Q : Exit → Act → World → Prop} {a : Act} {w : World} {l : List Oper} (D : World → Prop) (hm : P.follows .mixedOrders = true) (hB : Region.lexB .any l.toArray = true) (hC : D w.drew)
    (h : wpQuiet P l.toArray (fun w' => ∃ x : WS D, w' = x.w) (fun a' => ∀ w', (∃ x : WS D, w' = x.w) → Q .normal a' w') l a) : (Code.region id l.toArray true).wp P Q a w :=
  wp_region_quiet (C := fun w' => ∃ x : WS D, w' = x.w) hm hB ⟨⟨_, hC⟩, rfl⟩ (by simpa using h)
theorem str_append (a b : List UInt8) : (⟨a.toArray⟩ : ByteArray) ++ ⟨b.toArray⟩ = ⟨(a ++ b).toArray⟩ := by
  apply ByteArray.ext
  simp
theorem str_of (s : ByteArray) : s = ⟨s.data.toList.toArray⟩ := by simp
set_option maxHeartbeats 1600000 in
set_option maxRecDepth 100000 in
theorem spell_some22 (o : Ort) (vo : Value) (ar : Addr) (cap : Nat) (r : List Int) (w : World) (ho : OAt w w.heap.size o vo) (hr : Ints w w.heap.size (some ar) r) (h0 : 0 < r.length) (h24 : r.length ≤ 24) (hg : Good o.us) :
    Calls Tryd.prog 22 #[vo, .slice (some ar) r.length cap] w (SpellOut o.us r w) := by
  have NE := Lib.hid (show r ≠ [] from fun e => by rw [e] at h0; simp at h0)
  obtain ⟨AU, capU, AL, capL, rfl, hU, hL⟩ := ho
  obtain ⟨d0, d1, d2⟩ := box_o w o.name (.slice AU o.us.length capU) (.slice AL o.ls.length capL) 28
  have hbw := below_one w (.cells #[.string o.name, .slice AU o.us.length capU, .slice AL o.ls.length capL] 28)
  have hz := size_one w (.cells #[.string o.name, .slice AU o.us.length capU, .slice AL o.ls.length capL] 28)
  obtain ⟨w2, hw2⟩ : ∃ w2, w.alloc (.cells #[.string o.name, .slice AU o.us.length capU, .slice AL o.ls.length capL] 28) = w2 := ⟨_, rfl⟩
  rw [hw2] at d0 d1 d2 hbw hz
  have hU2 := Lib.hid (hU.keep fun _ hp => hbw.cell hp)
  have HR2 := Lib.hid (hr.keep fun _ hp => hbw.cell hp)
  have HW2 := Lib.hid hw2
  have HZ := Lib.hid hz
  have D1 := Lib.hid d1
  clear hU hL hw2 d0 d1 d2 hz hr
  have HG := Lib.hid hg
  have hn : o.us.length ≤ 120 := hg.n
  clear hg
  obtain ⟨us, hus⟩ : ∃ us, o.us = us := ⟨_, rfl⟩
  rw [hus] at hU2 HW2 HG D1 hn
  rw [hus]
  clear hus
  have hn0 : ((r.length : Int) == 0) = false := by rw [beq_eq_false_iff_ne]; omega
  have hn1 : ¬ (24 : Int) < (r.length : Int) := by omega
  have hgl := grs_len HG.out
  go_enter Tryd.func22, Tryd.ntmps22
  go_wp2_with fail
  rw [HW2.out]
  clear HW2
  go_loopw [7, 8] (fun s i wr => ∃ (l : List Nat) (a : Nat), i = .int .i64 a ∧ s = .string ⟨(grs us l).toArray⟩ ∧ Dv us.length (sg us) r l a ∧ Below (w.heap.size + 1) w2 wr) (fun _ i _ => r.length - (intOf i).toNat)
  case atStart => exact ⟨[], 0, rfl, rfl, .nil, Below.refl _ _⟩
  case round =>
    obtain ⟨l, a, rfl, rfl, hst, hb⟩ := hrel
    have HST := Lib.hid hst
    have hc := ds_count HG.out hst
    have hal := hst.le
    have hgll := hgl l
    clear hst
    by_cases hlt : a < r.length
    · obtain ⟨wo, rfl⟩ : ∃ wo : World, wo = wr := ⟨_, rfl⟩
      go_wp2_with fail
      go_loopw [9, 10] (fun b i wr => ∃ (k : Nat) (v : Int), k ≤ us.length ∧ i = .int .i64 k ∧ b = .int .i64 v ∧ LB (sg us) (r.drop a) k v ∧ Below (w.heap.size + 1) w2 wr) (fun _ i _ => us.length - (intOf i).toNat)
      case atStart => exact ⟨0, -1, Nat.zero_le _, rfl, rfl, LB.zero _ _, hb⟩
      case round =>
        obtain ⟨k, v, hk, rfl, rfl, hlb, hb⟩ := hrel
        have hsz : w.heap.size + 1 ≤ wr.heap.size := by have := hb.size; have := HZ.out; omega
        have e1 := (hb.cell (p := ⟨w.heap.size, 1, none⟩) (by simp)).trans D1.out
        by_cases hkl : k < us.length
        · obtain ⟨u, hu⟩ := get_lt hkl
          have s1 := HG.out.s1 u (List.mem_of_getElem? hu)
          have s2 := HG.out.s2 u (List.mem_of_getElem? hu)
          have SU := Lib.hid (sg_at hu)
          obtain ⟨ad, Aj, cj, rfl, hblk, c1, c2, hints⟩ := hU2.out k u hu
          have hk2 : ∀ p : Addr, p.block < w.heap.size → wr.cell? p = w2.cell? p := fun p hp => hb.cell (p := p) (by omega)
          have c1' := (hk2 (ad.add (k * 2)) (by rw [block_of_add]; exact hblk)).trans c1
          have c2' := (hk2 ⟨(ad.add (k * 2)).block, (ad.add (k * 2)).off + 1, none⟩ (by show (ad.add (k * 2)).block < _; rw [block_of_add]; exact hblk)).trans c2
          have HJ := Lib.hid (((hints.keep hk2).more (show w.heap.size ≤ wr.heap.size by omega)))
          have HRr := Lib.hid ((HR2.out.keep hk2).more (show w.heap.size ≤ wr.heap.size by omega))
          have inst : Nonempty (WS (Below (w.heap.size + 1) w2)) := ⟨⟨_, hb⟩⟩
          have f1 : ∀ x : WS (Below (w.heap.size + 1) w2), x.w.cell? ⟨w.heap.size, 1, none⟩ = some (.slice (some ad) us.length capU) := fun x => (x.h.cell (p := ⟨w.heap.size, 1, none⟩) (by simp)).trans D1.out
          have f2 : ∀ x : WS (Below (w.heap.size + 1) w2), x.w.cell? (ad.add (k * 2)) = some (.string u.1) := fun x => (x.h.cell (p := ad.add (k * 2)) (by rw [block_of_add]; omega)).trans c1
          have f3 : ∀ x : WS (Below (w.heap.size + 1) w2), x.w.cell? ⟨(ad.add (k * 2)).block, (ad.add (k * 2)).off + 1, none⟩ = some (.slice Aj u.2.length cj) := fun x => (x.h.cell (p := ⟨(ad.add (k * 2)).block, (ad.add (k * 2)).off + 1, none⟩) (by show (ad.add (k * 2)).block < _; rw [block_of_add]; omega)).trans c2
          have q0 : (0 : Int) ≤ (k : Int) := by omega
          have q1 : (k : Int) < (us.length : Int) := by omega
          have HT := Lib.hid (startB_iff (r := r) (a := a) (g := u.2))
          rw [← SU.out] at HT
          have HC := Lib.hid (show ∀ x : WS (Below (w.heap.size + 1) w2), Calls Tryd.prog 41 #[.slice (some ar) r.length cap, .int .i64 (a : Int), .agg #[.string u.1, .slice Aj u.2.length cj]] x.w fun e w' => e = .returned (.bool (startB r a u.2)) ∧ ∃ y : WS (Below (w.heap.size + 1) w2), w' = y.w from fun x => by
            have hx : w.heap.size + 1 ≤ x.w.heap.size := by have := x.h.size; have := HZ.out; omega
            have hk3 : ∀ p : Addr, p.block < w.heap.size → x.w.cell? p = w2.cell? p := fun p hp => x.h.cell (p := p) (by omega)
            exact (starts41 (some ar) Aj cap cj a r u x.w ((HR2.out.keep hk3).more (by omega)) ((hints.keep hk3).more (by omega)) (by omega) (by omega) (by omega)).mono fun e w' ⟨he, hb'⟩ => ⟨he, ⟨w', x.h.trans (hb'.mono hx)⟩, rfl⟩)
          clear hu c1 c2 hk2 hints c1' c2' HJ HRr
          cases hq : startB r a u.2
          · rw [hq] at HC
            have hni := Lib.hid (show ¬ sg us k <+: r.drop a from fun h => by have := HT.out.2 h; rw [SU.out, hq] at this; cases this)
            have HLB := Lib.hid hlb
            clear hlb hq
            go_wp2_with fail
            refine region_sub (Below (w.heap.size + 1) w2) (by kernel_rfl) (by kernel_rfl) hb.drew ?_
            repeat (first | go_big_quiet_step ((go_at_call 41; exact HC.out _)) | quiet_step ((go_at_call 41; exact HC.out _)))
            refine wpQuiet_nil ?_
            intro _ hw'
            obtain ⟨x, hw''⟩ := hw'
            subst hw''
            have hbx := x.h
            go_wp2_with fail
            go_roundw
            case rel =>
              refine ⟨k + 1, v, by omega, by go_num, rfl, ?_, hbx⟩
              rcases HLB.out with ⟨hv, hnob⟩ | ⟨j, hv, hbest⟩
              · exact .inl ⟨hv, hnob.skip hni.out⟩
              · exact .inr ⟨j, hv, hbest.skip (fun h => hni.out h.1)⟩
            case measure => simp [intOf]; omega
          · rw [hq] at HC
            have hpre := Lib.hid (show sg us k <+: r.drop a from HT.out.1 (by rw [SU.out]; exact hq))
            clear hq
            rcases hlb with ⟨rfl, hnob⟩ | ⟨j, rfl, hbest⟩
            · have HN := Lib.hid hnob
              clear hnob
              go_wp2_with fail
              refine region_sub (Below (w.heap.size + 1) w2) (by kernel_rfl) (by kernel_rfl) hb.drew ?_
              repeat (first | go_big_quiet_step ((go_at_call 41; exact HC.out _)) | quiet_step ((go_at_call 41; exact HC.out _)))
              refine wpQuiet_nil ?_
              intro _ hw'
              obtain ⟨x, hw''⟩ := hw'
              subst hw''
              have hbx := x.h
              go_wp2_with fail
              go_roundw
              case rel => exact ⟨k + 1, k, by omega, by go_num, rfl, .inr ⟨k, rfl, HN.out.take hpre.out⟩, hbx⟩
              case measure => simp [intOf]; omega
            · have HN := Lib.hid hbest
              have hjk := hbest.lt
              clear hbest
              obtain ⟨u2, hu2⟩ := get_lt (show j < us.length by omega)
              have s2' := HG.out.s2 u2 (List.mem_of_getElem? hu2)
              have SU2 := Lib.hid (sg_at hu2)
              obtain ⟨ad2, Aj2, cj2, had, hblk2, _, c3, _⟩ := hU2.out j u2 hu2
              obtain rfl : ad = ad2 := Option.some.inj had
              have f4 : ∀ x : WS (Below (w.heap.size + 1) w2), x.w.cell? ⟨(ad.add (j * 2)).block, (ad.add (j * 2)).off + 1, none⟩ = some (.slice Aj2 u2.2.length cj2) := fun x => (x.h.cell (p := ⟨(ad.add (j * 2)).block, (ad.add (j * 2)).off + 1, none⟩) (by show (ad.add (j * 2)).block < _; rw [block_of_add]; omega)).trans c3
              clear had hu2 c3
              have q2 : (0 : Int) ≤ (j : Int) := by omega
              have q3 : (j : Int) < (us.length : Int) := by omega
              have q4 : decide ((j : Int) < 0) = false := decide_eq_false (by omega)
              by_cases hl2 : u2.2.length < u.2.length
              · have hl2d : decide (u2.2.length < u.2.length) = true := decide_eq_true hl2
                go_wp2_with fail
                refine region_sub (Below (w.heap.size + 1) w2) (by kernel_rfl) (by kernel_rfl) hb.drew ?_
                repeat (first | go_big_quiet_step ((go_at_call 41; exact HC.out _)) | quiet_step ((go_at_call 41; exact HC.out _)))
                refine wpQuiet_nil ?_
                intro _ hw'
                obtain ⟨x, hw''⟩ := hw'
                subst hw''
                have hbx := x.h
                go_wp2_with fail
                go_roundw
                case rel => exact ⟨k + 1, k, by omega, by go_num, rfl, .inr ⟨k, rfl, HN.out.take hpre.out (by rw [SU.out, SU2.out]; exact hl2)⟩, hbx⟩
                case measure => simp [intOf]; omega
              · have hl2d : decide (u2.2.length < u.2.length) = false := decide_eq_false hl2
                go_wp2_with fail
                refine region_sub (Below (w.heap.size + 1) w2) (by kernel_rfl) (by kernel_rfl) hb.drew ?_
                repeat (first | go_big_quiet_step ((go_at_call 41; exact HC.out _)) | quiet_step ((go_at_call 41; exact HC.out _)))
                refine wpQuiet_nil ?_
                intro _ hw'
                obtain ⟨x, hw''⟩ := hw'
                subst hw''
                have hbx := x.h
                go_wp2_with fail
                go_roundw
                case rel => exact ⟨k + 1, j, by omega, by go_num, rfl, .inr ⟨j, rfl, HN.out.skip (fun h => hl2 (by have := h.2; rw [SU.out, SU2.out] at this; exact this))⟩, hbx⟩
                case measure => simp [intOf]; omega
        · obtain rfl : us.length = k := by omega
          rcases hlb with ⟨rfl, hnob⟩ | ⟨j, rfl, hbest⟩
          · have HN := Lib.hid hnob
            clear hnob
            go_wp2_with fail
            go_ret3
            exact ⟨[], a, 20, rfl, .inr (.inr ⟨NE.out, h24, l, a, ⟨HST.out, .inr HN.out⟩, .inl ⟨hlt, rfl, rfl, rfl⟩⟩), hbw.trans (hb.mono (by omega))⟩
          · have HB := Lib.hid hbest
            clear hbest
            obtain ⟨u, hu⟩ := get_lt HB.out.lt
            have g2 := HG.out.g2 u (List.mem_of_getElem? hu)
            have s1 := HG.out.s1 u (List.mem_of_getElem? hu)
            have s2 := HG.out.s2 u (List.mem_of_getElem? hu)
            have GU := Lib.hid (gr_at hu)
            have SU := Lib.hid (sg_at hu)
            have hjn : j < us.length := HB.out.lt
            have hle := HB.out.len
            rw [SU.out, List.length_drop] at hle
            obtain ⟨ad, Aj, cj, had, hblk, c1, c2, _⟩ := hU2.out j u hu
            subst had
            have c1' := (hb.cell (p := ad.add (j * 2)) (by rw [block_of_add]; omega)).trans c1
            have c2' := (hb.cell (p := ⟨(ad.add (j * 2)).block, (ad.add (j * 2)).off + 1, none⟩) (by show (ad.add (j * 2)).block < _; rw [block_of_add]; omega)).trans c2
            clear hu c1 c2
            have q2 : ¬ (j : Int) < 0 := by omega
            go_wp2_with fail
            go_roundw
            case rel =>
              refine ⟨l ++ [j], a + u.2.length, by go_num, ?_, ?_, hb⟩
              · rw [grs_snoc, GU.out, ← str_append, ← str_of]
              · have := HST.out.snoc hlt HB.out
                rw [SU.out] at this
                exact this
            case measure => simp [intOf]; omega
    · have ha : a = r.length := by omega
      have HA := Lib.hid ha
      clear ha
      go_wp2_with fail
      go_ret3
      exact ⟨grs us l, 0, 0, rfl, .inr (.inr ⟨NE.out, h24, l, a, ⟨HST.out, .inl (by omega)⟩, .inr ⟨HA.out, rfl, rfl, rfl⟩⟩), hbw.trans (hb.mono (by omega))⟩
theorem spell22 (o : Ort) (vo : Value) (A : Option Addr) (cap : Nat) (r : List Int) (w : World) (ho : OAt w w.heap.size o vo) (hr : Ints w w.heap.size A r) (hl : r.length ≤ 1000) (hg : Good o.us) :
    Calls Tryd.prog 22 #[vo, .slice A r.length cap] w (SpellOut o.us r w) := by
  by_cases h24 : 24 < r.length
  · exact spell_long22 vo o A cap r w ho h24 hl
  · rcases Nat.eq_zero_or_pos r.length with h0 | h0
    · obtain rfl : r = [] := List.eq_nil_of_length_eq_zero h0
      exact spell_empty22 vo o A cap w ho
    · obtain ⟨p, hp⟩ := get_lt h0
      obtain ⟨ad, rfl, _⟩ := hr.at_ hp
      exact spell_some22 o vo ad cap r w ho hr h0 (by omega) hg
end Go.Proofs.YtoechdnhgkelfaaDoor
