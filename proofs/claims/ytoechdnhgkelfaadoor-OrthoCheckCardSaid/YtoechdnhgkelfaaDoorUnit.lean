/-
  What unit of the program and starts of the reference return.
-/
import Derived.Test.YtoechdnhgkelfaaDoorRead
import Derived.Deep.RegionHeld3
namespace Go.Proofs.YtoechdnhgkelfaaDoor
open Go.RowKit Go.PlainAid Pl
theorem Ints.take {w : World} {B : Nat} {A : Option Addr} {l : List Int} (h : Ints w B A l) (n : Nat) : Ints w B A (l.take n) := by
  refine ⟨by simp [IS], fun hn => ?_⟩
  have hl : 0 < l.length := by rw [List.length_take] at hn; omega
  obtain ⟨ad, e, hb, hc⟩ := h.2 hl
  refine ⟨ad, e, hb, fun j u hu => hc j u ?_⟩
  simp only [IS, List.getElem?_map, List.getElem?_take] at hu ⊢
  split at hu
  · exact hu
  · simp at hu
theorem take_eq {a b : List Int} (_h : a.length ≤ b.length) : eqB a (b.take a.length) = true ↔ a <+: b := by
  rw [eqB_true, List.prefix_iff_eq_take]
theorem Ints.later {w : World} {A : Option Addr} {l : List Int} (h : Ints w w.heap.size A l) (o : Obj) (n : Nat) : Ints ((w.alloc o).drewN n) ((w.alloc o).drewN n).heap.size A l :=
  ((h.keep fun p hp => World.cell?_alloc_lt w o p hp : Ints (w.alloc o) w.heap.size A l).more (by simp) : Ints (w.alloc o) (w.alloc o).heap.size A l)
def UnitOut (us : List U) (r : List Int) (w : World) (e : Ending) (w' : World) : Prop := ∃ v : Int, e = .returned (.int .i64 v) ∧ LB (sg us) r us.length v ∧ Below w.heap.size w w'
set_option maxHeartbeats 3200000 in
set_option maxRecDepth 100000 in
theorem unit38 (o : Ort) (vo : Value) (A : Option Addr) (cap : Nat) (r : List Int) (w : World) (ho : OAt w w.heap.size o vo) (hr : Ints w w.heap.size A r) (hcap : r.length ≤ cap) (_hrl : r.length ≤ 1000) (hg : Good o.us) :
    Calls Tryd.prog 38 #[vo, .slice A r.length cap] w (UnitOut o.us r w) := by
  obtain ⟨AU, capU, AL, capL, rfl, hU, hL⟩ := ho
  obtain ⟨d0, d1, d2⟩ := box_o w o.name (.slice AU o.us.length capU) (.slice AL o.ls.length capL) 28
  have hbw := below_one w (.cells #[.string o.name, .slice AU o.us.length capU, .slice AL o.ls.length capL] 28)
  have hz := size_one w (.cells #[.string o.name, .slice AU o.us.length capU, .slice AL o.ls.length capL] 28)
  obtain ⟨w2, hw2⟩ : ∃ w2, w.alloc (.cells #[.string o.name, .slice AU o.us.length capU, .slice AL o.ls.length capL] 28) = w2 := ⟨_, rfl⟩
  rw [hw2] at d0 d1 d2 hbw hz
  have hU2 := Lib.hid (hU.keep fun _ hp => hbw.cell hp)
  have HR2 := Lib.hid (hr.keep fun _ hp => hbw.cell hp)
  have HW2 := Lib.hid hw2
  have HZ := Lib.hid hz
  have D1 := Lib.hid d1
  clear hU hL hw2 d0 d2 hz hr
  have HG := Lib.hid hg
  have hn : o.us.length ≤ 120 := hg.n
  clear hg
  obtain ⟨us, hus⟩ : ∃ us, o.us = us := ⟨_, rfl⟩
  rw [hus] at hU2 HW2 HG d1 D1 hn
  rw [hus]
  clear hus
  go_enter Tryd.func38, Tryd.ntmps38
  go_wp2_with fail
  rw [HW2.out]
  clear HW2
  go_loopw [5, 11] (fun b i wr => ∃ (k : Nat) (v : Int), k ≤ us.length ∧ i = .int .i64 k ∧ b = .int .i64 v ∧ LB (sg us) r k v ∧ Below (w.heap.size + 1) w2 wr) (fun _ i _ => us.length - (intOf i).toNat)
  case atStart => exact ⟨0, -1, Nat.zero_le _, rfl, rfl, LB.zero _ _, Below.refl _ _⟩
  case round =>
    obtain ⟨k, v, hk, rfl, rfl, hlb, hb⟩ := hrel
    have hsz : w.heap.size + 1 ≤ wr.heap.size := by have := hb.size; have := HZ.out; omega
    by_cases hlt : k < us.length
    · obtain ⟨u, hu⟩ := get_lt hlt
      have s1 := HG.out.s1 u (List.mem_of_getElem? hu)
      have s2 := HG.out.s2 u (List.mem_of_getElem? hu)
      have SU := Lib.hid (sg_at hu)
      obtain ⟨ad, Aj, cj, rfl, hblk, c1, c2, hints⟩ := hU2.out k u hu
      have hk2 : ∀ p : Addr, p.block < w.heap.size → wr.cell? p = w2.cell? p := fun p hp => hb.cell (p := p) (by omega)
      have c1' := (hk2 (ad.add (k * 2)) (by rw [block_of_add]; exact hblk)).trans c1
      have c2' := (hk2 ⟨(ad.add (k * 2)).block, (ad.add (k * 2)).off + 1, none⟩ (by show (ad.add (k * 2)).block < _; rw [block_of_add]; exact hblk)).trans c2
      have HJ := Lib.hid (((hints.keep hk2).more (show w.heap.size ≤ wr.heap.size by omega)))
      have HRr := Lib.hid (((HR2.out.keep hk2).more (show w.heap.size ≤ wr.heap.size by omega)).take u.2.length)
      clear hu c1 c2 hk2 hints
      by_cases hlen : r.length < u.2.length
      · have hni := Lib.hid (show ¬ sg us k <+: r from fun h => by have := h.length_le; rw [SU.out] at this; omega)
        have HLB := Lib.hid hlb
        clear hlb
        go_wp2_with fail
        go_quiet (fail)
        go_wp2_with fail
        go_roundw
        case rel =>
          refine ⟨k + 1, v, by omega, by go_num, rfl, ?_, below_drewN (hb.alloc hsz _) _⟩
          rcases HLB.out with ⟨hv, hnob⟩ | ⟨j, hv, hbest⟩
          · exact .inl ⟨hv, hnob.skip hni.out⟩
          · exact .inr ⟨j, hv, hbest.skip (fun h => hni.out h.1)⟩
        case measure => simp [intOf]; omega
      · have hq0 : (u.2.length : Int) ≤ (r.length : Int) := by omega
        have hq1 : (u.2.length : Int) ≤ (cap : Int) := by omega
        have HT := Lib.hid (take_eq (a := u.2) (b := r) (by omega))
        rw [← SU.out] at HT
        have HC := Lib.hid (fun (ob : Obj) (n : Nat) => same42q Aj A cj cap u.2 (r.take u.2.length) _ (by omega) (HJ.out.later ob n) (HRr.out.later ob n))
        rw [show (r.take u.2.length).length = u.2.length by rw [List.length_take]; omega] at HC
        have e1 := (hb.cell (p := ⟨w.heap.size, 1, none⟩) (by simp)).trans D1.out
        cases hq : eqB u.2 (r.take u.2.length)
        · rw [hq] at HC
          have hni := Lib.hid (show ¬ sg us k <+: r from fun h => by have := HT.out.2 h; rw [SU.out, hq] at this; cases this)
          have HLB := Lib.hid hlb
          clear hlb hq
          go_wp2_with fail
          go_quiet ((go_at_call 42; exact Calls.quiet_of (HC.out _ _)))
          go_wp2_with fail
          go_roundw
          case rel =>
            refine ⟨k + 1, v, by omega, by go_num, rfl, ?_, below_drewN (hb.alloc hsz _) _⟩
            rcases HLB.out with ⟨hv, hnob⟩ | ⟨j, hv, hbest⟩
            · exact .inl ⟨hv, hnob.skip hni.out⟩
            · exact .inr ⟨j, hv, hbest.skip (fun h => hni.out h.1)⟩
          case measure => simp [intOf]; omega
        · rw [hq] at HC
          have hpre := Lib.hid (show sg us k <+: r from HT.out.1 (by rw [SU.out]; exact hq))
          clear hq
          rcases hlb with ⟨rfl, hnob⟩ | ⟨j, rfl, hbest⟩
          · have HN := Lib.hid hnob
            clear hnob
            go_wp2_with fail
            go_quiet ((go_at_call 42; exact Calls.quiet_of (HC.out _ _)))
            go_wp2_with fail
            go_quiet (fail)
            go_wp2_with fail
            go_roundw
            case rel => exact ⟨k + 1, k, by omega, by go_num, rfl, .inr ⟨k, rfl, HN.out.take hpre.out⟩, below_drewN (hb.alloc hsz _) _⟩
            case measure => simp [intOf]; omega
          · have HN := Lib.hid hbest
            have hjk := hbest.lt
            clear hbest
            obtain ⟨u2, hu2⟩ := get_lt (show j < us.length by omega)
            have s2' := HG.out.s2 u2 (List.mem_of_getElem? hu2)
            have SU2 := Lib.hid (sg_at hu2)
            obtain ⟨ad2, Aj2, cj2, had, hblk2, _, c3, _⟩ := hU2.out j u2 hu2
            obtain rfl : ad = ad2 := Option.some.inj had
            have c3' := (hb.cell (p := ⟨(ad.add (j * 2)).block, (ad.add (j * 2)).off + 1, none⟩) (by show (ad.add (j * 2)).block < _; rw [block_of_add]; omega)).trans c3
            clear had hu2 c3
            have q0 : (0 : Int) ≤ (j : Int) := by omega
            have q1 : (j : Int) < (us.length : Int) := by omega
            have q2 : ¬ (j : Int) < 0 := by omega
            have q3 : decide ((j : Int) < 0) = false := decide_eq_false q2
            have f1 : (wr.alloc (.cells #[.string u.1, .slice Aj u.2.length cj] 47)).cell? ⟨wr.heap.size, 1, none⟩ = some (.slice Aj u.2.length cj) := by simp [World.cell?_alloc_new]
            have f2 := (World.cell?_alloc_lt wr (.cells #[.string u.1, .slice Aj u.2.length cj] 47) ⟨w.heap.size, 1, none⟩ (by show w.heap.size < _; omega)).trans e1
            have f3 := (World.cell?_alloc_lt wr (.cells #[.string u.1, .slice Aj u.2.length cj] 47) ⟨(ad.add (j * 2)).block, (ad.add (j * 2)).off + 1, none⟩ (by show (ad.add (j * 2)).block < _; rw [block_of_add]; omega)).trans c3'
            have hbx := hb.alloc hsz (.cells #[.string u.1, .slice Aj u.2.length cj] 47)
            have HCx := Lib.hid (HC.out (.cells #[.string u.1, .slice Aj u.2.length cj] 47))
            obtain ⟨wx, hwx⟩ : ∃ wx, wr.alloc (.cells #[.string u.1, .slice Aj u.2.length cj] 47) = wx := ⟨_, rfl⟩
            rw [hwx] at f1 f2 f3 HCx hbx
            have HWX := Lib.hid hwx
            clear hwx e1 c3' HC
            by_cases hl2 : u2.2.length < u.2.length
            · have hl2d : decide (u2.2.length < u.2.length) = true := by simpa using hl2
              go_wp2_with fail
              rw [HWX.out]
              clear HWX c1' c2'
              go_quiet ((go_at_call 42; exact Calls.quiet_of (HCx.out _)))
              go_wp2_with fail
              go_quiet (fail)
              go_wp2_with fail
              go_roundw
              case rel => exact ⟨k + 1, k, by omega, by go_num, rfl, .inr ⟨k, rfl, HN.out.take hpre.out (by rw [SU.out, SU2.out]; exact hl2)⟩, below_drewN hbx _⟩
              case measure => simp [intOf]; omega
            · have hl2d : decide (u2.2.length < u.2.length) = false := by simpa using hl2
              go_wp2_with fail
              rw [HWX.out]
              clear HWX c1' c2'
              go_quiet ((go_at_call 42; exact Calls.quiet_of (HCx.out _)))
              go_wp2_with fail
              go_quiet (fail)
              go_wp2_with fail
              go_roundw
              case rel => exact ⟨k + 1, j, by omega, by go_num, rfl, .inr ⟨j, rfl, HN.out.skip (fun h => hl2 (by have := h.2; rw [SU.out, SU2.out] at this; exact this))⟩, below_drewN hbx _⟩
              case measure => simp [intOf]; omega
    · obtain rfl : us.length = k := by omega
      have HLB := Lib.hid hlb
      clear hlb
      go_wp2_with fail
      go_ret
      exact ⟨v, rfl, HLB.out, hbw.trans (hb.mono (by omega))⟩
end Go.Proofs.YtoechdnhgkelfaaDoor
