/-
  What Prefixes of the reference returns.
-/
import Derived.Test.YtoechdnhgkelfaaDoorRight
namespace Go.Proofs.YtoechdnhgkelfaaDoor
open Go.RowKit Go.PlainAid Pl

def PreOut (us : List U) (w : World) (e : Ending) (w' : World) : Prop := ∃ b : Bool, e = .returned (.bool b) ∧ (b = false → Free us.length (gr us)) ∧ Below w.heap.size w w'
set_option maxHeartbeats 1600000 in
set_option maxRecDepth 100000 in
theorem prefixes27 (o : Ort) (vo : Value) (w : World) (ho : OAt w w.heap.size o vo) (hg : Good o.us) :
    Calls Tryd.prog 27 #[vo] w (PreOut o.us w) := by
  obtain ⟨AU, capU, AL, capL, rfl, hU, hL⟩ := ho
  obtain ⟨d0, d1, d2⟩ := box_o w o.name (.slice AU o.us.length capU) (.slice AL o.ls.length capL) 28
  have hbw := below_one w (.cells #[.string o.name, .slice AU o.us.length capU, .slice AL o.ls.length capL] 28)
  have hz := size_one w (.cells #[.string o.name, .slice AU o.us.length capU, .slice AL o.ls.length capL] 28)
  obtain ⟨w2, hw2⟩ : ∃ w2, w.alloc (.cells #[.string o.name, .slice AU o.us.length capU, .slice AL o.ls.length capL] 28) = w2 := ⟨_, rfl⟩
  rw [hw2] at d0 d1 d2 hbw hz
  have hU2 := Lib.hid (hU.keep fun _ hp => hbw.cell hp)
  have HW2 := Lib.hid hw2
  have HZ := Lib.hid hz
  have D1 := Lib.hid d1
  have HBW := Lib.hid hbw
  have hn : o.us.length ≤ 120 := hg.n
  clear hU hL hw2 d0 d2 hz hbw hg
  obtain ⟨us, hus⟩ : ∃ us, o.us = us := ⟨_, rfl⟩
  rw [hus] at hU2 HW2 d1 D1 hn
  rw [hus]
  clear hus d1
  have CC := Lib.hid (show ∀ wr, Below (w.heap.size + 1) w2 wr → ∀ (k : Nat) (u : U), us[k]? = some u → ∃ ad, AU = some ad ∧ wr.cell? (ad.add (k * 2)) = some (.string u.1) from fun wr hb k u hu => by
    obtain ⟨ad, _, _, rfl, hblk, c1, _, _⟩ := hU2.out k u hu
    exact ⟨ad, rfl, (hb.cell (p := ad.add (k * 2)) (by rw [block_of_add]; omega)).trans c1⟩)
  have DD := Lib.hid (show ∀ wr, Below (w.heap.size + 1) w2 wr → wr.cell? ⟨w.heap.size, 1, none⟩ = some (.slice AU us.length capU) from fun wr hb => (hb.cell (p := ⟨w.heap.size, 1, none⟩) (by simp)).trans D1.out)
  have EE := Lib.hid (show ∀ wr, Below (w.heap.size + 1) w2 wr → Below w.heap.size w wr from fun wr hb => HBW.out.trans (hb.mono (by omega)))
  clear hU2 D1 HBW HZ
  go_enter Tryd.func27, Tryd.ntmps27
  go_wp2_with fail
  rw [HW2.out]
  clear HW2
  go_loopw [3, 4] (fun i _ wr => ∃ k : Nat, k ≤ us.length ∧ i = .int .i64 k ∧ (∀ a b, a < k → b < us.length → a ≠ b → ¬ gr us b <+: gr us a) ∧ Below (w.heap.size + 1) w2 wr) (fun i _ _ => us.length - (intOf i).toNat)
  case atStart => exact ⟨0, Nat.zero_le _, rfl, fun a b h => by omega, Below.refl _ _⟩
  case round =>
    obtain ⟨k, hk, rfl, hall, hb⟩ := hrel
    have HA := Lib.hid hall
    clear hall
    have e1 := DD.out _ hb
    by_cases hlt : k < us.length
    · obtain ⟨u, hu⟩ := get_lt hlt
      have HU := Lib.hid hu
      clear hu
      go_wp2_with fail
      go_loopw [4] (fun i wq => ∃ k2 : Nat, k2 ≤ us.length ∧ i = .int .i64 k2 ∧ (∀ b, b < k2 → k ≠ b → ¬ gr us b <+: gr us k) ∧ Below (w.heap.size + 1) w2 wq) (fun i _ => us.length - (intOf i).toNat)
      case atStart => exact ⟨0, Nat.zero_le _, rfl, fun b h => by omega, hb⟩
      case round =>
        obtain ⟨k2, hk2, rfl, hall2, hb2⟩ := hrel
        have HB2 := Lib.hid hall2
        clear hall2
        have e2 := DD.out _ hb2
        by_cases hlt2 : k2 < us.length
        · obtain ⟨u2, hu2⟩ := get_lt hlt2
          obtain ⟨ad, rfl, c1⟩ := CC.out _ hb2 k u HU.out
          obtain ⟨ad', had, c2⟩ := CC.out _ hb2 k2 u2 hu2
          obtain rfl : ad = ad' := Option.some.inj had
          have BI := Lib.hid (begB_iff (s := u.1) (t := u2.1))
          rw [← gr_at HU.out, ← gr_at hu2] at BI
          clear had hu2
          by_cases he : k = k2
          · have he' : ((k : Int) != (k2 : Int)) = false := by simp [he]
            go_wp2_with fail
            go_quiet (fail)
            go_wp2_with fail
            go_roundw
            case rel => exact ⟨k2 + 1, by omega, by go_num, fun b h hne => HB2.out b (by omega) hne, below_drewN hb2 _⟩
            case measure => simp [intOf]; omega
          · have he' : ((k : Int) != (k2 : Int)) = true := by simp; omega
            have HC := Lib.hid (fun (x : World) => begins44 u.1 u2.1 x)
            cases hq : begB u.1 u2.1
            · rw [hq] at HC
              have hni := Lib.hid (show ¬ gr us k2 <+: gr us k from fun h => by have := BI.out.2 h; rw [hq] at this; cases this)
              clear hq BI
              go_wp2_with fail
              go_quiet ((go_at_call 44; exact Calls.quiet_of_same ((HC.out _).mono fun _ _ h => ⟨h.1, h.2.symm⟩)))
              go_wp2_with fail
              go_roundw
              case rel =>
                refine ⟨k2 + 1, by omega, by go_num, fun b h hne => ?_, below_drewN hb2 _⟩
                by_cases hbk : b = k2
                · rw [hbk]; exact hni.out
                · exact HB2.out b (by omega) hne
              case measure => simp [intOf]; omega
            · rw [hq] at HC
              clear hq BI
              go_wp2_with fail
              go_quiet ((go_at_call 44; exact Calls.quiet_of_same ((HC.out _).mono fun _ _ h => ⟨h.1, h.2.symm⟩)))
              go_wp2_with fail
              go_ret
              exact ⟨true, rfl, (fun h => nomatch h), EE.out _ (below_drewN hb2 _)⟩
        · go_wp2_with fail
          go_roundw
          case rel =>
            refine ⟨k + 1, by omega, by go_num, fun a b h h' hne => ?_, hb2⟩
            by_cases hak : a = k
            · subst hak; exact HB2.out b (by omega) hne
            · exact HA.out a b (by omega) h' hne
          case measure => simp [intOf]; omega
    · go_wp2_with fail
      go_ret
      exact ⟨false, rfl, fun _ i j hi hj hne => HA.out i j (by omega) hj hne, EE.out _ hb⟩
end Go.Proofs.YtoechdnhgkelfaaDoor
