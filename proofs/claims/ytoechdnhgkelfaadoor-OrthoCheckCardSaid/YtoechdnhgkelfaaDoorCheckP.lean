/-
  What Check of the program returns, from what letters returns.
-/
import Derived.Test.YtoechdnhgkelfaaDoorNameP
namespace Go.Proofs.YtoechdnhgkelfaaDoor
open Go.RowKit Go.PlainAid
/-! The errors, for any notion of a label without blanks. -/
def UnitG (Pl : ByteArray → Prop) (np : Nat) (us : List U) (i : Nat) (u : U) (q : Int) : Prop :=
  (¬ Pl u.1 ∧ q = 3) ∨ (Pl u.1 ∧ Tw us i u.1 ∧ q = 8) ∨ (Pl u.1 ∧ ¬ Tw us i u.1 ∧ ¬ SegOk np u.2 ∧ q = 19) ∨ (Pl u.1 ∧ ¬ Tw us i u.1 ∧ SegOk np u.2 ∧ q = 0)
def UG (Pl : ByteArray → Prop) (np : Nat) (us : List U) (i : Nat) (q : Int) : Prop := ∃ u, us[i]? = some u ∧ UnitG Pl np us i u q
def VG (Pl : ByteArray → Prop) (seen : List ByteArray) (s : ByteArray) (q : Int) : Prop := (¬ Pl s ∧ q = 3) ∨ (Pl s ∧ s ∈ seen ∧ q = 8) ∨ (Pl s ∧ ¬ s ∈ seen ∧ q = 0)
def WG (Pl : ByteArray → Prop) (seen l : List ByteArray) (k : Nat) (q : Int) : Prop := ∃ s, l[k]? = some s ∧ VG Pl (seen ++ l.take k) s q
def LG (Pl : ByteArray → Prop) (ls : List (List ByteArray)) (i : Nat) (q : Int) : Prop := ∃ l, ls[i]? = some l ∧ ((l = [] ∧ q = 4) ∨ (l ≠ [] ∧ FirstE (WG Pl (ls.take i).flatten l) l.length q))
def LetG (Pl : ByteArray → Prop) (ls : List (List ByteArray)) (q : Int) : Prop := (100 < ls.length ∧ q = 11) ∨ (ls.length ≤ 100 ∧ FirstE (LG Pl ls) ls.length q)
def ChkG (Pl : ByteArray → Prop) (np : Nat) (o : Ort) (q : Int) : Prop :=
  (¬ NamP o.name ∧ q = 7) ∨ (NamP o.name ∧ 100 < o.us.length ∧ q = 11) ∨ (NamP o.name ∧ o.us.length ≤ 100 ∧ ∃ r, FirstE (UG Pl np o.us) o.us.length r ∧ ((r ≠ 0 ∧ q = r) ∨ (r = 0 ∧ LetG Pl o.ls q)))
theorem chkP_is (np : Nat) (o : Ort) (q : Int) : ChkP np o q ↔ ChkG PlP np o q := Iff.rfl
/-- The units of an orthography do not go beyond their capacity. -/
def UCap (vo : Value) : Prop := ∀ nm A n cap B m c2, vo = .agg #[.string nm, .slice A n cap, .slice B m c2] → n ≤ cap
def LetsAt (o : Ort) (vo : Value) : Prop := ∀ w : World, Lib.Utf8Tabs 0 1 w → OAt w w.heap.size o vo → Calls Tryd.prog 32 #[vo] w (ErrOut (LetG PlQ o.ls) w)
set_option maxHeartbeats 3200000 in
set_option maxRecDepth 100000 in
theorem check13 (ps : List (ByteArray × Int)) (o : Ort) (vi vo : Value) (w : World) (hi : VAt w w.heap.size ps vi) (ho : OAt w w.heap.size o vo) (hf : Few ps o) (hcap : UCap vo) (hT : Lib.Utf8Tabs 0 1 w) (hlet : LetsAt o vo) :
    Calls Tryd.prog 13 #[vi, vo] w (ErrOut (ChkG PlQ ps.length o) w) := by
  have HLT := Lib.hid hlet
  have HVO := Lib.hid ho
  have HT := Lib.hid hT
  clear hlet hT
  obtain ⟨A, cap, rfl, hP⟩ := hi
  obtain ⟨AU, capU, AL, capL, rfl, hU, hL⟩ := ho
  have hcu : o.us.length ≤ capU := hcap _ _ _ _ _ _ _ rfl
  clear hcap
  have c0 := box_i w (.slice A ps.length cap) 24
  have k1 := below_one w (.cells #[.slice A ps.length cap] 24)
  have z1 := size_one w (.cells #[.slice A ps.length cap] 24)
  obtain ⟨w1, hw1⟩ : ∃ w1, w.alloc (.cells #[.slice A ps.length cap] 24) = w1 := ⟨_, rfl⟩
  obtain ⟨d0, d1, d2⟩ := box_o w1 o.name (.slice AU o.us.length capU) (.slice AL o.ls.length capL) 28
  have k2 := below_one w1 (.cells #[.string o.name, .slice AU o.us.length capU, .slice AL o.ls.length capL] 28)
  have z2 := size_one w1 (.cells #[.string o.name, .slice AU o.us.length capU, .slice AL o.ls.length capL] 28)
  rw [hw1] at c0 k1 z1
  rw [z1] at d0 d1 d2 k2 z2
  have e0 := (k2.cell (p := ⟨w.heap.size, 0, none⟩) (by simp)).trans c0
  have hbw := k1.trans (k2.mono (by omega))
  clear k1 c0
  obtain ⟨w2, hw2⟩ : ∃ w2, w1.alloc (.cells #[.string o.name, .slice AU o.us.length capU, .slice AL o.ls.length capL] 28) = w2 := ⟨_, rfl⟩
  rw [hw2] at d0 d1 d2 e0 hbw k2 z2
  have E0 := Lib.hid e0
  have D0 := Lib.hid d0
  have D1 := Lib.hid d1
  have D2 := Lib.hid d2
  have hU2 := Lib.hid (hU.keep fun _ hp => hbw.cell hp)
  have Z2 := Lib.hid (show w2.heap.size = w.heap.size + 2 from z2)
  have HW1 := Lib.hid hw1
  have HW2 := Lib.hid hw2
  have HF := Lib.hid hf
  have fu := hf.u
  have fn := hf.n
  have fp := hf.p
  clear hw1 hw2 z1 z2 k2 hP hU hL d0 d1 d2 e0 hf
  obtain ⟨us, hus⟩ : ∃ us, o.us = us := ⟨_, rfl⟩
  have HUS := Lib.hid hus
  rw [hus] at hU2 HW2 D1 hcu fu
  have HUG := Lib.hid (show ∀ u ∈ us, u.1.size ≤ 100 ∧ u.2.length ≤ 100 by rw [← hus]; exact HF.out.ug)
  have hvo := Lib.hid (show OAt w w.heap.size o (.agg #[.string o.name, .slice AU us.length capU, .slice AL o.ls.length capL]) by rw [← hus]; exact HVO.out)
  have hlt2 := Lib.hid (show LetsAt o (.agg #[.string o.name, .slice AU us.length capU, .slice AL o.ls.length capL]) by rw [← hus]; exact HLT.out)
  clear HVO HLT
  rw [hus]
  clear hus
  have FIN := Lib.hid (show ∀ q, ((¬ NamP o.name ∧ q = 7) ∨ (NamP o.name ∧ 100 < us.length ∧ q = 11) ∨ (NamP o.name ∧ us.length ≤ 100 ∧ ∃ r, FirstE (UG PlQ ps.length us) us.length r ∧ ((r ≠ 0 ∧ q = r) ∨ (r = 0 ∧ LetG PlQ o.ls q)))) → ChkG PlQ ps.length o q from fun q h => by unfold ChkG; rw [HUS.out]; exact h)
  generalize ChkG PlQ ps.length o = GG at FIN
  go_enter Tryd.func13, Tryd.ntmps13
  go_wp2_with fail
  rw [HW1.out, HW2.out]
  refine (name29 o.name _ (by omega)).mono ?_
  rintro e w3 ⟨b, rfl, hok, hb3⟩
  have HOK := Lib.hid hok
  have hb3' : Below (w.heap.size + 2) w2 w3 := hb3.mono (by have := Z2.out; omega)
  clear hok hb3 HW1 HW2
  have hbe3 := hbw.trans (hb3'.mono (by omega))
  cases b
  · have HN := Lib.hid (show ¬ NamP o.name from fun h => by have := HOK.out.2 h; cases this)
    go_wp2_with fail
    go_ret
    exact ⟨_, rfl, FIN.out _ (.inl ⟨HN.out, rfl⟩), hbe3⟩
  have HNM := Lib.hid (HOK.out.1 rfl)
  clear HOK
  have d1 : w3.cell? ⟨w.heap.size + 1, 1, none⟩ = _ := (hb3'.cell (p := ⟨w.heap.size + 1, 1, none⟩) (by simp)).trans D1.out
  by_cases hu100 : 100 < us.length
  · have hu' : (100 : Int) < (us.length : Int) := by omega
    go_wp2_with fail
    go_ret
    exact ⟨_, rfl, FIN.out _ (.inr (.inl ⟨HNM.out, hu100, rfl⟩)), hbe3⟩
  have hu' : ¬ (100 : Int) < (us.length : Int) := by omega
  go_wp2_with fail
  clear d1
  go_loopw [5, 6, 20] (fun _ _ v wr => ∃ k : Nat, k ≤ us.length ∧ v = .int .i64 k ∧ (∀ j, j < k → UG PlQ ps.length us j 0) ∧ Below (w.heap.size + 2) w2 wr) (fun _ _ v _ => us.length - (intOf v).toNat)
  case atStart => exact ⟨0, Nat.zero_le _, rfl, fun j hj => by omega, hb3'⟩
  case round =>
    obtain ⟨k, hk, rfl, hall, hb⟩ := hrel
    have HALL := Lib.hid hall
    clear hall
    have hbe := hbw.trans (hb.mono (by omega))
    have hsz : w.heap.size + 2 ≤ wr.heap.size := by have := hb.size; have := Z2.out; omega
    by_cases hlt : k < us.length
    · obtain ⟨u, hu⟩ := get_lt hlt
      have hun := HUG.out u (List.mem_of_getElem? hu)
      have HU := Lib.hid hu
      obtain ⟨ad, Aj, cj, rfl, hblk, c1, c2, hints⟩ := hU2.out k u hu
      have c1' := (hb.cell (p := ad.add (k * 2)) (by rw [block_of_add]; omega)).trans c1
      have c2' := (hb.cell (p := ⟨(ad.add (k * 2)).block, (ad.add (k * 2)).off + 1, none⟩) (by show (ad.add (k * 2)).block < _; rw [block_of_add]; omega)).trans c2
      obtain ⟨b0, b1⟩ := box_u wr (.string u.1) (.slice Aj u.2.length cj) 47
      have kk := below_one wr (.cells #[.string u.1, .slice Aj u.2.length cj] 47)
      have zz := size_one wr (.cells #[.string u.1, .slice Aj u.2.length cj] 47)
      obtain ⟨wu, hwu⟩ : ∃ wu, wr.alloc (.cells #[.string u.1, .slice Aj u.2.length cj] 47) = wu := ⟨_, rfl⟩
      rw [hwu] at b0 b1 kk zz
      have HWU := Lib.hid hwu
      have B0 := Lib.hid b0
      have B1 := Lib.hid b1
      have ZU := Lib.hid zz
      have hbu := hb.trans (kk.mono hsz)
      have hbeu := hbw.trans (hbu.mono (by omega))
      have HPL := Lib.hid (plain30 u.1 wu (by omega) (tabs_below HT.out hbeu))
      clear hu c1 c2 hwu b0 b1 zz kk
      obtain ⟨h0, hh0⟩ : ∃ h0, wr.heap.size = h0 := ⟨_, rfl⟩
      rw [hh0] at B0 B1 ZU hsz
      have HH0 := Lib.hid hh0
      go_wp2_with fail
      rw [HWU.out]
      refine HPL.out.mono ?_
      rintro e w4 ⟨b, rfl, hok, hb4⟩
      have HOK := Lib.hid hok
      have hb4' : Below (h0 + 1) wu w4 := hb4.mono (by have := ZU.out; omega)
      clear hok hb4 HWU c1' c2' hb hbe HPL hh0
      have hbx := hbu.trans (hb4'.mono (show w.heap.size + 2 ≤ h0 + 1 by omega))
      cases b
      · have HN := Lib.hid (show ¬ PlQ u.1 from fun h => by have := HOK.out.2 h; cases this)
        go_wp2_with fail
        go_ret
        exact ⟨_, rfl, FIN.out _ (.inr (.inr ⟨HNM.out, by omega, 3, .inr ⟨by decide, k, hlt, ⟨u, HU.out, .inl ⟨HN.out, rfl⟩⟩, HALL.out⟩, .inl ⟨by decide, rfl⟩⟩)), hbw.trans (hbx.mono (by omega))⟩
      have HPL := Lib.hid (HOK.out.1 rfl)
      clear HOK
      have d1 := (hbx.cell (p := ⟨w.heap.size + 1, 1, none⟩) (by simp)).trans D1.out
      have q0 : (0 : Int) ≤ (k : Int) := by omega
      have q1 : (k : Int) ≤ (capU : Int) := by omega
      go_wp2_with fail
      clear d1
      go_loopw [8, 34] (fun _ v wr => ∃ j : Nat, j ≤ k ∧ v = .int .i64 j ∧ (∀ (i : Nat) x, i < j → us[i]? = some x → x.1 ≠ u.1) ∧ Below (h0 + 1) wu wr) (fun _ v _ => k - (intOf v).toNat)
      case atStart => exact ⟨0, Nat.zero_le _, rfl, fun i x hi => by omega, hb4'⟩
      case round =>
        obtain ⟨j, hj, rfl, hno, hb⟩ := hrel
        have HN := Lib.hid hno
        clear hno
        have hbx := hbu.trans (hb.mono (show w.heap.size + 2 ≤ h0 + 1 by omega))
        have hbe := hbw.trans (hbx.mono (by omega))
        have hszr : h0 + 1 ≤ wr.heap.size := by have := hb.size; have := ZU.out; omega
        by_cases hjk : j < k
        · obtain ⟨x, hx⟩ := get_lt (show j < us.length by omega)
          obtain ⟨ad2, Ax, cx, had, hblk2, c3, c4, _⟩ := hU2.out j x hx
          obtain rfl : ad = ad2 := Option.some.inj had
          have c3' := (hbx.cell (p := ad.add (j * 2)) (by rw [block_of_add]; omega)).trans c3
          have c4' := (hbx.cell (p := ⟨(ad.add (j * 2)).block, (ad.add (j * 2)).off + 1, none⟩) (by show (ad.add (j * 2)).block < _; rw [block_of_add]; omega)).trans c4
          have b0 := (hb.cell (p := ⟨h0, 0, none⟩) (by simp)).trans B0.out
          have b0a : (wr.alloc (.cells #[.string x.1, .slice Ax x.2.length cx] 47)).cell? ⟨h0, 0, none⟩ = some (.string u.1) := (World.cell?_alloc_lt wr _ ⟨h0, 0, none⟩ (by show h0 < _; omega)).trans b0
          have HX := Lib.hid hx
          clear hx had c3 c4
          have r1 : (j : Int) < (k : Int) := by omega
          cases hq : (x.1.toList == u.1.toList)
          · have HQ := Lib.hid (show x.1 ≠ u.1 from fun e => by rw [(beq_bytes x.1 u.1).2 e] at hq; cases hq)
            go_wp2_with fail
            go_roundw
            case rel => exact ⟨j + 1, by omega, by go_num, (fun i y hi hy => by
              by_cases e : i = j
              · subst e; rw [HX.out] at hy; cases hy; exact HQ.out
              · exact HN.out i y (by omega) hy), hb.alloc hszr _⟩
            case measure => simp [intOf]; omega
          · have HQ := Lib.hid ((beq_bytes x.1 u.1).1 hq)
            go_wp2_with fail
            go_ret
            exact ⟨_, rfl, FIN.out _ (.inr (.inr ⟨HNM.out, by omega, 8, .inr ⟨by decide, k, hlt, ⟨u, HU.out, .inr (.inl ⟨HPL.out, ⟨j, x, hjk, HX.out, HQ.out⟩, rfl⟩)⟩, HALL.out⟩, .inl ⟨by decide, rfl⟩⟩)), hbw.trans ((hbx.alloc (by omega) _).mono (by omega))⟩
        · have HTW := Lib.hid (show ¬ Tw us k u.1 from fun ⟨i, v, hi, hv, he⟩ => HN.out i v (by omega) hv he)
          have b1 := (hb.cell (p := ⟨h0, 1, none⟩) (by simp)).trans B1.out
          have e0 := (hbx.cell (p := ⟨w.heap.size, 0, none⟩) (by show w.heap.size < _; omega)).trans E0.out
          have BAD := Lib.hid (show ¬ SegOk ps.length u.2 → GG 19 from fun h => FIN.out _ (.inr (.inr ⟨HNM.out, by omega, 19, .inr ⟨by decide, k, hlt, ⟨u, HU.out, .inr (.inr (.inl ⟨HPL.out, HTW.out, h, rfl⟩))⟩, HALL.out⟩, .inl ⟨by decide, rfl⟩⟩)))
          by_cases s1 : u.2.length = 0
          · have s1' : ((u.2.length : Int) == 0) = true := by rw [beq_iff_eq]; omega
            have HS := Lib.hid (BAD.out fun h => by have := h.1; omega)
            clear s1
            go_wp2_with fail
            go_ret
            exact ⟨_, rfl, HS.out, hbe⟩
          have s1' : ((u.2.length : Int) == 0) = false := by rw [beq_eq_false_iff_ne]; omega
          by_cases s2 : 3 < u.2.length
          · have s2' : (3 : Int) < (u.2.length : Int) := by omega
            have HS := Lib.hid (BAD.out fun h => by have := h.2.1; omega)
            go_wp2_with fail
            go_ret
            exact ⟨_, rfl, HS.out, hbe⟩
          have s2' : ¬ (3 : Int) < (u.2.length : Int) := by omega
          have HJ := Lib.hid ((hints.keep fun p hp => hbx.cell (p := p) (by omega) : Ints wr _ _ _).more (show w.heap.size ≤ wr.heap.size by omega))
          go_wp2_with fail
          refine (word31 ps.length cap A Aj cj u.2 wr (by omega) HJ.out (by omega) (by omega)).mono ?_
          rintro e w5 ⟨q, rfl, hq, hb5⟩
          have hb5' := hbx.trans (hb5.mono (show w.heap.size + 2 ≤ wr.heap.size by omega))
          clear hb5
          rcases hq with ⟨rfl, hs⟩ | ⟨rfl, hs⟩
          · have HS := Lib.hid (show SegOk ps.length u.2 from ⟨by omega, by omega, hs⟩)
            clear hs
            go_wp2_with fail
            go_roundw
            case rel => exact ⟨k + 1, by omega, by go_num, (fun i hi => by
              by_cases e : i = k
              · subst e; exact ⟨u, HU.out, .inr (.inr (.inr ⟨HPL.out, HTW.out, HS.out, rfl⟩))⟩
              · exact HALL.out i (by omega)), hb5'⟩
            case measure => simp [intOf]; omega
          · have HS := Lib.hid (BAD.out fun h => hs h.2.2)
            clear hs
            go_wp2_with fail
            go_ret
            exact ⟨_, rfl, HS.out, hbw.trans (hb5'.mono (by omega))⟩
    · have HUN := Lib.hid (show FirstE (UG PlQ ps.length us) us.length 0 from .inl ⟨rfl, fun j hj => HALL.out j (by omega)⟩)
      have d0 := (hb.cell (p := ⟨w.heap.size + 1, 0, none⟩) (by simp)).trans D0.out
      have d1 := (hb.cell (p := ⟨w.heap.size + 1, 1, none⟩) (by simp)).trans D1.out
      have d2 := (hb.cell (p := ⟨w.heap.size + 1, 2, none⟩) (by simp)).trans D2.out
      clear HALL
      go_wp2_with fail
      refine (hlt2.out wr (tabs_below HT.out hbe) (hvo.out.below hbe)).mono ?_
      rintro e w5 ⟨q, rfl, hq, hb5⟩
      have HQ := Lib.hid hq
      clear hq
      go_wp2_with fail
      go_ret
      exact ⟨q, rfl, FIN.out _ (.inr (.inr ⟨HNM.out, by omega, 0, HUN.out, .inr ⟨rfl, HQ.out⟩⟩)), hbe.trans (hb5.mono hbe.size)⟩
end Go.Proofs.YtoechdnhgkelfaaDoor
