/-
  What has and unit of the reference return.
-/
import Derived.Test.YtoechdnhgkelfaaDoorChecks
import Derived.Test.YtoechdnhgkelfaaDoorExact
namespace Go.Proofs.YtoechdnhgkelfaaDoor
open Go.RowKit Go.PlainAid
theorem beq_bytes (a b : ByteArray) : (a.toList == b.toList) = true ↔ a = b := by
  rw [Lib.toList_data, Lib.toList_data, beq_iff_eq]
  exact ⟨fun h => by cases a; cases b; congr 1; exact Array.toList_inj.1 h, fun h => by rw [h]⟩
def HasOut (l : List ByteArray) (s : ByteArray) (w : World) (e : Ending) (w' : World) : Prop := ∃ b : Bool, e = .returned (.bool b) ∧ (b = true ↔ s ∈ l) ∧ w = w'
def NotTo (l : List ByteArray) (s : ByteArray) (k : Nat) : Prop := ∀ (j : Nat) x, j < k → l[j]? = some x → x ≠ s
theorem has36 (A : Option Addr) (cap : Nat) (l : List ByteArray) (s : ByteArray) (w : World) (hl : StrsAt w w.heap.size A l) (hn : l.length ≤ 100000) : Calls Tryd.prog 36 #[.slice A l.length cap, .string s] w (HasOut l s w) := by
  have HL := Lib.hid hl
  clear hl
  go_enter Tryd.func36, Tryd.ntmps36
  go_wp2_with fail
  go_loop [5] (fun i => ∃ k : Nat, k ≤ l.length ∧ i = .int .i64 k ∧ NotTo l s k) (fun i => l.length - (intOf i).toNat)
  case atStart => exact ⟨0, Nat.zero_le _, rfl, fun j x hj => by omega⟩
  case round =>
    obtain ⟨k, hk, rfl, hno⟩ := hrel
    have HN := Lib.hid hno
    clear hno
    by_cases hlt : k < l.length
    · obtain ⟨x, hx⟩ := get_lt hlt
      obtain ⟨ad, rfl, _, c⟩ := HL.out k x hx
      have HX := Lib.hid hx
      clear hx
      cases hq : (x.toList == s.toList)
      · have HQ := Lib.hid (show x ≠ s from fun e => by rw [(beq_bytes x s).2 e] at hq; cases hq)
        go_wp2_with fail
        go_round
        case rel => exact ⟨k + 1, by omega, by go_num, fun j y hj hy => by
          by_cases e : j = k
          · subst e; rw [HX.out] at hy; cases hy; exact HQ.out
          · exact HN.out j y (by omega) hy⟩
        case measure => simp [intOf]; omega
      · have HQ := Lib.hid ((beq_bytes x s).1 hq)
        go_wp2_with fail
        go_ret
        exact ⟨true, rfl, ⟨fun _ => by rw [← HQ.out]; exact List.mem_of_getElem? HX.out, fun _ => rfl⟩, rfl⟩
    · have HM := Lib.hid (show ¬ s ∈ l from fun h => by
        obtain ⟨j, hj⟩ := mem_ix h
        exact HN.out j s (by have := lt_get hj; omega) hj rfl)
      go_wp2_with fail
      go_ret
      exact ⟨false, rfl, ⟨(fun h => nomatch h), fun h => absurd h HM.out⟩, rfl⟩
/-- An earlier unit has the same Graph. -/
def Tw (us : List U) (i : Nat) (g : ByteArray) : Prop := ∃ (k : Nat) (v : U), k < i ∧ us[k]? = some v ∧ v.1 = g
def SegOk (np : Nat) (l : List Int) : Prop := 1 ≤ l.length ∧ l.length ≤ 3 ∧ ∀ s ∈ l, 1 ≤ s ∧ s ≤ (np : Int)
/-- The error of a unit. -/
def UnitE (np : Nat) (us : List U) (i : Nat) (u : U) (q : Int) : Prop :=
  (¬ PlP u.1 ∧ q = 3) ∨ (PlP u.1 ∧ Tw us i u.1 ∧ q = 8) ∨ (PlP u.1 ∧ ¬ Tw us i u.1 ∧ ¬ SegOk np u.2 ∧ q = 19) ∨ (PlP u.1 ∧ ¬ Tw us i u.1 ∧ SegOk np u.2 ∧ q = 0)
def SegTo (np : Nat) (l : List Int) (k : Nat) : Prop := ∀ (j : Nat) s, j < k → l[j]? = some s → 1 ≤ s ∧ s ≤ (np : Int)
set_option maxHeartbeats 3200000 in
set_option maxRecDepth 100000 in
theorem unit34 (ps : List (ByteArray × Int)) (o : Ort) (vi vo : Value) (i : Nat) (u : U) (w : World) (hi : VAt w w.heap.size ps vi) (ho : OAt w w.heap.size o vo) (hu : o.us[i]? = some u)
    (_hp : ps.length ≤ 70) (hn : o.us.length ≤ 120) (hg : ∀ u ∈ o.us, u.1.size ≤ 100 ∧ u.2.length ≤ 100) :
    Calls Tryd.prog 34 #[vi, vo, .int .i64 (i : Int)] w (ErrOut (UnitE ps.length o.us i u) w) := by
  obtain ⟨A, cap, rfl, hP⟩ := hi
  obtain ⟨AU, capU, AL, capL, rfl, hU, hL⟩ := ho
  have c0 := box_i w (.slice A ps.length cap) 24
  have k1 := below_one w (.cells #[.slice A ps.length cap] 24)
  have z1 := size_one w (.cells #[.slice A ps.length cap] 24)
  obtain ⟨w1, hw1⟩ : ∃ w1, w.alloc (.cells #[.slice A ps.length cap] 24) = w1 := ⟨_, rfl⟩
  obtain ⟨d0, d1, d2⟩ := box_o w1 o.name (.slice AU o.us.length capU) (.slice AL o.ls.length capL) 28
  have k2 := below_one w1 (.cells #[.string o.name, .slice AU o.us.length capU, .slice AL o.ls.length capL] 28)
  have z2 := size_one w1 (.cells #[.string o.name, .slice AU o.us.length capU, .slice AL o.ls.length capL] 28)
  rw [hw1] at c0 k1 z1
  rw [z1] at d0 d1 d2 k2 z2
  have e0 := (k2.cell (p := ⟨w.heap.size, 0, none⟩) (by simp)).trans c0
  have hbw := k1.trans (k2.mono (by omega))
  clear k1 c0
  obtain ⟨w2, hw2⟩ : ∃ w2, w1.alloc (.cells #[.string o.name, .slice AU o.us.length capU, .slice AL o.ls.length capL] 28) = w2 := ⟨_, rfl⟩
  rw [hw2] at d0 d1 d2 e0 hbw k2 z2
  have hU2 := hU.keep fun _ hp => hbw.cell hp
  obtain ⟨us, hus⟩ : ∃ us, o.us = us := ⟨_, rfl⟩
  rw [hus] at hU2 hw2 d1 hu hg hn
  rw [hus]
  clear hus hU
  obtain ⟨ad, Aj, cj, rfl, hblk, c1, c2, hints⟩ := hU2 i u hu
  have hun := hg u (List.mem_of_getElem? hu)
  have hil := lt_get hu
  obtain ⟨b0, b1⟩ := box_u w2 (.string u.1) (.slice Aj u.2.length cj) 47
  have k3 := below_one w2 (.cells #[.string u.1, .slice Aj u.2.length cj] 47)
  have z3 := size_one w2 (.cells #[.string u.1, .slice Aj u.2.length cj] 47)
  obtain ⟨w3, hw3⟩ : ∃ w3, w2.alloc (.cells #[.string u.1, .slice Aj u.2.length cj] 47) = w3 := ⟨_, rfl⟩
  rw [hw3, z2] at b0 b1
  rw [hw3] at k3 z3
  rw [z2] at k3 z3
  have E0 := Lib.hid ((k3.cell (p := ⟨w.heap.size, 0, none⟩) (by simp; omega)).trans e0)
  have D1 := Lib.hid ((k3.cell (p := ⟨w.heap.size + 1, 1, none⟩) (by simp)).trans d1)
  have hbw3 := hbw.trans (k3.mono (by omega))
  have hU3 := Lib.hid (hU2.keep (w' := w3) fun p hp => k3.cell (p := p) (by omega))
  have HJ3 := Lib.hid (hints.keep (w' := w3) fun p hp => k3.cell (p := p) (by omega))
  have B0 := Lib.hid b0
  have B1 := Lib.hid b1
  have Z1 := Lib.hid z1
  have Z2 := Lib.hid (show w2.heap.size = w.heap.size + 2 from z2)
  have Z3 := Lib.hid z3
  have c1L := c1
  have c2L := c2
  rw [← hw2, ← hw1] at c1L c2L
  have HW1 := Lib.hid hw1
  have HW2 := Lib.hid hw2
  have HW3 := Lib.hid hw3
  have HU := Lib.hid hu
  have HG := Lib.hid hg
  clear hw1 hw2 hw3 z1 z2 z3 k2 hU2 hints b0 b1 hP hL d2 d0 hg hu
  have q0 : (0 : Int) ≤ (i : Int) := by omega
  have q1 : (i : Int) < (us.length : Int) := by omega
  clear k3
  go_enter Tryd.func34, Tryd.ntmps34
  go_wp2_with fail
  rw [HW1.out, HW2.out, HW3.out]
  refine (label35 u.1 _ (by omega)).mono ?_
  rintro e w4 ⟨b, rfl, hok, hb4⟩
  have HOK := Lib.hid hok
  have hb4' : Below (w.heap.size + 3) w3 w4 := hb4.mono (by have := Z3.out; omega)
  clear hok hb4 HW1 HW2 HW3 e0 d1 c1 c2 c1L c2L
  cases b
  · have HN := Lib.hid (show ¬ PlP u.1 from fun h => by have := HOK.out.2 h; cases this)
    go_wp2_with fail
    go_ret
    exact ⟨_, rfl, .inl ⟨HN.out, rfl⟩, hbw3.trans (hb4'.mono (by omega))⟩
  have HPL := Lib.hid (HOK.out.1 rfl)
  clear HOK
  go_wp2_with fail
  go_loopw [8] (fun v wr => ∃ j : Nat, j ≤ i ∧ v = .int .i64 j ∧ (∀ (k : Nat) x, k < j → us[k]? = some x → x.1 ≠ u.1) ∧ Below (w.heap.size + 3) w3 wr) (fun v _ => i - (intOf v).toNat)
  case atStart => exact ⟨0, Nat.zero_le _, rfl, fun k x hk => by omega, hb4'⟩
  case round =>
    obtain ⟨j, hj, rfl, hno, hb⟩ := hrel
    have HN := Lib.hid hno
    clear hno
    have hbe := hbw3.trans (hb.mono (by omega))
    have e0 := (hb.cell (p := ⟨w.heap.size, 0, none⟩) (by show w.heap.size < _; omega)).trans E0.out
    have d1 := (hb.cell (p := ⟨w.heap.size + 1, 1, none⟩) (by simp)).trans D1.out
    have b0 : wr.cell? ⟨w.heap.size + 1 + 1, 0, none⟩ = some (.string u.1) := (hb.cell (p := ⟨w.heap.size + 2, 0, none⟩) (by simp)).trans B0.out
    have b1 : wr.cell? ⟨w.heap.size + 1 + 1, 1, none⟩ = some (.slice Aj u.2.length cj) := (hb.cell (p := ⟨w.heap.size + 2, 1, none⟩) (by simp)).trans B1.out
    by_cases hji : j < i
    · obtain ⟨x, hx⟩ := get_lt (show j < us.length by omega)
      obtain ⟨ad2, _, _, had, hblk2, c3, _, _⟩ := hU3.out j x hx
      obtain rfl : ad = ad2 := Option.some.inj had
      have c3' := (hb.cell (p := ad.add (j * 2)) (by rw [block_of_add]; omega)).trans c3
      have HX := Lib.hid hx
      clear hx had c3
      have r0 : (0 : Int) ≤ (j : Int) := by omega
      have r1 : (j : Int) < (us.length : Int) := by omega
      cases hq : (x.1.toList == u.1.toList)
      · have HQ := Lib.hid (show x.1 ≠ u.1 from fun e => by rw [(beq_bytes x.1 u.1).2 e] at hq; cases hq)
        go_wp2_with fail
        go_quiet (fail)
        go_wp2_with fail
        go_roundw
        case rel => exact ⟨j + 1, by omega, by go_num, (fun k y hk hy => by
          by_cases e : k = j
          · subst e; rw [HX.out] at hy; cases hy; exact HQ.out
          · exact HN.out k y (by omega) hy), below_drewN hb _⟩
        case measure => simp [intOf]; omega
      · have HQ := Lib.hid ((beq_bytes x.1 u.1).1 hq)
        go_wp2_with fail
        go_quiet (fail)
        go_wp2_with fail
        go_ret
        exact ⟨_, rfl, .inr (.inl ⟨HPL.out, ⟨j, x, hji, HX.out, HQ.out⟩, rfl⟩), below_drewN hbe _⟩
    · have HTW := Lib.hid (show ¬ Tw us i u.1 from fun ⟨k, v, hk, hv, he⟩ => HN.out k v (by omega) hv he)
      by_cases s1 : u.2.length < 1
      · have s1' : (u.2.length : Int) < 1 := by omega
        have HS := Lib.hid (show ¬ SegOk ps.length u.2 from fun h => by have := h.1; omega)
        go_wp2_with fail
        go_ret
        exact ⟨_, rfl, .inr (.inr (.inl ⟨HPL.out, HTW.out, HS.out, rfl⟩)), hbe⟩
      have s1' : ¬ (u.2.length : Int) < 1 := by omega
      by_cases s2 : 3 < u.2.length
      · have s2' : (3 : Int) < (u.2.length : Int) := by omega
        have HS := Lib.hid (show ¬ SegOk ps.length u.2 from fun h => by have := h.2.1; omega)
        go_wp2_with fail
        go_ret
        exact ⟨_, rfl, .inr (.inr (.inl ⟨HPL.out, HTW.out, HS.out, rfl⟩)), hbe⟩
      have s2' : ¬ (3 : Int) < (u.2.length : Int) := by omega
      obtain ⟨wo, rfl⟩ : ∃ wo : World, wo = wr := ⟨_, rfl⟩
      go_wp2_with fail
      go_loopw [9] (fun v wr => ∃ k : Nat, k ≤ u.2.length ∧ v = .int .i64 k ∧ SegTo ps.length u.2 k ∧ Below (w.heap.size + 3) w3 wr) (fun v _ => u.2.length - (intOf v).toNat)
      case atStart => exact ⟨0, Nat.zero_le _, rfl, fun j s hj => by omega, hb⟩
      case round =>
        obtain ⟨k, hk, rfl, hse, hb⟩ := hrel
        have HSE := Lib.hid hse
        clear hse
        have hbe := hbw3.trans (hb.mono (by omega))
        have e0 := (hb.cell (p := ⟨w.heap.size, 0, none⟩) (by show w.heap.size < _; omega)).trans E0.out
        have b1 : wr.cell? ⟨w.heap.size + 1 + 1, 1, none⟩ = some (.slice Aj u.2.length cj) := (hb.cell (p := ⟨w.heap.size + 2, 1, none⟩) (by simp)).trans B1.out
        by_cases hkl : k < u.2.length
        · obtain ⟨x, hx⟩ := get_lt hkl
          obtain ⟨bd, rfl, hbl, cc⟩ := HJ3.out.at_ hx
          have cc' := (hb.cell (p := bd.add k) (by rw [block_of_add]; omega)).trans cc
          have HX := Lib.hid hx
          clear hx cc
          have r0 : (0 : Int) ≤ (k : Int) := by omega
          have r1 : (k : Int) < (u.2.length : Int) := by omega
          by_cases x1 : x < 1
          · have HS := Lib.hid (show ¬ SegOk ps.length u.2 from fun h => by have := h.2.2 x (List.mem_of_getElem? HX.out); omega)
            have x1' : decide (x < 1) = true := decide_eq_true x1
            go_wp2_with fail
            go_quiet (fail)
            go_wp2_with fail
            go_ret
            exact ⟨_, rfl, .inr (.inr (.inl ⟨HPL.out, HTW.out, HS.out, rfl⟩)), below_drewN hbe _⟩
          have x1' : decide (x < 1) = false := decide_eq_false x1
          by_cases x2 : (ps.length : Int) < x
          · have HS := Lib.hid (show ¬ SegOk ps.length u.2 from fun h => by have := h.2.2 x (List.mem_of_getElem? HX.out); omega)
            have x2' : decide ((ps.length : Int) < x) = true := decide_eq_true x2
            go_wp2_with fail
            go_quiet (fail)
            go_wp2_with fail
            go_ret
            exact ⟨_, rfl, .inr (.inr (.inl ⟨HPL.out, HTW.out, HS.out, rfl⟩)), below_drewN hbe _⟩
          · have x2' : decide ((ps.length : Int) < x) = false := decide_eq_false x2
            go_wp2_with fail
            go_quiet (fail)
            go_wp2_with fail
            go_roundw
            case rel => exact ⟨k + 1, by omega, by go_num, (fun j y hj hy => by
              by_cases e : j = k
              · subst e; rw [HX.out] at hy; cases hy; omega
              · exact HSE.out j y (by omega) hy), below_drewN hb _⟩
            case measure => simp [intOf]; omega
        · have HS := Lib.hid (show SegOk ps.length u.2 from ⟨by omega, by omega, fun s hs => by
            obtain ⟨j, hj⟩ := mem_ix hs
            exact HSE.out j s (by have := lt_get hj; omega) hj⟩)
          go_wp2_with fail
          go_ret
          exact ⟨_, rfl, .inr (.inr (.inr ⟨HPL.out, HTW.out, HS.out, rfl⟩)), hbe⟩
end Go.Proofs.YtoechdnhgkelfaaDoor
