/-
  What few returns: true only where all sizes are small.
-/
import Derived.Test.YtoechdnhgkelfaaDoorMem
namespace Go.Proofs.YtoechdnhgkelfaaDoor
open Go.RowKit Go.PlainAid
/-- The bounds of 'few'. -/
structure Few (ps : List (ByteArray × Int)) (o : Ort) : Prop where
  p : ps.length ≤ 70
  n : o.name.size ≤ 100
  u : o.us.length ≤ 120
  l : o.ls.length ≤ 120
  pn : ∀ p ∈ ps, p.1.size ≤ 100
  ug : ∀ u ∈ o.us, u.1.size ≤ 100 ∧ u.2.length ≤ 100
  ll : ∀ l ∈ o.ls, l.length ≤ 20 ∧ ∀ s ∈ l, s.size ≤ 100
def BoolOut (Q : Prop) (w : World) (e : Ending) (w' : World) : Prop := ∃ b, e = .returned (.bool b) ∧ (b = true → Q) ∧ Below w.heap.size w w'
theorem mem_ix {α : Type} {l : List α} {x : α} (h : x ∈ l) : ∃ k : Nat, l[k]? = some x := by
  obtain ⟨k, hk, rfl⟩ := List.getElem_of_mem h
  exact ⟨k, List.getElem?_eq_getElem hk⟩
theorem get_lt {α : Type} {l : List α} {k : Nat} (h : k < l.length) : ∃ x, l[k]? = some x := ⟨_, List.getElem?_eq_getElem h⟩
theorem lt_get {α : Type} {l : List α} {k : Nat} {x : α} (h : l[k]? = some x) : k < l.length := (List.getElem?_eq_some_iff.1 h).1
/-- A world with an orthography's copy in its last block. -/
theorem box_o (w : World) (name : ByteArray) (a b : Value) (t : TypeId) : (w.alloc (.cells #[.string name, a, b] t)).cell? ⟨w.heap.size, 0, none⟩ = some (.string name) ∧ (w.alloc (.cells #[.string name, a, b] t)).cell? ⟨w.heap.size, 1, none⟩ = some a ∧ (w.alloc (.cells #[.string name, a, b] t)).cell? ⟨w.heap.size, 2, none⟩ = some b := by
  simp [World.cell?_alloc_new]
theorem box_i (w : World) (a : Value) (t : TypeId) : (w.alloc (.cells #[a] t)).cell? ⟨w.heap.size, 0, none⟩ = some a := by
  simp [World.cell?_alloc_new]
theorem below_one (w : World) (a : Obj) : Below w.heap.size w (w.alloc a) := (Below.refl _ _).alloc (Nat.le_refl _) _
theorem size_one (w : World) (a : Obj) : (w.alloc a).heap.size = w.heap.size + 1 := by simp
/-- A predicate of all elements ahead of an index. -/
def Upto {α : Type} (Q : α → Prop) (l : List α) (k : Nat) : Prop := ∀ (j : Nat) p, j < k → l[j]? = some p → Q p
theorem Upto.zero {α : Type} (Q : α → Prop) (l : List α) : Upto Q l 0 := fun j p hj => absurd hj (by omega)
theorem Upto.succ {α : Type} {Q : α → Prop} {l : List α} {k : Nat} {p : α} (h : Upto Q l k) (hp : l[k]? = some p) (hq : Q p) : Upto Q l (k + 1) := fun j q hj hjq => by
  by_cases e : j = k
  · subst e; rw [hp] at hjq; cases hjq; exact hq
  · exact h j q (by omega) hjq
theorem Upto.all {α : Type} {Q : α → Prop} {l : List α} {k : Nat} (h : Upto Q l k) (hk : l.length ≤ k) : ∀ x ∈ l, Q x := fun x hx => by
  obtain ⟨j, hj⟩ := mem_ix hx
  exact h j x (by have := lt_get hj; omega) hj
set_option maxHeartbeats 6400000 in
theorem few10 (ps : List (ByteArray × Int)) (o : Ort) (vi vo : Value) (w : World) (hi : VAt w w.heap.size ps vi) (ho : OAt w w.heap.size o vo) :
    Calls Tryd.prog 10 #[vi, vo] w (BoolOut (Few ps o) w) := by
  obtain ⟨A, cap, rfl, hP⟩ := hi
  obtain ⟨AU, capU, AL, capL, rfl, hU, hL⟩ := ho
  have c0 := box_i w (.slice A ps.length cap) 24
  have k1 := below_one w (.cells #[.slice A ps.length cap] 24)
  have z1 := size_one w (.cells #[.slice A ps.length cap] 24)
  obtain ⟨w1, hw1⟩ : ∃ w1, w.alloc (.cells #[.slice A ps.length cap] 24) = w1 := ⟨_, rfl⟩
  obtain ⟨d0, d1, d2⟩ := box_o w1 o.name (.slice AU o.us.length capU) (.slice AL o.ls.length capL) 28
  have k2 := below_one w1 (.cells #[.string o.name, .slice AU o.us.length capU, .slice AL o.ls.length capL] 28)
  rw [hw1] at c0 k1 z1
  rw [z1] at d0 d1 d2 k2
  have e0 := (k2.cell (p := ⟨w.heap.size, 0, none⟩) (by simp)).trans c0
  have hbw := k1.trans (k2.mono (by omega))
  clear k1 k2 c0
  obtain ⟨w2, hw2⟩ : ∃ w2, w1.alloc (.cells #[.string o.name, .slice AU o.us.length capU, .slice AL o.ls.length capL] 28) = w2 := ⟨_, rfl⟩
  rw [hw2] at d0 d1 d2 e0 hbw
  have hP2 := Lib.hid (hP.keep fun _ hp => hbw.cell hp)
  have hU2 := Lib.hid (hU.keep fun _ hp => hbw.cell hp)
  have hL2 := Lib.hid (hL.keep fun _ hp => hbw.cell hp)
  have HW1 := Lib.hid hw1
  have HW2 := Lib.hid hw2
  clear hP hU hL hw1 hw2 z1
  obtain ⟨us, hus⟩ : ∃ us, o.us = us := ⟨_, rfl⟩
  obtain ⟨ls, hls⟩ : ∃ ls, o.ls = ls := ⟨_, rfl⟩
  obtain ⟨nm, hnm⟩ : ∃ nm, o.name = nm := ⟨_, rfl⟩
  have FEW := Lib.hid (show ps.length ≤ 70 → nm.size ≤ 100 → us.length ≤ 120 → ls.length ≤ 120 → (∀ p ∈ ps, p.1.size ≤ 100) → (∀ u ∈ us, u.1.size ≤ 100 ∧ u.2.length ≤ 100) → (∀ l ∈ ls, l.length ≤ 20 ∧ ∀ s ∈ l, s.size ≤ 100) → Few ps o by
    subst hus hls hnm; exact fun a b c d e f g => ⟨a, b, c, d, e, f, g⟩)
  generalize Few ps o = G at FEW
  rw [hus] at hU2 HW2 d1
  rw [hls] at hL2 HW2 d2
  rw [hnm] at HW2 d0
  rw [hus, hls, hnm]
  clear hus hls hnm
  go_enter Tryd.func10, Tryd.ntmps10
  go_wp2_with fail
  all_goals rw [HW1.out, HW2.out]
  any_goals (go_ret; exact ⟨false, rfl, (fun h => nomatch h), hbw⟩)
  rename_i hb _ _
  clear HW1 HW2
  have q1 : ps.length ≤ 70 := by omega
  have q2 : nm.size ≤ 100 := by omega
  have q3 : us.length ≤ 120 := by omega
  have q4 : ls.length ≤ 120 := by omega
  clear hb
  go_loop [5] (fun i => ∃ k : Nat, k ≤ ps.length ∧ i = .int .i64 k ∧ Upto (fun p => p.1.size ≤ 100) ps k) (fun i => ps.length - (intOf i).toNat)
  case atStart => exact ⟨0, Nat.zero_le _, rfl, Upto.zero _ _⟩
  case round =>
    obtain ⟨k, hk, rfl, hall⟩ := hrel
    by_cases hlt : k < ps.length
    · obtain ⟨p, hp⟩ := get_lt hlt
      obtain ⟨ad, rfl, _, c1, c2⟩ := hP2.out k p hp
      have HP := Lib.hid hp
      clear hp
      by_cases hs : 100 < p.1.size
      · go_wp2_with fail
        go_ret
        exact ⟨false, rfl, (fun h => nomatch h), hbw⟩
      · go_wp2_with fail
        go_round
        case rel => exact ⟨k + 1, by omega, by go_num, hall.succ HP.out (by omega)⟩
        case measure => simp [intOf]; omega
    · have hps := Lib.hid (hall.all (by omega))
      clear hall
      go_wp2_with fail
      go_loop [6] (fun i => ∃ k : Nat, k ≤ us.length ∧ i = .int .i64 k ∧ Upto (fun u => u.1.size ≤ 100 ∧ u.2.length ≤ 100) us k) (fun i => us.length - (intOf i).toNat)
      case atStart => exact ⟨0, Nat.zero_le _, rfl, Upto.zero _ _⟩
      case round =>
        obtain ⟨k2, hk2, rfl, hall⟩ := hrel
        by_cases hlt2 : k2 < us.length
        · obtain ⟨u, hu⟩ := get_lt hlt2
          obtain ⟨ad, Aj, cj, rfl, _, c1, c2, _⟩ := hU2.out k2 u hu
          have HU := Lib.hid hu
          clear hu
          by_cases hs : 100 < u.1.size
          · go_wp2_with fail
            go_ret
            exact ⟨false, rfl, (fun h => nomatch h), hbw⟩
          · have hs' : (u.1.size : Int) ≤ 100 := by omega
            by_cases hs2 : 100 < u.2.length
            · have hs2' : (100 : Int) < (u.2.length : Int) := by omega
              go_wp2_with fail
              go_ret
              exact ⟨false, rfl, (fun h => nomatch h), hbw⟩
            · have hs2' : (u.2.length : Int) ≤ 100 := by omega
              go_wp2_with fail
              go_round
              case rel => exact ⟨k2 + 1, by omega, by go_num, hall.succ HU.out ⟨by omega, by omega⟩⟩
              case measure => simp [intOf]; omega
        · have hus := Lib.hid (hall.all (by omega))
          clear hall
          go_wp2_with fail
          go_loop [7, 8] (fun i x => ∃ k : Nat, k ≤ ls.length ∧ i = .int .i64 k ∧ Upto (fun l => l.length ≤ 20 ∧ ∀ s ∈ l, s.size ≤ 100) ls k) (fun i _ => ls.length - (intOf i).toNat)
          case atStart => exact ⟨0, Nat.zero_le _, rfl, Upto.zero _ _⟩
          case round =>
            obtain ⟨k3, hk3, rfl, hall⟩ := hrel
            by_cases hlt3 : k3 < ls.length
            · obtain ⟨l, hl⟩ := get_lt hlt3
              obtain ⟨ad, Aj, cj, rfl, _, c1, hstr⟩ := hL2.out k3 l hl
              have HLL := Lib.hid hl
              have HSTR := Lib.hid hstr
              clear hl hstr
              by_cases hs : 20 < l.length
              · go_wp2_with fail
                go_ret
                exact ⟨false, rfl, (fun h => nomatch h), hbw⟩
              · go_wp2_with fail
                go_loop [8] (fun i => ∃ k : Nat, k ≤ l.length ∧ i = .int .i64 k ∧ Upto (fun s => s.size ≤ 100) l k) (fun i => l.length - (intOf i).toNat)
                case atStart => exact ⟨0, Nat.zero_le _, rfl, Upto.zero _ _⟩
                case round =>
                  obtain ⟨k4, hk4, rfl, hall4⟩ := hrel
                  by_cases hlt4 : k4 < l.length
                  · obtain ⟨s, hs4⟩ := get_lt hlt4
                    obtain ⟨ad4, rfl, _, c4⟩ := HSTR.out k4 s hs4
                    have HS4 := Lib.hid hs4
                    clear hs4
                    by_cases hs5 : 100 < s.size
                    · go_wp2_with fail
                      go_ret
                      exact ⟨false, rfl, (fun h => nomatch h), hbw⟩
                    · go_wp2_with fail
                      go_round
                      case rel => exact ⟨k4 + 1, by omega, by go_num, hall4.succ HS4.out (by omega)⟩
                      case measure => simp [intOf]; omega
                  · go_wp2_with fail
                    go_round
                    case rel => exact ⟨k3 + 1, by omega, by go_num, hall.succ HLL.out ⟨by omega, hall4.all (by omega)⟩⟩
                    case measure => simp [intOf]; omega
            · go_wp2_with fail
              go_ret
              exact ⟨true, rfl, fun _ => FEW.out q1 q2 q3 q4 hps.out hus.out (hall.all (by omega)), hbw⟩
end Go.Proofs.YtoechdnhgkelfaaDoor
