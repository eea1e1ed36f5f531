/-
  What starts of the reference returns.
-/
import Derived.Test.YtoechdnhgkelfaaDoorUnit
namespace Go.Proofs.YtoechdnhgkelfaaDoor
open Go.RowKit Go.PlainAid Pl
def startB (r : List Int) (a : Nat) (g : List Int) : Bool := g.isPrefixOf (r.drop a)
theorem startB_iff {r : List Int} {a : Nat} {g : List Int} : startB r a g = true ↔ g <+: r.drop a := by unfold startB; exact List.isPrefixOf_iff_prefix
theorem startB_short {r : List Int} {a : Nat} {g : List Int} (h : r.length - a < g.length) : startB r a g = false := by
  cases hb : startB r a g
  · rfl
  · have := (startB_iff.1 hb).length_le
    rw [List.length_drop] at this
    omega
theorem startB_no {r : List Int} {a j : Nat} {g : List Int} {p q : Int} (h1 : r[a + j]? = some p) (h2 : g[j]? = some q) (hne : p ≠ q) : startB r a g = false := by
  cases hb : startB r a g
  · rfl
  · exfalso
    have h := startB_iff.1 hb
    obtain ⟨t, ht⟩ := h
    have h3 : (r.drop a)[j]? = some q := by rw [← ht, List.getElem?_append_left (List.getElem?_eq_some_iff.1 h2).1]; exact h2
    rw [List.getElem?_drop, h1] at h3
    exact hne (Option.some.inj h3)
theorem startB_yes {r : List Int} {a : Nat} {g : List Int} (h : ∀ j, j < g.length → r[a + j]? = g[j]?) : startB r a g = true := by
  rw [startB_iff, List.prefix_iff_eq_take]
  apply List.ext_getElem? fun j => ?_
  rw [List.getElem?_take]
  split
  · rw [List.getElem?_drop, h j ‹_›]
  · rw [List.getElem?_eq_none (by omega)]
theorem box_u (w : World) (a b : Value) (t : TypeId) : (w.alloc (.cells #[a, b] t)).cell? ⟨w.heap.size, 0, none⟩ = some a ∧ (w.alloc (.cells #[a, b] t)).cell? ⟨w.heap.size, 1, none⟩ = some b := by
  simp [World.cell?_alloc_new]
set_option maxHeartbeats 1600000 in
set_option maxRecDepth 100000 in
theorem starts41 (A Aj : Option Addr) (cap cj a : Nat) (r : List Int) (u : U) (w : World) (hr : Ints w w.heap.size A r) (hu : Ints w w.heap.size Aj u.2) (hrl : r.length ≤ 1000) (hul : u.2.length ≤ 100) (ha : a ≤ r.length) :
    Calls Tryd.prog 41 #[.slice A r.length cap, .int .i64 (a : Int), .agg #[.string u.1, .slice Aj u.2.length cj]] w fun e w' => e = .returned (.bool (startB r a u.2)) ∧ Below w.heap.size w w' := by
  obtain ⟨d0, d1⟩ := box_u w (.string u.1) (.slice Aj u.2.length cj) 47
  have hbw := below_one w (.cells #[.string u.1, .slice Aj u.2.length cj] 47)
  obtain ⟨w2, hw2⟩ : ∃ w2, w.alloc (.cells #[.string u.1, .slice Aj u.2.length cj] 47) = w2 := ⟨_, rfl⟩
  rw [hw2] at d0 d1 hbw
  have HR2 := Lib.hid (hr.keep fun _ hp => hbw.cell hp)
  have HU2 := Lib.hid (hu.keep fun _ hp => hbw.cell hp)
  have HW2 := Lib.hid hw2
  clear hw2 d0 hr hu
  by_cases hlen : r.length - a < u.2.length
  · have HS := Lib.hid (startB_short hlen)
    have hq : (r.length : Int) - (a : Int) < (u.2.length : Int) := by omega
    go_enter Tryd.func41, Tryd.ntmps41
    go_wp2_with fail
    go_ret
    rw [HW2.out, HS.out]
    exact ⟨rfl, hbw⟩
  · have hq : ¬ (r.length : Int) - (a : Int) < (u.2.length : Int) := by omega
    go_enter Tryd.func41, Tryd.ntmps41
    go_wp2_with fail
    rw [HW2.out]
    clear HW2
    go_loopw [7] (fun i wr => ∃ k : Nat, k ≤ u.2.length ∧ i = .int .i64 k ∧ (∀ j, j < k → r[a + j]? = u.2[j]?) ∧ ∃ q, wr = w2.drewN q) (fun i _ => u.2.length - (intOf i).toNat)
    case atStart => exact ⟨0, Nat.zero_le _, rfl, fun j hj => by omega, 0, rfl⟩
    case round =>
      obtain ⟨k, hk, rfl, hI, qn, rfl⟩ := hrel
      have HI := Lib.hid hI
      clear hI
      by_cases hlt : k < u.2.length
      · obtain ⟨p, hp⟩ := get_lt (show a + k < r.length by omega)
        obtain ⟨q, hqq⟩ := get_lt hlt
        obtain ⟨ad, rfl, hbl, hc⟩ := HR2.out.at_ hp
        obtain ⟨bd, rfl, hbl', hc'⟩ := HU2.out.at_ hqq
        have HP := Lib.hid hp
        have HQ := Lib.hid hqq
        clear hp hqq
        have q0 : (0 : Int) ≤ (k : Int) := by omega
        have q1 : (k : Int) < (u.2.length : Int) := by omega
        have q2 : (0 : Int) ≤ (a : Int) + (k : Int) := by omega
        have q3 : (a : Int) + (k : Int) < (r.length : Int) := by omega
        have q4 : ((a : Int) + (k : Int)).toNat = a + k := by omega
        have hwr : IntKind.i64.wrap ((a : Int) + (k : Int)) = (a : Int) + (k : Int) := wrap_small _ (by omega)
        cases hpq : (p != q)
        · obtain rfl : p = q := by simpa using hpq
          go_wp2_with fail
          go_quiet (fail)
          go_wp2_with fail
          go_roundw
          case rel => exact ⟨k + 1, by omega, by go_num, (fun j hj => by
            by_cases e : j = k
            · subst e; rw [HP.out, HQ.out]
            · exact HI.out j (by omega)), _, rfl⟩
          case measure => simp [intOf]; omega
        · have hne : p ≠ q := by simpa using hpq
          have HF := Lib.hid (startB_no HP.out HQ.out hne)
          clear hne
          go_wp2_with fail
          go_quiet (fail)
          go_wp2_with fail
          go_ret
          exact ⟨by rw [HF.out]; rfl, below_drewN (below_drewN hbw _) _⟩
      · have HA := Lib.hid (startB_yes (r := r) (a := a) (g := u.2) (fun j hj => HI.out j (by omega)))
        go_wp2_with fail
        go_ret
        exact ⟨by rw [HA.out]; rfl, below_drewN hbw _⟩
end Go.Proofs.YtoechdnhgkelfaaDoor
