/-
  What Name of the reference returns.
-/
import Derived.Test.YtoechdnhgkelfaaDoorUnitE
namespace Go.Proofs.YtoechdnhgkelfaaDoor
open Go.RowKit Go.PlainAid
/-- A byte of a name. -/
def NmC (k : Nat) (c : Int) : Prop := (97 ≤ c ∧ c ≤ 122) ∨ (k ≠ 0 ∧ (c = 45 ∨ c = 95 ∨ (48 ≤ c ∧ c ≤ 57)))
def NmTo (s : ByteArray) (k : Nat) : Prop := ∀ j, j < k → NmC j (bt s j)
def NamP (s : ByteArray) : Prop := 1 ≤ s.size ∧ s.size ≤ 32 ∧ NmTo s s.size
theorem NmTo.succ {s : ByteArray} {k : Nat} (h : NmTo s k) (hk : NmC k (bt s k)) : NmTo s (k + 1) := fun j hj => by
  by_cases e : j = k
  · subst e; exact hk
  · exact h j (by omega)
def NamOut (s : ByteArray) (w : World) (e : Ending) (w' : World) : Prop := ∃ b : Bool, e = .returned (.bool b) ∧ (b = true ↔ NamP s) ∧ Below w.heap.size w w'
theorem NamOut.no {s : ByteArray} {w : World} (h : ¬ NamP s) : NamOut s w (.returned (.bool false)) w := ⟨false, rfl, ⟨(fun h => nomatch h), fun h' => absurd h' h⟩, Below.refl _ _⟩
set_option maxHeartbeats 3200000 in
theorem name33P (s : ByteArray) (w : World) (hs : s.size ≤ 1000) : Calls Tryd.prog 33 #[.string s] w (NamOut s w) := by
  have hbt := get_bt s
  go_enter Tryd.func33, Tryd.ntmps33
  go_wp2_with fail
  go_loop [3, 4] (fun i _ => ∃ k : Nat, k ≤ s.size ∧ i = .int .i64 k ∧ NmTo s k) (fun i _ => s.size - (intOf i).toNat)
  case atStart => exact ⟨0, Nat.zero_le _, rfl, fun j hj => by omega⟩
  case round =>
    obtain ⟨k, hk, rfl, hnm⟩ := hrel
    have HN := Lib.hid hnm
    clear hnm
    by_cases hlt : k < s.size
    · have HB := Lib.hid (show ¬ NmC k (bt s k) → ¬ NamP s from fun h h' => h (h'.2.2 k hlt))
      have HS := Lib.hid (show NmC k (bt s k) → NmTo s (k + 1) from fun h => HN.out.succ h)
      by_cases a1 : 97 ≤ bt s k
      · by_cases a2 : bt s k ≤ 122
        · have HC := Lib.hid (HS.out (.inl ⟨a1, a2⟩))
          go_wp2_with fail
          go_round
          case rel => exact ⟨k + 1, by omega, by go_num, HC.out⟩
          case measure => simp [intOf]; omega
        · have HC := Lib.hid (HB.out (by unfold NmC; omega))
          by_cases a0 : k = 0
          · subst a0
            go_wp2_with fail
            go_ret
            exact NamOut.no HC.out
          · have a0' : ((k : Int) == 0) = false := by rw [beq_eq_false_iff_ne]; omega
            have b1 : (bt s k != 45) = true := by rw [bne_iff_ne]; omega
            have b2 : (bt s k != 95) = true := by rw [bne_iff_ne]; omega
            have b3 : ¬ bt s k < 48 := by omega
            have b4 : 57 < bt s k := by omega
            go_wp2_with fail
            go_ret
            exact NamOut.no HC.out
      · by_cases a0 : k = 0
        · have HC := Lib.hid (HB.out (by unfold NmC; omega))
          subst a0
          go_wp2_with fail
          go_ret
          exact NamOut.no HC.out
        · have a0' : ((k : Int) == 0) = false := by rw [beq_eq_false_iff_ne]; omega
          by_cases c1 : bt s k = 45
          · have HC := Lib.hid (HS.out (by unfold NmC; omega))
            have b1 : (bt s k != 45) = false := by rw [c1]; rfl
            clear c1
            go_wp2_with fail
            go_round
            case rel => exact ⟨k + 1, by omega, by go_num, HC.out⟩
            case measure => simp [intOf]; omega
          have b1 : (bt s k != 45) = true := by rw [bne_iff_ne]; omega
          by_cases c2 : bt s k = 95
          · have HC := Lib.hid (HS.out (by unfold NmC; omega))
            have b2 : (bt s k != 95) = false := by rw [c2]; rfl
            clear c2
            go_wp2_with fail
            go_round
            case rel => exact ⟨k + 1, by omega, by go_num, HC.out⟩
            case measure => simp [intOf]; omega
          have b2 : (bt s k != 95) = true := by rw [bne_iff_ne]; omega
          by_cases c3 : bt s k < 48
          · have HC := Lib.hid (HB.out (by unfold NmC; omega))
            go_wp2_with fail
            go_ret
            exact NamOut.no HC.out
          by_cases c4 : 57 < bt s k
          · have HC := Lib.hid (HB.out (by unfold NmC; omega))
            go_wp2_with fail
            go_ret
            exact NamOut.no HC.out
          · have HC := Lib.hid (HS.out (by unfold NmC; omega))
            go_wp2_with fail
            go_round
            case rel => exact ⟨k + 1, by omega, by go_num, HC.out⟩
            case measure => simp [intOf]; omega
    · obtain rfl : k = s.size := by omega
      by_cases h1 : 1 ≤ s.size
      · go_wp2_with fail
        go_ret
        refine ⟨_, rfl, ?_, Below.refl _ _⟩
        rw [decide_eq_true_eq]
        exact ⟨fun h => ⟨h1, by omega, HN.out⟩, fun h => by have := h.2.1; omega⟩
      · go_wp2_with fail
        go_ret
        exact NamOut.no (fun h => h1 h.1)
end Go.Proofs.YtoechdnhgkelfaaDoor
