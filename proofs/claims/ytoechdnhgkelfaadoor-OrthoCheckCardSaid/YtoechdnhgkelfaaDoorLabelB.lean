/-
  What Label and Name of the reference return.
-/
import Derived.Test.YtoechdnhgkelfaaDoorLabel
namespace Go.Proofs.YtoechdnhgkelfaaDoor
open Go.RowKit Go.PlainAid
/-- The bytes of a label. -/
def lowB (c : Int) : Bool := decide (c < 32) || c == 127
def Lows (s : ByteArray) (k : Nat) : Prop := ∀ j, j < k → lowB (bt s j) = false
/-- A label of the reference. -/
def LabP (s : ByteArray) : Prop := 1 ≤ s.size ∧ s.size ≤ 32 ∧ Lows s s.size ∧ OkFrom s 0
def LabelOut (s : ByteArray) (w : World) (e : Ending) (w' : World) : Prop := ∃ b : Bool, e = .returned (.bool b) ∧ (b = true ↔ LabP s) ∧ Below w.heap.size w w'
theorem Lows.no {s : ByteArray} {k : Nat} (hk : k < s.size) (h : lowB (bt s k) = true) : ¬ LabP s := fun hl => by
  have := hl.2.2.1 k hk
  rw [h] at this
  cases this
theorem Lows.succ {s : ByteArray} {k : Nat} (h : Lows s k) (hk : lowB (bt s k) = false) : Lows s (k + 1) := fun j hj => by
  by_cases e : j = k
  · subst e; exact hk
  · exact h j (by omega)
set_option maxHeartbeats 1600000 in
theorem label28 (s : ByteArray) (w : World) (hs : s.size ≤ 1000) : Calls Tryd.prog 28 #[.string s] w (LabelOut s w) := by
  have hbt := get_bt s
  go_enter Tryd.func28, Tryd.ntmps28
  go_wp2_with fail
  go_loop [3] (fun i => ∃ k : Nat, k ≤ s.size ∧ i = .int .i64 k ∧ Lows s k) (fun i => s.size - (intOf i).toNat)
  case atStart => exact ⟨0, Nat.zero_le _, rfl, fun j hj => by omega⟩
  case round =>
    obtain ⟨k, hk, rfl, hlow⟩ := hrel
    have HL := Lib.hid hlow
    clear hlow
    by_cases hlt : k < s.size
    · by_cases h1 : bt s k < 32
      · have HN := Lib.hid (Lows.no hlt (show lowB (bt s k) = true by unfold lowB; rw [decide_eq_true h1]; rfl))
        go_wp2_with fail
        go_ret
        exact ⟨false, rfl, ⟨(fun h => nomatch h), fun h => absurd h HN.out⟩, Below.refl _ _⟩
      · cases h2 : (bt s k == 127)
        · have HS := Lib.hid (HL.out.succ (show lowB (bt s k) = false by unfold lowB; rw [decide_eq_false h1, h2]; rfl))
          go_wp2_with fail
          go_round
          case rel => exact ⟨k + 1, by omega, by go_num, HS.out⟩
          case measure => simp [intOf]; omega
        · have HN := Lib.hid (Lows.no hlt (show lowB (bt s k) = true by unfold lowB; rw [h2, Bool.or_true]))
          go_wp2_with fail
          go_ret
          exact ⟨false, rfl, ⟨(fun h => nomatch h), fun h => absurd h HN.out⟩, Below.refl _ _⟩
    · obtain rfl : k = s.size := by omega
      go_wp2_with fail
      refine (points45 s _ hs).mono ?_
      rintro e w3 ⟨v, b, rfl, hok, hb3⟩
      have HOK := Lib.hid hok
      clear hok hbt
      cases b
      · go_wp2_with fail
        go_ret
        exact ⟨false, rfl, ⟨(fun h => nomatch h), fun h => HOK.out.2 h.2.2.2⟩, hb3⟩
      · by_cases h1 : 1 ≤ s.size
        · go_wp2_with fail
          go_ret
          refine ⟨_, rfl, ?_, hb3⟩
          rw [decide_eq_true_eq]
          exact ⟨fun h => ⟨h1, by omega, HL.out, HOK.out.1 (by simp)⟩, fun h => by have := h.2.1; omega⟩
        · go_wp2_with fail
          go_ret
          exact ⟨false, rfl, ⟨(fun h => nomatch h), fun h => absurd h.1 h1⟩, hb3⟩
end Go.Proofs.YtoechdnhgkelfaaDoor
