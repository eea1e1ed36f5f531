/-
  The examples of the chapter hold: awake returns true; and what clean returns.
-/
import Derived.Test.YtkkacgabikbedaaDoorLines
namespace Go.Proofs.YtkkacgabikbedaaDoor
open Go.RowKit Go.PlainAid

theorem unq_a (w : World) : Calls Tryd.prog 16 #[.string ⟨#[37, 52, 49]⟩] w fun e w' => e = .returned (.tuple #[.string ⟨#[]⟩, .bool false]) ∧ Below w.heap.size w w' := by
  have h := unquoteL [37, 52, 49] w (by decide)
  rw [show uqS [37, 52, 49] = [] by decide +kernel, show uqB [37, 52, 49] = false by decide +kernel] at h
  exact h
theorem unq_b (w : World) : Calls Tryd.prog 16 #[.string ⟨#[97, 37, 50, 48, 98]⟩] w fun e w' => e = .returned (.tuple #[.string ⟨#[97, 32, 98]⟩, .bool true]) ∧ Below w.heap.size w w' := by
  have h := unquoteL [97, 37, 50, 48, 98] w (by decide)
  rw [show uqS [97, 37, 50, 48, 98] = [97, 32, 98] by decide +kernel, show uqB [97, 37, 50, 48, 98] = true by decide +kernel] at h
  exact h
theorem spl_a (w : World) (hm : Mx w) : Calls Tryd.prog 22 #[.string ⟨#[97, 32, 32, 98]⟩] w fun e w' => ∃ v, e = .returned (.tuple #[v, .bool false]) ∧ Below w.heap.size w w' := by
  have h := split22 ⟨#[97, 32, 32, 98]⟩ w (by decide +kernel) hm
  rw [show Wd.splitL (⟨#[97, 32, 32, 98]⟩ : ByteArray).data.toList = none by decide +kernel] at h
  exact h.mono fun e w' ⟨v, he, _, hb⟩ => ⟨v, he, hb⟩
/-- A list of one empty string. -/
def OneOut (w : World) (e : Ending) (w' : World) : Prop := ∃ g cap, e = .returned (.tuple #[.slice (some ⟨g, 0, none⟩) 1 cap, .bool true]) ∧ w'.ownsRow w.heap.size 9 1 (.slice (some ⟨g, 0, none⟩) 1 cap) 1 (SS [[]]) ∧ Below w.heap.size w w'
theorem one_of {w : World} {e : Ending} {w' : World} (h : LstOut (some [[]]) w e w') : OneOut w e w' := by
  obtain ⟨v, he, ho, hb⟩ := h
  obtain ⟨g, cap, hv, _⟩ := World.ownsRow.form (n := 1) ho (by decide)
  subst hv
  exact ⟨g, cap, he, ho, hb⟩
theorem spl_b (w : World) (hm : Mx w) : Calls Tryd.prog 22 #[.string ⟨#[37, 45]⟩] w (OneOut w) := by
  have h := split22 ⟨#[37, 45]⟩ w (by decide +kernel) hm
  rw [show Wd.splitL (⟨#[37, 45]⟩ : ByteArray).data.toList = some [[]] by decide +kernel] at h
  exact h.mono fun _ _ => one_of
theorem lin_a (w : World) (hm : Mx w) : Calls Tryd.prog 25 #[.string ⟨#[10]⟩] w (OneOut w) := by
  have h := lines25 ⟨#[10]⟩ w (by decide +kernel) hm
  rw [show Wd.linesL (⟨#[10]⟩ : ByteArray).data.toList = some [[]] by decide +kernel] at h
  exact h.mono fun _ _ => one_of
theorem lin_b (w : World) (hm : Mx w) : Calls Tryd.prog 25 #[.string ⟨#[97]⟩] w fun e w' => ∃ v, e = .returned (.tuple #[v, .bool false]) ∧ Below w.heap.size w w' := by
  have h := lines25 ⟨#[97]⟩ w (by decide +kernel) hm
  rw [show Wd.linesL (⟨#[97]⟩ : ByteArray).data.toList = none by decide +kernel] at h
  exact h.mono fun e w' ⟨v, he, _, hb⟩ => ⟨v, he, hb⟩
theorem quo_a (w : World) : Calls Tryd.prog 13 #[.string ⟨#[97, 32, 98]⟩] w fun e w' => e = .returned (.string ⟨#[97, 37, 50, 48, 98]⟩) ∧ Below w.heap.size w w' := by
  have h := quoteL [97, 32, 98] w (by decide)
  rw [show Wd.quote [97, 32, 98] = [97, 37, 50, 48, 98] by decide +kernel] at h
  exact h
theorem quo_b (w : World) : Calls Tryd.prog 13 #[.string ⟨#[]⟩] w fun e w' => e = .returned (.string ⟨#[37, 45]⟩) ∧ Below w.heap.size w w' := by
  have h := quoteL [] w (by decide)
  rw [show Wd.quote [] = [37, 45] by decide +kernel] at h
  exact h
theorem reads_two (w : World) (a b : List UInt8) : Reads (w.alloc (.cells #[.string ⟨a.toArray⟩, .string ⟨b.toArray⟩] 9)) (w.alloc (.cells #[.string ⟨a.toArray⟩, .string ⟨b.toArray⟩] 9)).heap.size 1 (some ⟨w.heap.size, 0, none⟩) 2 (SS [a, b]) := by
  have h := reads_lit w [a, b]
  have hz : (w.alloc (.cells #[.string ⟨a.toArray⟩, .string ⟨b.toArray⟩] 9)).heap.size = w.heap.size + 1 := by simp
  rw [hz]
  exact h
theorem reads_one (w : World) (a : List UInt8) : Reads (w.alloc (.cells #[.string ⟨a.toArray⟩] 9)) (w.alloc (.cells #[.string ⟨a.toArray⟩] 9)).heap.size 1 (some ⟨w.heap.size, 0, none⟩) 1 (SS [a]) := by
  have h := reads_lit w [a]
  have hz : (w.alloc (.cells #[.string ⟨a.toArray⟩] 9)).heap.size = w.heap.size + 1 := by simp
  rw [hz]
  exact h
theorem sam_a (g cap : Nat) (w : World) (base : Nat) (h : w.ownsRow base 9 1 (.slice (some ⟨g, 0, none⟩) 1 cap) 1 (SS [[]])) :
    Calls Tryd.prog 24 #[.slice (some ⟨g, 0, none⟩) 1 cap, .slice (some ⟨w.heap.size, 0, none⟩) 1 1] (w.alloc (.cells #[.string ⟨#[]⟩] 9)) fun e w' => e = .returned (.bool true) ∧ Below (w.alloc (.cells #[.string ⟨#[]⟩] 9)).heap.size (w.alloc (.cells #[.string ⟨#[]⟩] 9)) w' :=
  same24 (some ⟨g, 0, none⟩) (some ⟨w.heap.size, 0, none⟩) cap 1 [[]] [[]] (w.alloc (.cells #[.string ⟨#[]⟩] 9)) (by decide) (Reads.of_own (h.alloc _)) (reads_one w [])
theorem txt_a (w : World) : Calls Tryd.prog 27 #[.slice (some ⟨w.heap.size, 0, none⟩) 2 2] (w.alloc (.cells #[.string ⟨#[97]⟩, .string ⟨#[]⟩] 9)) fun e w' => e = .returned (.string ⟨#[97, 10, 10]⟩) ∧ Below (w.alloc (.cells #[.string ⟨#[97]⟩, .string ⟨#[]⟩] 9)).heap.size (w.alloc (.cells #[.string ⟨#[97]⟩, .string ⟨#[]⟩] 9)) w' := by
  have h := text27 (some ⟨w.heap.size, 0, none⟩) 2 [[97], []] (w.alloc (.cells #[.string ⟨#[97]⟩, .string ⟨#[]⟩] 9)) (reads_two w [97] []) (by decide)
  rw [show Wd.textL [[97], []] = [97, 10, 10] by decide +kernel] at h
  exact h
theorem joi_a (w : World) : Calls Tryd.prog 19 #[.slice (some ⟨w.heap.size, 0, none⟩) 2 2] (w.alloc (.cells #[.string ⟨#[]⟩, .string ⟨#[120, 32, 121]⟩] 9)) fun e w' => e = .returned (.string ⟨#[37, 45, 32, 120, 37, 50, 48, 121]⟩) ∧ Below (w.alloc (.cells #[.string ⟨#[]⟩, .string ⟨#[120, 32, 121]⟩] 9)).heap.size (w.alloc (.cells #[.string ⟨#[]⟩, .string ⟨#[120, 32, 121]⟩] 9)) w' := by
  have h := join19 (some ⟨w.heap.size, 0, none⟩) 2 [[], [120, 32, 121]] (w.alloc (.cells #[.string ⟨#[]⟩, .string ⟨#[120, 32, 121]⟩] 9)) (reads_two w [] [120, 32, 121]) (by decide)
  rw [show Wd.joinL [[], [120, 32, 121]] = [37, 45, 32, 120, 37, 50, 48, 121] by decide +kernel] at h
  exact h
theorem alloc_below {B : Nat} {a w w' : World} {o : Obj} (h : Below B a w) (hB : B ≤ w.heap.size) (hb : Below (w.alloc o).heap.size (w.alloc o) w') : Below B a w' :=
  (h.alloc hB o).trans (hb.mono (by simp; omega))
set_option maxHeartbeats 3200000 in
set_option maxRecDepth 100000 in
theorem awake15 (w : World) (hm : Mx w) : Calls Tryd.prog 15 #[] w fun e w' => e = .returned (.bool true) ∧ Below w.heap.size w w' := by
  have HM := Lib.hid hm
  clear hm
  go_enter Tryd.func15, Tryd.ntmps15
  go_wp2_with fail
  refine (unq_a w).mono ?_
  rintro e w1 ⟨rfl, hb1⟩
  go_wp2_with fail
  refine (unq_b w1).mono ?_
  rintro e w2 ⟨rfl, hb2⟩
  have k2 := hb1.trans (hb2.mono hb1.size)
  clear hb1 hb2
  go_wp2_with fail
  refine (spl_a w2 (HM.out.keep k2)).mono ?_
  rintro e w3 ⟨v5, rfl, hb3⟩
  have k3 := k2.trans (hb3.mono k2.size)
  clear hb3 k2
  go_wp2_with fail
  refine (spl_b w3 (HM.out.keep k3)).mono ?_
  rintro e w4 ⟨g4, c4, rfl, ho4, hb4⟩
  have k4 := k3.trans (hb4.mono k3.size)
  have O4 := Lib.hid ho4
  clear hb4 ho4 k3
  go_wp2_with fail
  refine (lin_a w4 (HM.out.keep k4)).mono ?_
  rintro e w5 ⟨g5, c5, rfl, ho5, hb5⟩
  have k5 := k4.trans (hb5.mono k4.size)
  have O5 := Lib.hid ho5
  have O45 := Lib.hid (own_below O4.out hb5)
  clear hb5 ho5 O4 k4
  go_wp2_with fail
  refine (lin_b w5 (HM.out.keep k5)).mono ?_
  rintro e w6 ⟨v11, rfl, hb6⟩
  have k6 := k5.trans (hb6.mono k5.size)
  have O46 := Lib.hid (own_below O45.out hb6)
  have O56 := Lib.hid (own_below O5.out hb6)
  clear hb6 O45 O5 k5
  go_wp2_with fail
  refine (quo_a w6).mono ?_
  rintro e w7 ⟨rfl, hb7⟩
  have k7 := k6.trans (hb7.mono k6.size)
  have O47 := Lib.hid (own_below O46.out hb7)
  have O57 := Lib.hid (own_below O56.out hb7)
  clear hb7 O46 O56 k6
  go_wp2_with fail
  refine (quo_b w7).mono ?_
  rintro e w8 ⟨rfl, hb8⟩
  have k8 := k7.trans (hb8.mono k7.size)
  have O48 := Lib.hid (own_below O47.out hb8)
  have O58 := Lib.hid (own_below O57.out hb8)
  clear hb8 O47 O57 k7
  go_wp2_with fail
  refine (sam_a g4 c4 w8 _ O48.out).mono ?_
  rintro e w9 ⟨rfl, hb9⟩
  have k9 := alloc_below k8 k8.size hb9
  have O59 := Lib.hid (own_below (O58.out.alloc _) hb9)
  clear hb9 O48 O58 k8
  go_wp2_with fail
  refine (sam_a g5 c5 w9 _ O59.out).mono ?_
  rintro e w10 ⟨rfl, hb10⟩
  have k10 := alloc_below k9 k9.size hb10
  clear hb10 O59 k9
  go_wp2_with fail
  refine (txt_a w10).mono ?_
  rintro e w11 ⟨rfl, hb11⟩
  have k11 := alloc_below k10 k10.size hb11
  clear hb11 k10
  go_wp2_with fail
  refine (joi_a w11).mono ?_
  rintro e w12 ⟨rfl, hb12⟩
  have k12 := alloc_below k11 k11.size hb12
  clear hb12 k11
  go_wp2_with fail
  go_ret
  exact ⟨rfl, k12⟩

/-! clean. -/
def CleanTo (s : ByteArray) (k : Nat) : Prop := ∀ j, j < k → bt s j ≠ 32 ∧ bt s j ≠ 10
theorem clean18 (s : ByteArray) (w : World) (hs : s.size ≤ 4194304) (hc : CleanTo s s.size) (hn : s.toList.isEmpty = false) : Calls Tryd.prog 18 #[.string s] w fun e w' => e = .returned (.bool true) ∧ w = w' := by
  have hbt := get_bt s
  have HC := Lib.hid hc
  clear hc
  go_enter Tryd.func18, Tryd.ntmps18
  go_wp2_with fail
  go_loop [3] (fun i => ∃ k : Nat, k ≤ s.size ∧ i = .int .i64 k) (fun i => s.size - (intOf i).toNat)
  case atStart => exact ⟨0, Nat.zero_le _, rfl⟩
  case round =>
    obtain ⟨k, hk, rfl⟩ := hrel
    by_cases hlt : k < s.size
    · have h1 : (bt s k == 32) = false := beq_eq_false_iff_ne.2 (HC.out k hlt).1
      have h2 : (bt s k == 10) = false := beq_eq_false_iff_ne.2 (HC.out k hlt).2
      go_wp2_with fail
      go_round
      case rel => exact ⟨k + 1, by omega, by go_num⟩
      case measure => simp [intOf]; omega
    · go_wp2_with fail
      go_ret
      exact ⟨rfl, rfl⟩
end Go.Proofs.YtkkacgabikbedaaDoor
