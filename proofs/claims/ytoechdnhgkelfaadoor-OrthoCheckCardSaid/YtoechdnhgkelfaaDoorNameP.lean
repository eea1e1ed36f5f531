/-
  What Name of the program returns; what Word of an inventory returns.
-/
import Derived.Test.YtoechdnhgkelfaaDoorLabelP
namespace Go.Proofs.YtoechdnhgkelfaaDoor
open Go.RowKit Go.PlainAid
theorem NamOut.no' {s : ByteArray} {w w' : World} (h : ¬ NamP s) (hb : Below w.heap.size w w') : NamOut s w (.returned (.bool false)) w' := ⟨false, rfl, ⟨(fun h => nomatch h), fun h' => absurd h' h⟩, hb⟩
set_option maxHeartbeats 3200000 in
theorem name29 (s : ByteArray) (w : World) (hs : s.size ≤ 1000) : Calls Tryd.prog 29 #[.string s] w (NamOut s w) := by
  have hbt := get_bt s
  by_cases h0 : s.size = 0
  · have he : s.toList.isEmpty = true := (empty_iff s).2 (List.eq_nil_of_length_eq_zero (by rw [size_list]; exact h0))
    have HN := Lib.hid (show ¬ NamP s from fun h => by have := h.1; omega)
    clear h0 hbt
    go_enter Tryd.func29, Tryd.ntmps29
    go_wp2_with fail
    go_ret
    exact NamOut.no HN.out
  have he : s.toList.isEmpty = false := by
    cases h : s.toList.isEmpty
    · rfl
    · have := (empty_iff s).1 h
      rw [← size_list, this] at h0
      exact absurd rfl h0
  have hp : 0 < s.size := by omega
  clear h0
  by_cases h32 : 32 < s.size
  · have h32' : (32 : Int) < (s.size : Int) := by omega
    have HN := Lib.hid (show ¬ NamP s from fun h => by have := h.2.1; omega)
    clear hbt
    go_enter Tryd.func29, Tryd.ntmps29
    go_wp2_with fail
    go_ret
    exact NamOut.no HN.out
  have h32' : ¬ (32 : Int) < (s.size : Int) := by omega
  have hz : (0 : Int) < (s.size : Int) := by omega
  have H0 := Lib.hid (show NamP s → 97 ≤ bt s 0 ∧ bt s 0 ≤ 122 from fun h => by have := h.2.2 0 hp; unfold NmC at this; omega)
  have hb0 := hbt 0 hp
  by_cases a1 : bt s 0 < 97
  · have HN := Lib.hid (show ¬ NamP s from fun h => by have := H0.out h; omega)
    go_enter Tryd.func29, Tryd.ntmps29
    go_wp2_with fail
    go_ret
    exact NamOut.no HN.out
  by_cases a2 : 122 < bt s 0
  · have HN := Lib.hid (show ¬ NamP s from fun h => by have := H0.out h; omega)
    go_enter Tryd.func29, Tryd.ntmps29
    go_wp2_with fail
    go_ret
    exact NamOut.no HN.out
  have kc := fun (w : World) => Lib.run_convert_string_bytes (P := Tryd.prog) w 9 63 5 s Tryd.underlying9 Tryd.underlying63 Tryd.underlying5
  have HBW := Lib.hid (bytes_below w 5 s)
  have HR := Lib.hid (show BRow (Lib.bytesWorld w 5 s) w.heap.size s from fun j hj => by rw [Lib.bytesWorld_cell w 5 s j hj, getD_bt s j hj])
  go_enter Tryd.func29, Tryd.ntmps29
  go_wp2_with fail
  clear kc hb0 hbt
  generalize Lib.bytesWorld w 5 s = wb at HBW HR
  go_loop [4, 25] (fun _ i => ∃ k : Nat, k ≤ s.size ∧ i = .int .i64 k ∧ NmTo s k) (fun _ i => s.size - (intOf i).toNat)
  case atStart => exact ⟨0, Nat.zero_le _, rfl, fun j hj => by omega⟩
  case round =>
    obtain ⟨k, hk, rfl, hnm⟩ := hrel
    have HN := Lib.hid hnm
    clear hnm
    by_cases hlt : k < s.size
    · have hc := HR.out k hlt
      have HB := Lib.hid (show ¬ NmC k (bt s k) → ¬ NamP s from fun h h' => h (h'.2.2 k hlt))
      have HS := Lib.hid (show NmC k (bt s k) → NmTo s (k + 1) from fun h => HN.out.succ h)
      have HK := Lib.hid (show k = 0 → ¬ bt s k < 97 ∧ ¬ 122 < bt s k from fun h => by subst h; exact ⟨by omega, by omega⟩)
      by_cases b1 : bt s k < 97
      · have hk0 : k ≠ 0 := fun h => (HK.out h).1 b1
        by_cases c1 : bt s k < 48
        · by_cases d1 : bt s k = 45
          · have HC := Lib.hid (HS.out (by unfold NmC; omega))
            have e1 : (bt s k != 45) = false := by rw [d1]; rfl
            clear d1
            go_wp2_with fail
            go_round
            case rel => exact ⟨k + 1, by omega, by go_num, HC.out⟩
            case measure => simp [intOf]; omega
          · have HC := Lib.hid (HB.out (by unfold NmC; omega))
            have e1 : (bt s k != 45) = true := by rw [bne_iff_ne]; exact d1
            have e2 : (bt s k != 95) = true := by rw [bne_iff_ne]; omega
            go_wp2_with fail
            go_ret
            exact NamOut.no' HC.out HBW.out
        · by_cases c2 : 57 < bt s k
          · by_cases d1 : bt s k = 95
            · have HC := Lib.hid (HS.out (by unfold NmC; omega))
              have e1 : (bt s k != 45) = true := by rw [bne_iff_ne]; omega
              have e2 : (bt s k != 95) = false := by rw [d1]; rfl
              clear d1
              go_wp2_with fail
              go_round
              case rel => exact ⟨k + 1, by omega, by go_num, HC.out⟩
              case measure => simp [intOf]; omega
            · have HC := Lib.hid (HB.out (by unfold NmC; omega))
              have e1 : (bt s k != 45) = true := by rw [bne_iff_ne]; omega
              have e2 : (bt s k != 95) = true := by rw [bne_iff_ne]; exact d1
              go_wp2_with fail
              go_ret
              exact NamOut.no' HC.out HBW.out
          · have HC := Lib.hid (HS.out (by unfold NmC; omega))
            go_wp2_with fail
            go_round
            case rel => exact ⟨k + 1, by omega, by go_num, HC.out⟩
            case measure => simp [intOf]; omega
      · by_cases b2 : 122 < bt s k
        · have HC := Lib.hid (HB.out (by unfold NmC; omega))
          have c1 : ¬ bt s k < 48 := by omega
          have c2 : 57 < bt s k := by omega
          have e1 : (bt s k != 45) = true := by rw [bne_iff_ne]; omega
          have e2 : (bt s k != 95) = true := by rw [bne_iff_ne]; omega
          go_wp2_with fail
          go_ret
          exact NamOut.no' HC.out HBW.out
        · have HC := Lib.hid (HS.out (by unfold NmC; omega))
          go_wp2_with fail
          go_round
          case rel => exact ⟨k + 1, by omega, by go_num, HC.out⟩
          case measure => simp [intOf]; omega
    · have HD := Lib.hid (show NamP s from ⟨by omega, by omega, fun j hj => HN.out j (by omega)⟩)
      go_wp2_with fail
      go_ret
      exact ⟨true, rfl, ⟨fun _ => HD.out, fun _ => rfl⟩, HBW.out⟩
/-! Segments. -/
def segB (np : Nat) (x : Int) : Bool := decide (1 ≤ x) && decide (x ≤ (np : Int))
theorem segment50 (np cap : Nat) (A : Option Addr) (x : Int) (w : World) (_hn : np ≤ 1000) : Calls Tryd.prog 50 #[.agg #[.slice A np cap], .int .i64 x] w fun e w' => e = .returned (.bool (segB np x)) ∧ Below w.heap.size w w' := by
  by_cases h1 : 1 ≤ x
  · have HS := Lib.hid (show segB np x = decide (x ≤ (np : Int)) by unfold segB; rw [decide_eq_true h1]; rfl)
    go_enter Tryd.func50, Tryd.ntmps50
    go_wp2_with fail
    go_ret
    exact ⟨by rw [HS.out]; rfl, below_one _ _⟩
  · have HS := Lib.hid (show segB np x = false by unfold segB; rw [decide_eq_false h1]; rfl)
    go_enter Tryd.func50, Tryd.ntmps50
    go_wp2_with fail
    go_ret
    exact ⟨by rw [HS.out]; rfl, below_one _ _⟩
theorem word49 (np cap B : Nat) (A : Option Addr) (x : Int) (w : World) (hn : np ≤ 1000) (hc : w.cell? ⟨B, 0, none⟩ = some (.slice A np cap)) : Calls Tryd.prog 49 #[.int .i64 x, .pointer (some ⟨B, 0, none⟩)] w fun e w' => e = .returned (.bool (!segB np x)) ∧ Below w.heap.size w w' := by
  go_enter Tryd.func49, Tryd.ntmps49
  go_wp2_with fail
  refine (segment50 np cap A x w hn).mono ?_
  rintro e w1 ⟨rfl, hb1⟩
  go_wp2_with fail
  go_ret
  exact ⟨rfl, hb1⟩
def AllSeg (np : Nat) (l : List Int) : Prop := ∀ x ∈ l, 1 ≤ x ∧ x ≤ (np : Int)
theorem segB_iff {np : Nat} {x : Int} : segB np x = true ↔ 1 ≤ x ∧ x ≤ (np : Int) := by unfold segB; simp
def SegOut (np : Nat) (l : List Int) (w : World) (e : Ending) (w' : World) : Prop := ∃ v : Int, e = .returned (.int .i64 v) ∧ ((v = -1 ∧ AllSeg np l) ∨ (0 ≤ v ∧ ¬ AllSeg np l)) ∧ Below w.heap.size w w'
set_option maxHeartbeats 800000 in
theorem index57 (np cap B : Nat) (A Al : Option Addr) (cl : Nat) (l : List Int) (w : World) (hn : np ≤ 1000) (hB : B < w.heap.size) (hc : w.cell? ⟨B, 0, none⟩ = some (.slice A np cap)) (hl : Ints w w.heap.size Al l) (hll : l.length ≤ 1000) :
    Calls Tryd.prog 57 #[.slice Al l.length cl, .func (.func 49) #[] #[.pointer (some ⟨B, 0, none⟩)]] w (SegOut np l w) := by
  have HL := Lib.hid hl
  have HC := Lib.hid hc
  clear hl hc
  go_enter Tryd.func57, Tryd.ntmps57
  go_wp2_with fail
  go_loopw [5, 8] (fun _ i wr => ∃ k : Nat, k ≤ l.length ∧ i = .int .i64 k ∧ SegTo np l k ∧ Below w.heap.size w wr) (fun _ i _ => l.length - (intOf i).toNat)
  case atStart => exact ⟨0, Nat.zero_le _, rfl, fun j s hj => by omega, Below.refl _ _⟩
  case round =>
    obtain ⟨k, hk, rfl, hse, hb⟩ := hrel
    have HSE := Lib.hid hse
    clear hse
    by_cases hlt : k < l.length
    · obtain ⟨x, hx⟩ := get_lt hlt
      obtain ⟨ad, rfl, hbl, c⟩ := (HL.out.below hb).at_ hx
      have HX := Lib.hid hx
      clear hx
      go_wp2_with fail
      refine (word49 np cap B A x wr hn ((hb.cell (p := ⟨B, 0, none⟩) hB).trans HC.out)).mono ?_
      rintro e w2 ⟨rfl, hb2⟩
      have hb2' := hb.trans (hb2.mono hb.size)
      clear hb2
      cases hq : segB np x
      · have HN := Lib.hid (show ¬ AllSeg np l from fun h => by have := segB_iff.2 (h x (List.mem_of_getElem? HX.out)); rw [hq] at this; cases this)
        clear hq
        go_wp2_with fail
        go_ret
        exact ⟨k, rfl, .inr ⟨by omega, HN.out⟩, hb2'⟩
      · have HQ := Lib.hid (segB_iff.1 hq)
        clear hq
        go_wp2_with fail
        go_roundw
        case rel => exact ⟨k + 1, by omega, by go_num, (fun j y hj hy => by
          by_cases e : j = k
          · subst e; rw [HX.out] at hy; cases hy; exact HQ.out
          · exact HSE.out j y (by omega) hy), hb2'⟩
        case measure => simp [intOf]; omega
    · have HD := Lib.hid (show AllSeg np l from fun x hx => by
        obtain ⟨j, hj⟩ := mem_ix hx
        exact HSE.out j x (by have := lt_get hj; omega) hj)
      go_wp2_with fail
      go_ret
      exact ⟨-1, rfl, .inl ⟨rfl, HD.out⟩, hb⟩
def CsOut (np : Nat) (l : List Int) (w : World) (e : Ending) (w' : World) : Prop := ∃ b : Bool, e = .returned (.bool b) ∧ (b = true ↔ ¬ AllSeg np l) ∧ Below w.heap.size w w'
theorem contains48 (np cap B : Nat) (A Al : Option Addr) (cl : Nat) (l : List Int) (w : World) (hn : np ≤ 1000) (hB : B < w.heap.size) (hc : w.cell? ⟨B, 0, none⟩ = some (.slice A np cap)) (hl : Ints w w.heap.size Al l) (hll : l.length ≤ 1000) :
    Calls Tryd.prog 48 #[.slice Al l.length cl, .func (.func 49) #[] #[.pointer (some ⟨B, 0, none⟩)]] w (CsOut np l w) := by
  have HI := Lib.hid (index57 np cap B A Al cl l w hn hB hc hl hll)
  clear hl hc
  go_enter Tryd.func48, Tryd.ntmps48
  go_wp2_with fail
  refine HI.out.mono ?_
  rintro e w' ⟨v, rfl, ⟨rfl, hl⟩ | ⟨hv, hl⟩, hb⟩
  · have HL := Lib.hid hl
    clear hl
    go_wp2_with fail
    go_ret
    exact ⟨false, rfl, ⟨(fun h => nomatch h), fun h => absurd HL.out h⟩, hb⟩
  · have HL := Lib.hid hl
    clear hl
    go_wp2_with fail
    go_ret
    exact ⟨true, rfl, ⟨fun _ => HL.out, fun _ => rfl⟩, hb⟩
theorem word31 (np cap : Nat) (A Al : Option Addr) (cl : Nat) (l : List Int) (w : World) (hn : np ≤ 1000) (hl : Ints w w.heap.size Al l) (h1 : 1 ≤ l.length) (h3 : l.length ≤ 3) :
    Calls Tryd.prog 31 #[.agg #[.slice A np cap], .slice Al l.length cl] w (ErrOut (fun q => (q = 0 ∧ AllSeg np l) ∨ (q = 19 ∧ ¬ AllSeg np l)) w) := by
  have c0 := box_i w (.slice A np cap) 24
  have hbw := below_one w (.cells #[.slice A np cap] 24)
  have hz := size_one w (.cells #[.slice A np cap] 24)
  obtain ⟨w1, hw1⟩ : ∃ w1, w.alloc (.cells #[.slice A np cap] 24) = w1 := ⟨_, rfl⟩
  rw [hw1] at c0 hbw hz
  have HC := Lib.hid (contains48 np cap w.heap.size A Al cl l w1 hn (by omega) c0 ((hl.keep fun _ hp => hbw.cell hp : Ints w1 _ _ _).more hbw.size) (by omega))
  have HW1 := Lib.hid hw1
  clear hw1 c0 hz hl
  have q0 : ((l.length : Int) == 0) = false := by rw [beq_eq_false_iff_ne]; omega
  have q1 : ¬ (24 : Int) < (l.length : Int) := by omega
  go_enter Tryd.func31, Tryd.ntmps31
  go_wp2_with fail
  rw [HW1.out]
  refine HC.out.mono ?_
  rintro e w2 ⟨b, rfl, hb, hb2⟩
  have HB := Lib.hid hb
  have k2 := hbw.trans (hb2.mono hbw.size)
  clear hb hb2
  cases b
  · go_wp2_with fail
    go_ret
    exact ⟨0, rfl, .inl ⟨rfl, Classical.byContradiction fun h => by have := HB.out.2 h; cases this⟩, k2⟩
  · go_wp2_with fail
    go_ret
    exact ⟨19, rfl, .inr ⟨rfl, HB.out.1 (by simp)⟩, k2⟩
end Go.Proofs.YtoechdnhgkelfaaDoor
