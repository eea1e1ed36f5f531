/-
  What Name, label, has and unit of the references return, and Check of the inventory.
-/
import Derived.Test.YtoechdnhgkelfaaDoorLabelB
namespace Go.Proofs.YtoechdnhgkelfaaDoor
open Go.RowKit Go.PlainAid
def AnyBool (w : World) (e : Ending) (w' : World) : Prop := ∃ b : Bool, e = .returned (.bool b) ∧ Below w.heap.size w w'
set_option maxHeartbeats 3200000 in
theorem name33 (s : ByteArray) (w : World) (hs : s.size ≤ 1000) : Calls Tryd.prog 33 #[.string s] w (AnyBool w) := by
  have hbt := get_bt s
  go_enter Tryd.func33, Tryd.ntmps33
  go_wp2_with fail
  go_loop [3] (fun i => ∃ k : Nat, k ≤ s.size ∧ i = .int .i64 k) (fun i => s.size - (intOf i).toNat)
  case atStart => exact ⟨0, Nat.zero_le _, rfl⟩
  case round =>
    obtain ⟨k, hk, rfl⟩ := hrel
    by_cases hlt : k < s.size
    · obtain ⟨c, hc⟩ : ∃ c, bt s k = c := ⟨_, rfl⟩
      go_wp2_with fail
      all_goals first
        | (go_ret; exact ⟨_, rfl, Below.refl _ _⟩)
        | (go_round
           case rel => exact ⟨k + 1, by omega, by go_num⟩
           case measure => simp [intOf]; omega)
    · go_wp2_with fail
      all_goals (go_ret; exact ⟨_, rfl, Below.refl _ _⟩)
/-- A label without blanks. -/
def Blk0 (s : ByteArray) (k : Nat) : Prop := ∀ j, j < k → bt s j ≠ 32
def PlP (s : ByteArray) : Prop := Blk0 s s.size ∧ LabP s
def PlOut (s : ByteArray) (w : World) (e : Ending) (w' : World) : Prop := ∃ b : Bool, e = .returned (.bool b) ∧ (b = true ↔ PlP s) ∧ Below w.heap.size w w'
theorem Blk0.succ {s : ByteArray} {k : Nat} (h : Blk0 s k) (hk : bt s k ≠ 32) : Blk0 s (k + 1) := fun j hj => by
  by_cases e : j = k
  · subst e; exact hk
  · exact h j (by omega)
set_option maxHeartbeats 800000 in
theorem label35 (s : ByteArray) (w : World) (hs : s.size ≤ 1000) : Calls Tryd.prog 35 #[.string s] w (PlOut s w) := by
  have hbt := get_bt s
  go_enter Tryd.func35, Tryd.ntmps35
  go_wp2_with fail
  go_loop [3] (fun i => ∃ k : Nat, k ≤ s.size ∧ i = .int .i64 k ∧ Blk0 s k) (fun i => s.size - (intOf i).toNat)
  case atStart => exact ⟨0, Nat.zero_le _, rfl, fun j hj => by omega⟩
  case round =>
    obtain ⟨k, hk, rfl, hlow⟩ := hrel
    have HL := Lib.hid hlow
    clear hlow
    by_cases hlt : k < s.size
    · cases h2 : (bt s k == 32)
      · have HS := Lib.hid (HL.out.succ (beq_eq_false_iff_ne.1 h2))
        go_wp2_with fail
        go_round
        case rel => exact ⟨k + 1, by omega, by go_num, HS.out⟩
        case measure => simp [intOf]; omega
      · have HN := Lib.hid (show ¬ PlP s from fun h => h.1 k hlt (beq_iff_eq.1 h2))
        go_wp2_with fail
        go_ret
        exact ⟨false, rfl, ⟨(fun h => nomatch h), fun h => absurd h HN.out⟩, Below.refl _ _⟩
    · obtain rfl : k = s.size := by omega
      go_wp2_with fail
      refine (label28 s _ hs).mono ?_
      rintro e w3 ⟨b, rfl, hok, hb3⟩
      have HOK := Lib.hid hok
      clear hok hbt
      go_wp2_with fail
      go_ret
      exact ⟨b, rfl, HOK.out.trans ⟨fun h => ⟨HL.out, h⟩, fun h => h.2⟩, hb3⟩
/-- The number of an error. -/
def ErrOut (Q : Int → Prop) (w : World) (e : Ending) (w' : World) : Prop := ∃ q : Int, e = .returned (.int .i64 q) ∧ Q q ∧ Below w.heap.size w w'
set_option maxHeartbeats 3200000 in
set_option maxRecDepth 100000 in
theorem check11 (ps : List (ByteArray × Int)) (vi : Value) (w : World) (hi : VAt w w.heap.size ps vi) (hp : ∀ p ∈ ps, p.1.size ≤ 100) (hn : ps.length ≤ 70) :
    Calls Tryd.prog 11 #[vi] w (ErrOut (fun _ => True) w) := by
  obtain ⟨A, cap, rfl, hP⟩ := hi
  have c0 := box_i w (.slice A ps.length cap) 24
  have hbw := below_one w (.cells #[.slice A ps.length cap] 24)
  have hz := size_one w (.cells #[.slice A ps.length cap] 24)
  obtain ⟨w2, hw2⟩ : ∃ w2, w.alloc (.cells #[.slice A ps.length cap] 24) = w2 := ⟨_, rfl⟩
  rw [hw2] at c0 hbw hz
  have HP2 := Lib.hid (hP.keep fun _ hp => hbw.cell hp)
  have HW2 := Lib.hid hw2
  have HZ := Lib.hid hz
  have C0 := Lib.hid c0
  have HPN := Lib.hid hp
  clear hP hw2 hz hp
  by_cases h60 : 60 < ps.length
  · have h60' : (60 : Int) < (ps.length : Int) := by omega
    go_enter Tryd.func11, Tryd.ntmps11
    go_wp2_with fail
    go_ret
    rw [HW2.out]
    exact ⟨_, rfl, trivial, hbw⟩
  have h60' : ¬ (60 : Int) < (ps.length : Int) := by omega
  go_enter Tryd.func11, Tryd.ntmps11
  go_wp2_with fail
  rw [HW2.out]
  clear HW2 c0
  go_loopw [12] (fun i wr => ∃ k : Nat, k ≤ ps.length ∧ i = .int .i64 k ∧ Below (w.heap.size + 1) w2 wr) (fun i _ => ps.length - (intOf i).toNat)
  case atStart => exact ⟨0, Nat.zero_le _, rfl, Below.refl _ _⟩
  case round =>
    obtain ⟨k, hk, rfl, hb⟩ := hrel
    have hsz : w.heap.size + 1 ≤ wr.heap.size := by have := hb.size; have := HZ.out; omega
    have hbe := hbw.trans (hb.mono (by omega))
    have e0 := (hb.cell (p := ⟨w.heap.size, 0, none⟩) (by simp)).trans C0.out
    by_cases hlt : k < ps.length
    · obtain ⟨p, hp⟩ := get_lt hlt
      have hps := HPN.out p (List.mem_of_getElem? hp)
      obtain ⟨ad, rfl, hblk, c1, c2⟩ := HP2.out k p hp
      have c1' := (hb.cell (p := ad.add (k * 2)) (by rw [block_of_add]; omega)).trans c1
      clear hp
      go_wp2_with fail
      refine (label28 p.1 _ (by omega)).mono ?_
      rintro e w3 ⟨b, rfl, hok, hb3⟩
      have hb3' := hb.trans (hb3.mono hsz)
      have hbe3 := hbw.trans (hb3'.mono (by omega))
      clear hok hb3 hb hbe e0 c1' hsz
      cases b
      · go_wp2_with fail
        go_ret
        exact ⟨_, rfl, trivial, hbe3⟩
      · go_wp2_with fail
        go_loopw [4] (fun i wr => ∃ j : Nat, j ≤ k ∧ i = .int .i64 j ∧ Below (w.heap.size + 1) w2 wr) (fun i _ => k - (intOf i).toNat)
        case atStart => exact ⟨0, Nat.zero_le _, rfl, hb3'⟩
        case round =>
          obtain ⟨j, hj, rfl, hb⟩ := hrel
          have hsz : w.heap.size + 1 ≤ wr.heap.size := by have := hb.size; have := HZ.out; omega
          have hbe := hbw.trans (hb.mono (by omega))
          have e0 := (hb.cell (p := ⟨w.heap.size, 0, none⟩) (by simp)).trans C0.out
          have c1' := (hb.cell (p := ad.add (k * 2)) (by rw [block_of_add]; omega)).trans c1
          have c2' := (hb.cell (p := ⟨(ad.add (k * 2)).block, (ad.add (k * 2)).off + 1, none⟩) (by show (ad.add (k * 2)).block < _; rw [block_of_add]; omega)).trans c2
          have q0 : (0 : Int) ≤ (k : Int) := by omega
          have q1 : (k : Int) < (ps.length : Int) := by omega
          by_cases hjk : j < k
          · obtain ⟨p2, hp2⟩ := get_lt (show j < ps.length by omega)
            obtain ⟨ad2, had, _, c3, _⟩ := HP2.out j p2 hp2
            obtain rfl : ad = ad2 := Option.some.inj had
            have c3' := (hb.cell (p := ad.add (j * 2)) (by rw [block_of_add]; omega)).trans c3
            have q2 : (0 : Int) ≤ (j : Int) := by omega
            have q3 : (j : Int) < (ps.length : Int) := by omega
            clear hp2 c3 had
            cases hq : (p2.1.toList == p.1.toList)
            · go_wp2_with fail
              go_quiet (fail)
              go_wp2_with fail
              go_roundw
              case rel => exact ⟨j + 1, by omega, by go_num, below_drewN hb _⟩
              case measure => simp [intOf]; omega
            · go_wp2_with fail
              go_quiet (fail)
              go_wp2_with fail
              go_ret
              exact ⟨_, rfl, trivial, below_drewN hbe _⟩
          · by_cases f1 : p.2 < 0
            · go_wp2_with fail
              go_ret
              exact ⟨_, rfl, trivial, hbe⟩
            · by_cases f2 : 65536 ≤ p.2
              · go_wp2_with fail
                go_ret
                exact ⟨_, rfl, trivial, hbe⟩
              · go_wp2_with fail
                go_roundw
                case rel => exact ⟨k + 1, by omega, by go_num, hb⟩
                case measure => simp [intOf]; omega
    · go_wp2_with fail
      go_ret
      exact ⟨_, rfl, trivial, hbe⟩
end Go.Proofs.YtoechdnhgkelfaaDoor
