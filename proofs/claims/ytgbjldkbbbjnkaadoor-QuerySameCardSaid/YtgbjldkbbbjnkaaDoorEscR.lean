/-
  What escape of the reference returns.
-/
import Derived.Test.YtgbjldkbbbjnkaaDoorDig
namespace Go.Proofs.YtgbjldkbbbjnkaaDoor
open Go.RowKit Go.PlainAid

/-! Bytes of a string. -/
theorem bt_of (s : ByteArray) (k : Nat) (h : k < s.size) : bt s k = (s[k].toNat : Int) := (get_bt s k h).symm
/-- The bytes from an index on. -/
def rest (s : ByteArray) (k : Nat) : List UInt8 := s.data.toList.drop k
theorem rest_cons (s : ByteArray) (k : Nat) (h : k < s.size) : rest s k = s[k] :: rest s (k + 1) := by
  unfold rest
  rw [List.drop_eq_getElem_cons (by rw [size_list]; exact h)]; rfl
theorem rest_nil (s : ByteArray) (k : Nat) (h : s.size ≤ k) : rest s k = [] := List.drop_of_length_le (by rw [size_list]; exact h)
theorem rest_len (s : ByteArray) (k : Nat) : (rest s k).length = s.size - k := by unfold rest; rw [List.length_drop, size_list]
theorem rest_drop (s : ByteArray) (k n : Nat) : (rest s k).drop n = rest s (k + n) := by unfold rest; rw [List.drop_drop]
theorem bt_at {s : ByteArray} {k : Nat} {c : UInt8} (h : k < s.size) : bt s k = (c.toNat : Int) ↔ s[k] = c := by
  rw [bt_of s k h]
  exact ⟨fun e => UInt8.toNat_inj.1 (by omega), fun e => by rw [e]⟩
section
variable {s : ByteArray} {k : Nat}
theorem esc_at (h : s.size ≤ k) : Pl.esc (rest s k) = .bad 0 := by rw [rest_nil s k h]; rfl
theorem esc_hi (hk : k < s.size) (h : hiB (hvI (bt s k)) = false) : Pl.esc (rest s k) = .bad 0 := by
  rw [bt_of s k hk] at h
  rw [rest_cons s k hk, Pl.esc, hiv_of, h]
  rfl
theorem hiv_yes (hk : k < s.size) (h : hiB (hvI (bt s k)) = true) : Pl.hiv s[k] = some (hvI (bt s k)).toNat := by
  rw [bt_of s k hk] at h ⊢
  rw [hiv_of, h]
  rfl
theorem esc_short (hk : k < s.size) (h : hiB (hvI (bt s k)) = true) (h2 : s.size ≤ k + 1) : Pl.esc (rest s k) = .bad 1 := by
  rw [rest_cons s k hk, rest_nil s (k + 1) h2, Pl.esc, hiv_yes hk h]
theorem esc_lo (hk : k < s.size) (h : hiB (hvI (bt s k)) = true) (h2 : k + 1 < s.size) (h3 : hvI (bt s (k + 1)) < 0) : Pl.esc (rest s k) = .bad 1 := by
  rw [bt_of s (k + 1) h2] at h3
  rw [rest_cons s k hk, rest_cons s (k + 1) h2, Pl.esc, hiv_yes hk h]
  simp only
  rw [hexv_of, if_pos h3]
theorem esc_both (hk : k < s.size) (h : hiB (hvI (bt s k)) = true) (h2 : k + 1 < s.size) (h3 : 0 ≤ hvI (bt s (k + 1))) :
    Pl.esc (rest s k) = if qI (hvI (bt s k) * 16 + hvI (bt s (k + 1))) = true then .ok (UInt8.ofNat (hvI (bt s k) * 16 + hvI (bt s (k + 1))).toNat) 2 else .bad 1 := by
  have b := hvI_bd (bt s k)
  have c := hvI_bd (bt s (k + 1))
  have x0 : 0 ≤ hvI (bt s k) := by
    unfold hiB at h
    simp at h
    omega
  have e : 16 * (hvI (bt s k)).toNat + (hvI (bt s (k + 1))).toNat = (hvI (bt s k) * 16 + hvI (bt s (k + 1))).toNat := by omega
  rw [rest_cons s k hk, rest_cons s (k + 1) h2, Pl.esc, hiv_yes hk h]
  simp only
  have hx : Pl.hexv s[k + 1] = some (hvI (bt s (k + 1))).toNat := by
    rw [hexv_of, ← bt_of s (k + 1) h2, if_neg (by omega)]
  rw [hx]
  simp only
  rw [e]
  have hq := qI_of (UInt8.ofNat (hvI (bt s k) * 16 + hvI (bt s (k + 1))).toNat)
  have ev : ((UInt8.ofNat (hvI (bt s k) * 16 + hvI (bt s (k + 1))).toNat).toNat : Int) = hvI (bt s k) * 16 + hvI (bt s (k + 1)) := by
    rw [UInt8.toNat_ofNat']
    omega
  rw [ev] at hq
  rw [hq]
end
/-- What the reference's escape hands back of a reader's answer. -/
def escA : Pl.Rd UInt8 → Int
  | .ok v _ => (v.toNat : Int)
  | .bad _ => -1
/-- .. and the index. -/
def escB (k : Nat) : Pl.Rd UInt8 → Int
  | .ok _ n => ((k + n : Nat) : Int)
  | .bad n => ((k + n : Nat) : Int)
def EscOut (s : ByteArray) (k : Nat) (w : World) (e : Ending) (w' : World) : Prop := e = .returned (.tuple #[.int .i64 (escA (Pl.esc (rest s (k + 1)))), .int .i64 (escB (k + 1) (Pl.esc (rest s (k + 1))))]) ∧ Below w.heap.size w w'
theorem esc_out {s : ByteArray} {k : Nat} {w w' : World} {a b : Int} {x : Pl.Rd UInt8} (he : Pl.esc (rest s (k + 1)) = x) (ha : a = escA x) (hb : b = escB (k + 1) x) (hw : Below w.heap.size w w') : EscOut s k w (.returned (.tuple #[.int .i64 a, .int .i64 b])) w' := by
  subst he ha hb
  exact ⟨rfl, hw⟩
/-- The states of the loop: no digit is read; the first is; both are. -/
def EscI (s : ByteArray) (k : Nat) (i : Int) : Prop := i = 1 ∨ (i = 2 ∧ k + 1 < s.size ∧ hiB (hvI (bt s (k + 1))) = true) ∨ (i = 3 ∧ k + 2 < s.size ∧ hiB (hvI (bt s (k + 1))) = true ∧ 0 ≤ hvI (bt s (k + 2)))
theorem hi_no {x : Int} (h : hiB x = false) : (x != 0) = true ∧ (x != 1) = true ∧ (x != 2) = true ∧ (x != 7) = true := by
  unfold hiB at h
  simp at h
  simp [h]
theorem hi_yes {x : Int} (h : hiB x = true) : 0 ≤ x ∧ (x = 0 ∨ x = 1 ∨ x = 2 ∨ x = 7) := by
  unfold hiB at h
  simp at h
  omega
set_option maxHeartbeats 3200000 in
set_option maxRecDepth 100000 in
theorem escape60 (s : ByteArray) (k : Nat) (w : World) (hk : k < s.size) (hs : s.size ≤ 4194304) : Calls Tryd.prog 60 #[.string s, .int .i64 k] w (EscOut s k w) := by
  have hbt := get_bt s
  have g1 : IntKind.i64.wrap ((k : Int) + 1) = (k : Int) + 1 := wrap_in (by omega)
  have g2 : IntKind.i64.wrap ((k : Int) + 2) = (k : Int) + 2 := wrap_in (by omega)
  have b0 := bt_nonneg s (k + 1)
  have b1 := bt_le s (k + 1)
  have c0 := bt_nonneg s (k + 2)
  have c1 := bt_le s (k + 2)
  have i1 : (0 : Int) ≤ (k : Int) + 1 := by omega
  have i2 : (0 : Int) ≤ (k : Int) + 2 := by omega
  have j1 : ((k : Int) + 1).toNat = k + 1 := by omega
  have j2 : ((k : Int) + 2).toNat = k + 2 := by omega
  obtain ⟨x, hx⟩ : ∃ x, hvI (bt s (k + 1)) = x := ⟨_, rfl⟩
  obtain ⟨y, hy⟩ : ∃ y, hvI (bt s (k + 2)) = y := ⟨_, rfl⟩
  have xb := hvI_bd (bt s (k + 1))
  have yb := hvI_bd (bt s (k + 2))
  have D1 := Lib.hid (fun w => digit75 (bt s (k + 1)) w b0 b1)
  have D2 := Lib.hid (fun w => digit75 (bt s (k + 2)) w c0 c1)
  rw [hx] at xb D1
  rw [hy] at yb D2
  have HX := Lib.hid hx
  have HY := Lib.hid hy
  clear hx hy
  go_enter Tryd.func60, Tryd.ntmps60
  go_wp2_with fail
  go_loop [6] (fun i => ∃ n : Int, i = .int .i64 n ∧ EscI s k n) (fun i => (3 - intOf i).toNat)
  case atStart => exact ⟨1, rfl, .inl rfl⟩
  case round =>
    obtain ⟨n, rfl, hI⟩ := hrel
    rcases hI with rfl | ⟨rfl, h1, hi⟩ | ⟨rfl, h2, hi, hlo⟩
    · by_cases h1 : k + 1 < s.size
      · have i3 : (k : Int) + 1 < (s.size : Int) := by omega
        cases hi : hiB (hvI (bt s (k + 1)))
        · have he := Lib.hid (esc_hi h1 hi)
          rw [HX.out] at hi
          obtain ⟨q0, q1, q2, q7⟩ := hi_no hi
          by_cases x0 : x < 0
          · clear q0 q1 q2 q7 hi
            go_wp2_with fail
            refine (D1.out _).mono ?_
            rintro e w' ⟨rfl, rfl⟩
            go_wp2_with fail
            go_ret2
            exact esc_out he.out rfl (by show _ = ((k + 1 + 0 : Nat) : Int); omega) (Below.refl _ _)
          · clear hi
            go_wp2_with fail
            refine (D1.out _).mono ?_
            rintro e w' ⟨rfl, rfl⟩
            go_wp2_with fail
            go_ret2
            exact esc_out he.out rfl (by show _ = ((k + 1 + 0 : Nat) : Int); omega) (Below.refl _ _)
        · have HI := Lib.hid hi
          rw [HX.out] at hi
          obtain ⟨x0, hc⟩ := hi_yes hi
          clear hi
          rcases hc with rfl | rfl | rfl | rfl
          all_goals
            go_wp2_with fail
            refine (D1.out _).mono ?_
            rintro e w' ⟨rfl, rfl⟩
            go_wp2_with fail
            go_round
            case rel => exact ⟨2, rfl, .inr (.inl ⟨rfl, h1, HI.out⟩)⟩
            case measure => simp [intOf]
      · have he := Lib.hid (esc_at (s := s) (k := k + 1) (by omega))
        have i3 : (s.size : Int) ≤ (k : Int) + 1 := by omega
        go_wp2_with fail
        go_ret2
        exact esc_out he.out rfl (by show _ = ((k + 1 + 0 : Nat) : Int); omega) (Below.refl _ _)
    · have HI := Lib.hid hi
      clear hi
      by_cases h2 : k + 2 < s.size
      · have i3 : (k : Int) + 2 < (s.size : Int) := by omega
        by_cases y0 : y < 0
        · have he := Lib.hid (esc_lo h1 HI.out h2 (by rw [HY.out]; exact y0))
          go_wp2_with fail
          refine (D2.out _).mono ?_
          rintro e w' ⟨rfl, rfl⟩
          go_wp2_with fail
          go_ret2
          exact esc_out he.out rfl (by show _ = ((k + 1 + 1 : Nat) : Int); omega) (Below.refl _ _)
        · go_wp2_with fail
          refine (D2.out _).mono ?_
          rintro e w' ⟨rfl, rfl⟩
          go_wp2_with fail
          go_round
          case rel => exact ⟨3, rfl, .inr (.inr ⟨rfl, h2, HI.out, by rw [HY.out]; omega⟩)⟩
          case measure => simp [intOf]
      · have he := Lib.hid (esc_short h1 HI.out (by omega))
        have i3 : (s.size : Int) ≤ (k : Int) + 2 := by omega
        go_wp2_with fail
        go_ret2
        exact esc_out he.out rfl (by show _ = ((k + 1 + 1 : Nat) : Int); omega) (Below.refl _ _)
    · have he := Lib.hid (esc_both (k := k + 1) (by omega) hi h2 hlo)
      rw [HX.out, HY.out] at he
      rw [HX.out] at hi
      obtain ⟨x0, hc⟩ := hi_yes hi
      have x7 : x ≤ 7 := by omega
      rw [HY.out] at hlo
      have i3 : (k : Int) + 1 < (s.size : Int) := by omega
      have i4 : (k : Int) + 2 < (s.size : Int) := by omega
      have g3 : IntKind.i64.wrap ((k : Int) + 3) = (k : Int) + 3 := wrap_in (by omega)
      have g4 : IntKind.i64.wrap (x * 16) = x * 16 := wrap_in (by omega)
      have g5 : IntKind.i64.wrap (x * 16 + y) = x * 16 + y := wrap_in (by omega)
      have ev : ((UInt8.ofNat (x * 16 + y).toNat).toNat : Int) = x * 16 + y := by rw [UInt8.toNat_ofNat']; omega
      have EV := Lib.hid ev
      clear hi hc ev
      cases hq : qI (x * 16 + y)
      · have HQ := Lib.hid hq
        clear hq
        go_wp2_with fail
        go_quiet (first | (go_at_call 75; with_reducible exact Calls.quiet_of_same (D1.out _)) | (go_at_call 75; with_reducible exact Calls.quiet_of_same (D2.out _)))
        go_wp2_with fail
        refine (quoted61 _ _).mono ?_
        rintro e w' ⟨rfl, rfl⟩
        rw [HQ.out]
        go_wp2_with fail
        go_ret2
        exact esc_out (he.out.trans (if_neg (by rw [HQ.out]; decide))) rfl (by show _ = ((k + 1 + 1 : Nat) : Int); omega) (below_drewN (Below.refl _ _) _)
      · have HQ := Lib.hid hq
        clear hq
        go_wp2_with fail
        go_quiet (first | (go_at_call 75; with_reducible exact Calls.quiet_of_same (D1.out _)) | (go_at_call 75; with_reducible exact Calls.quiet_of_same (D2.out _)))
        go_wp2_with fail
        refine (quoted61 _ _).mono ?_
        rintro e w' ⟨rfl, rfl⟩
        rw [HQ.out]
        go_wp2_with fail
        go_ret2
        exact esc_out (he.out.trans (if_pos HQ.out)) EV.out.symm (by show _ = ((k + 1 + 2 : Nat) : Int); omega) (below_drewN (Below.refl _ _) _)
end Go.Proofs.YtgbjldkbbbjnkaaDoor
