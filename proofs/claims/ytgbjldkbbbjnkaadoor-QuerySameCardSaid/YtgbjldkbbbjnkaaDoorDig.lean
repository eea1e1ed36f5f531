/-
  What the small functions of the two parsers return: digits, bytes that are written with a percent sign, the number of kids.
-/
import Derived.Test.YtgbjldkbbbjnkaaDoorSame3
import Derived.Test.YtgbjldkbbbjnkaaDoorPq3
namespace Go.Proofs.YtgbjldkbbbjnkaaDoor
open Go.RowKit Go.PlainAid

/-- The value of a digit, or -1. -/
def hvI (c : Int) : Int := if 48 ≤ c ∧ c ≤ 57 then c - 48 else if 97 ≤ c ∧ c ≤ 102 then c - 87 else -1
/-- A byte that is written with a percent sign. -/
def qI (c : Int) : Bool := decide (c ≤ 32) || (c == 127) || (c == 37) || (c == 40) || (c == 41)
/-- The value of a first digit. -/
def hiB (x : Int) : Bool := (x == 0) || (x == 1) || (x == 2) || (x == 7)
theorem hvI_bd (c : Int) : -1 ≤ hvI c ∧ hvI c ≤ 15 := by
  unfold hvI
  split
  · omega
  · split <;> omega
theorem qI_of (c : UInt8) : qI (c.toNat : Int) = Pl.quoted c := by
  unfold qI Pl.quoted
  rw [Bool.eq_iff_iff]
  simp
  omega
theorem hexv_of (c : UInt8) : Pl.hexv c = if hvI (c.toNat : Int) < 0 then none else some (hvI (c.toNat : Int)).toNat := by
  unfold Pl.hexv
  by_cases h : 48 ≤ c.toNat ∧ c.toNat ≤ 57
  · have e : hvI (c.toNat : Int) = (c.toNat : Int) - 48 := by rw [hvI, if_pos (by omega)]
    rw [if_pos h, e, if_neg (by omega)]
    congr 1; omega
  · by_cases h2 : 97 ≤ c.toNat ∧ c.toNat ≤ 102
    · have e : hvI (c.toNat : Int) = (c.toNat : Int) - 87 := by rw [hvI, if_neg (by omega), if_pos (by omega)]
      rw [if_neg h, if_pos h2, e, if_neg (by omega)]
      congr 1; omega
    · have e : hvI (c.toNat : Int) = -1 := by rw [hvI, if_neg (by omega), if_neg (by omega)]
      rw [if_neg h, if_neg h2, e, if_pos (by omega)]
theorem hiv_of (c : UInt8) : Pl.hiv c = if hiB (hvI (c.toNat : Int)) = true then some (hvI (c.toNat : Int)).toNat else none := by
  have key : ∀ n : Nat, n < 256 → (if n = 48 then some 0 else if n = 49 then some 1 else if n = 50 then some 2 else if n = 55 then some 7 else none : Option Nat) = if hiB (hvI (n : Int)) = true then some (hvI (n : Int)).toNat else none := by decide +kernel
  exact key c.toNat c.toNat_lt
theorem ret_pair {k : IntKind} {a b c d : Int} (h1 : a = c) (h2 : b = d) : Ending.returned (.tuple #[.int k a, .int k b]) = .returned (.tuple #[.int k c, .int k d]) := by rw [h1, h2]
theorem quoted61 (c : Int) (w : World) : Calls Tryd.prog 61 #[.int .i64 c] w fun e w' => e = .returned (.bool (qI c)) ∧ w = w' := by
  by_cases a : c ≤ 32
  · have f := Lib.hid (show qI c = true by simp [qI, a])
    go_enter Tryd.func61, Tryd.ntmps61
    go_wp2
    go_ret
    exact ⟨by rw [f.out]; rfl, rfl⟩
  cases b : (c == 127)
  case true =>
    have f := Lib.hid (show qI c = true by simp [qI, b])
    go_enter Tryd.func61, Tryd.ntmps61
    go_wp2
    go_ret
    exact ⟨by rw [f.out]; rfl, rfl⟩
  cases b2 : (c == 37)
  case true =>
    have f := Lib.hid (show qI c = true by simp [qI, b2])
    go_enter Tryd.func61, Tryd.ntmps61
    go_wp2
    go_ret
    exact ⟨by rw [f.out]; rfl, rfl⟩
  cases b3 : (c == 40)
  case true =>
    have f := Lib.hid (show qI c = true by simp [qI, b3])
    go_enter Tryd.func61, Tryd.ntmps61
    go_wp2
    go_ret
    exact ⟨by rw [f.out]; rfl, rfl⟩
  cases b4 : (c == 41)
  all_goals
    have f := Lib.hid (show qI c = (c == 41) by simp [qI, a, b, b2, b3])
    rw [b4] at f
    go_enter Tryd.func61, Tryd.ntmps61
    go_wp2
    go_ret
    exact ⟨by rw [f.out]; rfl, rfl⟩
theorem written53 (c : Int) (w : World) : Calls Tryd.prog 53 #[.int .u8 c] w fun e w' => e = .returned (.bool (qI c)) ∧ w = w' := by
  by_cases a : c ≤ 32
  · have f := Lib.hid (show qI c = true by simp [qI, a])
    go_enter Tryd.func53, Tryd.ntmps53
    go_wp2
    go_ret
    exact ⟨by rw [f.out]; rfl, rfl⟩
  cases b : (c == 127)
  case true =>
    have f := Lib.hid (show qI c = true by simp [qI, b])
    go_enter Tryd.func53, Tryd.ntmps53
    go_wp2
    go_ret
    exact ⟨by rw [f.out]; rfl, rfl⟩
  cases b2 : (c == 37)
  case true =>
    have f := Lib.hid (show qI c = true by simp [qI, b2])
    go_enter Tryd.func53, Tryd.ntmps53
    go_wp2
    go_ret
    exact ⟨by rw [f.out]; rfl, rfl⟩
  cases b3 : (c == 40)
  case true =>
    have f := Lib.hid (show qI c = true by simp [qI, b3])
    go_enter Tryd.func53, Tryd.ntmps53
    go_wp2
    go_ret
    exact ⟨by rw [f.out]; rfl, rfl⟩
  cases b4 : (c == 41)
  all_goals
    have f := Lib.hid (show qI c = (c == 41) by simp [qI, a, b, b2, b3])
    rw [b4] at f
    go_enter Tryd.func53, Tryd.ntmps53
    go_wp2
    go_ret
    exact ⟨by rw [f.out]; rfl, rfl⟩
theorem digit75 (c : Int) (w : World) (h0 : 0 ≤ c) (h1 : c ≤ 255) : Calls Tryd.prog 75 #[.int .u8 c] w fun e w' => e = .returned (.int .i64 (hvI c)) ∧ w' = w := by
  by_cases a : 48 ≤ c
  · by_cases b : c ≤ 57
    · have f := Lib.hid (show hvI c = c - 48 by rw [hvI, if_pos ⟨a, b⟩])
      go_enter Tryd.func75, Tryd.ntmps75
      go_wp2
      go_ret
      exact ⟨by rw [f.out]; rfl, rfl⟩
    · by_cases d : 97 ≤ c
      · by_cases e : c ≤ 102
        · have f := Lib.hid (show hvI c = c - 97 + 10 by rw [hvI, if_neg (by omega), if_pos ⟨d, e⟩]; omega)
          go_enter Tryd.func75, Tryd.ntmps75
          go_wp2
          go_ret
          exact ⟨by rw [f.out]; rfl, rfl⟩
        · have f := Lib.hid (show hvI c = -1 by rw [hvI, if_neg (by omega), if_neg (by omega)])
          go_enter Tryd.func75, Tryd.ntmps75
          go_wp2
          go_ret
          exact ⟨by rw [f.out]; rfl, rfl⟩
      · have f := Lib.hid (show hvI c = -1 by rw [hvI, if_neg (by omega), if_neg (by omega)])
        go_enter Tryd.func75, Tryd.ntmps75
        go_wp2
        go_ret
        exact ⟨by rw [f.out]; rfl, rfl⟩
  · have d : ¬ 97 ≤ c := by omega
    have f := Lib.hid (show hvI c = -1 by rw [hvI, if_neg (by omega), if_neg (by omega)])
    go_enter Tryd.func75, Tryd.ntmps75
    go_wp2
    go_ret
    exact ⟨by rw [f.out]; rfl, rfl⟩
def hxB (c : Int) : Bool := decide (0 ≤ hvI c)
def hxV (c : Int) : Int := if 0 ≤ hvI c then hvI c else 0
theorem hx_yes {c x : Int} (h : hvI c = x) (hx : 0 ≤ x) : hxB c = true ∧ hxV c = x := by
  subst h
  exact ⟨by simp [hxB, hx], by simp [hxV, hx]⟩
theorem hx_no {c : Int} (h : hvI c = -1) : hxB c = false ∧ hxV c = 0 := by
  exact ⟨by simp [hxB, h], by simp [hxV, h]⟩
theorem hex63 (c : Int) (w : World) (h0 : 0 ≤ c) (h1 : c ≤ 255) : Calls Tryd.prog 63 #[.int .u8 c] w fun e w' => e = .returned (.tuple #[.int .u8 (hxV c), .bool (hxB c)]) ∧ w' = w := by
  by_cases a : 48 ≤ c
  · by_cases b : c ≤ 57
    · have f := Lib.hid (hx_yes (show hvI c = c - 48 by rw [hvI, if_pos ⟨a, b⟩]) (by omega))
      go_enter Tryd.func63, Tryd.ntmps63
      go_wp2
      go_ret2
      exact ⟨by rw [f.out.1, f.out.2]; rfl, rfl⟩
    · by_cases d : 97 ≤ c
      · by_cases e : c ≤ 102
        · have f := Lib.hid (hx_yes (show hvI c = c - 97 + 10 by rw [hvI, if_neg (by omega), if_pos ⟨d, e⟩]; omega) (by omega))
          go_enter Tryd.func63, Tryd.ntmps63
          go_wp2
          go_ret2
          exact ⟨by rw [f.out.1, f.out.2]; rfl, rfl⟩
        · have f := Lib.hid (hx_no (show hvI c = -1 by rw [hvI, if_neg (by omega), if_neg (by omega)]))
          go_enter Tryd.func63, Tryd.ntmps63
          go_wp2
          go_ret2
          exact ⟨by rw [f.out.1, f.out.2]; rfl, rfl⟩
      · have f := Lib.hid (hx_no (show hvI c = -1 by rw [hvI, if_neg (by omega), if_neg (by omega)]))
        go_enter Tryd.func63, Tryd.ntmps63
        go_wp2
        go_ret2
        exact ⟨by rw [f.out.1, f.out.2]; rfl, rfl⟩
  · have d : ¬ 97 ≤ c := by omega
    have f := Lib.hid (hx_no (show hvI c = -1 by rw [hvI, if_neg (by omega), if_neg (by omega)]))
    go_enter Tryd.func63, Tryd.ntmps63
    go_wp2
    go_ret2
    exact ⟨by rw [f.out.1, f.out.2]; rfl, rfl⟩
def kdI (o : Int) : Int := if o = 0 then 0 else if o = 3 then 1 else 2
theorem kids40 (o : Int) (w : World) : Calls Tryd.prog 40 #[.int .i64 o] w fun e w' => e = .returned (.int .i64 (kdI o)) ∧ w = w' := by
  cases a : (o == 0)
  · cases b : (o == 3)
    · have f := Lib.hid (show kdI o = 2 by rw [kdI, if_neg (by simpa using a), if_neg (by simpa using b)])
      go_enter Tryd.func40, Tryd.ntmps40
      go_wp2
      go_ret
      exact ⟨by rw [f.out]; rfl, rfl⟩
    · have f := Lib.hid (show kdI o = 1 by rw [kdI, if_neg (by simpa using a), if_pos (by simpa using b)])
      go_enter Tryd.func40, Tryd.ntmps40
      go_wp2
      go_ret
      exact ⟨by rw [f.out]; rfl, rfl⟩
  · have f := Lib.hid (show kdI o = 0 by rw [kdI, if_pos (by simpa using a)])
    go_enter Tryd.func40, Tryd.ntmps40
    go_wp2
    go_ret
    exact ⟨by rw [f.out]; rfl, rfl⟩
end Go.Proofs.YtgbjldkbbbjnkaaDoor
