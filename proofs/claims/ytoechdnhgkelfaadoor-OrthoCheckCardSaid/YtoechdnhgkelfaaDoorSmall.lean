/-
  What the small comparisons return: Same, slices.Equal, same of the reference; begins of the law and of the reference.
-/
import Derived.Test.YtoechdnhgkelfaaDoorFew
import Derived.Test.YtoechdnhgkelfaaDoorPlain
import Derived.Lib.Strings
namespace Go.Proofs.YtoechdnhgkelfaaDoor
open Go.RowKit Go.PlainAid
theorem below_drewN {B : Nat} {a w : World} (h : Below B a w) (n : Nat) : Below B a (w.drewN n) := ⟨h.os, h.tape, h.output, h.size, h.block⟩
theorem Ints.below {w w' : World} {B : Nat} {A : Option Addr} {l : List Int} (h : Ints w B A l) (hb : Below B w w') : Ints w' B A l := h.keep fun _ hp => hb.cell hp
def SameTo (xs ys : List Int) (k : Nat) : Prop := ∀ j, j < k → xs[j]? = ys[j]?
theorem same_all {xs ys : List Int} (hl : xs.length = ys.length) (h : SameTo xs ys xs.length) : xs = ys := by
  apply List.ext_getElem? fun j => ?_
  rcases Nat.lt_or_ge j xs.length with hj | hj
  · exact h j hj
  · rw [List.getElem?_eq_none hj, List.getElem?_eq_none (by omega)]
theorem SameTo.succ {xs ys : List Int} {k : Nat} {p : Int} (h : SameTo xs ys k) (hx : xs[k]? = some p) (hy : ys[k]? = some p) : SameTo xs ys (k + 1) := fun j hj => by
  by_cases e : j = k
  · subst e; rw [hx, hy]
  · exact h j (by omega)
/-- Whether two lists of numbers are equal. -/
def eqB (xs ys : List Int) : Bool := xs == ys
theorem eqB_true {xs ys : List Int} : eqB xs ys = true ↔ xs = ys := by unfold eqB; exact beq_iff_eq
theorem eqB_self (xs : List Int) : eqB xs xs = true := eqB_true.2 rfl
theorem eqB_false {xs ys : List Int} (h : xs ≠ ys) : eqB xs ys = false := by unfold eqB; exact beq_eq_false_iff_ne.2 h
theorem same20_len (A B : Option Addr) (n m ca cb : Nat) (w : World) (h : ((n : Int) != (m : Int)) = true) : Calls Tryd.prog 20 #[.slice A n ca, .slice B m cb] w fun e w' => e = .returned (.bool false) ∧ ∃ q, w' = w.drewN q := by
  go_enter Tryd.func20, Tryd.ntmps20
  go_wp2_with fail
  go_ret
  exact ⟨rfl, 0, rfl⟩
set_option maxHeartbeats 800000 in
theorem same20_eq (A B : Option Addr) (ca cb : Nat) (xs ys : List Int) (w : World) (hl : xs.length = ys.length) (hm : xs.length ≤ 4194304) (hx : Ints w w.heap.size A xs) (hy : Ints w w.heap.size B ys) :
    Calls Tryd.prog 20 #[.slice A xs.length ca, .slice B xs.length cb] w fun e w' => e = .returned (.bool (eqB xs ys)) ∧ ∃ q, w' = w.drewN q := by
  have HX := Lib.hid hx
  have HY := Lib.hid hy
  have HL := Lib.hid hl
  clear hx hy hl
  go_enter Tryd.func20, Tryd.ntmps20
  go_wp2_with fail
  go_loopw [13] (fun i wr => ∃ k : Nat, k ≤ xs.length ∧ i = .int .i64 k ∧ SameTo xs ys k ∧ ∃ q, wr = w.drewN q) (fun i _ => xs.length - (intOf i).toNat)
  case atStart => exact ⟨0, Nat.zero_le _, rfl, fun j hj => by omega, 0, rfl⟩
  case round =>
    obtain ⟨k, hk, rfl, hI, qn, rfl⟩ := hrel
    have HI := Lib.hid hI
    clear hI
    by_cases hlt : k < xs.length
    · obtain ⟨p, hp⟩ := get_lt hlt
      obtain ⟨q, hq⟩ := get_lt (show k < ys.length by have := HL.out; omega)
      obtain ⟨ad, rfl, hbl, hc⟩ := HX.out.at_ hp
      obtain ⟨bd, rfl, hbl', hc'⟩ := HY.out.at_ hq
      have HP := Lib.hid hp
      have HQ := Lib.hid hq
      clear hp hq
      have q0 : (0 : Int) ≤ (k : Int) := by omega
      have q1 : (k : Int) < (xs.length : Int) := by omega
      cases hpq : (p != q)
      · obtain rfl : p = q := by simpa using hpq
        go_wp2_with fail
        go_quiet (fail)
        go_wp2_with fail
        go_roundw
        case rel => exact ⟨k + 1, by omega, by go_num, HI.out.succ HP.out HQ.out, _, rfl⟩
        case measure => simp [intOf]; omega
      · have hne : p ≠ q := by simpa using hpq
        have hf : eqB xs ys = false := by
          apply eqB_false
          rintro rfl
          exact hne (Option.some.inj (HP.out.symm.trans HQ.out))
        have HF := Lib.hid hf
        clear hf hne
        go_wp2_with fail
        go_quiet (fail)
        go_wp2_with fail
        go_ret
        exact ⟨by rw [HF.out]; rfl, qn + nq, by rw [World.drewN_drewN]⟩
    · have hall : eqB xs ys = true := by
        have : k = xs.length := by omega
        exact eqB_true.2 (same_all HL.out (this ▸ HI.out))
      have HA := Lib.hid hall
      clear hall
      go_wp2_with fail
      go_ret
      exact ⟨by rw [HA.out]; rfl, _, rfl⟩
theorem same20q (A B : Option Addr) (ca cb : Nat) (xs ys : List Int) (w : World) (hm : xs.length ≤ 4194304) (hx : Ints w w.heap.size A xs) (hy : Ints w w.heap.size B ys) :
    Calls Tryd.prog 20 #[.slice A xs.length ca, .slice B ys.length cb] w fun e w' => e = .returned (.bool (eqB xs ys)) ∧ ∃ q, w' = w.drewN q := by
  by_cases hl : xs.length = ys.length
  · have := same20_eq A B ca cb xs ys w hl hm hx hy
    rw [← hl]
    exact this
  · refine (same20_len A B _ _ ca cb w (by rw [bne_iff_ne]; omega)).mono fun e w' ⟨he, hb⟩ => ⟨?_, hb⟩
    rw [he]
    exact ret_bool (by rw [eqB_false]; rintro rfl; exact hl rfl)
theorem same20 (A B : Option Addr) (ca cb : Nat) (xs ys : List Int) (w : World) (hm : xs.length ≤ 4194304) (hx : Ints w w.heap.size A xs) (hy : Ints w w.heap.size B ys) :
    Calls Tryd.prog 20 #[.slice A xs.length ca, .slice B ys.length cb] w fun e w' => e = .returned (.bool (eqB xs ys)) ∧ Below w.heap.size w w' :=
  (same20q A B ca cb xs ys w hm hx hy).mono fun _ _ ⟨he, q, hq⟩ => ⟨he, by rw [hq]; exact below_drewN (Below.refl _ _) q⟩
theorem same42_len (A B : Option Addr) (n m ca cb : Nat) (w : World) (h : ((n : Int) != (m : Int)) = true) : Calls Tryd.prog 42 #[.slice A n ca, .slice B m cb] w fun e w' => e = .returned (.bool false) ∧ ∃ q, w' = w.drewN q := by
  go_enter Tryd.func42, Tryd.ntmps42
  go_wp2_with fail
  go_ret
  exact ⟨rfl, 0, rfl⟩
set_option maxHeartbeats 800000 in
theorem same42_eq (A B : Option Addr) (ca cb : Nat) (xs ys : List Int) (w : World) (hl : xs.length = ys.length) (hm : xs.length ≤ 4194304) (hx : Ints w w.heap.size A xs) (hy : Ints w w.heap.size B ys) :
    Calls Tryd.prog 42 #[.slice A xs.length ca, .slice B xs.length cb] w fun e w' => e = .returned (.bool (eqB xs ys)) ∧ ∃ q, w' = w.drewN q := by
  have HX := Lib.hid hx
  have HY := Lib.hid hy
  have HL := Lib.hid hl
  clear hx hy hl
  go_enter Tryd.func42, Tryd.ntmps42
  go_wp2_with fail
  go_loopw [13] (fun i wr => ∃ k : Nat, k ≤ xs.length ∧ i = .int .i64 k ∧ SameTo xs ys k ∧ ∃ q, wr = w.drewN q) (fun i _ => xs.length - (intOf i).toNat)
  case atStart => exact ⟨0, Nat.zero_le _, rfl, fun j hj => by omega, 0, rfl⟩
  case round =>
    obtain ⟨k, hk, rfl, hI, qn, rfl⟩ := hrel
    have HI := Lib.hid hI
    clear hI
    by_cases hlt : k < xs.length
    · obtain ⟨p, hp⟩ := get_lt hlt
      obtain ⟨q, hq⟩ := get_lt (show k < ys.length by have := HL.out; omega)
      obtain ⟨ad, rfl, hbl, hc⟩ := HX.out.at_ hp
      obtain ⟨bd, rfl, hbl', hc'⟩ := HY.out.at_ hq
      have HP := Lib.hid hp
      have HQ := Lib.hid hq
      clear hp hq
      have q0 : (0 : Int) ≤ (k : Int) := by omega
      have q1 : (k : Int) < (xs.length : Int) := by omega
      cases hpq : (p != q)
      · obtain rfl : p = q := by simpa using hpq
        go_wp2_with fail
        go_quiet (fail)
        go_wp2_with fail
        go_roundw
        case rel => exact ⟨k + 1, by omega, by go_num, HI.out.succ HP.out HQ.out, _, rfl⟩
        case measure => simp [intOf]; omega
      · have hne : p ≠ q := by simpa using hpq
        have hf : eqB xs ys = false := by
          apply eqB_false
          rintro rfl
          exact hne (Option.some.inj (HP.out.symm.trans HQ.out))
        have HF := Lib.hid hf
        clear hf hne
        go_wp2_with fail
        go_quiet (fail)
        go_wp2_with fail
        go_ret
        exact ⟨by rw [HF.out]; rfl, qn + nq, by rw [World.drewN_drewN]⟩
    · have hall : eqB xs ys = true := by
        have : k = xs.length := by omega
        exact eqB_true.2 (same_all HL.out (this ▸ HI.out))
      have HA := Lib.hid hall
      clear hall
      go_wp2_with fail
      go_ret
      exact ⟨by rw [HA.out]; rfl, _, rfl⟩
theorem same42q (A B : Option Addr) (ca cb : Nat) (xs ys : List Int) (w : World) (hm : xs.length ≤ 4194304) (hx : Ints w w.heap.size A xs) (hy : Ints w w.heap.size B ys) :
    Calls Tryd.prog 42 #[.slice A xs.length ca, .slice B ys.length cb] w fun e w' => e = .returned (.bool (eqB xs ys)) ∧ ∃ q, w' = w.drewN q := by
  by_cases hl : xs.length = ys.length
  · have := same42_eq A B ca cb xs ys w hl hm hx hy
    rw [← hl]
    exact this
  · refine (same42_len A B _ _ ca cb w (by rw [bne_iff_ne]; omega)).mono fun e w' ⟨he, hb⟩ => ⟨?_, hb⟩
    rw [he]
    exact ret_bool (by rw [eqB_false]; rintro rfl; exact hl rfl)
theorem same42 (A B : Option Addr) (ca cb : Nat) (xs ys : List Int) (w : World) (hm : xs.length ≤ 4194304) (hx : Ints w w.heap.size A xs) (hy : Ints w w.heap.size B ys) :
    Calls Tryd.prog 42 #[.slice A xs.length ca, .slice B ys.length cb] w fun e w' => e = .returned (.bool (eqB xs ys)) ∧ Below w.heap.size w w' :=
  (same42q A B ca cb xs ys w hm hx hy).mono fun _ _ ⟨he, q, hq⟩ => ⟨he, by rw [hq]; exact below_drewN (Below.refl _ _) q⟩
theorem same43_len (A B : Option Addr) (n m ca cb : Nat) (w : World) (h : ((n : Int) != (m : Int)) = true) : Calls Tryd.prog 43 #[.slice A n ca, .slice B m cb] w fun e w' => e = .returned (.bool false) ∧ ∃ q, w' = w.drewN q := by
  go_enter Tryd.func43, Tryd.ntmps43
  go_wp2_with fail
  go_ret
  exact ⟨rfl, 0, rfl⟩
set_option maxHeartbeats 800000 in
theorem same43_eq (A B : Option Addr) (ca cb : Nat) (xs ys : List Int) (w : World) (hl : xs.length = ys.length) (hm : xs.length ≤ 4194304) (hx : Ints w w.heap.size A xs) (hy : Ints w w.heap.size B ys) :
    Calls Tryd.prog 43 #[.slice A xs.length ca, .slice B xs.length cb] w fun e w' => e = .returned (.bool (eqB xs ys)) ∧ ∃ q, w' = w.drewN q := by
  have HX := Lib.hid hx
  have HY := Lib.hid hy
  have HL := Lib.hid hl
  clear hx hy hl
  go_enter Tryd.func43, Tryd.ntmps43
  go_wp2_with fail
  go_loopw [5] (fun i wr => ∃ k : Nat, k ≤ xs.length ∧ i = .int .i64 k ∧ SameTo xs ys k ∧ ∃ q, wr = w.drewN q) (fun i _ => xs.length - (intOf i).toNat)
  case atStart => exact ⟨0, Nat.zero_le _, rfl, fun j hj => by omega, 0, rfl⟩
  case round =>
    obtain ⟨k, hk, rfl, hI, qn, rfl⟩ := hrel
    have HI := Lib.hid hI
    clear hI
    by_cases hlt : k < xs.length
    · obtain ⟨p, hp⟩ := get_lt hlt
      obtain ⟨q, hq⟩ := get_lt (show k < ys.length by have := HL.out; omega)
      obtain ⟨ad, rfl, hbl, hc⟩ := HX.out.at_ hp
      obtain ⟨bd, rfl, hbl', hc'⟩ := HY.out.at_ hq
      have HP := Lib.hid hp
      have HQ := Lib.hid hq
      clear hp hq
      have q0 : (0 : Int) ≤ (k : Int) := by omega
      have q1 : (k : Int) < (xs.length : Int) := by omega
      cases hpq : (p != q)
      · obtain rfl : p = q := by simpa using hpq
        go_wp2_with fail
        go_quiet (fail)
        go_wp2_with fail
        go_roundw
        case rel => exact ⟨k + 1, by omega, by go_num, HI.out.succ HP.out HQ.out, _, rfl⟩
        case measure => simp [intOf]; omega
      · have hne : p ≠ q := by simpa using hpq
        have hf : eqB xs ys = false := by
          apply eqB_false
          rintro rfl
          exact hne (Option.some.inj (HP.out.symm.trans HQ.out))
        have HF := Lib.hid hf
        clear hf hne
        go_wp2_with fail
        go_quiet (fail)
        go_wp2_with fail
        go_ret
        exact ⟨by rw [HF.out]; rfl, qn + nq, by rw [World.drewN_drewN]⟩
    · have hall : eqB xs ys = true := by
        have : k = xs.length := by omega
        exact eqB_true.2 (same_all HL.out (this ▸ HI.out))
      have HA := Lib.hid hall
      clear hall
      go_wp2_with fail
      go_ret
      exact ⟨by rw [HA.out]; rfl, _, rfl⟩
theorem same43q (A B : Option Addr) (ca cb : Nat) (xs ys : List Int) (w : World) (hm : xs.length ≤ 4194304) (hx : Ints w w.heap.size A xs) (hy : Ints w w.heap.size B ys) :
    Calls Tryd.prog 43 #[.slice A xs.length ca, .slice B ys.length cb] w fun e w' => e = .returned (.bool (eqB xs ys)) ∧ ∃ q, w' = w.drewN q := by
  by_cases hl : xs.length = ys.length
  · have := same43_eq A B ca cb xs ys w hl hm hx hy
    rw [← hl]
    exact this
  · refine (same43_len A B _ _ ca cb w (by rw [bne_iff_ne]; omega)).mono fun e w' ⟨he, hb⟩ => ⟨?_, hb⟩
    rw [he]
    exact ret_bool (by rw [eqB_false]; rintro rfl; exact hl rfl)
theorem same43 (A B : Option Addr) (ca cb : Nat) (xs ys : List Int) (w : World) (hm : xs.length ≤ 4194304) (hx : Ints w w.heap.size A xs) (hy : Ints w w.heap.size B ys) :
    Calls Tryd.prog 43 #[.slice A xs.length ca, .slice B ys.length cb] w fun e w' => e = .returned (.bool (eqB xs ys)) ∧ Below w.heap.size w w' :=
  (same43q A B ca cb xs ys w hm hx hy).mono fun _ _ ⟨he, q, hq⟩ => ⟨he, by rw [hq]; exact below_drewN (Below.refl _ _) q⟩
/-- Whether a string begins with another one. -/
def begB (s t : ByteArray) : Bool := t.data.toList.isPrefixOf s.data.toList
theorem begB_iff {s t : ByteArray} : begB s t = true ↔ t.data.toList <+: s.data.toList := by unfold begB; exact List.isPrefixOf_iff_prefix
theorem begB_short {s t : ByteArray} (h : s.size < t.size) : begB s t = false := by
  cases hb : begB s t
  · rfl
  · have := (begB_iff.1 hb).length_le
    rw [size_list, size_list] at this
    omega
theorem begB_ext (s t : ByteArray) : ((s.extract 0 t.size).toList == t.toList) = begB s t := by
  rw [Bool.eq_iff_iff, begB_iff, beq_iff_eq, Lib.toList_data, Lib.toList_data, List.prefix_iff_eq_take, size_list]
  have : (s.extract 0 t.size).data.toList = s.data.toList.take t.size := by
    rw [Lib.extract_data]; simp
  rw [this]
  exact eq_comm
theorem begins25 (s t : ByteArray) (w : World) : Calls Tryd.prog 25 #[.string s, .string t] w fun e w' => e = .returned (.bool (begB s t)) ∧ w = w' := by
  by_cases h : t.size ≤ s.size
  · have e := Lib.hid (begB_ext s t)
    go_enter Tryd.func25, Tryd.ntmps25
    go_wp2_with fail
    go_ret
    exact ⟨by rw [← e.out]; rfl, rfl⟩
  · have e := Lib.hid (begB_short (show s.size < t.size by omega))
    go_enter Tryd.func25, Tryd.ntmps25
    go_wp2_with fail
    go_ret
    exact ⟨by rw [e.out]; rfl, rfl⟩
theorem begins44 (s t : ByteArray) (w : World) : Calls Tryd.prog 44 #[.string s, .string t] w fun e w' => e = .returned (.bool (begB s t)) ∧ w = w' := by
  by_cases h : t.size ≤ s.size
  · have e := Lib.hid (begB_ext s t)
    go_enter Tryd.func44, Tryd.ntmps44
    go_wp2_with fail
    go_ret
    exact ⟨by rw [← e.out]; rfl, rfl⟩
  · have e := Lib.hid (begB_short (show s.size < t.size by omega))
    go_enter Tryd.func44, Tryd.ntmps44
    go_wp2_with fail
    go_ret
    exact ⟨by rw [e.out]; rfl, rfl⟩
end Go.Proofs.YtoechdnhgkelfaaDoor
