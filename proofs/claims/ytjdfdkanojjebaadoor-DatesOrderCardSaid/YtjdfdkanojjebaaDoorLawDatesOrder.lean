/-
  The walk of the law DatesOrder: it returns true for all numbers.
-/
import Derived.Test.YtjdfdkanojjebaaDoorFrame
namespace Go.Proofs.YtjdfdkanojjebaaDoor.datesOrder
open Go.RowKit
abbrev StrOut (t : ByteArray) (w : World) : Ending → World → Prop := fun e w' => e = .returned (.string t) ∧ Below w.heap.size w w'
abbrev True_ (w : World) : Ending → World → Prop := fun e w' => e = .returned (.bool true) ∧ Below w.heap.size w w'
/-- A number that is no day, and its text. -/
structure No (a : Int) : Prop where
  text : ∀ w, Calls Tryd.prog 23 #[.int .i64 a] w (StrOut ⟨#[]⟩ w)
  out : a < 1 ∨ 109573 < a
/-- A day, and its text. -/
structure Yes (a : Int) (t : ByteArray) : Prop where
  text : ∀ w, Tab w → Calls Tryd.prog 23 #[.int .i64 a] w (StrOut t w)
  lo : 1 ≤ a
  hi : a ≤ 109573
  some : t.toList.isEmpty = false
theorem ret_true {b : Bool} (h : b = true) : Ending.returned (.bool b) = .returned (.bool true) := by rw [h]
set_option maxHeartbeats 1600000 in
set_option maxRecDepth 100000 in
theorem no_no (a b : Int) (w : World) (ht : Tab w) (A : No a) (B : No b) : Calls Tryd.prog 11 #[.int .i64 a, .int .i64 b] w (True_ w) := by
  have HT := Lib.hid ht
  clear ht
  by_cases h1 : a < 1 <;> by_cases h2 : b < 1
  all_goals
    have h1' : a < 1 ∨ 109573 < a := A.out
    have h2' : b < 1 ∨ 109573 < b := B.out
    go_enter Tryd.func11, Tryd.ntmps11
    go_wp2_with fail
    refine (A.text _).mono ?_
    rintro e w1 ⟨rfl, hb1⟩
    have HT1 := Lib.hid (HT.out.keep hb1)
    go_wp2_with fail
    refine (B.text _).mono ?_
    rintro e w2 ⟨rfl, hb2⟩
    have HT2 := Lib.hid (HT1.out.keep hb2)
    go_wp2_with fail
    refine (awake14 _ HT2.out).mono ?_
    rintro e w3 ⟨rfl, hb3⟩
    go_wp2_with fail
    go_ret
    exact ⟨ret_true (by first | rfl | (simp; omega)), (hb1.trans (hb2.mono hb1.size)).trans (hb3.mono (Nat.le_trans hb1.size hb2.size))⟩
set_option maxHeartbeats 1600000 in
set_option maxRecDepth 100000 in
theorem no_yes (a b : Int) (t : ByteArray) (w : World) (ht : Tab w) (A : No a) (B : Yes b t) : Calls Tryd.prog 11 #[.int .i64 a, .int .i64 b] w (True_ w) := by
  have HT := Lib.hid ht
  clear ht
  by_cases h1 : a < 1
  all_goals
    have h1' : a < 1 ∨ 109573 < a := A.out
    have h2' := B.lo
    have h2'' := B.hi
    have h2s := B.some
    go_enter Tryd.func11, Tryd.ntmps11
    go_wp2_with fail
    refine (A.text _).mono ?_
    rintro e w1 ⟨rfl, hb1⟩
    have HT1 := Lib.hid (HT.out.keep hb1)
    go_wp2_with fail
    refine (B.text _ HT1.out).mono ?_
    rintro e w2 ⟨rfl, hb2⟩
    have HT2 := Lib.hid (HT1.out.keep hb2)
    go_wp2_with fail
    refine (awake14 _ HT2.out).mono ?_
    rintro e w3 ⟨rfl, hb3⟩
    go_wp2_with fail
    go_ret
    exact ⟨ret_true (by first | rfl | (simp; omega)), (hb1.trans (hb2.mono hb1.size)).trans (hb3.mono (Nat.le_trans hb1.size hb2.size))⟩
set_option maxHeartbeats 1600000 in
set_option maxRecDepth 100000 in
theorem yes_no (a b : Int) (t : ByteArray) (w : World) (ht : Tab w) (A : Yes a t) (B : No b) : Calls Tryd.prog 11 #[.int .i64 a, .int .i64 b] w (True_ w) := by
  have HT := Lib.hid ht
  clear ht
  by_cases h2 : b < 1
  all_goals
    have h1' := A.lo
    have h1'' := A.hi
    have h1s := A.some
    have h2' : b < 1 ∨ 109573 < b := B.out
    go_enter Tryd.func11, Tryd.ntmps11
    go_wp2_with fail
    refine (A.text _ HT.out).mono ?_
    rintro e w1 ⟨rfl, hb1⟩
    have HT1 := Lib.hid (HT.out.keep hb1)
    go_wp2_with fail
    refine (B.text _).mono ?_
    rintro e w2 ⟨rfl, hb2⟩
    have HT2 := Lib.hid (HT1.out.keep hb2)
    go_wp2_with fail
    refine (awake14 _ HT2.out).mono ?_
    rintro e w3 ⟨rfl, hb3⟩
    go_wp2_with fail
    go_ret
    exact ⟨ret_true (by first | rfl | (simp; omega)), (hb1.trans (hb2.mono hb1.size)).trans (hb3.mono (Nat.le_trans hb1.size hb2.size))⟩
set_option maxHeartbeats 1600000 in
set_option maxRecDepth 100000 in
theorem yes_yes (a b : Int) (s t : ByteArray) (hl : (Op.bytesLess s.toList t.toList == decide (a < b)) = true) (he : ((s.toList == t.toList) == (a == b)) = true) (w : World) (ht : Tab w) (A : Yes a s) (B : Yes b t) : Calls Tryd.prog 11 #[.int .i64 a, .int .i64 b] w (True_ w) := by
  have HT := Lib.hid ht
  clear ht
  skip
  all_goals
    have h1' := A.lo
    have h1'' := A.hi
    have h1s := A.some
    have h2' := B.lo
    have h2'' := B.hi
    have h2s := B.some
    go_enter Tryd.func11, Tryd.ntmps11
    go_wp2_with fail
    refine (A.text _ HT.out).mono ?_
    rintro e w1 ⟨rfl, hb1⟩
    have HT1 := Lib.hid (HT.out.keep hb1)
    go_wp2_with fail
    refine (B.text _ HT1.out).mono ?_
    rintro e w2 ⟨rfl, hb2⟩
    have HT2 := Lib.hid (HT1.out.keep hb2)
    go_wp2_with fail
    refine (awake14 _ HT2.out).mono ?_
    rintro e w3 ⟨rfl, hb3⟩
    go_wp2_with fail
    go_ret
    exact ⟨ret_true (by first | rfl | (simp; omega)), (hb1.trans (hb2.mono hb1.size)).trans (hb3.mono (Nat.le_trans hb1.size hb2.size))⟩

theorem text_of {y m d : Int} (hv : Dt.Valid y m d) (w : World) (ht : Tab w) : Calls Tryd.prog 23 #[.int .i64 (Dt.num y m d)] w (StrOut ⟨(Dt.txt y m d).toArray⟩ w) :=
  (text23_yes _ w (Dt.num_bd hv).1 (Dt.num_bd hv).2 ht).mono fun e w' ⟨y', m', d', hv', hn', he', hw'⟩ => by
    obtain ⟨rfl, rfl, rfl⟩ := Dt.num_inj hv' hv hn'
    exact ⟨he', hw'⟩
theorem no_of {a : Int} (h : a < 1 ∨ 109573 < a) : No a := ⟨fun w => (text23_no a w h).mono fun e w' ⟨he, hw⟩ => ⟨he, hw ▸ Below.refl _ _⟩, h⟩
theorem list_of (l : List UInt8) : (⟨l.toArray⟩ : ByteArray).toList = l := by rw [Lib.toList_data]
theorem yes_of {y m d : Int} (hv : Dt.Valid y m d) : Yes (Dt.num y m d) ⟨(Dt.txt y m d).toArray⟩ :=
  ⟨fun w ht => text_of hv w ht, (Dt.num_bd hv).1, (Dt.num_bd hv).2, by
    rw [list_of]
    have := Dt.txt_length y m d
    cases h : Dt.txt y m d with
    | nil => rw [h] at this; simp at this
    | cons c l => rfl⟩
theorem law (a b : Int) (_ : I64 a) (_ : I64 b) (w : World) (ht : Tab w) : Calls Tryd.prog 11 #[.int .i64 a, .int .i64 b] w (True_ w) := by
  by_cases ha : 1 ≤ a ∧ a ≤ 109573
  · obtain ⟨y, m, d, hv, rfl⟩ := Dt.date_of ha.1 ha.2
    by_cases hb : 1 ≤ b ∧ b ≤ 109573
    · obtain ⟨y', m', d', hv', rfl⟩ := Dt.date_of hb.1 hb.2
      refine yes_yes _ _ _ _ ?_ ?_ w ht (yes_of hv) (yes_of hv')
      · rw [list_of, list_of, Dt.txt_less hv hv']; simp
      · rw [list_of, list_of, Dt.txt_beq hv hv']
        by_cases h : Dt.num y m d = Dt.num y' m' d' <;> simp [h]
    · exact yes_no _ b _ w ht (yes_of hv) (no_of (by omega))
  · by_cases hb : 1 ≤ b ∧ b ≤ 109573
    · obtain ⟨y', m', d', hv', rfl⟩ := Dt.date_of hb.1 hb.2
      exact no_yes a _ _ w ht (no_of (by omega)) (yes_of hv')
    · exact no_no a b w ht (no_of (by omega)) (no_of (by omega))
end Go.Proofs.YtjdfdkanojjebaaDoor.datesOrder
