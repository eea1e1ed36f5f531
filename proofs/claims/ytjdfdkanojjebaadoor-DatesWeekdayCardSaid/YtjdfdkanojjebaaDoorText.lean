/-
  What Text of dates and of its reference returns: the text of the date of a day, and the empty string if there is none.
-/
import Derived.Test.YtjdfdkanojjebaaDoorParse
namespace Go.Proofs.YtjdfdkanojjebaaDoor
open Go.RowKit

/-- The text of a day, handed back. -/
def Texted (n : Int) (w : World) (e : Ending) (w' : World) : Prop :=
  ∃ y m d : Int, Dt.Valid y m d ∧ Dt.num y m d = n ∧ e = .returned (.string ⟨(Dt.txt y m d).toArray⟩) ∧ Below w.heap.size w w'
theorem cat_txt (y m d : Int) : (⟨(Dt.digs y 4).toArray⟩ ++ ⟨#[45]⟩ ++ ⟨(Dt.digs m 2).toArray⟩ ++ ⟨#[45]⟩ ++ ⟨(Dt.digs d 2).toArray⟩ : ByteArray) = ⟨(Dt.txt y m d).toArray⟩ := by
  apply ByteArray.ext
  simp [ByteArray.data_append, Dt.txt]
theorem size_digs (n : Int) (k : Nat) : (⟨(Dt.digs n k).toArray⟩ : ByteArray).size = k := by
  show (Dt.digs n k).toArray.size = k
  simp [Dt.digs_length]
theorem text23_no (n : Int) (w : World) (h : n < 1 ∨ 109573 < n) : Calls Tryd.prog 23 #[.int .i64 n] w fun e w' => e = .returned (.string ⟨#[]⟩) ∧ w = w' := by
  have H := Lib.hid (civil17_no n w h)
  clear h
  go_enter Tryd.func23, Tryd.ntmps23
  go_wp2_with (go_at_call 17; refine H.out.mono ?_; rintro e w' ⟨rfl, rfl⟩)
  go_ret
  exact ⟨rfl, rfl⟩
theorem text24_no (n : Int) (w : World) (h : n < 1 ∨ 109573 < n) : Calls Tryd.prog 24 #[.int .i64 n] w fun e w' => e = .returned (.string ⟨#[]⟩) ∧ w = w' := by
  have H := Lib.hid (civil18_no n w h)
  clear h
  go_enter Tryd.func24, Tryd.ntmps24
  go_wp2_with (go_at_call 18; refine H.out.mono ?_; rintro e w' ⟨rfl, rfl⟩)
  go_ret
  exact ⟨rfl, rfl⟩
set_option maxHeartbeats 1600000 in
theorem text23_yes (n : Int) (w : World) (h1 : 1 ≤ n) (h2 : n ≤ 109573) (ht : Tab w) : Calls Tryd.prog 23 #[.int .i64 n] w (Texted n w) := by
  have H := Lib.hid (civil17_yes n w h1 h2 ht)
  clear ht
  go_enter Tryd.func23, Tryd.ntmps23
  go_wp2_with fail
  refine H.out.mono ?_
  rintro e w' ⟨y, m, d, hv, hn, rfl, rfl⟩
  have HV := Lib.hid hv
  have HN := Lib.hid hn
  obtain ⟨a1, a2, a3, a4, a5, a6⟩ := Dt.valid_small hv
  clear hv hn
  have z4 : ∀ n, (⟨(Dt.digs n 4).toArray⟩ : ByteArray).size = 4 := fun n => size_digs n 4
  have z2 : ∀ n, (⟨(Dt.digs n 2).toArray⟩ : ByteArray).size = 2 := fun n => size_digs n 2
  go_wp2_with fail
  refine (digits30_4 _ _ a1 (by omega)).mono ?_
  rintro e w1 ⟨rfl, hb1⟩
  go_wp2_with fail
  refine (digits30_2 _ _ a3 (by omega)).mono ?_
  rintro e w2 ⟨rfl, hb2⟩
  go_wp2_with fail
  refine (digits30_2 _ _ a5 (by omega)).mono ?_
  rintro e w3 ⟨rfl, hb3⟩
  go_wp2_with fail
  go_ret
  exact ⟨y, m, d, HV.out, HN.out, ret_string (cat_txt y m d), (hb1.trans (hb2.mono hb1.size)).trans (hb3.mono (Nat.le_trans hb1.size hb2.size))⟩
set_option maxHeartbeats 1600000 in
theorem text24_yes (n : Int) (w : World) (h1 : 1 ≤ n) (h2 : n ≤ 109573) : Calls Tryd.prog 24 #[.int .i64 n] w (Texted n w) := by
  have H := Lib.hid (civil18_yes n w h1 h2)
  go_enter Tryd.func24, Tryd.ntmps24
  go_wp2_with fail
  refine H.out.mono ?_
  rintro e w' ⟨y, m, d, hv, hn, rfl, rfl⟩
  have HV := Lib.hid hv
  have HN := Lib.hid hn
  obtain ⟨a1, a2, a3, a4, a5, a6⟩ := Dt.valid_small hv
  clear hv hn
  have z4 : ∀ n, (⟨(Dt.digs n 4).toArray⟩ : ByteArray).size = 4 := fun n => size_digs n 4
  have z2 : ∀ n, (⟨(Dt.digs n 2).toArray⟩ : ByteArray).size = 2 := fun n => size_digs n 2
  go_wp2_with fail
  refine (digits31_4 _ _ a1 (by omega)).mono ?_
  rintro e w1 ⟨rfl, hb1⟩
  go_wp2_with fail
  refine (digits31_2 _ _ a3 (by omega)).mono ?_
  rintro e w2 ⟨rfl, hb2⟩
  go_wp2_with fail
  refine (digits31_2 _ _ a5 (by omega)).mono ?_
  rintro e w3 ⟨rfl, hb3⟩
  go_wp2_with fail
  go_ret
  exact ⟨y, m, d, HV.out, HN.out, ret_string (cat_txt y m d), (hb1.trans (hb2.mono hb1.size)).trans (hb3.mono (Nat.le_trans hb1.size hb2.size))⟩
end Go.Proofs.YtjdfdkanojjebaaDoor
