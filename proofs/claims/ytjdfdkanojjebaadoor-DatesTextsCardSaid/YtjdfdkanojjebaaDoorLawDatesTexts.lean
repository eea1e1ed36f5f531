/-
  The walk of the law DatesTexts: it returns true for every number and every string.
-/
import Derived.Test.YtjdfdkanojjebaaDoorFrame
namespace Go.Proofs.YtjdfdkanojjebaaDoor.datesTexts
open Go.RowKit

abbrev StrOut (t : ByteArray) (w : World) : Ending → World → Prop := fun e w' => e = .returned (.string t) ∧ Below w.heap.size w w'
theorem long (n : Int) (s : ByteArray) (w : World) (ht : Tab w) (hs : (300 : Int) < s.size) : Calls Tryd.prog 7 #[.int .i64 n, .string s] w fun e w' => e = .returned (.bool true) ∧ Below w.heap.size w w' := by
  have c := Lib.hid (awake14 w ht)
  clear ht
  go_enter Tryd.func7, Tryd.ntmps7
  go_wp2_with fail
  refine c.out.mono ?_
  rintro e w1 ⟨rfl, hb1⟩
  go_wp2_with fail
  go_ret
  exact ⟨rfl, hb1⟩
theorem core (n r : Int) (o : Bool) (s t : ByteArray) (w : World) (ht : Tab w) (hs : (s.size : Int) ≤ 300)
    (c1 : Hid (Calls Tryd.prog 21 #[.string s] w (TwoOut r o w))) (c2 : Hid (Calls Tryd.prog 22 #[.string s] w fun e w' => e = .returned (.tuple #[.int .i64 r, .bool o]) ∧ Below w.heap.size w w'))
    (c3 : Hid (∀ w, Tab w → Calls Tryd.prog 23 #[.int .i64 n] w (StrOut t w))) (c4 : Hid (∀ w, Calls Tryd.prog 24 #[.int .i64 n] w (StrOut t w))) :
    Calls Tryd.prog 7 #[.int .i64 n, .string s] w fun e w' => e = .returned (.bool true) ∧ Below w.heap.size w w' := by
  have HT := Lib.hid ht
  clear ht
  have ho : (o == o) = true := by simp
  go_enter Tryd.func7, Tryd.ntmps7
  go_wp2_with fail
  refine c1.out.mono ?_
  rintro e w' ⟨rfl, rfl⟩
  go_wp2_with fail
  refine c2.out.mono ?_
  rintro e w1 ⟨rfl, hb1⟩
  have HT1 := Lib.hid (HT.out.keep hb1)
  go_wp2_with fail
  refine (c3.out _ HT1.out).mono ?_
  rintro e w2 ⟨rfl, hb2⟩
  have HT2 := Lib.hid (HT1.out.keep hb2)
  go_wp2_with fail
  refine (c4.out _).mono ?_
  rintro e w3 ⟨rfl, hb3⟩
  have HT3 := Lib.hid (HT2.out.keep hb3)
  go_wp2_with fail
  refine (awake14 _ HT3.out).mono ?_
  rintro e w4 ⟨rfl, hb4⟩
  go_wp2_with fail
  go_ret
  have k2 := Nat.le_trans hb1.size hb2.size
  exact ⟨rfl, ((hb1.trans (hb2.mono hb1.size)).trans (hb3.mono k2)).trans (hb4.mono (Nat.le_trans k2 hb3.size))⟩
theorem law (n : Int) (s : ByteArray) (_ : I64 n) (_ : s.size ≤ maxLen) (w : World) (ht : Tab w) : Calls Tryd.prog 7 #[.int .i64 n, .string s] w fun e w' => e = .returned (.bool true) ∧ Below w.heap.size w w' := by
  by_cases hs : (300 : Int) < s.size
  · exact long n s w ht hs
  · have hp : ∃ (r : Int) (o : Bool), Calls Tryd.prog 21 #[.string s] w (TwoOut r o w) ∧ Calls Tryd.prog 22 #[.string s] w fun e w' => e = .returned (.tuple #[.int .i64 r, .bool o]) ∧ Below w.heap.size w w' := by
      by_cases h : ∃ y m d : Int, Dt.Valid y m d ∧ s.data.toList = Dt.txt y m d
      · obtain ⟨y, m, d, hv, he⟩ := h
        exact ⟨_, _, parse21_yes hv he w ht, parse22_yes hv he w⟩
      · have hn : NoDay s := fun y m d hv he => h ⟨y, m, d, hv, he⟩
        exact ⟨_, _, parse21_no hn w ht, parse22_no hn w⟩
    have hx : ∃ t : ByteArray, (∀ w, Tab w → Calls Tryd.prog 23 #[.int .i64 n] w (StrOut t w)) ∧ (∀ w, Calls Tryd.prog 24 #[.int .i64 n] w (StrOut t w)) := by
      by_cases hn : 1 ≤ n ∧ n ≤ 109573
      · obtain ⟨y, m, d, hv, he⟩ := Dt.date_of hn.1 hn.2
        have k : ∀ w e w', Texted n w e w' → StrOut ⟨(Dt.txt y m d).toArray⟩ w e w' := fun w e w' ⟨y', m', d', hv', hn', he', hw'⟩ => by
          obtain ⟨rfl, rfl, rfl⟩ := Dt.num_inj hv' hv (hn'.trans he.symm)
          exact ⟨he', hw'⟩
        exact ⟨_, fun w ht => (text23_yes n w hn.1 hn.2 ht).mono (k w), fun w => (text24_yes n w hn.1 hn.2).mono (k w)⟩
      · exact ⟨⟨#[]⟩, fun w _ => (text23_no n w (by omega)).mono fun e w' ⟨he, hw⟩ => ⟨he, hw ▸ Below.refl _ _⟩, fun w => (text24_no n w (by omega)).mono fun e w' ⟨he, hw⟩ => ⟨he, hw ▸ Below.refl _ _⟩⟩
    obtain ⟨r, o, h1, h2⟩ := hp
    obtain ⟨t, h3, h4⟩ := hx
    exact core n r o s t w ht (by omega) (Lib.hid h1) (Lib.hid h2) (Lib.hid h3) (Lib.hid h4)
end Go.Proofs.YtjdfdkanojjebaaDoor.datesTexts
