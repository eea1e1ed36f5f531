/-
  The walk of the law DatesBack: it returns true for every number and every string.
-/
import Derived.Test.YtjdfdkanojjebaaDoorFrame
namespace Go.Proofs.YtjdfdkanojjebaaDoor.datesBack
open Go.RowKit
abbrev StrOut (t : ByteArray) (w : World) : Ending → World → Prop := fun e w' => e = .returned (.string t) ∧ Below w.heap.size w w'
abbrev FourOut (y m d : Int) (b : Bool) (w : World) : Ending → World → Prop := fun e w' => e = .returned (.tuple #[.int .i64 y, .int .i64 m, .int .i64 d, .bool b]) ∧ w = w'
abbrev True_ (w : World) : Ending → World → Prop := fun e w' => e = .returned (.bool true) ∧ Below w.heap.size w w'
theorem long (n : Int) (s : ByteArray) (w : World) (ht : Tab w) (hs : (300 : Int) < s.size) : Calls Tryd.prog 8 #[.int .i64 n, .string s] w (True_ w) := by
  have c := Lib.hid (awake14 w ht)
  clear ht
  go_enter Tryd.func8, Tryd.ntmps8
  go_wp2_with fail
  refine c.out.mono ?_
  rintro e w1 ⟨rfl, hb1⟩
  go_wp2_with fail
  go_ret
  exact ⟨rfl, hb1⟩
/-- The first half: what the law reads of the number. -/
structure Half (n y m d a b : Int) (ok : Bool) (t : ByteArray) (w : World) : Prop where
  civil : Calls Tryd.prog 17 #[.int .i64 n] w (FourOut y m d ok w)
  day : Calls Tryd.prog 15 #[.int .i64 y, .int .i64 m, .int .i64 d] w (TwoOut a ok w)
  text : Calls Tryd.prog 23 #[.int .i64 n] w (StrOut t w)
  parse : ∀ w, Tab w → Calls Tryd.prog 21 #[.string t] w (TwoOut b ok w)
/-- The second: what it reads of the string. -/
structure Rest (c : Int) (has : Bool) (s : ByteArray) : Prop where
  parse : ∀ w, Tab w → Calls Tryd.prog 21 #[.string s] w (TwoOut c has w)
  text : has = true → ∀ w, Tab w → Calls Tryd.prog 23 #[.int .i64 c] w (StrOut s w)
set_option maxHeartbeats 1600000 in
theorem yes_has (n y m d c : Int) (s t : ByteArray) (w : World) (ht : Tab w) (hs : (s.size : Int) ≤ 300) (h1 : 1 ≤ n) (h2 : n ≤ 109573) (F : Half n y m d n n true t w) (G : Rest c true s) :
    Calls Tryd.prog 8 #[.int .i64 n, .string s] w (True_ w) := by
  have HT := Lib.hid ht
  clear ht
  go_enter Tryd.func8, Tryd.ntmps8
  go_wp2_with fail
  refine F.civil.mono ?_
  rintro e w' ⟨rfl, rfl⟩
  go_wp2_with fail
  refine F.day.mono ?_
  rintro e w' ⟨rfl, rfl⟩
  go_wp2_with fail
  refine F.text.mono ?_
  rintro e w1 ⟨rfl, hb1⟩
  have HT1 := Lib.hid (HT.out.keep hb1)
  go_wp2_with fail
  refine (F.parse _ HT1.out).mono ?_
  rintro e w' ⟨rfl, rfl⟩
  go_wp2_with fail
  refine (G.parse _ HT1.out).mono ?_
  rintro e w' ⟨rfl, rfl⟩
  go_wp2_with fail
  refine (G.text rfl _ HT1.out).mono ?_
  rintro e w2 ⟨rfl, hb2⟩
  have HT2 := Lib.hid (HT1.out.keep hb2)
  go_wp2_with fail
  refine (awake14 _ HT2.out).mono ?_
  rintro e w3 ⟨rfl, hb3⟩
  go_wp2_with fail
  go_ret
  exact ⟨rfl, (hb1.trans (hb2.mono hb1.size)).trans (hb3.mono (Nat.le_trans hb1.size hb2.size))⟩
set_option maxHeartbeats 1600000 in
theorem yes_not (n y m d c : Int) (s t : ByteArray) (w : World) (ht : Tab w) (hs : (s.size : Int) ≤ 300) (h1 : 1 ≤ n) (h2 : n ≤ 109573) (F : Half n y m d n n true t w) (G : Rest c false s) :
    Calls Tryd.prog 8 #[.int .i64 n, .string s] w (True_ w) := by
  have HT := Lib.hid ht
  clear ht
  go_enter Tryd.func8, Tryd.ntmps8
  go_wp2_with fail
  refine F.civil.mono ?_
  rintro e w' ⟨rfl, rfl⟩
  go_wp2_with fail
  refine F.day.mono ?_
  rintro e w' ⟨rfl, rfl⟩
  go_wp2_with fail
  refine F.text.mono ?_
  rintro e w1 ⟨rfl, hb1⟩
  have HT1 := Lib.hid (HT.out.keep hb1)
  go_wp2_with fail
  refine (F.parse _ HT1.out).mono ?_
  rintro e w' ⟨rfl, rfl⟩
  go_wp2_with fail
  refine (G.parse _ HT1.out).mono ?_
  rintro e w' ⟨rfl, rfl⟩
  go_wp2_with fail
  refine (awake14 _ HT1.out).mono ?_
  rintro e w3 ⟨rfl, hb3⟩
  go_wp2_with fail
  go_ret
  exact ⟨rfl, hb1.trans (hb3.mono hb1.size)⟩
set_option maxHeartbeats 1600000 in
theorem no_has (n c : Int) (s t : ByteArray) (w : World) (ht : Tab w) (hs : (s.size : Int) ≤ 300) (h : (decide (1 ≤ n) && decide (n ≤ 109573)) = false) (F : Half n 0 0 0 0 0 false t w) (G : Rest c true s) :
    Calls Tryd.prog 8 #[.int .i64 n, .string s] w (True_ w) := by
  have HT := Lib.hid ht
  clear ht
  by_cases h1 : 1 ≤ n
  · have h2 : 109573 < n := by simp [h1] at h; exact h
    clear h
    go_enter Tryd.func8, Tryd.ntmps8
    go_wp2_with fail
    refine F.civil.mono ?_
    rintro e w' ⟨rfl, rfl⟩
    go_wp2_with fail
    refine F.day.mono ?_
    rintro e w' ⟨rfl, rfl⟩
    go_wp2_with fail
    refine F.text.mono ?_
    rintro e w1 ⟨rfl, hb1⟩
    have HT1 := Lib.hid (HT.out.keep hb1)
    go_wp2_with fail
    refine (F.parse _ HT1.out).mono ?_
    rintro e w' ⟨rfl, rfl⟩
    go_wp2_with fail
    refine (G.parse _ HT1.out).mono ?_
    rintro e w' ⟨rfl, rfl⟩
    go_wp2_with fail
    refine (G.text rfl _ HT1.out).mono ?_
    rintro e w2 ⟨rfl, hb2⟩
    have HT2 := Lib.hid (HT1.out.keep hb2)
    go_wp2_with fail
    refine (awake14 _ HT2.out).mono ?_
    rintro e w3 ⟨rfl, hb3⟩
    go_wp2_with fail
    go_ret
    exact ⟨rfl, (hb1.trans (hb2.mono hb1.size)).trans (hb3.mono (Nat.le_trans hb1.size hb2.size))⟩
  · clear h
    go_enter Tryd.func8, Tryd.ntmps8
    go_wp2_with fail
    refine F.civil.mono ?_
    rintro e w' ⟨rfl, rfl⟩
    go_wp2_with fail
    refine F.day.mono ?_
    rintro e w' ⟨rfl, rfl⟩
    go_wp2_with fail
    refine F.text.mono ?_
    rintro e w1 ⟨rfl, hb1⟩
    have HT1 := Lib.hid (HT.out.keep hb1)
    go_wp2_with fail
    refine (F.parse _ HT1.out).mono ?_
    rintro e w' ⟨rfl, rfl⟩
    go_wp2_with fail
    refine (G.parse _ HT1.out).mono ?_
    rintro e w' ⟨rfl, rfl⟩
    go_wp2_with fail
    refine (G.text rfl _ HT1.out).mono ?_
    rintro e w2 ⟨rfl, hb2⟩
    have HT2 := Lib.hid (HT1.out.keep hb2)
    go_wp2_with fail
    refine (awake14 _ HT2.out).mono ?_
    rintro e w3 ⟨rfl, hb3⟩
    go_wp2_with fail
    go_ret
    exact ⟨rfl, (hb1.trans (hb2.mono hb1.size)).trans (hb3.mono (Nat.le_trans hb1.size hb2.size))⟩
set_option maxHeartbeats 1600000 in
theorem no_not (n c : Int) (s t : ByteArray) (w : World) (ht : Tab w) (hs : (s.size : Int) ≤ 300) (h : (decide (1 ≤ n) && decide (n ≤ 109573)) = false) (F : Half n 0 0 0 0 0 false t w) (G : Rest c false s) :
    Calls Tryd.prog 8 #[.int .i64 n, .string s] w (True_ w) := by
  have HT := Lib.hid ht
  clear ht
  by_cases h1 : 1 ≤ n
  · have h2 : 109573 < n := by simp [h1] at h; exact h
    clear h
    go_enter Tryd.func8, Tryd.ntmps8
    go_wp2_with fail
    refine F.civil.mono ?_
    rintro e w' ⟨rfl, rfl⟩
    go_wp2_with fail
    refine F.day.mono ?_
    rintro e w' ⟨rfl, rfl⟩
    go_wp2_with fail
    refine F.text.mono ?_
    rintro e w1 ⟨rfl, hb1⟩
    have HT1 := Lib.hid (HT.out.keep hb1)
    go_wp2_with fail
    refine (F.parse _ HT1.out).mono ?_
    rintro e w' ⟨rfl, rfl⟩
    go_wp2_with fail
    refine (G.parse _ HT1.out).mono ?_
    rintro e w' ⟨rfl, rfl⟩
    go_wp2_with fail
    refine (awake14 _ HT1.out).mono ?_
    rintro e w3 ⟨rfl, hb3⟩
    go_wp2_with fail
    go_ret
    exact ⟨rfl, hb1.trans (hb3.mono hb1.size)⟩
  · clear h
    go_enter Tryd.func8, Tryd.ntmps8
    go_wp2_with fail
    refine F.civil.mono ?_
    rintro e w' ⟨rfl, rfl⟩
    go_wp2_with fail
    refine F.day.mono ?_
    rintro e w' ⟨rfl, rfl⟩
    go_wp2_with fail
    refine F.text.mono ?_
    rintro e w1 ⟨rfl, hb1⟩
    have HT1 := Lib.hid (HT.out.keep hb1)
    go_wp2_with fail
    refine (F.parse _ HT1.out).mono ?_
    rintro e w' ⟨rfl, rfl⟩
    go_wp2_with fail
    refine (G.parse _ HT1.out).mono ?_
    rintro e w' ⟨rfl, rfl⟩
    go_wp2_with fail
    refine (awake14 _ HT1.out).mono ?_
    rintro e w3 ⟨rfl, hb3⟩
    go_wp2_with fail
    go_ret
    exact ⟨rfl, hb1.trans (hb3.mono hb1.size)⟩

theorem of_list {s : ByteArray} {l : List UInt8} (h : s.data.toList = l) : (⟨l.toArray⟩ : ByteArray) = s := by subst h; simp
theorem text_of {y m d : Int} (hv : Dt.Valid y m d) (w : World) (ht : Tab w) : Calls Tryd.prog 23 #[.int .i64 (Dt.num y m d)] w (StrOut ⟨(Dt.txt y m d).toArray⟩ w) :=
  (text23_yes _ w (Dt.num_bd hv).1 (Dt.num_bd hv).2 ht).mono fun e w' ⟨y', m', d', hv', hn', he', hw'⟩ => by
    obtain ⟨rfl, rfl, rfl⟩ := Dt.num_inj hv' hv hn'
    exact ⟨he', hw'⟩
theorem law (n : Int) (s : ByteArray) (_ : I64 n) (_ : s.size ≤ maxLen) (w : World) (ht : Tab w) : Calls Tryd.prog 8 #[.int .i64 n, .string s] w (True_ w) := by
  by_cases hs : (300 : Int) < s.size
  · exact long n s w ht hs
  · have hR : ∃ (c : Int) (has : Bool), Rest c has s := by
      by_cases h : ∃ y m d : Int, Dt.Valid y m d ∧ s.data.toList = Dt.txt y m d
      · obtain ⟨y, m, d, hv, he⟩ := h
        refine ⟨_, _, fun w ht => parse21_yes hv he w ht, fun _ w ht => ?_⟩
        have := text_of hv w ht
        rw [of_list he] at this
        exact this
      · have hn : NoDay s := fun y m d hv he => h ⟨y, m, d, hv, he⟩
        exact ⟨_, _, fun w ht => parse21_no hn w ht, fun h => by cases h⟩
    obtain ⟨c, has, G⟩ := hR
    by_cases hn : 1 ≤ n ∧ n ≤ 109573
    · obtain ⟨y, m, d, hv, he⟩ := Dt.date_of hn.1 hn.2
      have F : Half n y m d n n true ⟨(Dt.txt y m d).toArray⟩ w := by
        refine ⟨(civil17_yes n w hn.1 hn.2 ht).mono fun e w' ⟨y', m', d', hv', hn', he', hw'⟩ => ?_, ?_, ?_, fun w ht => ?_⟩
        · obtain ⟨rfl, rfl, rfl⟩ := Dt.num_inj hv' hv (hn'.trans he.symm)
          exact ⟨he', hw'⟩
        · have := day15_yes y m d w hv ht
          rw [he] at this
          exact this
        · have := text_of hv w ht
          rw [he] at this
          exact this
        · have := parse21_yes (s := ⟨(Dt.txt y m d).toArray⟩) hv (by simp) w ht
          rw [he] at this
          exact this
      cases has
      · exact yes_not n y m d c s _ w ht (by omega) hn.1 hn.2 F G
      · exact yes_has n y m d c s _ w ht (by omega) hn.1 hn.2 F G
    · have F : Half n 0 0 0 0 0 false ⟨#[]⟩ w :=
        ⟨civil17_no n w (by omega), day15_no 0 0 0 w ⟨by decide, by decide⟩ (fun h => absurd h.1 (by decide)) ht, (text23_no n w (by omega)).mono fun e w' ⟨he, hw⟩ => ⟨he, hw ▸ Below.refl _ _⟩, fun w _ => parse21_short _ w (by decide +kernel)⟩
      have hd : (decide (1 ≤ n) && decide (n ≤ 109573)) = false := by
        by_cases h1 : 1 ≤ n <;> simp [h1]; omega
      cases has
      · exact no_not n c s _ w ht (by omega) hd F G
      · exact no_has n c s _ w ht (by omega) hd F G
end Go.Proofs.YtjdfdkanojjebaaDoor.datesBack
