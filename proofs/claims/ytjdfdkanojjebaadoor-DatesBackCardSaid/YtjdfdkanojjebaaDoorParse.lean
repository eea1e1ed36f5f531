/-
  What Text and Parse of dates and of its reference return: the text of a day, and the day of a text, if there is one.
-/
import Derived.Test.YtjdfdkanojjebaaDoorNums
import Derived.Lib.Strings
import Derived.Lib.IndexBytes
namespace Go.Proofs.YtjdfdkanojjebaaDoor
open Go.RowKit

/-- What a call of Go's number and of Day hands back. -/
abbrev TwoOut (n : Int) (b : Bool) (w : World) : Ending → World → Prop := fun e w' => e = .returned (.tuple #[.int .i64 n, .bool b]) ∧ w = w'

theorem parse21_short (s : ByteArray) (w : World) (hs : ((s.size : Int) != 10) = true) : Calls Tryd.prog 21 #[.string s] w (TwoOut 0 false w) := by
  go_enter Tryd.func21, Tryd.ntmps21
  go_wp2_with fail
  go_ret2
  exact ⟨rfl, rfl⟩
theorem parse22_short (s : ByteArray) (w : World) (hs : ((s.size : Int) != 10) = true) : Calls Tryd.prog 22 #[.string s] w (TwoOut 0 false w) := by
  go_enter Tryd.func22, Tryd.ntmps22
  go_wp2_with fail
  go_ret2
  exact ⟨rfl, rfl⟩
theorem parse21_sign (s : ByteArray) (w : World) (hs : s.size = 10) (h : ¬ ((s[4]'(by omega)).toNat : Int) = 45 ∨ ¬ ((s[7]'(by omega)).toNat : Int) = 45) : Calls Tryd.prog 21 #[.string s] w (TwoOut 0 false w) := by
  have H := Lib.hid h
  clear h
  go_enter Tryd.func21, Tryd.ntmps21
  go_wp2_with fail
  all_goals first | (go_ret2; exact ⟨rfl, rfl⟩) | (exfalso; have := H.out; simp_all)
theorem parse22_sign (s : ByteArray) (w : World) (hs : s.size = 10) (h : ¬ ((s[4]'(by omega)).toNat : Int) = 45 ∨ ¬ ((s[7]'(by omega)).toNat : Int) = 45) : Calls Tryd.prog 22 #[.string s] w (TwoOut 0 false w) := by
  have H := Lib.hid h
  clear h
  go_enter Tryd.func22, Tryd.ntmps22
  go_wp2_with fail
  all_goals first | (go_ret2; exact ⟨rfl, rfl⟩) | (exfalso; have := H.out; simp_all)

set_option maxHeartbeats 1600000 in
theorem parse21_core (s : ByteArray) (w : World) (hs : s.size = 10) (h4 : ((s[4]'(by omega)).toNat : Int) = 45) (h7 : ((s[7]'(by omega)).toNat : Int) = 45)
    (x y z r : Int) (a b c o : Bool) (H1 : Hid (Calls Tryd.prog 28 #[.string (s.extract 0 4)] w (TwoOut x a w))) (H2 : Hid (Calls Tryd.prog 28 #[.string (s.extract 5 7)] w (TwoOut y b w)))
    (H3 : Hid (Calls Tryd.prog 28 #[.string (s.extract 8 10)] w (TwoOut z c w)))
    (HD : Hid ((a && b && c) = true → Calls Tryd.prog 15 #[.int .i64 x, .int .i64 y, .int .i64 z] w (TwoOut r o w))) (HN : Hid ((a && b && c) = false → r = 0 ∧ o = false)) :
    Calls Tryd.prog 21 #[.string s] w (TwoOut r o w) := by
  cases a
  · obtain ⟨rfl, rfl⟩ := HN.out rfl
    go_enter Tryd.func21, Tryd.ntmps21
    go_wp2_with (first | (go_at_call 28; (with_reducible refine H1.out.mono ?_); rintro e w' ⟨rfl, rfl⟩) | (go_at_call 28; (with_reducible refine H2.out.mono ?_); rintro e w' ⟨rfl, rfl⟩) | (go_at_call 28; (with_reducible refine H3.out.mono ?_); rintro e w' ⟨rfl, rfl⟩))
    go_ret2
    exact ⟨rfl, rfl⟩
  · cases b
    · obtain ⟨rfl, rfl⟩ := HN.out rfl
      go_enter Tryd.func21, Tryd.ntmps21
      go_wp2_with (first | (go_at_call 28; (with_reducible refine H1.out.mono ?_); rintro e w' ⟨rfl, rfl⟩) | (go_at_call 28; (with_reducible refine H2.out.mono ?_); rintro e w' ⟨rfl, rfl⟩) | (go_at_call 28; (with_reducible refine H3.out.mono ?_); rintro e w' ⟨rfl, rfl⟩))
      go_ret2
      exact ⟨rfl, rfl⟩
    · cases c
      · obtain ⟨rfl, rfl⟩ := HN.out rfl
        go_enter Tryd.func21, Tryd.ntmps21
        go_wp2_with (first | (go_at_call 28; (with_reducible refine H1.out.mono ?_); rintro e w' ⟨rfl, rfl⟩) | (go_at_call 28; (with_reducible refine H2.out.mono ?_); rintro e w' ⟨rfl, rfl⟩) | (go_at_call 28; (with_reducible refine H3.out.mono ?_); rintro e w' ⟨rfl, rfl⟩))
        go_ret2
        exact ⟨rfl, rfl⟩
      · go_enter Tryd.func21, Tryd.ntmps21
        go_wp2_with (first | (go_at_call 28; (with_reducible refine H1.out.mono ?_); rintro e w' ⟨rfl, rfl⟩) | (go_at_call 28; (with_reducible refine H2.out.mono ?_); rintro e w' ⟨rfl, rfl⟩) | (go_at_call 28; (with_reducible refine H3.out.mono ?_); rintro e w' ⟨rfl, rfl⟩) | (go_at_call 15; refine (HD.out rfl).mono ?_; rintro e w' ⟨rfl, rfl⟩))
        go_ret2
        exact ⟨rfl, rfl⟩

theorem quiet_left {P : Program} {f : FuncId} {args : Array Value} {w : World} {n : Nat} {v : Value}
    (h : Calls P f args (w.drewN n) fun e w' => e = .returned v ∧ w.drewN n = w') : Calls P f args (w.drewN n) fun e w'' => e = .returned v ∧ ∃ m, w'' = w.drewN m :=
  h.mono fun _ _ ⟨he, hm⟩ => ⟨he, n, hm.symm⟩
set_option maxHeartbeats 1600000 in
theorem parse22_core (s : ByteArray) (w : World) (hs : s.size = 10) (h4 : ((s[4]'(by omega)).toNat : Int) = 45) (h7 : ((s[7]'(by omega)).toNat : Int) = 45)
    (x y z r : Int) (o : Bool) (H1 : Hid (∀ w, Calls Tryd.prog 29 #[.string (s.extract 0 4)] w fun e w' => e = .returned (.int .i64 x) ∧ w = w')) (H2 : Hid (∀ w, Calls Tryd.prog 29 #[.string (s.extract 5 7)] w fun e w' => e = .returned (.int .i64 y) ∧ w = w'))
    (H3 : Hid (∀ w, Calls Tryd.prog 29 #[.string (s.extract 8 10)] w fun e w' => e = .returned (.int .i64 z) ∧ w = w'))
    (HD : Hid (∀ w, Calls Tryd.prog 16 #[.int .i64 x, .int .i64 y, .int .i64 z] w (TwoOut r o w))) :
    Calls Tryd.prog 22 #[.string s] w fun e w' => e = .returned (.tuple #[.int .i64 r, .bool o]) ∧ Below w.heap.size w w' := by
  go_enter Tryd.func22, Tryd.ntmps22
  go_wp2_with fail
  go_quiet (first | (go_at_call 29; with_reducible exact quiet_left (H1.out _)) | (go_at_call 29; with_reducible exact quiet_left (H2.out _)) | (go_at_call 29; with_reducible exact quiet_left (H3.out _)) | (go_at_call 16; exact quiet_left (HD.out _)))
  go_wp2
  go_ret2
  exact ⟨rfl, below_drewN (Below.refl _ _) _⟩

/-! The texts, as lists of ten bytes. -/
theorem ten {α : Type} {l : List α} (h : l.length = 10) : ∃ c0 c1 c2 c3 c4 c5 c6 c7 c8 c9, l = [c0, c1, c2, c3, c4, c5, c6, c7, c8, c9] := by
  match l, h with
  | [c0, c1, c2, c3, c4, c5, c6, c7, c8, c9], _ => exact ⟨_, _, _, _, _, _, _, _, _, _, rfl⟩
theorem four {α : Type} {l : List α} (h : l.length = 4) : ∃ c0 c1 c2 c3, l = [c0, c1, c2, c3] := by
  match l, h with
  | [c0, c1, c2, c3], _ => exact ⟨_, _, _, _, rfl⟩
theorem two {α : Type} {l : List α} (h : l.length = 2) : ∃ c0 c1, l = [c0, c1] := by
  match l, h with
  | [c0, c1], _ => exact ⟨_, _, rfl⟩
theorem at_list (s : ByteArray) (k : Nat) (h : k < s.size) {c : UInt8} (hc : s.data.toList[k]? = some c) : s[k] = c := by
  have : s.data.toList[k]? = some s[k] := List.getElem?_eq_getElem (by rw [size_list]; exact h)
  rw [this] at hc
  exact Option.some.inj hc
theorem txt_parts {s : ByteArray} {y m d : Int} (h : s.data.toList = Dt.txt y m d) :
    s.size = 10 ∧ s.data.toList[4]? = some 45 ∧ s.data.toList[7]? = some 45 ∧ (s.extract 0 4).data.toList = Dt.digs y 4 ∧ (s.extract 5 7).data.toList = Dt.digs m 2 ∧ (s.extract 8 10).data.toList = Dt.digs d 2 := by
  obtain ⟨a0, a1, a2, a3, ha⟩ := four (Dt.digs_length 4 y)
  obtain ⟨b0, b1, hb⟩ := two (Dt.digs_length 2 m)
  obtain ⟨c0, c1, hc⟩ := two (Dt.digs_length 2 d)
  refine ⟨by rw [← size_list, h, Dt.txt_length], ?_, ?_, ?_, ?_, ?_⟩
  all_goals (first | rw [Lib.extract_data, h] | rw [h]); simp [Dt.txt, ha, hb, hc]
theorem parts_txt {s : ByteArray} (hs : s.size = 10) (h4 : s.data.toList[4]? = some 45) (h7 : s.data.toList[7]? = some 45)
    (ha : allD (s.extract 0 4).data.toList = true) (hb : allD (s.extract 5 7).data.toList = true) (hc : allD (s.extract 8 10).data.toList = true) :
    s.data.toList = Dt.txt (Dt.val (s.extract 0 4).data.toList) (Dt.val (s.extract 5 7).data.toList) (Dt.val (s.extract 8 10).data.toList) := by
  have ea := Dt.digs_val _ ha
  have eb := Dt.digs_val _ hb
  have ec := Dt.digs_val _ hc
  rw [Lib.extract_data] at ea eb ec ⊢
  rw [Lib.extract_data, Lib.extract_data]
  have hl : s.data.toList.length = 10 := by rw [size_list, hs]
  generalize s.data.toList = l at *
  obtain ⟨c0, c1, c2, c3, c4, c5, c6, c7, c8, c9, rfl⟩ := ten hl
  simp at h4 h7
  subst h4 h7
  simp at ea eb ec
  unfold Dt.txt
  simp only [List.drop_zero, List.drop_succ_cons, List.take_succ_cons, List.take_zero, Nat.sub_zero, Nat.reduceSub]
  rw [ea, eb, ec]
  rfl

/-- The day of the text is there. -/
theorem parse21_yes {s : ByteArray} {y m d : Int} (hv : Dt.Valid y m d) (h : s.data.toList = Dt.txt y m d) (w : World) (ht : Tab w) : Calls Tryd.prog 21 #[.string s] w (TwoOut (Dt.num y m d) true w) := by
  obtain ⟨hs, h4, h7, ha, hb, hc⟩ := txt_parts h
  obtain ⟨a1, a2, a3, a4, a5, a6⟩ := Dt.valid_small hv
  have key : ∀ (k : Nat) (n : Int), 0 ≤ n → n < 10 ^ k → allD (Dt.digs n k) = true ∧ numV (Dt.digs n k) = n := fun k n h0 h1 => by
    have e : allD (Dt.digs n k) = true := Dt.digs_all k n
    exact ⟨e, by rw [← numV_yes e, Dt.val_digs k n h0 h1]⟩
  have n1 := number28 (s.extract 0 4) w (by rw [← size_list, ha, Dt.digs_length]; omega)
  have n2 := number28 (s.extract 5 7) w (by rw [← size_list, hb, Dt.digs_length]; omega)
  have n3 := number28 (s.extract 8 10) w (by rw [← size_list, hc, Dt.digs_length]; omega)
  rw [ha, (key 4 y a1 a2).1, (key 4 y a1 a2).2] at n1
  rw [hb, (key 2 m a3 a4).1, (key 2 m a3 a4).2] at n2
  rw [hc, (key 2 d a5 a6).1, (key 2 d a5 a6).2] at n3
  exact parse21_core s w hs (by rw [at_list s 4 (by omega) h4]; rfl) (by rw [at_list s 7 (by omega) h7]; rfl) y m d (Dt.num y m d) true true true true (Lib.hid n1) (Lib.hid n2) (Lib.hid n3)
    (Lib.hid fun _ => day15_yes y m d w hv ht) (Lib.hid fun h => by cases h)
theorem parse22_yes {s : ByteArray} {y m d : Int} (hv : Dt.Valid y m d) (h : s.data.toList = Dt.txt y m d) (w : World) :
    Calls Tryd.prog 22 #[.string s] w fun e w' => e = .returned (.tuple #[.int .i64 (Dt.num y m d), .bool true]) ∧ Below w.heap.size w w' := by
  obtain ⟨hs, h4, h7, ha, hb, hc⟩ := txt_parts h
  obtain ⟨a1, a2, a3, a4, a5, a6⟩ := Dt.valid_small hv
  have key : ∀ (k : Nat) (n : Int), 0 ≤ n → n < 10 ^ k → numR (Dt.digs n k) = n := fun k n h0 h1 => by
    have e : allD (Dt.digs n k) = true := Dt.digs_all k n
    rw [← numR_yes e, Dt.val_digs k n h0 h1]
  have n1 := fun w => number29 (s.extract 0 4) w (by rw [← size_list, ha, Dt.digs_length]; omega)
  have n2 := fun w => number29 (s.extract 5 7) w (by rw [← size_list, hb, Dt.digs_length]; omega)
  have n3 := fun w => number29 (s.extract 8 10) w (by rw [← size_list, hc, Dt.digs_length]; omega)
  rw [ha, key 4 y a1 a2] at n1
  rw [hb, key 2 m a3 a4] at n2
  rw [hc, key 2 d a5 a6] at n3
  exact parse22_core s w hs (by rw [at_list s 4 (by omega) h4]; rfl) (by rw [at_list s 7 (by omega) h7]; rfl) y m d (Dt.num y m d) true (Lib.hid n1) (Lib.hid n2) (Lib.hid n3)
    (Lib.hid fun w => day16_yes y m d w hv)
/-- No day has the text. -/
def NoDay (s : ByteArray) : Prop := ∀ y m d : Int, Dt.Valid y m d → s.data.toList ≠ Dt.txt y m d
theorem ext_size (s : ByteArray) (a b : Nat) (h : b ≤ a + 10) : (s.extract a b).size ≤ 10 := by
  rw [← size_list, Lib.extract_data, List.length_take]; omega
theorem numV_bd {l : List UInt8} (hl : l.length ≤ 10) : I64 (numV l) := by
  unfold numV I64
  split
  · rename_i h
    have hb := Dt.val_bd l h
    have hp := (pow_more l.length (10 - l.length)).2
    rw [show l.length + (10 - l.length) = 10 by omega] at hp
    have : (10 : Int) ^ 10 = 10000000000 := by decide
    omega
  · omega
theorem parse21_no {s : ByteArray} (hn : NoDay s) (w : World) (ht : Tab w) : Calls Tryd.prog 21 #[.string s] w (TwoOut 0 false w) := by
  by_cases hs : s.size = 10
  · by_cases h : ((s[4]'(by omega)).toNat : Int) = 45 ∧ ((s[7]'(by omega)).toNat : Int) = 45
    · have e4 : s.data.toList[4]? = some 45 := by
        rw [List.getElem?_eq_getElem (by rw [size_list]; omega)]
        exact congrArg some (UInt8.toNat_inj.1 (by have := h.1; show (s[4]'(by omega)).toNat = 45; omega))
      have e7 : s.data.toList[7]? = some 45 := by
        rw [List.getElem?_eq_getElem (by rw [size_list]; omega)]
        exact congrArg some (UInt8.toNat_inj.1 (by have := h.2; show (s[7]'(by omega)).toNat = 45; omega))
      refine parse21_core s w hs h.1 h.2 _ _ _ 0 _ _ _ false (Lib.hid (number28 (s.extract 0 4) w (ext_size _ _ _ (by omega)))) (Lib.hid (number28 (s.extract 5 7) w (ext_size _ _ _ (by omega)))) (Lib.hid (number28 (s.extract 8 10) w (ext_size _ _ _ (by omega))))
        (Lib.hid fun hall => ?_) (Lib.hid fun _ => ⟨rfl, rfl⟩)
      simp only [Bool.and_eq_true] at hall
      obtain ⟨⟨ha, hb⟩, hc⟩ := hall
      refine day15_no _ _ _ w (numV_bd (by rw [size_list]; exact ext_size _ _ _ (by omega))) (fun hv => ?_) ht
      have e := parts_txt hs e4 e7 ha hb hc
      rw [numV_yes ha, numV_yes hb, numV_yes hc] at e
      exact hn _ _ _ hv e
    · exact parse21_sign s w hs (by omega)
  · exact parse21_short s w (by rw [bne_iff_ne]; omega)
theorem parse22_no {s : ByteArray} (hn : NoDay s) (w : World) :
    Calls Tryd.prog 22 #[.string s] w fun e w' => e = .returned (.tuple #[.int .i64 0, .bool false]) ∧ Below w.heap.size w w' := by
  by_cases hs : s.size = 10
  · by_cases h : ((s[4]'(by omega)).toNat : Int) = 45 ∧ ((s[7]'(by omega)).toNat : Int) = 45
    · have e4 : s.data.toList[4]? = some 45 := by
        rw [List.getElem?_eq_getElem (by rw [size_list]; omega)]
        exact congrArg some (UInt8.toNat_inj.1 (by have := h.1; show (s[4]'(by omega)).toNat = 45; omega))
      have e7 : s.data.toList[7]? = some 45 := by
        rw [List.getElem?_eq_getElem (by rw [size_list]; omega)]
        exact congrArg some (UInt8.toNat_inj.1 (by have := h.2; show (s[7]'(by omega)).toNat = 45; omega))
      refine parse22_core s w hs h.1 h.2 _ _ _ 0 false (Lib.hid fun w => number29 (s.extract 0 4) w (ext_size _ _ _ (by omega))) (Lib.hid fun w => number29 (s.extract 5 7) w (ext_size _ _ _ (by omega))) (Lib.hid fun w => number29 (s.extract 8 10) w (ext_size _ _ _ (by omega)))
        (Lib.hid fun w => ?_)
      have hr : ∀ l : List UInt8, l.length ≤ 10 → I64 (numR l) := fun l hl => by
        by_cases ha : allD l = true
        · rw [← numR_yes ha, numV_yes ha]; exact numV_bd hl
        · rw [← numR_no (by simpa using ha)]; exact ⟨by omega, by omega⟩
      refine day16_no _ _ _ w (hr _ (by rw [size_list]; exact ext_size _ _ _ (by omega))) (fun hv => ?_)
      have ha : allD (s.extract 0 4).data.toList = true := by
        by_cases h : allD (s.extract 0 4).data.toList = true
        · exact h
        · have := numR_no (l := (s.extract 0 4).data.toList) (by simpa using h)
          have := hv.1; omega
      have hb : allD (s.extract 5 7).data.toList = true := by
        by_cases h : allD (s.extract 5 7).data.toList = true
        · exact h
        · have := numR_no (l := (s.extract 5 7).data.toList) (by simpa using h)
          have := hv.2.2.1; omega
      have hc : allD (s.extract 8 10).data.toList = true := by
        by_cases h : allD (s.extract 8 10).data.toList = true
        · exact h
        · have := numR_no (l := (s.extract 8 10).data.toList) (by simpa using h)
          have := hv.2.2.2.2.1; omega
      have e := parts_txt hs e4 e7 ha hb hc
      rw [numR_yes ha, numR_yes hb, numR_yes hc] at e
      exact hn _ _ _ hv e
    · exact (parse22_sign s w hs (by omega)).mono fun e w' ⟨he, hw⟩ => ⟨he, hw ▸ Below.refl _ _⟩
  · exact (parse22_short s w (by rw [bne_iff_ne]; omega)).mono fun e w' ⟨he, hw⟩ => ⟨he, hw ▸ Below.refl _ _⟩
end Go.Proofs.YtjdfdkanojjebaaDoor
