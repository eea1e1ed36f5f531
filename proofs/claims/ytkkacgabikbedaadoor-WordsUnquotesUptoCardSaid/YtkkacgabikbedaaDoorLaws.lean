/-
  The walks of the ten laws about words: each returns true, for arguments that hold together at most 1048576 values and letters.
-/
import Derived.Test.YtkkacgabikbedaaDoorAwake
namespace Go.Proofs.YtkkacgabikbedaaDoor
open Go.RowKit Go.PlainAid

abbrev True_ (w : World) : Ending → World → Prop := fun e w' => e = .returned (.bool true) ∧ Below w.heap.size w w'
theorem beq_self (l : List UInt8) : (l == l) = true := by simp
theorem uq_quote (l : List UInt8) : uqS (Wd.quote l) = l ∧ uqB (Wd.quote l) = true := by
  unfold uqS uqB
  rw [Wd.unquote_quote]
  exact ⟨rfl, rfl⟩
theorem law3 (l : List UInt8) (hl : l.length ≤ 1048576) (w : World) (hm : Mx w) : Calls Tryd.prog 3 #[.string ⟨l.toArray⟩] w (True_ w) := by
  have HM := Lib.hid hm
  clear hm
  go_enter Tryd.func3, Tryd.ntmps3
  go_wp2_with fail
  refine (quoteL l _ (by omega)).mono ?_
  rintro e w1 ⟨rfl, hb1⟩
  go_wp2_with fail
  refine (quoteRL l _ (by omega)).mono ?_
  rintro e w2 ⟨rfl, hb2⟩
  have k2 := hb1.trans (hb2.mono hb1.size)
  clear hb1 hb2
  go_wp2_with fail
  refine (awake15 _ (HM.out.keep k2)).mono ?_
  rintro e w3 ⟨rfl, hb3⟩
  go_wp2_with fail
  go_ret
  exact ⟨rfl, k2.trans (hb3.mono k2.size)⟩
theorem law4 (l : List UInt8) (hl : l.length ≤ 1048576) (w : World) (hm : Mx w) : Calls Tryd.prog 4 #[.string ⟨l.toArray⟩] w (True_ w) := by
  have HM := Lib.hid hm
  clear hm
  have hbb : (uqB l == uqB l) = true := by simp
  go_enter Tryd.func4, Tryd.ntmps4
  go_wp2_with fail
  refine (unquoteL l _ (by omega)).mono ?_
  rintro e w1 ⟨rfl, hb1⟩
  go_wp2_with fail
  refine (unquoteRL ⟨l.toArray⟩ _ (by rw [str_size]; omega)).mono ?_
  rintro e w2 ⟨rfl, hb2⟩
  have k2 := hb1.trans (hb2.mono hb1.size)
  clear hb1 hb2
  go_wp2_with fail
  refine (awake15 _ (HM.out.keep k2)).mono ?_
  rintro e w3 ⟨rfl, hb3⟩
  go_wp2_with fail
  go_ret
  exact ⟨rfl, k2.trans (hb3.mono k2.size)⟩
theorem clean_quote (l : List UInt8) : CleanTo ⟨(Wd.quote l).toArray⟩ (⟨(Wd.quote l).toArray⟩ : ByteArray).size := by
  intro j hj
  have hx := byte_some _ hj
  obtain ⟨c, hc, hb⟩ := hx
  rw [str_data] at hc
  have := Wd.quote_clean (List.mem_of_getElem? hc)
  rw [hb]
  exact ⟨fun e => this.1 (UInt8.toNat_inj.1 (by show c.toNat = 32; omega)), fun e => this.2 (UInt8.toNat_inj.1 (by show c.toNat = 10; omega))⟩
theorem quote_ne (l : List UInt8) : (⟨(Wd.quote l).toArray⟩ : ByteArray).toList.isEmpty = false := by
  rw [empty_iff, str_data]
  simpa using Wd.quote_some l
set_option maxHeartbeats 1600000 in
theorem law5 (l : List UInt8) (hl : l.length ≤ 1048576) (w : World) (hm : Mx w) : Calls Tryd.prog 5 #[.string ⟨l.toArray⟩] w (True_ w) := by
  have HM := Lib.hid hm
  clear hm
  have hq := Wd.quote_len l
  have HU := Lib.hid (fun w => unquoteL (Wd.quote l) w (by omega))
  rw [(uq_quote l).1, (uq_quote l).2] at HU
  have HC := Lib.hid (fun w => clean18 ⟨(Wd.quote l).toArray⟩ w (by rw [str_size]; omega) (clean_quote l) (quote_ne l))
  cases hu : uqB l
  · have hs : uqS l = [] := by unfold uqS; rw [uqB_false hu]; rfl
    have HV := Lib.hid (fun w => unquoteL l w (by omega))
    rw [hu, hs] at HV
    clear hu hs hq
    go_enter Tryd.func5, Tryd.ntmps5
    go_wp2_with fail
    refine (quoteL l _ (by omega)).mono ?_
    rintro e w1 ⟨rfl, hb1⟩
    go_wp2_with fail
    refine (HU.out _).mono ?_
    rintro e w2 ⟨rfl, hb2⟩
    have k2 := hb1.trans (hb2.mono hb1.size)
    clear hb1 hb2
    go_wp2_with fail
    refine (HC.out _).mono ?_
    rintro e w' ⟨rfl, rfl⟩
    go_wp2_with fail
    refine (HV.out _).mono ?_
    rintro e w3 ⟨rfl, hb3⟩
    have k3 := k2.trans (hb3.mono k2.size)
    clear k2 hb3
    go_wp2_with fail
    refine (awake15 _ (HM.out.keep k3)).mono ?_
    rintro e w4 ⟨rfl, hb4⟩
    go_wp2_with fail
    go_ret
    exact ⟨rfl, k3.trans (hb4.mono k3.size)⟩
  · have hs := Wd.quote_unquote (uqB_true hu)
    have hlen : (uqS l).length ≤ 1048576 := by
      have h1 := uqB_true hu
      unfold Wd.unquote at h1
      split at h1
      · injection h1 with h1; rw [← h1]; simp
      · split at h1
        · cases h1
        · have := Wd.unq_len _ _ _ (Nat.le_refl _) h1; omega
    have HV := Lib.hid (fun w => unquoteL l w (by omega))
    have HW := Lib.hid (fun w => quoteL (uqS l) w (by omega))
    rw [hu] at HV
    rw [hs] at HW
    generalize uqS l = u at *
    clear hu hs hq
    go_enter Tryd.func5, Tryd.ntmps5
    go_wp2_with fail
    refine (quoteL l _ (by omega)).mono ?_
    rintro e w1 ⟨rfl, hb1⟩
    go_wp2_with fail
    refine (HU.out _).mono ?_
    rintro e w2 ⟨rfl, hb2⟩
    have k2 := hb1.trans (hb2.mono hb1.size)
    clear hb1 hb2
    go_wp2_with fail
    refine (HC.out _).mono ?_
    rintro e w' ⟨rfl, rfl⟩
    go_wp2_with fail
    refine (HV.out _).mono ?_
    rintro e w3 ⟨rfl, hb3⟩
    have k3 := k2.trans (hb3.mono k2.size)
    clear k2 hb3
    go_wp2_with fail
    refine (HW.out _).mono ?_
    rintro e w4 ⟨rfl, hb4⟩
    have k4 := k3.trans (hb4.mono k3.size)
    clear k3 hb4
    go_wp2_with fail
    refine (awake15 _ (HM.out.keep k4)).mono ?_
    rintro e w5 ⟨rfl, hb5⟩
    go_wp2_with fail
    go_ret
    exact ⟨rfl, k4.trans (hb5.mono k4.size)⟩
theorem law6 (a b : List UInt8) (ha : a.length ≤ 1048576) (hb : b.length ≤ 1048576) (w : World) (hm : Mx w) : Calls Tryd.prog 6 #[.string ⟨a.toArray⟩, .string ⟨b.toArray⟩] w (True_ w) := by
  have HM := Lib.hid hm
  clear hm
  have hab : ((Wd.quote a == Wd.quote b) == (a == b)) = true := by
    rw [beq_iff_eq, Bool.eq_iff_iff, beq_iff_eq, beq_iff_eq]
    exact ⟨Wd.quote_inj, fun h => by rw [h]⟩
  go_enter Tryd.func6, Tryd.ntmps6
  go_wp2_with fail
  refine (quoteL a _ (by omega)).mono ?_
  rintro e w1 ⟨rfl, hb1⟩
  go_wp2_with fail
  refine (quoteL b _ (by omega)).mono ?_
  rintro e w2 ⟨rfl, hb2⟩
  have k2 := hb1.trans (hb2.mono hb1.size)
  clear hb1 hb2
  go_wp2_with fail
  refine (awake15 _ (HM.out.keep k2)).mono ?_
  rintro e w3 ⟨rfl, hb3⟩
  go_wp2_with fail
  go_ret
  exact ⟨rfl, k2.trans (hb3.mono k2.size)⟩

/-- A row of the call's own is a slice that reads as its list. -/
theorem lst_of {w : World} {base : Nat} {v : Value} {xs : List (List UInt8)} (h : w.ownsRow base 9 1 v xs.length (SS xs)) : ∃ A cap, v = .slice A xs.length cap ∧ Reads w w.heap.size 1 A xs.length (SS xs) := by
  have hf : ∃ A cap, v = .slice A xs.length cap := by
    rcases h.2 with ⟨hv, h0⟩ | ⟨g, cap, cur, hv, _⟩
    · exact ⟨none, 0, by rw [hv, h0]⟩
    · exact ⟨_, _, hv⟩
  obtain ⟨A, cap, rfl⟩ := hf
  exact ⟨A, cap, rfl, Reads.of_own h⟩
theorem law7 (A : Option Addr) (cap : Nat) (xs : List (List UInt8)) (w : World) (hr : Reads w w.heap.size 1 A xs.length (SS xs)) (ht : tot xs ≤ 1048576) (hm : Mx w) : Calls Tryd.prog 7 #[.slice A xs.length cap] w (True_ w) := by
  have HM := Lib.hid hm
  have HR := Lib.hid hr
  clear hm hr
  go_enter Tryd.func7, Tryd.ntmps7
  go_wp2_with fail
  refine (copied20 A cap xs _ HR.out (by omega)).mono ?_
  rintro e w1 ⟨v, rfl, ho, hb1⟩
  obtain ⟨A1, c1, rfl, hr1⟩ := lst_of ho
  have HR1 := Lib.hid hr1
  clear hr1 ho
  go_wp2_with fail
  refine (join19 A1 c1 xs _ HR1.out (by omega)).mono ?_
  rintro e w2 ⟨rfl, hb2⟩
  have k2 := hb1.trans (hb2.mono hb1.size)
  clear hb1 hb2
  go_wp2_with fail
  refine (join21 A cap xs _ ((HR.out.below k2).more k2.size) (by omega)).mono ?_
  rintro e w3 ⟨rfl, hb3⟩
  have k3 := k2.trans (hb3.mono k2.size)
  clear hb3 k2
  go_wp2_with fail
  refine (awake15 _ (HM.out.keep k3)).mono ?_
  rintro e w4 ⟨rfl, hb4⟩
  go_wp2_with fail
  go_ret
  exact ⟨rfl, k3.trans (hb4.mono k3.size)⟩
theorem law11 (A : Option Addr) (cap : Nat) (xs : List (List UInt8)) (w : World) (hr : Reads w w.heap.size 1 A xs.length (SS xs)) (ht : tot xs ≤ 1048576) (hm : Mx w) : Calls Tryd.prog 11 #[.slice A xs.length cap] w (True_ w) := by
  have HM := Lib.hid hm
  have HR := Lib.hid hr
  clear hm hr
  go_enter Tryd.func11, Tryd.ntmps11
  go_wp2_with fail
  refine (copied20 A cap xs _ HR.out (by omega)).mono ?_
  rintro e w1 ⟨v, rfl, ho, hb1⟩
  obtain ⟨A1, c1, rfl, hr1⟩ := lst_of ho
  have HR1 := Lib.hid hr1
  clear hr1 ho
  go_wp2_with fail
  refine (text27 A1 c1 xs _ HR1.out (by omega)).mono ?_
  rintro e w2 ⟨rfl, hb2⟩
  have k2 := hb1.trans (hb2.mono hb1.size)
  clear hb1 hb2
  go_wp2_with fail
  refine (text28 A cap xs _ ((HR.out.below k2).more k2.size) (by omega)).mono ?_
  rintro e w3 ⟨rfl, hb3⟩
  have k3 := k2.trans (hb3.mono k2.size)
  clear hb3 k2
  go_wp2_with fail
  refine (awake15 _ (HM.out.keep k3)).mono ?_
  rintro e w4 ⟨rfl, hb4⟩
  go_wp2_with fail
  go_ret
  exact ⟨rfl, k3.trans (hb4.mono k3.size)⟩
theorem unqs_tot : ∀ {q o : List (List UInt8)}, Wd.unqs q = some o → tot o ≤ tot q
  | [], o, h => by simp [Wd.unqs] at h; subst h; exact Nat.le_refl _
  | p :: q, o, h => by
    rw [Wd.unqs] at h
    cases hp : Wd.unquote p with
    | none => rw [hp] at h; cases h
    | some x =>
      rw [hp] at h
      simp only [Option.map_eq_some_iff] at h
      obtain ⟨o', ho, rfl⟩ := h
      have ih := unqs_tot ho
      have hx : x.length ≤ p.length := by
        unfold Wd.unquote at hp
        split at hp
        · injection hp with hp; rw [← hp]; simp
        · split at hp
          · cases hp
          · exact Wd.unq_len _ _ _ (Nat.le_refl _) hp
      simp only [tot, List.map_cons, List.sum_cons] at *
      omega
theorem split_tot (l : List UInt8) : tot ((Wd.splitL l).getD []) ≤ l.length + 1 := by
  unfold Wd.splitL
  split
  · simp [tot]
  · cases h : Wd.unqs (Wd.pieces 32 l) with
    | none => simp [tot]
    | some o => have := unqs_tot h; rw [ps_bd] at this; exact this
theorem lines_tot (l : List UInt8) : tot ((Wd.linesL l).getD []) ≤ l.length + 1 := by
  cases h : Wd.linesL l with
  | none => simp [tot]
  | some o =>
    have := Wd.text_lines h
    show tot o ≤ _
    rw [← textL_len, this]; omega
theorem law8 (l : List UInt8) (hl : l.length ≤ 1048576) (w : World) (hm : Mx w) : Calls Tryd.prog 8 #[.string ⟨l.toArray⟩] w (True_ w) := by
  have HM := Lib.hid hm
  clear hm
  have HA := Lib.hid (fun w hm => split22 ⟨l.toArray⟩ w (by rw [str_size]; omega) hm)
  have HB := Lib.hid (fun w => split23 ⟨l.toArray⟩ w (by rw [str_size]; omega))
  rw [str_data] at HA HB
  have ht := split_tot l
  generalize Wd.splitL l = o at *
  have hbb : (o.isSome == o.isSome) = true := by simp
  have htl := tot_len (o.getD [])
  have hxx : (o.getD [] == o.getD []) = true := by simp
  go_enter Tryd.func8, Tryd.ntmps8
  go_wp2_with fail
  refine (HA.out _ HM.out).mono ?_
  rintro e w1 ⟨v, rfl, ho, hb1⟩
  have O1 := Lib.hid ho
  clear ho
  go_wp2_with fail
  refine (HB.out _).mono ?_
  rintro e w2 ⟨v2, rfl, ho2, hb2⟩
  obtain ⟨A1, c1, rfl, hr1⟩ := lst_of (own_below O1.out hb2)
  obtain ⟨A2, c2, rfl, hr2⟩ := lst_of ho2
  have HR1 := Lib.hid hr1
  have HR2 := Lib.hid hr2
  clear hr1 hr2 ho2 O1
  have k2 := hb1.trans (hb2.mono hb1.size)
  clear hb1 hb2
  go_wp2_with fail
  refine (same24 A1 A2 c1 c2 (o.getD []) (o.getD []) _ (by omega) HR1.out HR2.out).mono ?_
  rintro e w3 ⟨rfl, hb3⟩
  rw [hxx]
  have k3 := k2.trans (hb3.mono k2.size)
  clear hb3 k2
  go_wp2_with fail
  refine (awake15 _ (HM.out.keep k3)).mono ?_
  rintro e w4 ⟨rfl, hb4⟩
  go_wp2_with fail
  go_ret
  exact ⟨rfl, k3.trans (hb4.mono k3.size)⟩
theorem law10 (l : List UInt8) (hl : l.length ≤ 1048576) (w : World) (hm : Mx w) : Calls Tryd.prog 10 #[.string ⟨l.toArray⟩] w (True_ w) := by
  have HM := Lib.hid hm
  clear hm
  have HA := Lib.hid (fun w hm => lines25 ⟨l.toArray⟩ w (by rw [str_size]; omega) hm)
  have HB := Lib.hid (fun w => lines26 ⟨l.toArray⟩ w (by rw [str_size]; omega))
  rw [str_data] at HA HB
  have ht := lines_tot l
  generalize Wd.linesL l = o at *
  have hbb : (o.isSome == o.isSome) = true := by simp
  have htl := tot_len (o.getD [])
  have hxx : (o.getD [] == o.getD []) = true := by simp
  go_enter Tryd.func10, Tryd.ntmps10
  go_wp2_with fail
  refine (HA.out _ HM.out).mono ?_
  rintro e w1 ⟨v, rfl, ho, hb1⟩
  have O1 := Lib.hid ho
  clear ho
  go_wp2_with fail
  refine (HB.out _).mono ?_
  rintro e w2 ⟨v2, rfl, ho2, hb2⟩
  obtain ⟨A1, c1, rfl, hr1⟩ := lst_of (own_below O1.out hb2)
  obtain ⟨A2, c2, rfl, hr2⟩ := lst_of ho2
  have HR1 := Lib.hid hr1
  have HR2 := Lib.hid hr2
  clear hr1 hr2 ho2 O1
  have k2 := hb1.trans (hb2.mono hb1.size)
  clear hb1 hb2
  go_wp2_with fail
  refine (same24 A1 A2 c1 c2 (o.getD []) (o.getD []) _ (by omega) HR1.out HR2.out).mono ?_
  rintro e w3 ⟨rfl, hb3⟩
  rw [hxx]
  have k3 := k2.trans (hb3.mono k2.size)
  clear hb3 k2
  go_wp2_with fail
  refine (awake15 _ (HM.out.keep k3)).mono ?_
  rintro e w4 ⟨rfl, hb4⟩
  go_wp2_with fail
  go_ret
  exact ⟨rfl, k3.trans (hb4.mono k3.size)⟩
end Go.Proofs.YtkkacgabikbedaaDoor
