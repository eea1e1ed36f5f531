/-
  The walks of the laws WordsRejoins and WordsReads: each returns true, for arguments that hold together at most 1048576 values and letters.
-/
import Derived.Test.YtkkacgabikbedaaDoorLaws
namespace Go.Proofs.YtkkacgabikbedaaDoor
open Go.RowKit Go.PlainAid

set_option maxHeartbeats 1600000 in
theorem law9 (A : Option Addr) (cap : Nat) (xs : List (List UInt8)) (l : List UInt8) (w : World) (hr : Reads w w.heap.size 1 A xs.length (SS xs)) (ht : tot xs ≤ 1048576) (hl : l.length ≤ 1048576) (hm : Mx w) : Calls Tryd.prog 9 #[.slice A xs.length cap, .string ⟨l.toArray⟩] w (True_ w) := by
  have HM := Lib.hid hm
  have HR := Lib.hid hr
  clear hm hr
  have hjl := joinL_len xs
  have hxl := tot_len xs
  have HA := Lib.hid (fun w hm => split22 ⟨(Wd.joinL xs).toArray⟩ w (by rw [str_size]; omega) hm)
  rw [str_data, Wd.split_join] at HA
  have HB := Lib.hid (fun w hm => split22 ⟨l.toArray⟩ w (by rw [str_size]; omega) hm)
  rw [str_data] at HB
  have hxx : (xs == xs) = true := by simp
  have hst := split_tot l
  cases ho : Wd.splitL l with
  | none =>
    rw [ho] at HB
    clear ho hst
    go_enter Tryd.func9, Tryd.ntmps9
    go_wp2_with fail
    refine (copied20 A cap xs _ HR.out (by omega)).mono ?_
    rintro e w1 ⟨v, rfl, ho, hb1⟩
    obtain ⟨A1, c1, rfl, hr1⟩ := lst_of ho
    have HR1 := Lib.hid hr1
    clear hr1 ho
    go_wp2_with fail
    refine (join19 A1 c1 xs _ HR1.out (by omega)).mono ?_
    rintro e w2 ⟨rfl, hb2⟩
    have k2 := hb1.trans (hb2.mono hb1.size)
    clear hb1 hb2
    go_wp2_with fail
    refine (HA.out _ (HM.out.keep k2)).mono ?_
    rintro e w3 ⟨v3, rfl, ho3, hb3⟩
    obtain ⟨A3, c3, rfl, hr3⟩ := lst_of (xs := xs) ho3
    have HR3 := Lib.hid hr3
    clear hr3 ho3
    have k3 := k2.trans (hb3.mono k2.size)
    clear k2 hb3
    go_wp2_with fail
    refine (same24 A3 A c3 cap xs xs _ (by omega) HR3.out ((HR.out.below k3).more k3.size)).mono ?_
    rintro e w4 ⟨rfl, hb4⟩
    rw [hxx]
    have k4 := k3.trans (hb4.mono k3.size)
    clear k3 hb4
    go_wp2_with fail
    refine (HB.out _ (HM.out.keep k4)).mono ?_
    rintro e w5 ⟨v5, rfl, ho5, hb5⟩
    obtain ⟨A5, c5, rfl, hr5⟩ := lst_of (xs := []) ho5
    clear hr5 ho5
    have k5 := k4.trans (hb5.mono k4.size)
    clear k4 hb5
    go_wp2_with fail
    refine (awake15 _ (HM.out.keep k5)).mono ?_
    rintro e w6 ⟨rfl, hb6⟩
    go_wp2_with fail
    go_ret
    exact ⟨rfl, k5.trans (hb6.mono k5.size)⟩
  | some q =>
    rw [ho] at HB hst
    have hjq := Wd.join_split ho
    have hq : tot q ≤ 1048577 := by have : tot q ≤ l.length + 1 := hst; omega
    clear ho hst
    have HJ := Lib.hid (fun A5 c5 w hr => join19 A5 c5 q w hr (by omega))
    rw [hjq] at HJ
    clear hjq
    go_enter Tryd.func9, Tryd.ntmps9
    go_wp2_with fail
    refine (copied20 A cap xs _ HR.out (by omega)).mono ?_
    rintro e w1 ⟨v, rfl, ho, hb1⟩
    obtain ⟨A1, c1, rfl, hr1⟩ := lst_of ho
    have HR1 := Lib.hid hr1
    clear hr1 ho
    go_wp2_with fail
    refine (join19 A1 c1 xs _ HR1.out (by omega)).mono ?_
    rintro e w2 ⟨rfl, hb2⟩
    have k2 := hb1.trans (hb2.mono hb1.size)
    clear hb1 hb2
    go_wp2_with fail
    refine (HA.out _ (HM.out.keep k2)).mono ?_
    rintro e w3 ⟨v3, rfl, ho3, hb3⟩
    obtain ⟨A3, c3, rfl, hr3⟩ := lst_of (xs := xs) ho3
    have HR3 := Lib.hid hr3
    clear hr3 ho3
    have k3 := k2.trans (hb3.mono k2.size)
    clear k2 hb3
    go_wp2_with fail
    refine (same24 A3 A c3 cap xs xs _ (by omega) HR3.out ((HR.out.below k3).more k3.size)).mono ?_
    rintro e w4 ⟨rfl, hb4⟩
    rw [hxx]
    have k4 := k3.trans (hb4.mono k3.size)
    clear k3 hb4
    go_wp2_with fail
    refine (HB.out _ (HM.out.keep k4)).mono ?_
    rintro e w5 ⟨v5, rfl, ho5, hb5⟩
    obtain ⟨A5, c5, rfl, hr5⟩ := lst_of (xs := q) ho5
    have HR5 := Lib.hid hr5
    clear hr5 ho5
    have k5 := k4.trans (hb5.mono k4.size)
    clear k4 hb5
    go_wp2_with fail
    refine (HJ.out A5 c5 _ HR5.out).mono ?_
    rintro e w6 ⟨rfl, hb6⟩
    have k6 := k5.trans (hb6.mono k5.size)
    clear k5 hb6
    go_wp2_with fail
    refine (awake15 _ (HM.out.keep k6)).mono ?_
    rintro e w7 ⟨rfl, hb7⟩
    go_wp2_with fail
    go_ret
    exact ⟨rfl, k6.trans (hb7.mono k6.size)⟩

/-! WordsReads. -/
/-- No line feed in the first k strings. -/
def NoLf (xs : List (List UInt8)) (k : Nat) : Prop := ∀ j p, j < k → xs[j]? = some p → ∀ x ∈ p, x ≠ 10
def NoLfIn (p : List UInt8) (j : Nat) : Prop := ∀ i, i < j → bt ⟨p.toArray⟩ i ≠ 10
theorem NoLfIn.all {p : List UInt8} (h : NoLfIn p p.length) : ∀ x ∈ p, x ≠ 10 := by
  intro x hx e
  subst e
  obtain ⟨i, hi, he⟩ := List.mem_iff_getElem.1 hx
  have hs : i < (⟨p.toArray⟩ : ByteArray).size := by rw [str_size]; exact hi
  refine h i hi ?_
  obtain ⟨c, hc, hb⟩ := byte_some _ hs
  rw [str_data, List.getElem?_eq_getElem hi, he] at hc
  rw [hb, ← Option.some.inj hc]; rfl
theorem NoLf.succ {xs : List (List UInt8)} {k : Nat} {p : List UInt8} (h : NoLf xs k) (hp : xs[k]? = some p) (hq : ∀ x ∈ p, x ≠ 10) : NoLf xs (k + 1) := fun j q hj hqj => by
  by_cases e : j = k
  · subst e
    rw [hp] at hqj
    rw [← Option.some.inj hqj]
    exact hq
  · exact h j q (by omega) hqj
theorem NoLf.all {xs : List (List UInt8)} (h : NoLf xs xs.length) : ∀ p ∈ xs, ∀ x ∈ p, x ≠ 10 := by
  intro p hp
  obtain ⟨i, hi, he⟩ := List.mem_iff_getElem.1 hp
  exact h i p hi (by rw [List.getElem?_eq_getElem hi, he])
set_option maxHeartbeats 3200000 in
theorem law12_none (A : Option Addr) (cap : Nat) (xs : List (List UInt8)) (l : List UInt8) (w : World) (hr : Reads w w.heap.size 1 A xs.length (SS xs)) (ht : tot xs ≤ 1048576) (hl : l.length ≤ 1048576) (hm : Mx w) (ho : Wd.linesL l = none) : Calls Tryd.prog 12 #[.slice A xs.length cap, .string ⟨l.toArray⟩] w (True_ w) := by
  have HM := Lib.hid hm
  have HR := Lib.hid hr
  clear hm hr
  have hxl := tot_len xs
  have HB := Lib.hid (fun w hm => lines25 ⟨l.toArray⟩ w (by rw [str_size]; omega) hm)
  rw [str_data, ho] at HB
  clear ho
  have hxx : (xs == xs) = true := by simp
  go_enter Tryd.func12, Tryd.ntmps12
  go_wp2_with fail
  refine (HB.out _ HM.out).mono ?_
  rintro e w1 ⟨v1, rfl, ho1, hb1⟩
  obtain ⟨A1, c1, rfl, hr1⟩ := lst_of (xs := []) ho1
  clear hr1 ho1
  have HR1 := Lib.hid ((HR.out.below hb1).more hb1.size)
  go_wp2_with fail
  go_loop [7] (fun i => ∃ k : Nat, k ≤ xs.length ∧ i = .int .i64 k ∧ NoLf xs k) (fun i => xs.length - (intOf i).toNat)
  case atStart => exact ⟨0, Nat.zero_le _, rfl, fun j p hj => by omega⟩
  case round =>
    obtain ⟨k, hk, rfl, hN⟩ := hrel
    have HN := Lib.hid hN
    clear hN
    by_cases hlt : k < xs.length
    · obtain ⟨ad, u, rfl, hbl, hx, hc⟩ := HR1.out.at_ hlt
      obtain ⟨p, hp, rfl⟩ := SS_at hx
      have hpl := tot_mem (List.mem_of_getElem? hp)
      have HP := Lib.hid hp
      have hbt := get_bt ⟨p.toArray⟩
      have hsz : (⟨p.toArray⟩ : ByteArray).size = p.length := str_size p
      clear hx hp
      go_wp2_with fail
      go_loop [8] (fun i => ∃ j : Nat, j ≤ p.length ∧ i = .int .i64 j ∧ NoLfIn p j) (fun i => p.length - (intOf i).toNat)
      case atStart => exact ⟨0, Nat.zero_le _, rfl, fun i hi => by omega⟩
      case round =>
        obtain ⟨j, hj, rfl, hI⟩ := hrel
        have HI := Lib.hid hI
        clear hI
        by_cases hjl : j < p.length
        · by_cases h10 : bt ⟨p.toArray⟩ j = 10
          · have hq : (bt ⟨p.toArray⟩ j == 10) = true := by simpa using h10
            clear h10
            go_wp2_with fail
            refine (awake15 _ (HM.out.keep hb1)).mono ?_
            rintro e w9 ⟨rfl, hb9⟩
            go_wp2_with fail
            go_ret
            exact ⟨rfl, hb1.trans (hb9.mono hb1.size)⟩
          · have hq : (bt ⟨p.toArray⟩ j == 10) = false := by simpa using h10
            have H10 := Lib.hid h10
            clear h10
            go_wp2_with fail
            go_round
            case rel => exact ⟨j + 1, by omega, by go_num, fun i hi => by by_cases e : i = j; (subst e; exact H10.out); exact HI.out i (by omega)⟩
            case measure => simp [intOf]; omega
        · have hall := Lib.hid (NoLfIn.all (p := p) (by have := HI.out; rw [show p.length = j by omega]; exact this))
          go_wp2_with fail
          go_round
          case rel => exact ⟨k + 1, by omega, by go_num, HN.out.succ HP.out hall.out⟩
          case measure => simp [intOf]; omega
    · have hall := Lib.hid (Wd.lines_text (NoLf.all (xs := xs) (by have := HN.out; rw [show xs.length = k by omega]; exact this)))
      have hxt := textL_len xs
      have HL := Lib.hid (fun w hm => lines25 ⟨(Wd.textL xs).toArray⟩ w (by rw [str_size]; omega) hm)
      rw [str_data, hall.out] at HL
      clear hxt
      go_wp2_with fail
      refine (copied20 A cap xs _ HR1.out (by omega)).mono ?_
      rintro e w5 ⟨v5, rfl, ho5, hb5⟩
      obtain ⟨A5, c5, rfl, hr5⟩ := lst_of ho5
      have HR5 := Lib.hid hr5
      clear hr5 ho5
      have k5 := hb1.trans (hb5.mono hb1.size)
      clear hb5
      go_wp2_with fail
      refine (text27 A5 c5 xs _ HR5.out (by omega)).mono ?_
      rintro e w6 ⟨rfl, hb6⟩
      have k6 := k5.trans (hb6.mono k5.size)
      clear hb6 k5
      go_wp2_with fail
      refine (HL.out _ (HM.out.keep k6)).mono ?_
      rintro e w7 ⟨v7, rfl, ho7, hb7⟩
      obtain ⟨A7, c7, rfl, hr7⟩ := lst_of (xs := xs) ho7
      have HR7 := Lib.hid hr7
      clear hr7 ho7
      have k7 := k6.trans (hb7.mono k6.size)
      clear hb7 k6
      go_wp2_with fail
      refine (same24 A7 A c7 cap xs xs _ (by omega) HR7.out ((HR.out.below k7).more k7.size)).mono ?_
      rintro e w8 ⟨rfl, hb8⟩
      rw [hxx]
      have k8 := k7.trans (hb8.mono k7.size)
      clear hb8 k7
      go_wp2_with fail
      refine (awake15 _ (HM.out.keep k8)).mono ?_
      rintro e w9 ⟨rfl, hb9⟩
      go_wp2_with fail
      go_ret
      exact ⟨rfl, k8.trans (hb9.mono k8.size)⟩
set_option maxHeartbeats 3200000 in
theorem law12_some (A : Option Addr) (cap : Nat) (xs : List (List UInt8)) (l : List UInt8) (w : World) (hr : Reads w w.heap.size 1 A xs.length (SS xs)) (ht : tot xs ≤ 1048576) (hl : l.length ≤ 1048576) (hm : Mx w) (q : List (List UInt8)) (ho : Wd.linesL l = some q) : Calls Tryd.prog 12 #[.slice A xs.length cap, .string ⟨l.toArray⟩] w (True_ w) := by
  have HM := Lib.hid hm
  have HR := Lib.hid hr
  clear hm hr
  have hxl := tot_len xs
  have HB := Lib.hid (fun w hm => lines25 ⟨l.toArray⟩ w (by rw [str_size]; omega) hm)
  rw [str_data, ho] at HB
  have hst := lines_tot l
  rw [ho] at hst
  have hq : tot q ≤ 1048577 := by have : tot q ≤ l.length + 1 := hst; omega
  have hjq := Wd.text_lines ho
  have HJ := Lib.hid (fun A5 c5 w hr => text27 A5 c5 q w hr (by omega))
  rw [hjq] at HJ
  clear ho hst hjq
  have hxx : (xs == xs) = true := by simp
  go_enter Tryd.func12, Tryd.ntmps12
  go_wp2_with fail
  refine (HB.out _ HM.out).mono ?_
  rintro e w1 ⟨v1, rfl, ho1, hb1⟩
  obtain ⟨A1, c1, rfl, hr1⟩ := lst_of (xs := q) ho1
  have HR0 := Lib.hid hr1
  clear hr1 ho1
  go_wp2_with fail
  refine (HJ.out A1 c1 _ HR0.out).mono ?_
  rintro e w2 ⟨rfl, hb2⟩
  have k2 := hb1.trans (hb2.mono hb1.size)
  clear hb1 hb2 HR0
  have HR1 := Lib.hid ((HR.out.below k2).more k2.size)
  go_wp2_with fail
  go_loop [7] (fun i => ∃ k : Nat, k ≤ xs.length ∧ i = .int .i64 k ∧ NoLf xs k) (fun i => xs.length - (intOf i).toNat)
  case atStart => exact ⟨0, Nat.zero_le _, rfl, fun j p hj => by omega⟩
  case round =>
    obtain ⟨k, hk, rfl, hN⟩ := hrel
    have HN := Lib.hid hN
    clear hN
    by_cases hlt : k < xs.length
    · obtain ⟨ad, u, rfl, hbl, hx, hc⟩ := HR1.out.at_ hlt
      obtain ⟨p, hp, rfl⟩ := SS_at hx
      have hpl := tot_mem (List.mem_of_getElem? hp)
      have HP := Lib.hid hp
      have hbt := get_bt ⟨p.toArray⟩
      have hsz : (⟨p.toArray⟩ : ByteArray).size = p.length := str_size p
      clear hx hp
      go_wp2_with fail
      go_loop [8] (fun i => ∃ j : Nat, j ≤ p.length ∧ i = .int .i64 j ∧ NoLfIn p j) (fun i => p.length - (intOf i).toNat)
      case atStart => exact ⟨0, Nat.zero_le _, rfl, fun i hi => by omega⟩
      case round =>
        obtain ⟨j, hj, rfl, hI⟩ := hrel
        have HI := Lib.hid hI
        clear hI
        by_cases hjl : j < p.length
        · by_cases h10 : bt ⟨p.toArray⟩ j = 10
          · have hq : (bt ⟨p.toArray⟩ j == 10) = true := by simpa using h10
            clear h10
            go_wp2_with fail
            refine (awake15 _ (HM.out.keep k2)).mono ?_
            rintro e w9 ⟨rfl, hb9⟩
            go_wp2_with fail
            go_ret
            exact ⟨rfl, k2.trans (hb9.mono k2.size)⟩
          · have hq : (bt ⟨p.toArray⟩ j == 10) = false := by simpa using h10
            have H10 := Lib.hid h10
            clear h10
            go_wp2_with fail
            go_round
            case rel => exact ⟨j + 1, by omega, by go_num, fun i hi => by by_cases e : i = j; (subst e; exact H10.out); exact HI.out i (by omega)⟩
            case measure => simp [intOf]; omega
        · have hall := Lib.hid (NoLfIn.all (p := p) (by have := HI.out; rw [show p.length = j by omega]; exact this))
          go_wp2_with fail
          go_round
          case rel => exact ⟨k + 1, by omega, by go_num, HN.out.succ HP.out hall.out⟩
          case measure => simp [intOf]; omega
    · have hall := Lib.hid (Wd.lines_text (NoLf.all (xs := xs) (by have := HN.out; rw [show xs.length = k by omega]; exact this)))
      have hxt := textL_len xs
      have HL := Lib.hid (fun w hm => lines25 ⟨(Wd.textL xs).toArray⟩ w (by rw [str_size]; omega) hm)
      rw [str_data, hall.out] at HL
      clear hxt
      go_wp2_with fail
      refine (copied20 A cap xs _ HR1.out (by omega)).mono ?_
      rintro e w5 ⟨v5, rfl, ho5, hb5⟩
      obtain ⟨A5, c5, rfl, hr5⟩ := lst_of ho5
      have HR5 := Lib.hid hr5
      clear hr5 ho5
      have k5 := k2.trans (hb5.mono k2.size)
      clear hb5
      go_wp2_with fail
      refine (text27 A5 c5 xs _ HR5.out (by omega)).mono ?_
      rintro e w6 ⟨rfl, hb6⟩
      have k6 := k5.trans (hb6.mono k5.size)
      clear hb6 k5
      go_wp2_with fail
      refine (HL.out _ (HM.out.keep k6)).mono ?_
      rintro e w7 ⟨v7, rfl, ho7, hb7⟩
      obtain ⟨A7, c7, rfl, hr7⟩ := lst_of (xs := xs) ho7
      have HR7 := Lib.hid hr7
      clear hr7 ho7
      have k7 := k6.trans (hb7.mono k6.size)
      clear hb7 k6
      go_wp2_with fail
      refine (same24 A7 A c7 cap xs xs _ (by omega) HR7.out ((HR.out.below k7).more k7.size)).mono ?_
      rintro e w8 ⟨rfl, hb8⟩
      rw [hxx]
      have k8 := k7.trans (hb8.mono k7.size)
      clear hb8 k7
      go_wp2_with fail
      refine (awake15 _ (HM.out.keep k8)).mono ?_
      rintro e w9 ⟨rfl, hb9⟩
      go_wp2_with fail
      go_ret
      exact ⟨rfl, k8.trans (hb9.mono k8.size)⟩
theorem law12 (A : Option Addr) (cap : Nat) (xs : List (List UInt8)) (l : List UInt8) (w : World) (hr : Reads w w.heap.size 1 A xs.length (SS xs)) (ht : tot xs ≤ 1048576) (hl : l.length ≤ 1048576) (hm : Mx w) : Calls Tryd.prog 12 #[.slice A xs.length cap, .string ⟨l.toArray⟩] w (True_ w) := by
  cases ho : Wd.linesL l with
  | none => exact law12_none A cap xs l w hr ht hl hm ho
  | some q => exact law12_some A cap xs l w hr ht hl hm q ho
end Go.Proofs.YtkkacgabikbedaaDoor
