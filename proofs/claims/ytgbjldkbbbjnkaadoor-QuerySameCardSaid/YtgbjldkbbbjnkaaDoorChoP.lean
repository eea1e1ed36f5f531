/-
  What choose of the program's parser does: its closures, slices.IndexFunc and slices.ContainsFunc.
-/
import Derived.Test.YtgbjldkbbbjnkaaDoorWordP
import Derived.Test.YtgbjldkbbbjnkaaDoorShelf
namespace Go.Proofs.YtgbjldkbbbjnkaaDoor
open Go.RowKit Go.PlainAid Pl

/-- What the closures have caught: the number and the parser. -/
structure CS (nb pb g : Nat) (s : ByteArray) (k n : Nat) (w : World) : Prop where
  cn : w.cell? ⟨nb, 0, none⟩ = some (.int .i64 (n : Int))
  cp : w.cell? ⟨pb, 0, none⟩ = some (.pointer (some ⟨g, 0, none⟩))
  ps : PS w g s k false
/-- The word has length n and is there. -/
def c1 (r v : List UInt8) (n : Nat) : Bool := decide (v ≠ []) && decide (v.length = n) && decide (v <+: r)
/-- The word goes on at n. -/
def c2 (r v : List UInt8) (n : Nat) : Bool := decide (n < v.length) && decide (v.take (n + 1) <+: r)
theorem hasPrefix_iff (r v : List UInt8) : Lib.hasPrefix r v = decide (v <+: r) := by
  unfold Lib.hasPrefix
  rw [Bool.eq_iff_iff, List.isPrefixOf_iff_prefix, decide_eq_true_iff]
theorem rest_ext (s : ByteArray) (k : Nat) : (s.extract k s.size).data.toList = rest s k := by
  rw [Lib.extract_data, List.take_of_length_le (by rw [List.length_drop, size_list]; omega)]
  rfl
theorem str_empty (v : List UInt8) : (str v).toList.isEmpty = v.isEmpty := by rw [Lib.toList_data, str_list]
theorem pre49 (s : ByteArray) (k : Nat) (v : List UInt8) (w : World) : Calls Tryd.prog 49 #[.string (s.extract k s.size), .string (str v)] w fun e w' => e = .returned (.bool (decide (v <+: rest s k))) ∧ w' = w := by
  have h := Tryd.strings_HasPrefix (s.extract k s.size) (str v) w
  rw [rest_ext, str_list, hasPrefix_iff] at h
  exact h
set_option maxHeartbeats 1600000 in
set_option maxRecDepth 100000 in
theorem fn48 (nb pb g : Nat) (s : ByteArray) (k n : Nat) (v : List UInt8) (w : World) (hk : k ≤ s.size) (_ : s.size ≤ 4194304) (hC : CS nb pb g s k n w) :
    Calls Tryd.prog 48 #[.string (str v), .pointer (some ⟨nb, 0, none⟩), .pointer (some ⟨pb, 0, none⟩)] w fun e w' => e = .returned (.bool (c1 (rest s k) v n)) ∧ Below w.heap.size w w' := by
  have a0 := hC.cn
  have a1 := hC.cp
  obtain ⟨p0, p1, p2⟩ := tri_cells hC.ps
  have PF := Lib.hid (pre49 s k v)
  have hsz := str_len v
  have i0 : (0 : Int) ≤ (k : Int) := by omega
  have i1 : (k : Int) ≤ (s.size : Int) := by omega
  clear hC
  cases he : (str v).toList.isEmpty
  case true =>
    have f := Lib.hid (show c1 (rest s k) v n = false by rw [str_empty] at he; simp at he; simp [c1, he])
    have he2 : (!(str v).toList.isEmpty) = false := by rw [he]; rfl
    go_enter Tryd.func48, Tryd.ntmps48
    go_wp2_with fail
    go_quiet (fail)
    go_wp2_with fail
    go_ret
    exact ⟨by rw [f.out]; rfl, below_drewN (Below.refl _ _) _⟩
  have he2 : (!(str v).toList.isEmpty) = true := by rw [he]; rfl
  have hne : v ≠ [] := by rw [str_empty] at he; simpa using he
  cases hl : ((v.length : Int) == (n : Int))
  · have f := Lib.hid (show c1 (rest s k) v n = false by simp at hl; simp [c1]; intro _ h; omega)
    clear hne
    go_enter Tryd.func48, Tryd.ntmps48
    go_wp2_with fail
    go_quiet (fail)
    go_wp2_with fail
    go_ret
    exact ⟨by rw [f.out]; rfl, below_drewN (Below.refl _ _) _⟩
  · have f := Lib.hid (show c1 (rest s k) v n = decide (v <+: rest s k) by simp at hl; simp [c1, hne]; intro _; omega)
    clear hne
    go_enter Tryd.func48, Tryd.ntmps48
    go_wp2_with fail
    go_quiet ((go_at_call 49; with_reducible exact Calls.quiet_of_same (PF.out _)))
    go_wp2_with fail
    go_ret
    exact ⟨by rw [f.out]; rfl, below_drewN (Below.refl _ _) _⟩
theorem ext_take (v : List UInt8) (n : Nat) (_ : n ≤ v.length) : (str v).extract 0 n = str (v.take n) := by
  apply ByteArray.ext
  apply Array.toList_inj.1
  rw [Lib.extract_data, str_list, str_list]
  simp
theorem pre49b (s : ByteArray) (k n : Nat) (v : List UInt8) (hn : n + 1 ≤ v.length) (w : World) : Calls Tryd.prog 49 #[.string (s.extract k s.size), .string ((str v).extract 0 (n + 1))] w fun e w' => e = .returned (.bool (decide (v.take (n + 1) <+: rest s k))) ∧ w' = w := by
  rw [ext_take v (n + 1) hn]
  exact pre49 s k _ w
set_option maxHeartbeats 1600000 in
set_option maxRecDepth 100000 in
theorem fn51 (nb pb g : Nat) (s : ByteArray) (k n : Nat) (v : List UInt8) (w : World) (hk : k ≤ s.size) (_ : s.size ≤ 4194304) (_ : v.length ≤ 100) (hn : n ≤ 100) (hC : CS nb pb g s k n w) :
    Calls Tryd.prog 51 #[.string (str v), .pointer (some ⟨nb, 0, none⟩), .pointer (some ⟨pb, 0, none⟩)] w fun e w' => e = .returned (.bool (c2 (rest s k) v n)) ∧ Below w.heap.size w w' := by
  have a0 := hC.cn
  have a1 := hC.cp
  obtain ⟨p0, p1, p2⟩ := tri_cells hC.ps
  have hsz := str_len v
  have i0 : (0 : Int) ≤ (k : Int) := by omega
  have i1 : (k : Int) ≤ (s.size : Int) := by omega
  clear hC
  by_cases hl : n < v.length
  · have PF := Lib.hid (pre49b s k n v hl)
    have f := Lib.hid (show c2 (rest s k) v n = decide (v.take (n + 1) <+: rest s k) by simp [c2, hl])
    have g1 : IntKind.i64.wrap ((n : Int) + 1) = (n : Int) + 1 := wrap_in (by omega)
    have g2 : (0 : Int) ≤ (n : Int) + 1 := by omega
    have g3 : (n : Int) + 1 ≤ (v.length : Int) := by omega
    have g4 : ((n : Int) + 1).toNat = n + 1 := by omega
    have q : decide (n < v.length) = true := decide_eq_true hl
    go_enter Tryd.func51, Tryd.ntmps51
    go_wp2_with fail
    go_quiet ((go_at_call 49; with_reducible exact Calls.quiet_of_same (PF.out _)))
    go_wp2_with fail
    go_ret
    exact ⟨by rw [f.out]; rfl, below_drewN (Below.refl _ _) _⟩
  · have f := Lib.hid (show c2 (rest s k) v n = false by simp [c2, hl])
    have q : decide (n < v.length) = false := decide_eq_false hl
    go_enter Tryd.func51, Tryd.ntmps51
    go_wp2_with fail
    go_quiet (fail)
    go_wp2_with fail
    go_ret
    exact ⟨by rw [f.out]; rfl, below_drewN (Below.refl _ _) _⟩
theorem CS.below {nb pb g : Nat} {s : ByteArray} {k n : Nat} {w w' : World} (h : CS nb pb g s k n w) (hb : Below w.heap.size w w') : CS nb pb g s k n w' := by
  refine ⟨(hb.cell (p := ⟨nb, 0, none⟩) ?_).trans h.cn, (hb.cell (p := ⟨pb, 0, none⟩) ?_).trans h.cp, h.ps.below hb⟩
  · exact World.block_lt_of_cell? w _ h.cn
  · exact World.block_lt_of_cell? w _ h.cp
/-- The first place with a property, or -1. -/
def fi (f : List UInt8 → Bool) : List (List UInt8) → Nat → Int
  | [], _ => -1
  | v :: l, i => if f v = true then (i : Int) else fi f l (i + 1)
theorem fi_no {f : List UInt8 → Bool} {l : List (List UInt8)} {j : Nat} {v : List UInt8} (h : l[j]? = some v) (hf : f v = false) : fi f (l.drop j) j = fi f (l.drop (j + 1)) (j + 1) := by
  obtain ⟨hj, rfl⟩ := List.getElem?_eq_some_iff.1 h
  rw [List.drop_eq_getElem_cons hj, fi, if_neg (by rw [hf]; decide)]
theorem fi_yes {f : List UInt8 → Bool} {l : List (List UInt8)} {j : Nat} {v : List UInt8} (h : l[j]? = some v) (hf : f v = true) : fi f (l.drop j) j = (j : Int) := by
  obtain ⟨hj, rfl⟩ := List.getElem?_eq_some_iff.1 h
  rw [List.drop_eq_getElem_cons hj, fi, if_pos hf]
theorem fi_is {f : List UInt8 → Bool} : ∀ (l : List (List UInt8)) (i : Nat), (fi f l i = -1 ∧ ∀ v ∈ l, f v = false) ∨ ∃ j v, fi f l i = ((i + j : Nat) : Int) ∧ l[j]? = some v ∧ f v = true
  | [], i => .inl ⟨rfl, fun v h => by simp at h⟩
  | x :: l, i => by
    rw [fi]
    cases hx : f x
    · rw [if_neg (by decide)]
      rcases fi_is l (i + 1) with ⟨h1, h2⟩ | ⟨j, v, h1, h2, h3⟩
      · refine .inl ⟨h1, fun v hv => ?_⟩
        rcases List.mem_cons.1 hv with rfl | hv
        · exact hx
        · exact h2 v hv
      · exact .inr ⟨j + 1, v, by rw [h1]; omega, by simpa using h2, h3⟩
    · rw [if_pos rfl]
      exact .inr ⟨0, x, rfl, rfl, hx⟩
set_option maxHeartbeats 1600000 in
set_option maxRecDepth 100000 in
theorem idx47_48 (nb pb g : Nat) (s : ByteArray) (k n : Nat) (l : List (List UInt8)) (A : Option Addr) (cap : Nat) (w : World) (hk : k ≤ s.size) (hs : s.size ≤ 4194304) (hl : l.length ≤ 100) (hv : ∀ v ∈ l, v.length ≤ 100) (_ : n ≤ 100) (hS : Strs w w.heap.size A l) (hC : CS nb pb g s k n w) :
    Calls Tryd.prog 47 #[.slice A l.length cap, .func (Fn.func 48) #[] #[.pointer (some ⟨nb, 0, none⟩), .pointer (some ⟨pb, 0, none⟩)]] w fun e w' => e = .returned (.int .i64 (fi (fun v => c1 (rest s k) v n) l 0)) ∧ Below w.heap.size w w' := by
  have HV := Lib.hid hv
  have HS := Lib.hid hS
  have HC := Lib.hid hC
  clear hv hS hC
  go_enter Tryd.func47, Tryd.ntmps47
  go_wp2_with fail
  go_loopw [8] (fun i wr => ∃ j : Nat, j ≤ l.length ∧ i = .int .i64 j ∧ fi (fun v => c1 (rest s k) v n) l 0 = fi (fun v => c1 (rest s k) v n) (l.drop j) j ∧ Below w.heap.size w wr) (fun i _ => l.length - (intOf i).toNat)
  case atStart => exact ⟨0, Nat.zero_le _, rfl, rfl, Below.refl _ _⟩
  case round =>
    obtain ⟨j, hj, rfl, hI, hb⟩ := hrel
    have HI := Lib.hid hI
    clear hI
    by_cases hlt : j < l.length
    · obtain ⟨v, hv⟩ := get_lt hlt
      have hS2 := HS.out.step hb
      obtain ⟨ad, rfl, hab, hc⟩ := hS2.at_ hv
      have CL := Lib.hid (fn48 nb pb g s k n v wr hk hs (HC.out.below hb))
      have HVV := Lib.hid hv
      clear hv hS2 hab
      have q0 : (0 : Int) ≤ (j : Int) := by omega
      have q1 : (j : Int) < (l.length : Int) := by omega
      go_wp2_with fail
      refine CL.out.mono ?_
      rintro e w1 ⟨rfl, hb1⟩
      have hb2 := hb.trans (hb1.mono hb.size)
      cases hf : c1 (rest s k) v n
      · have hx := Lib.hid (HI.out.trans (fi_no HVV.out hf))
        clear hf
        go_wp2_with fail
        go_roundw
        case rel => exact ⟨j + 1, hlt, by go_num, hx.out, hb2⟩
        case measure => simp [intOf]; omega
      · have hx := Lib.hid (HI.out.trans (fi_yes HVV.out hf))
        clear hf
        go_wp2_with fail
        go_ret
        exact ⟨by rw [hx.out]; rfl, hb2⟩
    · obtain rfl : l.length = j := by omega
      have hx := Lib.hid (show fi (fun v => c1 (rest s k) v n) l 0 = -1 by rw [HI.out, List.drop_length]; rfl)
      have i2 : ¬ ((l.length : Int) < (l.length : Int)) := by omega
      go_wp2_with fail
      go_ret
      exact ⟨by rw [hx.out]; rfl, hb⟩
set_option maxHeartbeats 1600000 in
set_option maxRecDepth 100000 in
theorem idx47_51 (nb pb g : Nat) (s : ByteArray) (k n : Nat) (l : List (List UInt8)) (A : Option Addr) (cap : Nat) (w : World) (hk : k ≤ s.size) (hs : s.size ≤ 4194304) (hl : l.length ≤ 100) (hv : ∀ v ∈ l, v.length ≤ 100) (hn : n ≤ 100) (hS : Strs w w.heap.size A l) (hC : CS nb pb g s k n w) :
    Calls Tryd.prog 47 #[.slice A l.length cap, .func (Fn.func 51) #[] #[.pointer (some ⟨nb, 0, none⟩), .pointer (some ⟨pb, 0, none⟩)]] w fun e w' => e = .returned (.int .i64 (fi (fun v => c2 (rest s k) v n) l 0)) ∧ Below w.heap.size w w' := by
  have HV := Lib.hid hv
  have HS := Lib.hid hS
  have HC := Lib.hid hC
  clear hv hS hC
  go_enter Tryd.func47, Tryd.ntmps47
  go_wp2_with fail
  go_loopw [8] (fun i wr => ∃ j : Nat, j ≤ l.length ∧ i = .int .i64 j ∧ fi (fun v => c2 (rest s k) v n) l 0 = fi (fun v => c2 (rest s k) v n) (l.drop j) j ∧ Below w.heap.size w wr) (fun i _ => l.length - (intOf i).toNat)
  case atStart => exact ⟨0, Nat.zero_le _, rfl, rfl, Below.refl _ _⟩
  case round =>
    obtain ⟨j, hj, rfl, hI, hb⟩ := hrel
    have HI := Lib.hid hI
    clear hI
    by_cases hlt : j < l.length
    · obtain ⟨v, hv⟩ := get_lt hlt
      have hS2 := HS.out.step hb
      obtain ⟨ad, rfl, hab, hc⟩ := hS2.at_ hv
      have CL := Lib.hid (fn51 nb pb g s k n v wr hk hs (HV.out v (List.mem_of_getElem? hv)) hn (HC.out.below hb))
      have HVV := Lib.hid hv
      clear hv hS2 hab
      have q0 : (0 : Int) ≤ (j : Int) := by omega
      have q1 : (j : Int) < (l.length : Int) := by omega
      go_wp2_with fail
      refine CL.out.mono ?_
      rintro e w1 ⟨rfl, hb1⟩
      have hb2 := hb.trans (hb1.mono hb.size)
      cases hf : c2 (rest s k) v n
      · have hx := Lib.hid (HI.out.trans (fi_no HVV.out hf))
        clear hf
        go_wp2_with fail
        go_roundw
        case rel => exact ⟨j + 1, hlt, by go_num, hx.out, hb2⟩
        case measure => simp [intOf]; omega
      · have hx := Lib.hid (HI.out.trans (fi_yes HVV.out hf))
        clear hf
        go_wp2_with fail
        go_ret
        exact ⟨by rw [hx.out]; rfl, hb2⟩
    · obtain rfl : l.length = j := by omega
      have hx := Lib.hid (show fi (fun v => c2 (rest s k) v n) l 0 = -1 by rw [HI.out, List.drop_length]; rfl)
      have i2 : ¬ ((l.length : Int) < (l.length : Int)) := by omega
      go_wp2_with fail
      go_ret
      exact ⟨by rw [hx.out]; rfl, hb⟩
end Go.Proofs.YtgbjldkbbbjnkaaDoor
