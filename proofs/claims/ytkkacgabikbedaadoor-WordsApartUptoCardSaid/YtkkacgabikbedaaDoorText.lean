/-
  What Text of words and of its reference, and Same of the reference, return.
-/
import Derived.Test.YtkkacgabikbedaaDoorJoin
namespace Go.Proofs.YtkkacgabikbedaaDoor
open Go.RowKit Go.PlainAid

/-- The text of the first k strings. -/
def textTo (xs : List (List UInt8)) (k : Nat) : List UInt8 := Wd.textL (xs.take k)
theorem textL_len (xs : List (List UInt8)) : (Wd.textL xs).length = tot xs := by
  unfold Wd.textL tot
  induction xs with
  | nil => rfl
  | cons p xs ih => simp only [List.flatMap_cons, List.length_append, List.map_cons, List.sum_cons, ih, List.length_singleton]
theorem textTo_len (xs : List (List UInt8)) (k : Nat) : (textTo xs k).length ≤ tot xs := by
  unfold textTo
  rw [textL_len]
  exact tot_take xs k
theorem textTo_more {xs : List (List UInt8)} {p : List UInt8} {k : Nat} (h : xs[k]? = some p) : textTo xs (k + 1) = textTo xs k ++ p ++ [10] := by
  unfold textTo Wd.textL
  rw [take_one h, List.flatMap_append]
  simp
theorem textTo_all {xs : List (List UInt8)} {k : Nat} (h : xs.length ≤ k) : textTo xs k = Wd.textL xs := by
  unfold textTo
  rw [List.take_of_length_le h]
set_option maxHeartbeats 800000 in
theorem text27 (A : Option Addr) (cap : Nat) (xs : List (List UInt8)) (w : World) (hr : Reads w w.heap.size 1 A xs.length (SS xs)) (ht : tot xs ≤ 4194304) :
    Calls Tryd.prog 27 #[.slice A xs.length cap] w fun e w' => e = .returned (.string ⟨(Wd.textL xs).toArray⟩) ∧ Below w.heap.size w w' := by
  have HR := Lib.hid hr
  clear hr
  have hl := tot_len xs
  go_enter Tryd.func27, Tryd.ntmps27
  go_wp2_with fail
  go_loopw [8] (fun i wr => ∃ k : Nat, k ≤ xs.length ∧ i = .int .i64 k ∧ Lib.IsBuilderF 39 5 w.heap.size w.heap.size (Lib.byteCells (textTo xs k)) wr ∧ Below w.heap.size w wr) (fun i _ => xs.length - (intOf i).toNat)
  case atStart => exact ⟨0, Nat.zero_le _, rfl, Lib.IsBuilderF.of (Lib.fresh_isBuilder 39 5 w), (Below.refl _ _).alloc (Nat.le_refl _) _⟩
  case round =>
    obtain ⟨k, hk, rfl, hI, hb⟩ := hrel
    have HI := Lib.hid hI
    clear hI
    have jl := textTo_len xs k
    by_cases hlt : k < xs.length
    · obtain ⟨ad, u, rfl, hbl, hx, hc⟩ := (HR.out.below hb).at_ hlt
      obtain ⟨p, hp, rfl⟩ := SS_at hx
      have hpl := tot_mem (List.mem_of_getElem? hp)
      have hm := textTo_more hp
      have hml := textTo_len xs (k + 1)
      rw [hm, List.length_append, List.length_append, List.length_singleton] at hml
      have HM := Lib.hid hm
      clear hx hp hm
      go_wp2_with fail
      refine (Tryd.Builder_WriteString_k _ _ _ _ _ HI.out ?_ hb.size).mono ?_
      · rw [Lib.byteCells_length, str_size]; omega
      rintro e w2 ⟨rfl, h2, hb2, hk2⟩
      have H2 := Lib.hid h2
      clear h2
      have hb2' := hb.trans hb2
      clear hb2 hk2
      go_wp2_with fail
      refine (Tryd.Builder_WriteByte_k _ _ _ _ _ (.inr H2.out) ?_ hb2'.size).mono ?_
      · rw [List.length_append, Lib.byteCells_length, Lib.strCells_length, str_size]; omega
      rintro e w3 ⟨rfl, h3, hb3, hk3⟩
      have H3 := Lib.hid h3
      clear h3
      have hb3' := hb2'.trans hb3
      clear hb3 hk3
      go_wp2_with fail
      go_roundw
      case rel =>
        refine ⟨k + 1, by omega, by go_num, ?_, hb3'⟩
        rw [HM.out, Lib.byteCells_append, Lib.byteCells_append]
        exact .inr H3.out
      case measure => simp [intOf]; omega
    · rw [textTo_all (by omega)] at HI
      go_wp2_with fail
      refine (Tryd.Builder_String_any_k _ _ _ _ HI.out hb.size).mono ?_
      rintro e w3 ⟨rfl, h3, hb3, hk3⟩
      go_wp2_with fail
      go_ret
      exact ⟨rfl, hb.trans hb3⟩
theorem own_line {w : World} {base : Nat} {v : Value} {a b : List UInt8} (h : w.ownsRow base 5 1 v (a.length + b.length + 1) (Lib.byteCells a ++ (Lib.strCells ⟨b.toArray⟩ ++ [Value.int .u8 10]))) : w.ownsRow base 5 1 v (a ++ b ++ [10]).length (Lib.byteCells (a ++ b ++ [10])) := by
  rw [List.length_append, List.length_append, Lib.byteCells_append, Lib.byteCells_append, List.append_assoc]
  exact h
set_option maxHeartbeats 1600000 in
theorem text28 (A : Option Addr) (cap : Nat) (xs : List (List UInt8)) (w : World) (hr : Reads w w.heap.size 1 A xs.length (SS xs)) (ht : tot xs ≤ 4194304) :
    Calls Tryd.prog 28 #[.slice A xs.length cap] w fun e w' => e = .returned (.string ⟨(Wd.textL xs).toArray⟩) ∧ Below w.heap.size w w' := by
  obtain ⟨i0, hi, hz0, hz1, hz2⟩ := info_parts info5
  have HI5 := Lib.hid hi
  have HZ0 := Lib.hid hz0
  have HZ1 := Lib.hid hz1
  have HZ2 := Lib.hid hz2
  clear hi hz0 hz1 hz2
  have HR := Lib.hid hr
  clear hr
  have hl := tot_len xs
  go_enter Tryd.func28, Tryd.ntmps28
  go_wp2_with fail
  go_loopw [3, 4] (fun v i wr => ∃ k : Nat, k ≤ xs.length ∧ i = .int .i64 k ∧ wr.ownsRow w.heap.size 5 1 v (textTo xs k).length (Lib.byteCells (textTo xs k)) ∧ Below w.heap.size w wr) (fun _ i _ => xs.length - (intOf i).toNat)
  case atStart => exact ⟨0, Nat.zero_le _, rfl, own_empty w, (Below.refl _ _).alloc (Nat.le_refl _) _⟩
  case round =>
    obtain ⟨k, hk, rfl, hI, hb⟩ := hrel
    have HI := Lib.hid hI
    clear hI
    have jl := textTo_len xs k
    by_cases hlt : k < xs.length
    · obtain ⟨ad, u, rfl, hbl, hx, hc⟩ := (HR.out.below hb).at_ hlt
      obtain ⟨p, hp, rfl⟩ := SS_at hx
      have hpl := tot_mem (List.mem_of_getElem? hp)
      have hm := textTo_more hp
      have hml := textTo_len xs (k + 1)
      rw [hm, List.length_append, List.length_append, List.length_singleton] at hml
      have HM := Lib.hid hm
      clear hx hp hm
      go_wp2_with (at_builtin; refine Lib.wpList_append_own_string _ rfl _ _ 37 9 rfl w.heap.size 5 i0 Tryd.underlying37 Tryd.underlying9 HI5.out HZ0.out HZ1.out HZ2.out _ _ _ rfl HI.out ⟨p.toArray⟩ rfl ?c3 ?c4 ?c5 ?_)
      case c3 => rw [str_size]; unfold maxLen; omega
      case c4 => rw [str_size]; omega
      case c5 => exact hb.size
      intro v1 w1 hown1 hgrow1 hnil1
      clear hnil1
      have HO1 := Lib.hid hown1
      clear hown1
      have hb1 := hb.grown hgrow1 hb.size (fun k hk => (HI.out.lt k hk).1)
      clear hgrow1
      go_wp2_with (at_builtin; refine wpList_append_own _ rfl _ _ 37 rfl w.heap.size 5 i0 (.int .u8 0) 1 1 Tryd.underlying37 HI5.out HZ0.out HZ1.out HZ2.out rfl (by decide) _ _ _ rfl (HO1.out.alloc _) ⟨w1.heap.size, 0, none⟩ 1 1 [.int .u8 10] rfl rfl ?c1 ?c2 ?c3 ?c4 ?c5 ?_)
      case c1 => exact cells_one w1 _ 5
      case c2 => intro u hu; simp at hu; subst hu; rfl
      case c3 => unfold maxLen; omega
      case c4 => omega
      case c5 => have := hb1.size; simp; omega
      intro v' w3 hown' hgrow hnil
      clear hnil
      have HO := Lib.hid hown'
      clear hown'
      have hb3 := (hb1.alloc hb1.size _).grown hgrow (by have := hb1.size; simp; omega) (fun k hk => (HO1.out.lt k hk).1)
      clear hgrow
      go_wp2_with fail
      go_roundw
      case rel =>
        refine ⟨k + 1, by omega, by go_num, ?_, hb3⟩
        rw [HM.out]
        exact own_line HO.out
      case measure => simp [intOf]; omega
    · rw [textTo_all (by omega)] at HI
      have hcv := conv_own HI.out
      go_wp2_with fail
      go_ret
      exact ⟨rfl, hb⟩

/-! Same. -/
def SameTo (xs ys : List (List UInt8)) (k : Nat) : Prop := ∀ j, j < k → xs[j]? = ys[j]?
theorem same_all {xs ys : List (List UInt8)} (hl : xs.length = ys.length) (h : SameTo xs ys xs.length) : xs = ys := by
  apply List.ext_getElem? fun j => ?_
  rcases Nat.lt_or_ge j xs.length with hj | hj
  · exact h j hj
  · rw [List.getElem?_eq_none hj, List.getElem?_eq_none (by omega)]
theorem SameTo.succ {xs ys : List (List UInt8)} {k : Nat} {p : List UInt8} (h : SameTo xs ys k) (hx : xs[k]? = some p) (hy : ys[k]? = some p) : SameTo xs ys (k + 1) := fun j hj => by
  by_cases e : j = k
  · subst e; rw [hx, hy]
  · exact h j (by omega)
theorem same24_len (A B : Option Addr) (n m ca cb : Nat) (w : World) (h : ((n : Int) != (m : Int)) = true) : Calls Tryd.prog 24 #[.slice A n ca, .slice B m cb] w fun e w' => e = .returned (.bool false) ∧ Below w.heap.size w w' := by
  go_enter Tryd.func24, Tryd.ntmps24
  go_wp2_with fail
  go_ret
  exact ⟨rfl, Below.refl _ _⟩
set_option maxHeartbeats 800000 in
theorem same24_eq (A B : Option Addr) (ca cb : Nat) (xs ys : List (List UInt8)) (w : World) (hl : xs.length = ys.length) (hm : xs.length ≤ 4194304) (hx : Reads w w.heap.size 1 A xs.length (SS xs)) (hy : Reads w w.heap.size 1 B ys.length (SS ys)) :
    Calls Tryd.prog 24 #[.slice A xs.length ca, .slice B xs.length cb] w fun e w' => e = .returned (.bool (xs == ys)) ∧ Below w.heap.size w w' := by
  have HX := Lib.hid hx
  have HY := Lib.hid hy
  have HL := Lib.hid hl
  clear hx hy hl
  go_enter Tryd.func24, Tryd.ntmps24
  go_wp2_with fail
  go_loopw [5] (fun i wr => ∃ k : Nat, k ≤ xs.length ∧ i = .int .i64 k ∧ SameTo xs ys k ∧ Below w.heap.size w wr) (fun i _ => xs.length - (intOf i).toNat)
  case atStart => exact ⟨0, Nat.zero_le _, rfl, fun j hj => by omega, Below.refl _ _⟩
  case round =>
    obtain ⟨k, hk, rfl, hI, hb⟩ := hrel
    have HI := Lib.hid hI
    clear hI
    by_cases hlt : k < xs.length
    · obtain ⟨ad, u, rfl, hbl, hx, hc⟩ := (HX.out.below hb).at_ hlt
      obtain ⟨p, hp, rfl⟩ := SS_at hx
      obtain ⟨bd, v, rfl, hbl', hx', hc'⟩ := (HY.out.below hb).at_ (show k < ys.length by have := HL.out; omega)
      obtain ⟨q, hq, rfl⟩ := SS_at hx'
      have HP := Lib.hid hp
      have HQ := Lib.hid hq
      clear hx hp hx' hq
      have q0 : (0 : Int) ≤ (k : Int) := by omega
      have q1 : (k : Int) < (xs.length : Int) := by omega
      cases hpq : (p == q)
      · have hne : p ≠ q := by simpa using hpq
        have hf : (xs == ys) = false := by
          rw [beq_eq_false_iff_ne]
          rintro rfl
          exact hne (Option.some.inj (HP.out.symm.trans HQ.out))
        have HF := Lib.hid hf
        clear hf hne
        go_wp2_with fail
        go_quiet (fail)
        go_wp2_with fail
        go_ret
        exact ⟨by rw [HF.out]; rfl, below_drewN hb _⟩
      · obtain rfl : p = q := by simpa using hpq
        go_wp2_with fail
        go_quiet (fail)
        go_wp2_with fail
        go_roundw
        case rel => exact ⟨k + 1, by omega, by go_num, HI.out.succ HP.out HQ.out, below_drewN hb _⟩
        case measure => simp [intOf]; omega
    · have hall : (xs == ys) = true := by
        have : k = xs.length := by omega
        rw [beq_iff_eq]
        exact same_all HL.out (this ▸ HI.out)
      have HA := Lib.hid hall
      clear hall
      go_wp2_with fail
      go_ret
      exact ⟨by rw [HA.out]; rfl, hb⟩
theorem same24 (A B : Option Addr) (ca cb : Nat) (xs ys : List (List UInt8)) (w : World) (hm : xs.length ≤ 4194304) (hx : Reads w w.heap.size 1 A xs.length (SS xs)) (hy : Reads w w.heap.size 1 B ys.length (SS ys)) :
    Calls Tryd.prog 24 #[.slice A xs.length ca, .slice B ys.length cb] w fun e w' => e = .returned (.bool (xs == ys)) ∧ Below w.heap.size w w' := by
  by_cases hl : xs.length = ys.length
  · have := same24_eq A B ca cb xs ys w hl hm hx hy
    rw [← hl]
    exact this
  · refine (same24_len A B _ _ ca cb w (by rw [bne_iff_ne]; omega)).mono fun e w' ⟨he, hb⟩ => ⟨?_, hb⟩
    rw [he]
    exact ret_bool (by rw [eq_comm, beq_eq_false_iff_ne]; rintro rfl; exact hl rfl)
end Go.Proofs.YtkkacgabikbedaaDoor
