/-
  What Same, copied, Join and Text of words and of its reference return, for lists whose strings have together at most 1048576 bytes, one more counted for each.
-/
import Derived.Test.YtkkacgabikbedaaDoorMem
import Derived.Test.YtkkacgabikbedaaDoorLists
namespace Go.Proofs.YtkkacgabikbedaaDoor
open Go.RowKit Go.PlainAid

/-- A string as a value, and a list of strings as cells. -/
def S (l : List UInt8) : Value := .string ⟨l.toArray⟩
def SS (xs : List (List UInt8)) : List Value := xs.map S
/-- The bytes of a list, one more for each string. -/
def tot (xs : List (List UInt8)) : Nat := (xs.map (fun p => p.length + 1)).sum
theorem SS_length (xs : List (List UInt8)) : (SS xs).length = xs.length := by simp [SS]
theorem SS_at {xs : List (List UInt8)} {k : Nat} {u : Value} (h : (SS xs)[k]? = some u) : ∃ p, xs[k]? = some p ∧ u = .string ⟨p.toArray⟩ := by
  unfold SS at h
  rw [List.getElem?_map, Option.map_eq_some_iff] at h
  obtain ⟨p, hp, rfl⟩ := h
  exact ⟨p, hp, rfl⟩
theorem SS_one (xs : List (List UInt8)) : ∀ u ∈ SS xs, u.oneCell' = true := by
  intro u hu
  simp only [SS, List.mem_map] at hu
  obtain ⟨p, _, rfl⟩ := hu
  rfl
theorem SS_snoc (xs : List (List UInt8)) (p : List UInt8) : SS (xs ++ [p]) = SS xs ++ [.string ⟨p.toArray⟩] := by simp [SS, S]
theorem tot_snoc (xs : List (List UInt8)) (p : List UInt8) : tot (xs ++ [p]) = tot xs + (p.length + 1) := by simp [tot]
theorem tot_len (xs : List (List UInt8)) : xs.length ≤ tot xs := by
  induction xs with
  | nil => simp [tot]
  | cons p xs ih => simp only [tot, List.map_cons, List.sum_cons, List.length_cons] at *; omega
theorem tot_mem {xs : List (List UInt8)} {p : List UInt8} (h : p ∈ xs) : p.length + 1 ≤ tot xs := by
  induction xs with
  | nil => cases h
  | cons q xs ih =>
    simp only [tot, List.map_cons, List.sum_cons] at *
    rcases List.mem_cons.1 h with rfl | h
    · omega
    · have := ih h; omega
theorem tot_append (xs ys : List (List UInt8)) : tot (xs ++ ys) = tot xs + tot ys := by simp [tot]
theorem tot_take (xs : List (List UInt8)) (k : Nat) : tot (xs.take k) ≤ tot xs := by
  have h := tot_append (xs.take k) (xs.drop k)
  rw [List.take_append_drop] at h
  omega
theorem take_one {α : Type} {xs : List α} {k : Nat} {p : α} (h : xs[k]? = some p) : xs.take (k + 1) = xs.take k ++ [p] := by
  obtain ⟨hk, rfl⟩ := List.getElem?_eq_some_iff.1 h
  exact List.take_succ_eq_append_getElem hk
theorem only_of_below {a w : World} (h : Below a.heap.size a w) (row : Option Nat) : a.grownBy w row := ⟨h.os, h.tape, h.output, h.size, fun i hi _ => h.block i hi⟩
theorem own_below {w w' : World} {base : Nat} {e : TypeId} {size : Nat} {v : Value} {n : Nat} {xs : List Value} (h : w.ownsRow base e size v n xs) (hb : Below w.heap.size w w') : w'.ownsRow base e size v n xs := by
  rcases Option.eq_none_or_eq_some v.ownBlock with hn | ⟨g, hg⟩
  · exact h.kept (only_of_below hb none) (.inl hn)
  · exact h.kept (only_of_below hb none) (.inr (by rw [hg]; simp))
theorem info9 : (Tryd.prog.info? 9).map (fun i => (i.zero, i.size, i.bytes)) = some (some (.string ⟨#[]⟩), 1, 16) := by kernel_rfl

theorem str_data (p : List UInt8) : (⟨p.toArray⟩ : ByteArray).data.toList = p := by simp
theorem str_size (p : List UInt8) : (⟨p.toArray⟩ : ByteArray).size = p.length := by
  show p.toArray.size = _
  simp
theorem quoteL (p : List UInt8) (w : World) (h : p.length ≤ 4194304) : Calls Tryd.prog 13 #[.string ⟨p.toArray⟩] w fun e w' => e = .returned (.string ⟨(Wd.quote p).toArray⟩) ∧ Below w.heap.size w w' := by
  have := quote13 ⟨p.toArray⟩ w (by rw [str_size]; exact h)
  rw [str_data] at this
  exact this
theorem quoteRL (p : List UInt8) (w : World) (h : p.length ≤ 4194304) : Calls Tryd.prog 14 #[.string ⟨p.toArray⟩] w fun e w' => e = .returned (.string ⟨(Wd.quote p).toArray⟩) ∧ Below w.heap.size w w' := by
  have := quote14 ⟨p.toArray⟩ w (by rw [str_size]; exact h)
  rw [str_data] at this
  exact this

theorem own_empty9 (w : World) : (w.alloc (.cells #[] 9)).ownsRow w.heap.size 9 1 (.slice (some ⟨w.heap.size, 0, none⟩) 0 0) 0 [] :=
  ⟨rfl, .inr ⟨w.heap.size, 0, #[], rfl, Nat.le_refl _, heap_alloc_new w _, Nat.le_refl _, Nat.zero_le _, rfl, rfl⟩⟩
/-- A list of strings in memory of the call's own, handed back. -/
def OwnOut (xs : List (List UInt8)) (w : World) (e : Ending) (w' : World) : Prop := ∃ v, e = .returned v ∧ w'.ownsRow w.heap.size 9 1 v xs.length (SS xs) ∧ Below w.heap.size w w'
set_option maxHeartbeats 800000 in
theorem copied20 (A : Option Addr) (cap : Nat) (xs : List (List UInt8)) (w : World) (hr : Reads w w.heap.size 1 A xs.length (SS xs)) (ht : tot xs ≤ 4194304) :
    Calls Tryd.prog 20 #[.slice A xs.length cap] w (OwnOut xs w) := by
  obtain ⟨i0, hi, hz0, hz1, hz2⟩ := info_parts info9
  have HI9 := Lib.hid hi
  have HZ0 := Lib.hid hz0
  have HZ1 := Lib.hid hz1
  have HZ2 := Lib.hid hz2
  clear hi hz0 hz1 hz2
  have HR := Lib.hid hr
  clear hr
  have hl := tot_len xs
  go_enter Tryd.func20, Tryd.ntmps20
  go_wp2_with (at_builtin; refine wpList_append_any _ rfl (.tmp 3) (.tmp 4) 28 rfl w.heap.size 9 i0 (.string ⟨#[]⟩) 1 16 Tryd.underlying28 HI9.out HZ0.out HZ1.out HZ2.out rfl (by decide) _ 0 [] rfl (own_empty9 w) w.heap.size A xs.length cap (SS xs) rfl (HR.out.alloc (Nat.le_refl _) _) (SS_one xs) ?c3 ?c4 ?c5 ?_)
  case c3 => unfold maxLen; omega
  case c4 => omega
  case c5 => simp
  intro v' w3 hown' hgrow hat
  have HO := Lib.hid hown'
  clear hown' hat
  have hb3 := ((Below.refl w.heap.size w).alloc (Nat.le_refl _) _).grown hgrow (by simp) (fun k hk => by simp [Value.ownBlock] at hk; omega)
  clear hgrow
  go_wp2_with fail
  go_ret
  refine ⟨v', rfl, ?_, hb3⟩
  have := HO.out
  simpa using this

/-! Join. -/
theorem joinL_len (xs : List (List UInt8)) : (Wd.joinL xs).length ≤ 3 * tot xs := by
  unfold Wd.joinL
  have h := Wd.glue_len 32 (xs.map Wd.quote)
  have h2 : ((xs.map Wd.quote).map (fun p => p.length + 1)).sum ≤ 3 * tot xs := by
    induction xs with
    | nil => simp [tot]
    | cons p xs ih =>
      have hq := Wd.quote_len p
      have ih' := ih (Wd.glue_len 32 (xs.map Wd.quote))
      simp only [tot, List.map_cons, List.sum_cons] at *
      omega
  omega
theorem line36 (v : Value) (ps : List (List UInt8)) (w : World) (base : Nat) (hv : w.ownsRow base 9 1 v ps.length (SS ps)) (hn : ps.length ≤ 140737488355328) (hl : (Wd.glue 32 ps).length ≤ 140737488355328) :
    Calls Tryd.prog 36 #[v] w fun e w' => e = .returned (.string ⟨(Wd.glue 32 ps).toArray⟩) ∧ Below w.heap.size w w' := by
  rcases hv.2 with ⟨rfl, h0⟩ | ⟨g, cap, cur, rfl, hb, hg, hnc, _, _⟩
  · obtain rfl : ps = [] := List.length_eq_zero_iff.1 h0
    go_enter Tryd.func36, Tryd.ntmps36
    go_wp2_with fail
    refine (Tryd.strings_Join_none _ _ _ _).mono ?_
    rintro e w' ⟨rfl, rfl⟩
    go_wp2_with fail
    go_ret
    exact ⟨rfl, Below.refl _ _⟩
  · have hlt : g < w.heap.size := by
      rcases Nat.lt_or_ge g w.heap.size with h | h
      · exact h
      · rw [Array.getElem?_eq_none h] at hg; cases hg
    have hj := Tryd.strings_Join g 0 cap (ps.map fun p => (⟨p.toArray⟩ : ByteArray)) ⟨#[32]⟩ w (fun j x hx => by
      rw [List.getElem?_map, Option.map_eq_some_iff] at hx
      obtain ⟨p, hp, rfl⟩ := hx
      have hjl : j < ps.length := (List.getElem?_eq_some_iff.1 hp).1
      have := hv.cellAt j (by omega)
      rw [Nat.zero_add, this]
      simp [SS, S, hp]) hlt (by simpa using hn) (by simpa using hnc) (by
        have e : ((ps.map fun p => (⟨p.toArray⟩ : ByteArray)).map (·.data.toList)) = ps := by simp [Function.comp_def]
        rw [e, show (⟨#[32]⟩ : ByteArray).data.toList = [32] from rfl, Wd.glue_join]; exact hl)
    have e : ((ps.map fun p => (⟨p.toArray⟩ : ByteArray)).map (·.data.toList)) = ps := by simp [Function.comp_def]
    rw [e, show (⟨#[32]⟩ : ByteArray).data.toList = [32] from rfl, Wd.glue_join, List.length_map] at hj
    have HJ := Lib.hid hj
    clear hj e hnc hg hlt
    have HV := Lib.hid hv
    clear hv
    go_enter Tryd.func36, Tryd.ntmps36
    go_wp2_with fail
    refine HJ.out.mono ?_
    rintro e w' ⟨rfl, hb⟩
    go_wp2_with fail
    go_ret
    exact ⟨rfl, hb⟩
set_option maxHeartbeats 800000 in
theorem join19 (A : Option Addr) (cap : Nat) (xs : List (List UInt8)) (w : World) (hr : Reads w w.heap.size 1 A xs.length (SS xs)) (ht : tot xs ≤ 4194304) :
    Calls Tryd.prog 19 #[.slice A xs.length cap] w fun e w' => e = .returned (.string ⟨(Wd.joinL xs).toArray⟩) ∧ Below w.heap.size w w' := by
  obtain ⟨i0, hi, hz0, hz1, hz2⟩ := info_parts info9
  have HI9 := Lib.hid hi
  have HZ0 := Lib.hid hz0
  have HZ1 := Lib.hid hz1
  have HZ2 := Lib.hid hz2
  clear hi hz0 hz1 hz2
  have HR := Lib.hid hr
  clear hr
  have hl := tot_len xs
  go_enter Tryd.func19, Tryd.ntmps19
  go_wp2_with fail
  go_loopw [3, 8] (fun v i wr => ∃ k : Nat, k ≤ xs.length ∧ i = .int .i64 k ∧ wr.ownsRow w.heap.size 9 1 v k (SS ((xs.take k).map Wd.quote)) ∧ Below w.heap.size w wr) (fun _ i _ => xs.length - (intOf i).toNat)
  case atStart => exact ⟨0, Nat.zero_le _, rfl, World.ownsRow_nil _ _ _ _, Below.refl _ _⟩
  case round =>
    obtain ⟨k, hk, rfl, hI, hb⟩ := hrel
    have HI := Lib.hid hI
    clear hI
    by_cases hlt : k < xs.length
    · obtain ⟨ad, u, rfl, _, hx, hc⟩ := (HR.out.below hb).at_ hlt
      obtain ⟨p, hp, rfl⟩ := SS_at hx
      have hpl := tot_mem (List.mem_of_getElem? hp)
      have HP := Lib.hid hp
      clear hx hp
      go_wp2_with fail
      refine (quoteL p _ (by omega)).mono ?_
      rintro e w2 ⟨rfl, hb2⟩
      have HI2 := Lib.hid (own_below HI.out hb2)
      have hb2' := hb.trans (hb2.mono hb.size)
      clear hb2
      go_wp2_with (at_builtin; refine wpList_append_own _ rfl _ _ 28 rfl w.heap.size 9 i0 (.string ⟨#[]⟩) 1 16 Tryd.underlying28 HI9.out HZ0.out HZ1.out HZ2.out rfl (by decide) _ _ _ rfl (HI2.out.alloc _) ⟨w2.heap.size, 0, none⟩ 1 1 [.string ⟨(Wd.quote p).toArray⟩] rfl rfl ?c1 ?c2 ?c3 ?c4 ?c5 ?_)
      case c1 => exact cells_one w2 _ 9
      case c2 => intro u hu; simp at hu; subst hu; rfl
      case c3 => unfold maxLen; omega
      case c4 => omega
      case c5 => have := hb2'.size; simp; omega
      intro v' w3 hown' hgrow hnil
      clear hnil
      have HO := Lib.hid hown'
      clear hown'
      have hb3 := (hb2'.alloc hb2'.size _).grown hgrow (by have := hb2'.size; simp; omega) (fun k hk => (HI2.out.lt k hk).1)
      clear hgrow
      go_wp2_with fail
      go_roundw
      case rel => exact ⟨k + 1, by omega, by go_num, by rw [take_one HP.out, List.map_append, List.map_cons, List.map_nil, SS_snoc, List.map_take]; exact HO.out, hb3⟩
      case measure => simp [intOf]; omega
    · have ht' : xs.take k = xs := List.take_of_length_le (by omega)
      obtain rfl : k = xs.length := by omega
      rw [ht'] at HI
      clear ht'
      have hjl := joinL_len xs
      have hown : wr.ownsRow w.heap.size 9 1 u3 (xs.map Wd.quote).length (SS (xs.map Wd.quote)) := by rw [List.length_map]; exact HI.out
      have HL := Lib.hid (line36 u3 (xs.map Wd.quote) wr w.heap.size hown (by rw [List.length_map]; omega) (by show (Wd.joinL xs).length ≤ _; omega))
      clear hown
      go_wp2_with fail
      refine HL.out.mono ?_
      rintro e w2 ⟨rfl, hb2⟩
      go_wp2_with fail
      go_ret
      exact ⟨rfl, hb.trans (hb2.mono hb.size)⟩

/-! The reference's Join. -/
def joinTo (xs : List (List UInt8)) (k : Nat) : List UInt8 := Wd.joinL (xs.take k)
theorem joinTo_first {xs : List (List UInt8)} {p : List UInt8} (h : xs[0]? = some p) : joinTo xs 1 = Wd.quote p := by
  unfold joinTo Wd.joinL
  rw [take_one h]; rfl
theorem glue_more (c : UInt8) (p : List UInt8) : ∀ q : List (List UInt8), q ≠ [] → Wd.glue c (q ++ [p]) = Wd.glue c q ++ c :: p
  | [], h => absurd rfl h
  | [a], _ => rfl
  | a :: b :: q, _ => by
    have h1 : Wd.glue c (a :: b :: q ++ [p]) = a ++ c :: Wd.glue c (b :: q ++ [p]) := Wd.glue_cons c a (by simp)
    have h2 : Wd.glue c (a :: b :: q) = a ++ c :: Wd.glue c (b :: q) := Wd.glue_cons c a (by simp)
    rw [h1, glue_more c p (b :: q) (by simp), h2]
    simp
theorem joinTo_more {xs : List (List UInt8)} {p : List UInt8} {k : Nat} (hk : 0 < k) (h : xs[k]? = some p) : joinTo xs (k + 1) = (joinTo xs k ++ [32]) ++ Wd.quote p := by
  unfold joinTo Wd.joinL
  have hl : k < xs.length := (List.getElem?_eq_some_iff.1 h).1
  rw [take_one h, List.map_append, List.map_cons, List.map_nil, glue_more 32 (Wd.quote p) _ (by
    intro e
    have := congrArg List.length e
    rw [List.length_map, List.length_take] at this
    simp only [List.length_nil] at this
    omega)]
  simp
theorem joinTo_len (xs : List (List UInt8)) (k : Nat) : (joinTo xs k).length ≤ 3 * tot xs := by
  have := joinL_len (xs.take k)
  have := tot_take xs k
  unfold joinTo
  omega
theorem own_str3 {w : World} {base : Nat} {v : Value} {a b : List UInt8} (h : w.ownsRow base 5 1 v (a.length + 1 + b.length) (Lib.byteCells a ++ Value.int .u8 32 :: Lib.strCells ⟨b.toArray⟩)) : w.ownsRow base 5 1 v (a ++ [32] ++ b).length (Lib.byteCells (a ++ [32] ++ b)) := by
  rw [List.length_append, List.length_append, Lib.byteCells_append, Lib.byteCells_append, List.append_assoc]
  exact h
theorem own_str1 {w : World} {base : Nat} {v : Value} {a b : List UInt8} (h : w.ownsRow base 5 1 v (a.length + b.length) (Lib.byteCells a ++ Lib.strCells ⟨b.toArray⟩)) : w.ownsRow base 5 1 v (a ++ b).length (Lib.byteCells (a ++ b)) := by
  rw [List.length_append, Lib.byteCells_append]
  exact h
theorem joinTo_zero {xs : List (List UInt8)} {p : List UInt8} {k : Nat} (hk : ¬ 0 < k) (h : xs[k]? = some p) : joinTo xs (k + 1) = joinTo xs k ++ Wd.quote p := by
  obtain rfl : k = 0 := by omega
  rw [joinTo_first h]; rfl
set_option maxHeartbeats 1600000 in
theorem join21 (A : Option Addr) (cap : Nat) (xs : List (List UInt8)) (w : World) (hr : Reads w w.heap.size 1 A xs.length (SS xs)) (ht : tot xs ≤ 4194304) :
    Calls Tryd.prog 21 #[.slice A xs.length cap] w fun e w' => e = .returned (.string ⟨(Wd.joinL xs).toArray⟩) ∧ Below w.heap.size w w' := by
  obtain ⟨i0, hi, hz0, hz1, hz2⟩ := info_parts info5
  have HI5 := Lib.hid hi
  have HZ0 := Lib.hid hz0
  have HZ1 := Lib.hid hz1
  have HZ2 := Lib.hid hz2
  clear hi hz0 hz1 hz2
  have HR := Lib.hid hr
  clear hr
  have hl := tot_len xs
  go_enter Tryd.func21, Tryd.ntmps21
  go_wp2_with fail
  go_loopw [3, 4] (fun v i wr => ∃ k : Nat, k ≤ xs.length ∧ i = .int .i64 k ∧ wr.ownsRow w.heap.size 5 1 v (joinTo xs k).length (Lib.byteCells (joinTo xs k)) ∧ Below w.heap.size w wr) (fun _ i _ => xs.length - (intOf i).toNat)
  case atStart => exact ⟨0, Nat.zero_le _, rfl, own_empty w, (Below.refl _ _).alloc (Nat.le_refl _) _⟩
  case round =>
    obtain ⟨k, hk, rfl, hI, hb⟩ := hrel
    have HI := Lib.hid hI
    clear hI
    have jl := joinTo_len xs k
    by_cases hlt : k < xs.length
    · obtain ⟨ad, u, rfl, hbl, hx, hc⟩ := (HR.out.below hb).at_ hlt
      obtain ⟨p, hp, rfl⟩ := SS_at hx
      have hpl := tot_mem (List.mem_of_getElem? hp)
      have hql := Wd.quote_len p
      have HP := Lib.hid hp
      clear hx hp
      by_cases hk0 : ¬ 0 < k
      · have hkn : ¬ (0 : Int) < (k : Int) := by omega
        go_wp2_with fail
        refine (quoteRL p _ (by omega)).mono ?_
        rintro e w2 ⟨rfl, hb2⟩
        have HI2 := Lib.hid (own_below HI.out hb2)
        have hb2' := hb.trans (hb2.mono hb.size)
        clear hb2
        go_wp2_with (at_builtin; refine Lib.wpList_append_own_string _ rfl _ _ 37 9 rfl w.heap.size 5 i0 Tryd.underlying37 Tryd.underlying9 HI5.out HZ0.out HZ1.out HZ2.out _ _ _ rfl HI2.out ⟨(Wd.quote p).toArray⟩ rfl ?c3 ?c4 ?c5 ?_)
        case c3 => rw [str_size]; unfold maxLen; omega
        case c4 => rw [str_size]; omega
        case c5 => exact hb2'.size
        intro v' w3 hown' hgrow hnil
        clear hnil
        have HO := Lib.hid hown'
        clear hown'
        have hb3 := hb2'.grown hgrow hb2'.size (fun k hk => (HI2.out.lt k hk).1)
        clear hgrow
        go_wp2_with fail
        go_roundw
        case rel => exact ⟨k + 1, by omega, by go_num, by rw [joinTo_zero hk0 HP.out]; exact own_str1 HO.out, hb3⟩
        case measure => simp [intOf]; omega
      · have hkpos : (0 : Int) < (k : Int) := by omega
        have hco : ∀ o : Obj, (wr.alloc o).cell? (ad.add k) = some (.string ⟨p.toArray⟩) := fun o => by
          rw [World.cell?_alloc_lt _ _ _ (by rw [block_of_add]; have := hb.size; omega)]; exact hc
        go_wp2_with (at_builtin; refine wpList_append_own _ rfl _ _ 37 rfl w.heap.size 5 i0 (.int .u8 0) 1 1 Tryd.underlying37 HI5.out HZ0.out HZ1.out HZ2.out rfl (by decide) _ _ _ rfl (HI.out.alloc _) ⟨wr.heap.size, 0, none⟩ 1 1 [.int .u8 32] rfl rfl ?c1 ?c2 ?c3 ?c4 ?c5 ?_)
        case c1 => exact cells_one wr _ 5
        case c2 => intro u hu; simp at hu; subst hu; rfl
        case c3 => unfold maxLen; omega
        case c4 => omega
        case c5 => have := hb.size; simp; omega
        intro v1 w1 hown1 hgrow1 hnil1
        clear hnil1
        have HO1 := Lib.hid hown1
        clear hown1
        have hb1 := (hb.alloc hb.size _).grown hgrow1 (by have := hb.size; simp; omega) (fun k hk => (HI.out.lt k hk).1)
        clear hgrow1 hc hco
        obtain ⟨ad', u', had, _, hx', hc'⟩ := (HR.out.below hb1).at_ hlt
        obtain rfl : ad' = ad := (Option.some.inj had).symm
        obtain ⟨p', hp', rfl⟩ := SS_at hx'
        obtain rfl : p' = p := Option.some.inj (hp'.symm.trans HP.out)
        clear had hx' hp'
        go_wp2_with fail
        refine (quoteRL p' _ (by omega)).mono ?_
        rintro e w2 ⟨rfl, hb2⟩
        have HI2 := Lib.hid (own_below HO1.out hb2)
        have hb2' := hb1.trans (hb2.mono hb1.size)
        clear hb2
        go_wp2_with (at_builtin; refine Lib.wpList_append_own_string _ rfl _ _ 37 9 rfl w.heap.size 5 i0 Tryd.underlying37 Tryd.underlying9 HI5.out HZ0.out HZ1.out HZ2.out _ _ _ rfl HI2.out ⟨(Wd.quote p').toArray⟩ rfl ?c3 ?c4 ?c5 ?_)
        case c3 => rw [str_size]; unfold maxLen; omega
        case c4 => rw [str_size]; omega
        case c5 => exact hb2'.size
        intro v' w3 hown' hgrow hnil
        clear hnil
        have HO := Lib.hid hown'
        clear hown'
        have hb3 := hb2'.grown hgrow hb2'.size (fun k hk => (HI2.out.lt k hk).1)
        clear hgrow
        go_wp2_with fail
        go_roundw
        case rel => exact ⟨k + 1, by omega, by go_num, by rw [joinTo_more (by omega) HP.out]; exact own_str3 HO.out, hb3⟩
        case measure => simp [intOf]; omega
    · have ht' : joinTo xs k = Wd.joinL xs := by unfold joinTo; rw [List.take_of_length_le (by omega)]
      rw [ht'] at HI
      clear ht'
      have hcv := conv_own HI.out
      go_wp2_with fail
      go_ret
      exact ⟨rfl, hb⟩
end Go.Proofs.YtkkacgabikbedaaDoor
