/-
  What Label of the program and plain return.
-/
import Derived.Test.YtoechdnhgkelfaaDoorPoints
import Derived.Lib.ConvBytes
import Derived.Lib.SmallJoins
namespace Go.Proofs.YtoechdnhgkelfaaDoor
open Go.RowKit Go.PlainAid
theorem low54 (c : Int) (w : World) (_h0 : 0 ≤ c) (_h1 : c ≤ 255) : Calls Tryd.prog 54 #[.int .u8 c] w fun e w' => e = .returned (.bool (lowB c)) ∧ w = w' := by
  by_cases a1 : c < 32
  · have HL := Lib.hid (show lowB c = true by unfold lowB; rw [decide_eq_true a1]; rfl)
    go_enter Tryd.func54, Tryd.ntmps54
    go_wp2_with fail
    go_ret
    exact ⟨by rw [HL.out]; rfl, rfl⟩
  · have HL := Lib.hid (show lowB c = (c == 127) by unfold lowB; rw [decide_eq_false a1]; rfl)
    go_enter Tryd.func54, Tryd.ntmps54
    go_wp2_with fail
    go_ret
    exact ⟨by rw [HL.out]; rfl, rfl⟩
/-- A row that holds the bytes of a string. -/
def BRow (w : World) (g : Nat) (s : ByteArray) : Prop := ∀ j, j < s.size → w.cell? ⟨g, j, none⟩ = some (.int .u8 (bt s j))
def IxOut (s : ByteArray) (w : World) (e : Ending) (w' : World) : Prop := ∃ v : Int, e = .returned (.int .i64 v) ∧ ((v = -1 ∧ Lows s s.size) ∨ (0 ≤ v ∧ ¬ Lows s s.size)) ∧ w = w'
theorem index61 (s : ByteArray) (g cap : Nat) (w : World) (hr : BRow w g s) (hs : s.size ≤ 1000) : Calls Tryd.prog 61 #[.slice (some ⟨g, 0, none⟩) s.size cap, .func (.func 54) #[] #[]] w (IxOut s w) := by
  have HR := Lib.hid hr
  clear hr
  go_enter Tryd.func61, Tryd.ntmps61
  go_wp2_with fail
  go_loop [5, 8] (fun _ i => ∃ k : Nat, k ≤ s.size ∧ i = .int .i64 k ∧ Lows s k) (fun _ i => s.size - (intOf i).toNat)
  case atStart => exact ⟨0, Nat.zero_le _, rfl, fun j hj => by omega⟩
  case round =>
    obtain ⟨k, hk, rfl, hlow⟩ := hrel
    have HL := Lib.hid hlow
    clear hlow
    by_cases hlt : k < s.size
    · have hc := HR.out k hlt
      go_wp2_with fail
      refine (low54 (bt s k) _ (bt_nonneg s k) (bt_le s k)).mono ?_
      rintro e w' ⟨rfl, rfl⟩
      cases hq : lowB (bt s k)
      · have HS := Lib.hid (HL.out.succ hq)
        clear hq
        go_wp2_with fail
        go_round
        case rel => exact ⟨k + 1, by omega, by go_num, HS.out⟩
        case measure => simp [intOf]; omega
      · have HN := Lib.hid (show ¬ Lows s s.size from fun h => by rw [h k hlt] at hq; cases hq)
        clear hq
        go_wp2_with fail
        go_ret
        exact ⟨k, rfl, .inr ⟨by omega, HN.out⟩, rfl⟩
    · have HD := Lib.hid (show Lows s s.size from fun j hj => HL.out j (by omega))
      go_wp2_with fail
      go_ret
      exact ⟨-1, rfl, .inl ⟨rfl, HD.out⟩, rfl⟩
def CtOut (s : ByteArray) (w : World) (e : Ending) (w' : World) : Prop := ∃ b : Bool, e = .returned (.bool b) ∧ (b = true ↔ ¬ Lows s s.size) ∧ w = w'
theorem contains53 (s : ByteArray) (g cap : Nat) (w : World) (hr : BRow w g s) (hs : s.size ≤ 1000) : Calls Tryd.prog 53 #[.slice (some ⟨g, 0, none⟩) s.size cap, .func (.func 54) #[] #[]] w (CtOut s w) := by
  have HR := Lib.hid hr
  clear hr
  go_enter Tryd.func53, Tryd.ntmps53
  go_wp2_with fail
  refine (index61 s g cap w HR.out hs).mono ?_
  rintro e w' ⟨v, rfl, ⟨rfl, hl⟩ | ⟨hv, hl⟩, rfl⟩
  · have HL := Lib.hid hl
    clear hl
    go_wp2_with fail
    go_ret
    exact ⟨false, rfl, ⟨(fun h => nomatch h), fun h => absurd HL.out h⟩, rfl⟩
  · have HL := Lib.hid hl
    clear hl
    go_wp2_with fail
    go_ret
    exact ⟨true, rfl, ⟨fun _ => HL.out, fun _ => rfl⟩, rfl⟩
/-- A label of the program. -/
def LabQ (s : ByteArray) : Prop := 1 ≤ s.size ∧ s.size ≤ 32 ∧ Lows s s.size ∧ Lib.validD s.data.toList = true
def LabQOut (s : ByteArray) (w : World) (e : Ending) (w' : World) : Prop := ∃ b : Bool, e = .returned (.bool b) ∧ (b = true ↔ LabQ s) ∧ Below w.heap.size w w'
theorem LabQOut.no {s : ByteArray} {w w' : World} (h : ¬ LabQ s) (hb : Below w.heap.size w w') : LabQOut s w (.returned (.bool false)) w' := ⟨false, rfl, ⟨(fun h => nomatch h), fun h' => absurd h' h⟩, hb⟩
theorem getD_bt (s : ByteArray) (j : Nat) (hj : j < s.size) : ((s.data.toList.getD j 0).toNat : Int) = bt s j := by
  rw [← get_bt s j hj]
  congr 2
  rw [List.getD_eq_getElem?_getD, List.getElem?_eq_getElem (by rw [size_list]; exact hj)]
  rfl
theorem tabs_below {w w' : World} (hT : Lib.Utf8Tabs 0 1 w) (hb : Below w.heap.size w w') : Lib.Utf8Tabs 0 1 w' := Utf8Tabs_below hT hb
theorem bytes_below (w : World) (e : TypeId) (s : ByteArray) : Below w.heap.size w (Lib.bytesWorld w e s) :=
  ⟨rfl, rfl, rfl, by rw [Lib.bytesWorld_size]; omega, fun i hi => Lib.bytesWorld_at_old w e s i hi⟩
set_option maxHeartbeats 800000 in
theorem label46 (s : ByteArray) (w : World) (hs : s.size ≤ 1000) (hT : Lib.Utf8Tabs 0 1 w) : Calls Tryd.prog 46 #[.string s] w (LabQOut s w) := by
  by_cases h0 : s.size = 0
  · have he : s.toList.isEmpty = true := (empty_iff s).2 (List.eq_nil_of_length_eq_zero (by rw [size_list]; exact h0))
    have HN := Lib.hid (show ¬ LabQ s from fun h => by have := h.1; omega)
    clear h0 hT
    go_enter Tryd.func46, Tryd.ntmps46
    go_wp2_with fail
    go_ret
    exact LabQOut.no HN.out (Below.refl _ _)
  have he : s.toList.isEmpty = false := by
    cases h : s.toList.isEmpty
    · rfl
    · have := (empty_iff s).1 h
      rw [← size_list, this] at h0
      exact absurd rfl h0
  by_cases h32 : 32 < s.size
  · have h32' : (32 : Int) < (s.size : Int) := by omega
    have HN := Lib.hid (show ¬ LabQ s from fun h => by have := h.2.1; omega)
    clear hT
    go_enter Tryd.func46, Tryd.ntmps46
    go_wp2_with fail
    go_ret
    exact LabQOut.no HN.out (Below.refl _ _)
  have h32' : ¬ (32 : Int) < (s.size : Int) := by omega
  have kc := fun (w : World) => Lib.run_convert_string_bytes (P := Tryd.prog) w 9 63 5 s Tryd.underlying9 Tryd.underlying63 Tryd.underlying5
  have hbw := Lib.hid (bytes_below w 5 s)
  have HR := Lib.hid (show BRow (Lib.bytesWorld w 5 s) w.heap.size s from fun j hj => by rw [Lib.bytesWorld_cell w 5 s j hj, getD_bt s j hj])
  have HT := Lib.hid hT
  clear hT
  go_enter Tryd.func46, Tryd.ntmps46
  go_wp2_with fail
  refine (contains53 s _ _ _ HR.out hs).mono ?_
  rintro e w1 ⟨b, rfl, hb, rfl⟩
  have HB := Lib.hid hb
  clear hb kc
  cases b
  · have HLW := Lib.hid (show Lows s s.size from Classical.byContradiction fun h => by have := HB.out.2 h; cases this)
    go_wp2_with fail
    refine (points55 s _ hs (tabs_below HT.out hbw.out)).mono ?_
    rintro e w2 ⟨v, rfl, hb2⟩
    have k2 := hbw.out.trans (hb2.mono hbw.out.size)
    go_wp2_with fail
    go_ret
    exact ⟨_, rfl, ⟨fun h => ⟨by omega, by omega, HLW.out, h⟩, fun h => h.2.2.2⟩, k2⟩
  · have HN := Lib.hid (show ¬ LabQ s from fun h => HB.out.1 rfl h.2.2.1)
    go_wp2_with fail
    go_ret
    exact LabQOut.no HN.out hbw.out
/-- A label without blanks, of the program. -/
def PlQ (s : ByteArray) : Prop := LabQ s ∧ Blk0 s s.size
def PlQOut (s : ByteArray) (w : World) (e : Ending) (w' : World) : Prop := ∃ b : Bool, e = .returned (.bool b) ∧ (b = true ↔ PlQ s) ∧ Below w.heap.size w w'
theorem index_mem (c : UInt8) : ∀ l : List UInt8, 0 ≤ Lib.indexByte l c ↔ c ∈ l
  | [] => by simp [Lib.indexByte]
  | b :: l => by
    have ih := index_mem c l
    rw [Lib.indexByte]
    by_cases h : b = c
    · subst h; simp
    · rw [if_neg (by simpa using h), List.mem_cons]
      have hb : ¬ c = b := fun e => h e.symm
      have hg := Lib.indexByte_ge l c
      split
      · rename_i h1
        have h1' : Lib.indexByte l c = -1 := by simpa using h1
        rw [← ih]
        constructor
        · omega
        · rintro (h2 | h2)
          · exact absurd h2 hb
          · omega
      · rename_i h1
        have h1' : Lib.indexByte l c ≠ -1 := by simpa using h1
        rw [← ih]
        constructor
        · intro _; exact .inr (by omega)
        · intro _; omega
theorem blk_iff (s : ByteArray) : Blk0 s s.size ↔ ¬ (32 : UInt8) ∈ s.data.toList := by
  constructor
  · intro h hm
    obtain ⟨j, hj⟩ := mem_ix hm
    have hl := lt_get hj
    rw [size_list] at hl
    refine h j hl ?_
    rw [← get_bt s j hl]
    have : s[j] = 32 := by
      have := (List.getElem?_eq_some_iff.1 hj).2
      exact this
    rw [this]; rfl
  · intro h j hj he
    apply h
    rw [← get_bt s j hj] at he
    have e1 : s[j] = 32 := UInt8.toNat_inj.1 (by show s[j].toNat = 32; omega)
    have h2 : s.data.toList[j]? = some s[j] := List.getElem?_eq_getElem (by rw [size_list]; exact hj)
    rw [← e1]
    exact List.mem_of_getElem? h2
theorem plain30 (s : ByteArray) (w : World) (hs : s.size ≤ 1000) (hT : Lib.Utf8Tabs 0 1 w) : Calls Tryd.prog 30 #[.string s] w (PlQOut s w) := by
  have HC := Lib.hid (fun w => Tryd.strings_Contains_one s 32 w)
  have HT := Lib.hid hT
  have HM := Lib.hid ((index_mem 32 s.data.toList))
  have HB := Lib.hid (blk_iff s)
  clear hT
  go_enter Tryd.func30, Tryd.ntmps30
  go_wp2_with fail
  refine (label46 s w hs HT.out).mono ?_
  rintro e w1 ⟨b, rfl, hb, hb1⟩
  have HL := Lib.hid hb
  clear hb
  cases b
  · go_wp2_with fail
    go_ret
    exact ⟨false, rfl, ⟨(fun h => nomatch h), fun h => HL.out.2 h.1⟩, hb1⟩
  · go_wp2_with fail
    refine (HC.out w1).mono ?_
    rintro e w2 ⟨rfl, hw2⟩
    rw [hw2]
    by_cases hq : 0 ≤ Lib.indexByte s.data.toList 32
    · rw [decide_eq_true hq]
      have HN := Lib.hid (show ¬ PlQ s from fun h => HB.out.1 h.2 (HM.out.1 hq))
      clear hq
      go_wp2_with fail
      go_ret
      exact ⟨false, rfl, ⟨(fun h => nomatch h), fun h => absurd h HN.out⟩, hb1⟩
    · rw [decide_eq_false hq]
      have HN := Lib.hid (show PlQ s from ⟨HL.out.1 (by simp), HB.out.2 fun h => hq (HM.out.2 h)⟩)
      clear hq
      go_wp2_with fail
      go_ret
      exact ⟨true, rfl, ⟨fun _ => HN.out, fun _ => rfl⟩, hb1⟩
end Go.Proofs.YtoechdnhgkelfaaDoor
