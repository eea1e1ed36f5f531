/-
  What the reference's Quote returns: the word of the string, for strings of at most 4194304 bytes.
-/
import Derived.Test.YtkkacgabikbedaaDoorQuote
import Derived.Laws.IdiomStrings
import Derived.Deep.AppendLies
import Derived.Deep.RegionLaw
namespace Go.Proofs.YtkkacgabikbedaaDoor
open Go.RowKit Go.PlainAid

theorem info5 : (Tryd.prog.info? 5).map (fun i => (i.zero, i.size, i.bytes)) = some (some (.int .u8 0), 1, 1) := by kernel_rfl
/-- A row of bytes of the call's own, turned to a string. -/
theorem conv_own {w : World} {base : Nat} {v : Value} {l : List UInt8} (h : w.ownsRow base 5 1 v l.length (Lib.byteCells l)) : (convert 37 9 v).run Tryd.prog w = .ok (.string ⟨l.toArray⟩) w := by
  rcases h.2 with ⟨rfl, h0⟩ | ⟨g, cap, cur, rfl, _⟩
  · obtain rfl : l = [] := List.length_eq_zero_iff.1 h0
    exact run_convert_bytes_nil w 37 5 Tryd.underlying37 Tryd.underlying5 0 0 9 Tryd.underlying9
  · refine run_convert_bytes_back w 37 9 5 ⟨g, 0, none⟩ cap l Tryd.underlying37 Tryd.underlying5 Tryd.underlying9 fun j hj => ?_
    refine h.cells (g := g) rfl j _ ?_
    simp [Lib.byteCells, List.getElem?_eq_getElem hj]
theorem own_empty (w : World) : (w.alloc (.cells #[] 5)).ownsRow w.heap.size 5 1 (.slice (some ⟨w.heap.size, 0, none⟩) 0 0) 0 [] :=
  ⟨rfl, .inr ⟨w.heap.size, 0, #[], rfl, Nat.le_refl _, heap_alloc_new w _, Nat.le_refl _, Nat.zero_le _, rfl, rfl⟩⟩
theorem own_drew {w : World} {base : Nat} {e : TypeId} {v : Value} {n : Nat} {xs : List Value} (h : w.ownsRow base e 1 v n xs) : w.drew.ownsRow base e 1 v n xs := h

/-- What is written of the first k bytes. -/
def encTo (s : ByteArray) (k : Nat) : List UInt8 := (s.data.toList.take k).flatMap Wd.enc
theorem encTo_len (s : ByteArray) (k : Nat) : (encTo s k).length ≤ 3 * s.size := flat_take_len s k
theorem encTo_plain (s : ByteArray) (k : Nat) (h : k < s.size) (hp : plainI (bt s k) = true) : Lib.byteCells (encTo s (k + 1)) = Lib.byteCells (encTo s k) ++ [.int .u8 (bt s k)] := enc_plain s k h hp
theorem encTo_other (s : ByteArray) (k : Nat) (h : k < s.size) (hp : plainI (bt s k) = false) :
    Lib.byteCells (encTo s (k + 1)) = Lib.byteCells (encTo s k) ++ [.int .u8 37, .int .u8 (hexI (bt s k / 16)), .int .u8 (hexI (bt s k % 16))] := by
  have e3 : Lib.strCells (strOfNums [37, hexI (bt s k / 16), hexI (bt s k % 16)]) = [.int .u8 37, .int .u8 (hexI (bt s k / 16)), .int .u8 (hexI (bt s k % 16))] := by
    simp [Lib.strCells, strOfNums, hexI]
  rw [← e3]
  exact enc_other s k h hp
theorem encTo_all (s : ByteArray) (k : Nat) (h : s.size ≤ k) (h0 : s.toList.isEmpty = false) : encTo s k = Wd.quote s.data.toList := by
  unfold encTo
  rw [take_all s k h, quote_of s h0]
theorem quote14_empty (w : World) (s : ByteArray) (h : s.toList.isEmpty = true) :
    Calls Tryd.prog 14 #[.string s] w fun e w' => e = .returned (.string ⟨(Wd.quote s.data.toList).toArray⟩) ∧ Below w.heap.size w w' := by
  have e : Wd.quote s.data.toList = [37, 45] := by rw [empty_iff] at h; simp [Wd.quote, h]
  have E := Lib.hid e
  clear e
  go_enter Tryd.func14, Tryd.ntmps14
  go_wp2_with fail
  go_ret
  exact ⟨by rw [E.out]; rfl, Below.refl _ _⟩
theorem cells_three (w : World) (a b c : Value) : ∀ j u, [a, b, c][j]? = some u → (w.alloc (.cells #[a, b, c] 5)).cell? ((⟨w.heap.size, 0, none⟩ : Addr).add j) = some u := by
  intro j u hj
  match j, hj with
  | 0, hj => simp at hj; subst hj; simp [Addr.add]
  | 1, hj => simp at hj; subst hj; simp [Addr.add]
  | 2, hj => simp at hj; subst hj; simp [Addr.add]
theorem one_three (a b c : Int) : ∀ u ∈ [Value.int .u8 a, Value.int .u8 b, Value.int .u8 c], u.oneCell' = true := by
  intro u hu; simp at hu; rcases hu with rfl | rfl | rfl <;> rfl
theorem cells_one (w : World) (a : Value) (t : TypeId) : ∀ j u, [a][j]? = some u → (w.alloc (.cells #[a] t)).cell? ((⟨w.heap.size, 0, none⟩ : Addr).add j) = some u := by
  intro j u hj
  match j, hj with
  | 0, hj => simp at hj; subst hj; simp [Addr.add]
set_option maxHeartbeats 800000 in
theorem quote14_some (s : ByteArray) (w : World) (h0 : s.toList.isEmpty = false) (hs : s.size ≤ 4194304) :
    Calls Tryd.prog 14 #[.string s] w fun e w' => e = .returned (.string ⟨(Wd.quote s.data.toList).toArray⟩) ∧ Below w.heap.size w w' := by
  have hbt := get_bt s
  obtain ⟨i0, hi, hz0, hz1, hz2⟩ := info_parts info5
  have HI5 := Lib.hid hi
  have HZ0 := Lib.hid hz0
  have HZ1 := Lib.hid hz1
  have HZ2 := Lib.hid hz2
  clear hi hz0 hz1 hz2
  go_enter Tryd.func14, Tryd.ntmps14
  go_wp2_with fail
  go_loopw [3, 4] (fun v i wr => ∃ k : Nat, k ≤ s.size ∧ i = .int .i64 k ∧ wr.ownsRow w.heap.size 5 1 v (encTo s k).length (Lib.byteCells (encTo s k)) ∧ Below w.heap.size w wr) (fun _ i _ => s.size - (intOf i).toNat)
  case atStart => exact ⟨0, Nat.zero_le _, rfl, own_empty w, (Below.refl _ _).alloc (Nat.le_refl _) _⟩
  case round =>
    obtain ⟨k, hk, rfl, hI, hb⟩ := hrel
    have HI := Lib.hid hI
    clear hI
    have b0 := bt_nonneg s k
    have b1 := bt_le s k
    have hlen := Lib.hid (encTo_len s k)
    by_cases hlt : k < s.size
    · cases hp : plainI (bt s k)
      · have HP := Lib.hid hp
        clear hp
        have hq1 : IntKind.u8.wrap ((bt s k).tdiv 16) = bt s k / 16 := by rw [Int.tdiv_eq_ediv_of_nonneg b0, IntKind.wrap_u8]; omega
        have hq2 : (bt s k).tmod 16 = bt s k % 16 := Int.tmod_eq_emod_of_nonneg b0
        have ix1 := ixHex (bt s k / 16) (by omega) (by omega)
        have ix2 := ixHex (bt s k % 16) (by omega) (by omega)
        go_wp2_with fail
        refine (plain33 _ _ b0 b1).mono ?_
        rintro e w' ⟨rfl, rfl⟩
        rw [HP.out]
        go_wp2_with fail
        have L1 := Lib.hid (show (encTo s k).length + 3 ≤ maxLen by have := hlen.out; unfold maxLen; omega)
        have L2 := Lib.hid (show ((encTo s k).length + 3) * 1 ≤ 140737488355328 by have := hlen.out; omega)
        have L3 := Lib.hid (show w.heap.size ≤ wr.heap.size + 1 by have := hb.size; omega)
        go_region_law (refine step_append_lies _ rfl (.tmp 24) (.tmp 31) 37 rfl w.heap.size 5 i0 (.int .u8 0) 1 1 Tryd.underlying37 HI5.out HZ0.out HZ1.out HZ2.out rfl (by decide) u3 (encTo s k).length (Lib.byteCells (encTo s k)) rfl (by exact own_drew (HI.out.alloc _)) ⟨wr.heap.size, 0, none⟩ 3 3 [.int .u8 37, .int .u8 (hexI (bt s k / 16)), .int .u8 (hexI (bt s k % 16))] rfl rfl (by exact cells_three wr _ _ _) (by exact one_three _ _ _) (by decide) L1.out L2.out (by exact Nat.le_trans L3.out (by simp)) _ rfl ?_; intro g cap w3 hown' hgrow hat hlt3)
        all_goals
          have HO := Lib.hid hown'
          clear hown'
          have hb3 := (hb.drew.alloc hb.size _).grown hgrow (by have := hb.size; simp; omega) (fun k hk => (HI.out.lt k hk).1)
          clear hgrow hat hlt3
          go_wp2_with fail
          go_roundw
          case rel =>
            refine ⟨k + 1, by omega, by go_num, ?_, hb3⟩
            have e := encTo_other s k hlt HP.out
            have el := congrArg List.length e
            rw [Lib.byteCells_length, List.length_append, Lib.byteCells_length] at el
            rw [e, el]
            exact HO.out
          case measure => simp [intOf]; omega
      · have HP := Lib.hid hp
        clear hp
        go_wp2_with fail
        refine (plain33 _ _ b0 b1).mono ?_
        rintro e w' ⟨rfl, rfl⟩
        rw [HP.out]
        go_wp2_with (at_builtin; refine wpList_append_own _ rfl _ _ 37 rfl w.heap.size 5 i0 (.int .u8 0) 1 1 Tryd.underlying37 HI5.out HZ0.out HZ1.out HZ2.out rfl (by decide) _ _ _ rfl (HI.out.alloc _) ⟨wr.heap.size, 0, none⟩ 1 1 [.int .u8 (bt s k)] rfl rfl ?c1 ?c2 ?c3 ?c4 ?c5 ?_)
        case c1 => exact cells_one wr _ 5
        case c2 => intro u hu; simp at hu; subst hu; rfl
        case c3 => have := hlen.out; unfold maxLen; omega
        case c4 => have := hlen.out; omega
        case c5 => have := hb.size; simp; omega
        intro v' w3 hown' hgrow hnil
        clear hnil
        have HO := Lib.hid hown'
        clear hown'
        have hb3 := (hb.alloc hb.size _).grown hgrow (by have := hb.size; simp; omega) (fun k hk => (HI.out.lt k hk).1)
        clear hgrow
        go_wp2_with fail
        go_roundw
        case rel =>
          refine ⟨k + 1, by omega, by go_num, ?_, hb3⟩
          have e := encTo_plain s k hlt HP.out
          have el := congrArg List.length e
          rw [Lib.byteCells_length, List.length_append, Lib.byteCells_length] at el
          rw [e, el]
          exact HO.out
        case measure => simp [intOf]; omega
    · have ht := encTo_all s k (by omega) h0
      rw [ht] at HI
      clear ht
      have hcv := conv_own HI.out
      go_wp2_with fail
      go_ret
      exact ⟨rfl, hb⟩
theorem quote14 (s : ByteArray) (w : World) (hs : s.size ≤ 4194304) :
    Calls Tryd.prog 14 #[.string s] w fun e w' => e = .returned (.string ⟨(Wd.quote s.data.toList).toArray⟩) ∧ Below w.heap.size w w' := by
  cases h : s.toList.isEmpty
  · exact quote14_some s w h hs
  · exact quote14_empty w s h
end Go.Proofs.YtkkacgabikbedaaDoor
