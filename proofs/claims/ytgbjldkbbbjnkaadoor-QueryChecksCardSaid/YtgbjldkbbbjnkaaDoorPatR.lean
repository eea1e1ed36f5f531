/-
  What Check of the reference's patterns returns.
-/
import Derived.Test.YtgbjldkbbbjnkaaDoorPatP
namespace Go.Proofs.YtgbjldkbbbjnkaaDoor
open Go.RowKit Go.PlainAid

theorem special73 (c : Int) (w : World) : Calls Tryd.prog 73 #[.int .i64 c] w fun e w' => e = .returned (.bool (specB c)) ∧ w = w' := by
  cases t1 : (c == 42)
  case true =>
    have f := Lib.hid (show specB c = true by unfold specB; rw [t1]; rfl)
    go_enter Tryd.func73, Tryd.ntmps73
    go_wp2_with fail
    go_ret
    exact ⟨by rw [f.out]; rfl, rfl⟩
  cases t2 : (c == 63)
  case true =>
    have f := Lib.hid (show specB c = true by unfold specB; rw [t2, Bool.or_true]; rfl)
    go_enter Tryd.func73, Tryd.ntmps73
    go_wp2_with fail
    go_ret
    exact ⟨by rw [f.out]; rfl, rfl⟩
  have f := Lib.hid (show specB c = (c == 92) by unfold specB; rw [t1, t2]; rfl)
  go_enter Tryd.func73, Tryd.ntmps73
  go_wp2_with fail
  go_ret
  exact ⟨by rw [f.out]; rfl, rfl⟩
theorem own_empty3 (w : World) : (w.alloc (.cells #[] 3)).ownsRow w.heap.size 3 1 (.slice (some ⟨w.heap.size, 0, none⟩) 0 0) 0 [] :=
  ⟨rfl, .inr ⟨w.heap.size, 0, #[], rfl, Nat.le_refl _, heap_alloc_new w _, Nat.le_refl _, Nat.zero_le _, rfl, rfl⟩⟩
theorem take_two_get {l : List Int} {k : Nat} {p : Int} (h : l[k]? = some p) : l.take (k + 1) = l.take k ++ [p] := take_one h
theorem autB_go {l : List Int} {k : Nat} {p : Int} (h : autB (l.take k) = some false) (hk : l[k]? = some p) : autB (l.take (k + 1)) = stB (some false) p := by rw [take_one hk, autB_snoc, h]
theorem autB_none {l : List Int} {k : Nat} (h : autB (l.take k) = none) : autB l = none := by
  rw [← List.take_append_drop k l, autB, List.foldl_append]
  rw [autB] at h
  rw [h]
  exact foldB_none _
theorem st_low {x : Option Bool} {c : Int} (h : lowB c = true) : stB x c = none := by
  cases x with
  | none => rfl
  | some e => simp only [stB, h, if_true]
theorem st_plain {c : Int} (h : lowB c = false) (h2 : (c == 92) = false) : stB (some false) c = some false := by simp only [stB, h, h2]; rfl
theorem st_back : stB (some false) 92 = some true := rfl
theorem st_spec {c : Int} (h : specB c = true) : stB (some true) c = some false := by
  have hl : lowB c = false := by
    unfold specB at h
    unfold lowB
    simp at h ⊢
    omega
  simp only [stB, hl, h]
  rfl
theorem st_nospec {c : Int} (h : specB c = false) : stB (some true) c = none := by
  cases hl : lowB c
  · simp only [stB, hl, h]; rfl
  · exact st_low hl
/-- What tokens returns; the list does not matter. -/
def TokOut (s : ByteArray) (w : World) (e : Ending) (w' : World) : Prop := ∃ v, e = .returned (.tuple #[v, .int .i64 (pe s)]) ∧ Below w.heap.size w w'
theorem pe_no {s : ByteArray} (h0 : 1 ≤ s.size) (h1 : s.size ≤ 64) (hv : Lib.validD s.data.toList = true) {l : List Int} (hp : Pts s s.size l) (h : autB l ≠ some false) : pe s = 3 := by rw [pe_ref h0 h1 hv hp, if_neg h]
theorem pe_yes {s : ByteArray} (h0 : 1 ≤ s.size) (h1 : s.size ≤ 64) (hv : Lib.validD s.data.toList = true) {l : List Int} (hp : Pts s s.size l) (h : autB l = some false) : pe s = 0 := by rw [pe_ref h0 h1 hv hp, if_pos h]
theorem one_int (x : Int) : ∀ u ∈ [Value.int .i64 x], u.oneCell' = true := by
  intro u hu
  simp at hu
  subst hu
  rfl
theorem base_le2 {w : World} {B : Nat} (h : B ≤ w.heap.size) (o : Obj) : B ≤ (w.alloc o).heap.size := by
  simp
  omega
set_option maxHeartbeats 3200000 in
set_option maxRecDepth 100000 in
theorem tokens58 (s : ByteArray) (w : World) (hs : s.size ≤ 4194304) : Calls Tryd.prog 58 #[.string s] w (TokOut s w) := by
  by_cases h0 : s.size = 0
  · have he := empty_of h0
    have HN := Lib.hid (show pe s = 4 by unfold pe; rw [if_pos h0])
    clear h0
    go_enter Tryd.func58, Tryd.ntmps58
    go_wp2_with fail
    go_ret2
    exact ⟨_, by rw [HN.out]; rfl, Below.refl _ _⟩
  have he := some_of h0
  by_cases h64 : 64 < s.size
  · have h64' : (64 : Int) < (s.size : Int) := by omega
    have HN := Lib.hid (show pe s = 5 by unfold pe; rw [if_neg h0, if_pos h64])
    clear h0
    go_enter Tryd.func58, Tryd.ntmps58
    go_wp2_with fail
    go_ret2
    exact ⟨_, by rw [HN.out]; rfl, Below.refl _ _⟩
  have h64' : ¬ (64 : Int) < (s.size : Int) := by omega
  have h1 : 1 ≤ s.size := by omega
  clear h0
  obtain ⟨i0, hi, hz0, hz1, hz2⟩ := info_parts info3
  have HI := Lib.hid hi
  have HZ0 := Lib.hid hz0
  have HZ1 := Lib.hid hz1
  have HZ2 := Lib.hid hz2
  clear hi hz0 hz1 hz2
  have HP := Lib.hid (points72 s w (by omega))
  go_enter Tryd.func58, Tryd.ntmps58
  go_wp2_with fail
  refine HP.out.mono ?_
  rintro e w1 ⟨v, b, rfl, hbv, hb1, hl⟩
  cases b
  · have HN := Lib.hid (show pe s = 3 from pe_bad h1 (by omega) (fun h => by have := hbv.2 (valid_from.1 h); cases this))
    clear hbv hl
    go_wp2_with fail
    go_ret2
    exact ⟨_, by rw [HN.out]; rfl, hb1⟩
  · obtain ⟨l, hll, hpts, hown⟩ := hl rfl
    have HV := Lib.hid (show Lib.validD s.data.toList = true from valid_from.2 (hbv.1 rfl))
    have HPT := Lib.hid hpts
    obtain ⟨A, cv, rfl⟩ := own_form hown
    have HR := Lib.hid (show Ints w1 w1.heap.size A l by have h := Reads.of_own hown; exact h)
    clear hbv hl hpts hown
    have hb1a := Lib.hid (below_one w1 (.cells #[] 3))
    obtain ⟨w2, hw2⟩ : ∃ w2, w1.alloc (.cells #[] 3) = w2 := ⟨_, rfl⟩
    have HE := Lib.hid (own_empty3 w1)
    rw [hw2] at HE hb1a
    have HW := Lib.hid hw2
    clear hw2
    go_wp2_with fail
    rw [HW.out]
    clear HW
    go_loopw [6, 7] (fun v i wr => ∃ (k n : Nat) (xs : List Value), k ≤ l.length ∧ n ≤ k ∧ i = .int .i64 k ∧ autB (l.take k) = some false ∧ wr.ownsRow w1.heap.size 3 1 v n xs ∧ Below w1.heap.size w1 wr) (fun _ i _ => l.length - (intOf i).toNat)
    case atStart => exact ⟨0, 0, [], Nat.zero_le _, Nat.le_refl _, rfl, rfl, HE.out, hb1a.out⟩
    case round =>
      obtain ⟨k, n, xs, hk, hn, rfl, haut, hown, hb⟩ := hrel
      have HA := Lib.hid haut
      have HO := Lib.hid hown
      have HB := Lib.hid (hb1.trans (hb.mono hb1.size))
      have HRr := Lib.hid (show Ints wr w1.heap.size A l from HR.out.below hb)
      have hzr := hb.size
      have hkm : n + 1 ≤ maxLen := by unfold maxLen; omega
      have hkb : (n + 1) * 8 ≤ 140737488355328 := by omega
      have Hb := Lib.hid hb
      clear haut hown hb
      by_cases hlt : k < l.length
      · obtain ⟨p, hp⟩ := get_lt hlt
        obtain ⟨ad, rfl, hab, hc⟩ := HRr.out.at_ hp
        have HPK := Lib.hid hp
        clear hp
        by_cases hl1 : p < 32
        · have HN := Lib.hid (show pe s = 3 from pe_no h1 (by omega) HV.out HPT.out (by rw [autB_none (k := k + 1) (by rw [autB_go HA.out HPK.out]; exact st_low (by unfold lowB; rw [decide_eq_true hl1]; rfl))]; simp))
          go_wp2_with fail
          go_ret2
          exact ⟨_, by rw [HN.out]; rfl, HB.out⟩
        cases hl2 : (p == 127)
        case true =>
          have HN := Lib.hid (show pe s = 3 from pe_no h1 (by omega) HV.out HPT.out (by rw [autB_none (k := k + 1) (by rw [autB_go HA.out HPK.out]; exact st_low (by unfold lowB; rw [hl2, Bool.or_true]))]; simp))
          go_wp2_with fail
          go_ret2
          exact ⟨_, by rw [HN.out]; rfl, HB.out⟩
        have HL := Lib.hid (show lowB p = false by unfold lowB; rw [decide_eq_false hl1, hl2]; rfl)
        cases t92 : (p == 92)
        case false =>
          have HX := Lib.hid (show autB (l.take (k + 1)) = some false by rw [autB_go HA.out HPK.out]; exact st_plain HL.out t92)
          cases t42 : (p == 42)
          case true =>
            go_wp2_with (at_builtin; refine wpList_append_own _ rfl _ _ 32 rfl w1.heap.size 3 i0 (.int .i64 0) 1 8 Tryd.underlying32 HI.out HZ0.out HZ1.out HZ2.out rfl (by decide) _ _ _ rfl (HO.out.alloc _) ⟨wr.heap.size, 0, none⟩ 1 1 [.int .i64 (-1)] rfl rfl (cells_one wr _ 3) (one_int _) hkm hkb (base_le2 hzr _) ?_)
            intro v4 w4 hown4 hgrow4 hnil4
            clear hnil4
            have HB4 := Lib.hid ((Hb.out.alloc hzr _).grown hgrow4 (by simp; omega) (fun k hk => (HO.out.lt k hk).1))
            have HO4 := Lib.hid hown4
            clear hown4 hgrow4
            go_wp2_with fail
            go_roundw
            case rel => exact ⟨k + 1, n + 1, _, by omega, by omega, by go_num, HX.out, HO4.out, HB4.out⟩
            case measure => simp [intOf]; omega
          cases t63 : (p == 63)
          case true =>
            go_wp2_with (at_builtin; refine wpList_append_own _ rfl _ _ 32 rfl w1.heap.size 3 i0 (.int .i64 0) 1 8 Tryd.underlying32 HI.out HZ0.out HZ1.out HZ2.out rfl (by decide) _ _ _ rfl (HO.out.alloc _) ⟨wr.heap.size, 0, none⟩ 1 1 [.int .i64 (-2)] rfl rfl (cells_one wr _ 3) (one_int _) hkm hkb (base_le2 hzr _) ?_)
            intro v4 w4 hown4 hgrow4 hnil4
            clear hnil4
            have HB4 := Lib.hid ((Hb.out.alloc hzr _).grown hgrow4 (by simp; omega) (fun k hk => (HO.out.lt k hk).1))
            have HO4 := Lib.hid hown4
            clear hown4 hgrow4
            go_wp2_with fail
            go_roundw
            case rel => exact ⟨k + 1, n + 1, _, by omega, by omega, by go_num, HX.out, HO4.out, HB4.out⟩
            case measure => simp [intOf]; omega
          go_wp2_with (at_builtin; refine wpList_append_own _ rfl _ _ 32 rfl w1.heap.size 3 i0 (.int .i64 0) 1 8 Tryd.underlying32 HI.out HZ0.out HZ1.out HZ2.out rfl (by decide) _ _ _ rfl (HO.out.alloc _) ⟨wr.heap.size, 0, none⟩ 1 1 [.int .i64 p] rfl rfl (cells_one wr _ 3) (one_int _) hkm hkb (base_le2 hzr _) ?_)
          intro v4 w4 hown4 hgrow4 hnil4
          clear hnil4
          have HB4 := Lib.hid ((Hb.out.alloc hzr _).grown hgrow4 (by simp; omega) (fun k hk => (HO.out.lt k hk).1))
          have HO4 := Lib.hid hown4
          clear hown4 hgrow4
          go_wp2_with fail
          go_roundw
          case rel => exact ⟨k + 1, n + 1, _, by omega, by omega, by go_num, HX.out, HO4.out, HB4.out⟩
          case measure => simp [intOf]; omega
        · have hp92 : p = 92 := by simpa using t92
          subst hp92
          have HX := Lib.hid (show autB (l.take (k + 1)) = some true by rw [autB_go HA.out HPK.out]; rfl)
          by_cases hlt2 : k + 1 < l.length
          · obtain ⟨q, hq⟩ := get_lt hlt2
            obtain ⟨ad', had, _, hc'⟩ := HRr.out.at_ hq
            obtain rfl : ad = ad' := by injection had
            rw [show ad.add (k + 1) = ⟨ad.block, ad.off + (k + 1), none⟩ by unfold Addr.add; rw [if_neg (by omega)]] at hc'
            have HQK := Lib.hid hq
            clear hq had
            have hne : (((k : Int) + 1) == (l.length : Int)) = false := by simp; omega
            have htn : ((k : Int) + 1).toNat = k + 1 := by omega
            cases hsp : specB q
            · have HN := Lib.hid (show pe s = 3 from pe_no h1 (by omega) HV.out HPT.out (by rw [autB_none (k := k + 1 + 1) (by rw [take_one HQK.out, autB_snoc, HX.out]; exact st_nospec hsp)]; simp))
              have HSP := Lib.hid hsp
              clear hsp
              go_wp2_with fail
              refine (special73 q _).mono ?_
              rintro e w' ⟨rfl, rfl⟩
              rw [HSP.out]
              go_wp2_with fail
              go_ret2
              exact ⟨_, by rw [HN.out]; rfl, HB.out⟩
            · have HX2 := Lib.hid (show autB (l.take (k + 1 + 1)) = some false by rw [take_one HQK.out, autB_snoc, HX.out]; exact st_spec hsp)
              have HSP := Lib.hid hsp
              clear hsp
              go_wp2_with fail
              refine (special73 q _).mono ?_
              rintro e w' ⟨rfl, rfl⟩
              rw [HSP.out]
              go_wp2_with (at_builtin; refine wpList_append_own _ rfl _ _ 32 rfl w1.heap.size 3 i0 (.int .i64 0) 1 8 Tryd.underlying32 HI.out HZ0.out HZ1.out HZ2.out rfl (by decide) _ _ _ rfl (HO.out.alloc _) ⟨wr.heap.size, 0, none⟩ 1 1 [.int .i64 q] rfl rfl (cells_one wr _ 3) (one_int _) hkm hkb (base_le2 hzr _) ?_)
              intro v4 w4 hown4 hgrow4 hnil4
              clear hnil4
              have HB4 := Lib.hid ((Hb.out.alloc hzr _).grown hgrow4 (by simp; omega) (fun k hk => (HO.out.lt k hk).1))
              have HO4 := Lib.hid hown4
              clear hown4 hgrow4
              go_wp2_with fail
              go_roundw
              case rel => exact ⟨k + 1 + 1, n + 1, _, by omega, by omega, by go_num, HX2.out, HO4.out, HB4.out⟩
              case measure => simp [intOf]; omega
          · have hl3 : l.length = k + 1 := by omega
            have HN := Lib.hid (show pe s = 3 from pe_no h1 (by omega) HV.out HPT.out (by
              have h := HX.out
              rw [List.take_of_length_le (by omega)] at h
              rw [h]
              simp))
            have hne : (((k : Int) + 1) == (l.length : Int)) = true := by simp; omega
            clear hl3
            go_wp2_with fail
            go_ret2
            exact ⟨_, by rw [HN.out]; rfl, HB.out⟩
      · obtain rfl : l.length = k := by omega
        have HN := Lib.hid (show pe s = 0 from pe_yes h1 (by omega) HV.out HPT.out (by
          have h := HA.out
          rw [List.take_length] at h
          exact h))
        go_wp2_with fail
        go_ret2
        exact ⟨_, by rw [HN.out]; rfl, HB.out⟩
theorem check41 (s : ByteArray) (w : World) (hs : s.size ≤ 4194304) : Calls Tryd.prog 41 #[.string s] w (PeOut s w) := by
  have H := Lib.hid (tokens58 s w hs)
  go_enter Tryd.func41, Tryd.ntmps41
  go_wp2_with fail
  refine H.out.mono ?_
  rintro e w1 ⟨v, rfl, hb1⟩
  go_wp2_with fail
  go_ret
  exact ⟨rfl, hb1⟩
end Go.Proofs.YtgbjldkbbbjnkaaDoor
