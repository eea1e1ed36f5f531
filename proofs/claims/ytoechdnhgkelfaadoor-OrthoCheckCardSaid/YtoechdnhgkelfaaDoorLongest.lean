/-
  What longest and Units of the reference return.
-/
import Derived.Test.YtoechdnhgkelfaaDoorSmall
namespace Go.Proofs.YtoechdnhgkelfaaDoor
open Go.RowKit Go.PlainAid Pl
/-- The bytes of the Graph of a unit; its Segs. -/
def gr (us : List U) (i : Nat) : List UInt8 := (us[i]?.map fun u => u.1.data.toList).getD []
def sg (us : List U) (i : Nat) : List Int := (us[i]?.map fun u => u.2).getD []
theorem gr_at {us : List U} {i : Nat} {u : U} (h : us[i]? = some u) : gr us i = u.1.data.toList := by unfold gr; rw [h]; rfl
theorem sg_at {us : List U} {i : Nat} {u : U} (h : us[i]? = some u) : sg us i = u.2 := by unfold sg; rw [h]; rfl
/-- The best of the first k keys, as a number, or -1. -/
def LB {α : Type} (ky : Nat → List α) (r : List α) (k : Nat) (v : Int) : Prop := (v = -1 ∧ Nob k ky r) ∨ ∃ j : Nat, v = (j : Int) ∧ Best k ky r j
theorem LB.zero {α : Type} (ky : Nat → List α) (r : List α) : LB ky r 0 (-1) := .inl ⟨rfl, nob_zero⟩
def LongOut (us : List U) (r : List UInt8) (w : World) (e : Ending) (w' : World) : Prop := ∃ v : Int, e = .returned (.int .i64 v) ∧ LB (gr us) r us.length v ∧ Below w.heap.size w w'
set_option maxHeartbeats 1600000 in
theorem longest37 (o : Ort) (vo : Value) (s : ByteArray) (w : World) (ho : OAt w w.heap.size o vo) (_hs : s.size ≤ 4194304) (hn : o.us.length ≤ 120) (hg : ∀ u ∈ o.us, u.1.size ≤ 100) :
    Calls Tryd.prog 37 #[vo, .string s] w (LongOut o.us s.data.toList w) := by
  obtain ⟨AU, capU, AL, capL, rfl, hU, hL⟩ := ho
  obtain ⟨d0, d1, d2⟩ := box_o w o.name (.slice AU o.us.length capU) (.slice AL o.ls.length capL) 28
  have hbw := below_one w (.cells #[.string o.name, .slice AU o.us.length capU, .slice AL o.ls.length capL] 28)
  obtain ⟨w2, hw2⟩ : ∃ w2, w.alloc (.cells #[.string o.name, .slice AU o.us.length capU, .slice AL o.ls.length capL] 28) = w2 := ⟨_, rfl⟩
  rw [hw2] at d0 d1 d2 hbw
  have hU2 := Lib.hid (hU.keep fun _ hp => hbw.cell hp)
  have HW2 := Lib.hid hw2
  clear hU hL hw2
  obtain ⟨us, hus⟩ : ∃ us, o.us = us := ⟨_, rfl⟩
  rw [hus] at hU2 HW2 d1 hn hg
  rw [hus]
  have HG := Lib.hid hg
  clear hus hg
  go_enter Tryd.func37, Tryd.ntmps37
  go_wp2_with fail
  rw [HW2.out]
  clear HW2
  go_loop [5, 6] (fun b i => ∃ (k : Nat) (v : Int), k ≤ us.length ∧ i = .int .i64 k ∧ b = .int .i64 v ∧ LB (gr us) s.data.toList k v) (fun _ i => us.length - (intOf i).toNat)
  case atStart => exact ⟨0, -1, Nat.zero_le _, rfl, rfl, LB.zero _ _⟩
  case round =>
    obtain ⟨k, v, hk, rfl, rfl, hlb⟩ := hrel
    by_cases hlt : k < us.length
    · obtain ⟨u, hu⟩ := get_lt hlt
      have hgs : u.1.size ≤ 100 := HG.out u (List.mem_of_getElem? hu)
      have GU := Lib.hid (gr_at hu)
      obtain ⟨ad, Aj, cj, rfl, _, c1, c2, _⟩ := hU2.out k u hu
      clear hu c2
      have BI := Lib.hid (begB_iff (s := s) (t := u.1))
      rw [← GU.out] at BI
      rcases hlb with ⟨rfl, hnob⟩ | ⟨j, rfl, hbest⟩
      · have HN := Lib.hid hnob
        clear hnob
        go_wp2_with fail
        refine (begins44 s u.1 _).mono ?_
        rintro e w' ⟨rfl, rfl⟩
        cases hb : begB s u.1
        · have HB := Lib.hid hb
          clear hb
          go_wp2_with fail
          go_round
          case rel => exact ⟨k + 1, -1, by omega, by go_num, rfl, .inl ⟨rfl, HN.out.skip (fun h => by have := BI.out.2 h; rw [HB.out] at this; cases this)⟩⟩
          case measure => simp [intOf]; omega
        · have HB := Lib.hid hb
          clear hb
          go_wp2_with fail
          go_round
          case rel => exact ⟨k + 1, (k : Int), by omega, by go_num, rfl, .inr ⟨k, rfl, HN.out.take (BI.out.1 HB.out)⟩⟩
          case measure => simp [intOf]; omega
      · have HN := Lib.hid hbest
        clear hbest
        have hjk : j < k := HN.out.lt
        obtain ⟨u2, hu2⟩ := get_lt (show j < us.length by omega)
        have hgs2 : u2.1.size ≤ 100 := HG.out u2 (List.mem_of_getElem? hu2)
        have GU2 := Lib.hid (gr_at hu2)
        obtain ⟨ad', _, _, had, _, c3, _, _⟩ := hU2.out j u2 hu2
        obtain rfl : ad = ad' := Option.some.inj had
        clear had hu2
        have j0 : ¬ (j : Int) < 0 := by omega
        go_wp2_with fail
        refine (begins44 s u.1 _).mono ?_
        rintro e w' ⟨rfl, rfl⟩
        cases hb : begB s u.1
        · have HB := Lib.hid hb
          clear hb
          go_wp2_with fail
          go_round
          case rel => exact ⟨k + 1, (j : Int), by omega, by go_num, rfl, .inr ⟨j, rfl, HN.out.skip (fun h => by have := BI.out.2 h.1; rw [HB.out] at this; cases this)⟩⟩
          case measure => simp [intOf]; omega
        · have HB := Lib.hid hb
          clear hb
          by_cases hlen : u2.1.size < u.1.size
          · go_wp2_with fail
            go_round
            case rel => exact ⟨k + 1, (k : Int), by omega, by go_num, rfl, .inr ⟨k, rfl, HN.out.take (BI.out.1 HB.out) (by rw [GU.out, GU2.out, size_list, size_list]; exact hlen)⟩⟩
            case measure => simp [intOf]; omega
          · go_wp2_with fail
            go_round
            case rel => exact ⟨k + 1, (j : Int), by omega, by go_num, rfl, .inr ⟨j, rfl, HN.out.skip (fun h => by have := h.2; rw [GU.out, GU2.out, size_list, size_list] at this; omega)⟩⟩
            case measure => simp [intOf]; omega
    · obtain rfl : us.length = k := by omega
      have HLB := Lib.hid hlb
      clear hlb
      go_wp2_with fail
      go_ret
      exact ⟨v, rfl, HLB.out, hbw⟩
end Go.Proofs.YtoechdnhgkelfaaDoor
