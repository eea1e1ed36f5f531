/-
  What Check of the reference returns.
-/
import Derived.Test.YtoechdnhgkelfaaDoorNameR
namespace Go.Proofs.YtoechdnhgkelfaaDoor
open Go.RowKit Go.PlainAid
/-- The first error of several. -/
def FirstE (E : Nat → Int → Prop) (n : Nat) (q : Int) : Prop := (q = 0 ∧ ∀ i, i < n → E i 0) ∨ (q ≠ 0 ∧ ∃ i, i < n ∧ E i q ∧ ∀ j, j < i → E j 0)
theorem FirstE.unique {E : Nat → Int → Prop} (hE : ∀ i p q, E i p → E i q → p = q) {n : Nat} {p q : Int} (h : FirstE E n p) (h' : FirstE E n q) : p = q := by
  rcases h with ⟨rfl, h⟩ | ⟨hp, i, hi, he, hb⟩
  · rcases h' with ⟨rfl, _⟩ | ⟨hq, j, hj, he, _⟩
    · rfl
    · exact hE j _ _ (h j hj) he
  · rcases h' with ⟨rfl, h'⟩ | ⟨hq, j, hj, he', hb'⟩
    · exact hE i _ _ he (h' i hi)
    · rcases Nat.lt_trichotomy i j with c | c | c
      · exact absurd (hE i _ _ he (hb' i c)) hp
      · subst c; exact hE i _ _ he he'
      · exact absurd (hE j _ _ he' (hb j c)) hq
def UE (np : Nat) (us : List U) (i : Nat) (q : Int) : Prop := ∃ u, us[i]? = some u ∧ UnitE np us i u q
def VE (seen : List ByteArray) (s : ByteArray) (q : Int) : Prop := (¬ PlP s ∧ q = 3) ∨ (PlP s ∧ s ∈ seen ∧ q = 8) ∨ (PlP s ∧ ¬ s ∈ seen ∧ q = 0)
def WE (seen l : List ByteArray) (k : Nat) (q : Int) : Prop := ∃ s, l[k]? = some s ∧ VE (seen ++ l.take k) s q
def LE_ (ls : List (List ByteArray)) (i : Nat) (q : Int) : Prop := ∃ l, ls[i]? = some l ∧ ((l = [] ∧ q = 4) ∨ (l ≠ [] ∧ FirstE (WE (ls.take i).flatten l) l.length q))
def LetP (ls : List (List ByteArray)) (q : Int) : Prop := (100 < ls.length ∧ q = 11) ∨ (ls.length ≤ 100 ∧ FirstE (LE_ ls) ls.length q)
def ChkP (np : Nat) (o : Ort) (q : Int) : Prop :=
  (¬ NamP o.name ∧ q = 7) ∨ (NamP o.name ∧ 100 < o.us.length ∧ q = 11) ∨ (NamP o.name ∧ o.us.length ≤ 100 ∧ ∃ r, FirstE (UE np o.us) o.us.length r ∧ ((r ≠ 0 ∧ q = r) ∨ (r = 0 ∧ LetP o.ls q)))
theorem UnitE.unique {np : Nat} {us : List U} {i : Nat} {u : U} {p q : Int} (h : UnitE np us i u p) (h' : UnitE np us i u q) : p = q := by
  rcases h with ⟨a, rfl⟩ | ⟨a, b, rfl⟩ | ⟨a, b, c, rfl⟩ | ⟨a, b, c, rfl⟩ <;> rcases h' with ⟨a', rfl⟩ | ⟨a', b', rfl⟩ | ⟨a', b', c', rfl⟩ | ⟨a', b', c', rfl⟩ <;> first | rfl | exact absurd ‹_› ‹_› | exact absurd a a' | exact absurd a' a | exact absurd b b' | exact absurd b' b | exact absurd c c' | exact absurd c' c
theorem UE.unique {np : Nat} {us : List U} (i : Nat) (p q : Int) (h : UE np us i p) (h' : UE np us i q) : p = q := by
  obtain ⟨u, hu, h⟩ := h
  obtain ⟨v, hv, h'⟩ := h'
  rw [hu] at hv
  cases hv
  exact h.unique h'
theorem VE.unique {seen : List ByteArray} {s : ByteArray} {p q : Int} (h : VE seen s p) (h' : VE seen s q) : p = q := by
  rcases h with ⟨a, rfl⟩ | ⟨a, b, rfl⟩ | ⟨a, b, rfl⟩ <;> rcases h' with ⟨a', rfl⟩ | ⟨a', b', rfl⟩ | ⟨a', b', rfl⟩ <;> first | rfl | exact absurd a a' | exact absurd a' a | exact absurd b b' | exact absurd b' b
theorem WE.unique {seen l : List ByteArray} (i : Nat) (p q : Int) (h : WE seen l i p) (h' : WE seen l i q) : p = q := by
  obtain ⟨u, hu, h⟩ := h
  obtain ⟨v, hv, h'⟩ := h'
  rw [hu] at hv
  cases hv
  exact h.unique h'
theorem LE_.unique {ls : List (List ByteArray)} (i : Nat) (p q : Int) (h : LE_ ls i p) (h' : LE_ ls i q) : p = q := by
  obtain ⟨u, hu, h⟩ := h
  obtain ⟨v, hv, h'⟩ := h'
  rw [hu] at hv
  cases hv
  rcases h with ⟨a, rfl⟩ | ⟨a, b⟩ <;> rcases h' with ⟨a', rfl⟩ | ⟨a', b'⟩
  · rfl
  · exact absurd a a'
  · exact absurd a' a
  · exact b.unique WE.unique b'
theorem LetP.unique {ls : List (List ByteArray)} {p q : Int} (h : LetP ls p) (h' : LetP ls q) : p = q := by
  rcases h with ⟨a, rfl⟩ | ⟨a, b⟩ <;> rcases h' with ⟨a', rfl⟩ | ⟨a', b'⟩
  · rfl
  · omega
  · omega
  · exact b.unique LE_.unique b'
theorem ChkP.unique {np : Nat} {o : Ort} {p q : Int} (h : ChkP np o p) (h' : ChkP np o q) : p = q := by
  rcases h with ⟨a, rfl⟩ | ⟨a, b, rfl⟩ | ⟨a, b, r, hr, h⟩ <;> rcases h' with ⟨a', rfl⟩ | ⟨a', b', rfl⟩ | ⟨a', b', r', hr', h'⟩
  · rfl
  · exact absurd a' a
  · exact absurd a' a
  · exact absurd a a'
  · rfl
  · omega
  · exact absurd a a'
  · omega
  · have e := hr.unique UE.unique hr'
    subst e
    rcases h with ⟨h, rfl⟩ | ⟨h, h2⟩ <;> rcases h' with ⟨h', rfl⟩ | ⟨h', h2'⟩
    · rfl
    · exact absurd h' h
    · exact absurd h h'
    · exact h2.unique h2'
/-- What is known of units that are accepted. -/
theorem ChkP.good {np : Nat} {o : Ort} (h : ChkP np o 0) (hg : ∀ u ∈ o.us, u.1.size ≤ 100 ∧ u.2.length ≤ 100) : Good o.us := by
  rcases h with ⟨_, h⟩ | ⟨_, _, h⟩ | ⟨_, hn, r, hr, h⟩
  · omega
  · omega
  · have hr0 : r = 0 := by
      rcases h with ⟨h1, h2⟩ | ⟨h1, _⟩
      · omega
      · exact h1
    subst hr0
    have hall : ∀ i, i < o.us.length → UE np o.us i 0 := by
      rcases hr with ⟨_, h⟩ | ⟨h, _⟩
      · exact h
      · exact absurd rfl h
    have key : ∀ u ∈ o.us, PlP u.1 ∧ SegOk np u.2 := fun u hu => by
      obtain ⟨j, hj⟩ := mem_ix hu
      obtain ⟨v, hv, he⟩ := hall j (lt_get hj)
      rw [hj] at hv
      cases hv
      rcases he with ⟨_, h⟩ | ⟨_, _, h⟩ | ⟨_, _, _, h⟩ | ⟨h1, _, h2, _⟩
      · omega
      · omega
      · omega
      · exact ⟨h1, h2⟩
    exact ⟨by omega, fun u hu => (key u hu).1.2.1, fun u hu => (hg u hu).1, fun u hu => (key u hu).2.1, fun u hu => (key u hu).2.2.1⟩
/-- Strings as values. -/
def BS (l : List ByteArray) : List Value := l.map Value.string
theorem BS_snoc (l : List ByteArray) (s : ByteArray) : BS (l ++ [s]) = BS l ++ [.string s] := by simp [BS]
theorem strs_of {w : World} {base : Nat} {v : Value} {n : Nat} {l : List ByteArray} (hn : n = l.length) (h : w.ownsRow base 9 1 v n (BS l)) : ∃ A cap, v = .slice A l.length cap ∧ StrsAt w w.heap.size A l := by
  subst hn
  have hf : ∃ A cap, v = .slice A l.length cap := by
    rcases h.2 with ⟨hv, h0⟩ | ⟨g, cap, cur, hv, _⟩
    · exact ⟨none, 0, by rw [hv, h0]⟩
    · exact ⟨_, _, hv⟩
  obtain ⟨A, cap, rfl⟩ := hf
  refine ⟨A, cap, rfl, fun j s hj => ?_⟩
  have hr : Reads w w.heap.size 1 A l.length (BS l) := Reads.of_own h
  obtain ⟨ad, u, ha, hb, hx, hc⟩ := hr.at_ (lt_get hj)
  refine ⟨ad, ha, hb, ?_⟩
  rw [hc]
  unfold BS at hx
  rw [List.getElem?_map, hj] at hx
  exact hx.symm
theorem info9 : (Tryd.prog.info? 9).map (fun i => (i.zero, i.size, i.bytes)) = some (some (.string ⟨#[]⟩), 1, 16) := by kernel_rfl
theorem flat_take {ls : List (List ByteArray)} {i : Nat} {l : List ByteArray} (h : ls[i]? = some l) : (ls.take (i + 1)).flatten = (ls.take i).flatten ++ l := by
  rw [take_one h]; simp
theorem flat_len {ls : List (List ByteArray)} (h : ∀ l ∈ ls, l.length ≤ 20) (i : Nat) : (ls.take i).flatten.length ≤ 20 * i := by
  induction i with
  | zero => simp
  | succ i ih =>
    rcases Nat.lt_or_ge i ls.length with c | c
    · obtain ⟨l, hl⟩ := get_lt c
      rw [flat_take hl, List.length_append]
      have := h l (List.mem_of_getElem? hl)
      omega
    · rw [List.take_of_length_le (by omega)] at ih ⊢
      omega
set_option maxHeartbeats 2000000 in
set_option maxRecDepth 100000 in
theorem check14 (ps : List (ByteArray × Int)) (o : Ort) (vi vo : Value) (w : World) (hi : VAt w w.heap.size ps vi) (ho : OAt w w.heap.size o vo) (hf : Few ps o) :
    Calls Tryd.prog 14 #[vi, vo] w (ErrOut (ChkP ps.length o) w) := by
  obtain ⟨i0, hi0, hz0, hz1, hz2⟩ := info_parts info9
  have HI9 := Lib.hid hi0
  have HZ0 := Lib.hid hz0
  have HZ1 := Lib.hid hz1
  have HZ2 := Lib.hid hz2
  clear hi0 hz0 hz1 hz2
  have HVI := Lib.hid hi
  have HVO := Lib.hid ho
  obtain ⟨A, cap, rfl, hP⟩ := hi
  obtain ⟨AU, capU, AL, capL, rfl, hU, hL⟩ := ho
  have c0 := box_i w (.slice A ps.length cap) 24
  have k1 := below_one w (.cells #[.slice A ps.length cap] 24)
  have z1 := size_one w (.cells #[.slice A ps.length cap] 24)
  obtain ⟨w1, hw1⟩ : ∃ w1, w.alloc (.cells #[.slice A ps.length cap] 24) = w1 := ⟨_, rfl⟩
  obtain ⟨d0, d1, d2⟩ := box_o w1 o.name (.slice AU o.us.length capU) (.slice AL o.ls.length capL) 28
  have k2 := below_one w1 (.cells #[.string o.name, .slice AU o.us.length capU, .slice AL o.ls.length capL] 28)
  have z2 := size_one w1 (.cells #[.string o.name, .slice AU o.us.length capU, .slice AL o.ls.length capL] 28)
  rw [hw1] at c0 k1 z1
  rw [z1] at d0 d1 d2 k2 z2
  have e0 := (k2.cell (p := ⟨w.heap.size, 0, none⟩) (by simp)).trans c0
  have hbw := k1.trans (k2.mono (by omega))
  clear k1 c0
  obtain ⟨w2, hw2⟩ : ∃ w2, w1.alloc (.cells #[.string o.name, .slice AU o.us.length capU, .slice AL o.ls.length capL] 28) = w2 := ⟨_, rfl⟩
  rw [hw2] at d0 d1 d2 e0 hbw k2 z2
  have E0 := Lib.hid e0
  have D0 := Lib.hid d0
  have D1 := Lib.hid d1
  have D2 := Lib.hid d2
  have hL2 := Lib.hid (hL.keep fun _ hp => hbw.cell hp)
  have Z2 := Lib.hid (show w2.heap.size = w.heap.size + 2 from z2)
  have HW1 := Lib.hid hw1
  have HW2 := Lib.hid hw2
  have HF := Lib.hid hf
  have fu := hf.u
  have fl := hf.l
  have fn := hf.n
  have fp := hf.p
  clear hw1 hw2 z1 z2 k2 hP hU hL d0 d1 d2 e0 hf
  go_enter Tryd.func14, Tryd.ntmps14
  go_wp2_with fail
  rw [HW1.out, HW2.out]
  refine (name33P o.name _ (by omega)).mono ?_
  rintro e w3 ⟨b, rfl, hok, hb3⟩
  have HOK := Lib.hid hok
  have hb3' : Below (w.heap.size + 2) w2 w3 := hb3.mono (by have := Z2.out; omega)
  clear hok hb3 HW1 HW2
  have hbe3 := hbw.trans (hb3'.mono (by omega))
  cases b
  · have HN := Lib.hid (show ¬ NamP o.name from fun h => by have := HOK.out.2 h; cases this)
    go_wp2_with fail
    go_ret
    exact ⟨_, rfl, .inl ⟨HN.out, rfl⟩, hbe3⟩
  have HNM := Lib.hid (HOK.out.1 rfl)
  clear HOK
  have d1 : w3.cell? ⟨w.heap.size + 1, 1, none⟩ = _ := (hb3'.cell (p := ⟨w.heap.size + 1, 1, none⟩) (by simp)).trans D1.out
  by_cases hu100 : 100 < o.us.length
  · have hu' : (100 : Int) < (o.us.length : Int) := by omega
    go_wp2_with fail
    go_ret
    exact ⟨_, rfl, .inr (.inl ⟨HNM.out, hu100, rfl⟩), hbe3⟩
  have hu' : ¬ (100 : Int) < (o.us.length : Int) := by omega
  go_wp2_with fail
  clear d1
  go_loopw [5] (fun v wr => ∃ k : Nat, k ≤ o.us.length ∧ v = .int .i64 k ∧ (∀ j, j < k → UE ps.length o.us j 0) ∧ Below (w.heap.size + 2) w2 wr) (fun v _ => o.us.length - (intOf v).toNat)
  case atStart => exact ⟨0, Nat.zero_le _, rfl, fun j hj => by omega, hb3'⟩
  case round =>
    obtain ⟨k, hk, rfl, hall, hb⟩ := hrel
    have HALL := Lib.hid hall
    clear hall
    have hbe := hbw.trans (hb.mono (by omega))
    have hsz : w.heap.size + 2 ≤ wr.heap.size := by have := hb.size; have := Z2.out; omega
    have e0 := (hb.cell (p := ⟨w.heap.size, 0, none⟩) (by show w.heap.size < _; omega)).trans E0.out
    have d0 := (hb.cell (p := ⟨w.heap.size + 1, 0, none⟩) (by simp)).trans D0.out
    have d1 := (hb.cell (p := ⟨w.heap.size + 1, 1, none⟩) (by simp)).trans D1.out
    have d2 := (hb.cell (p := ⟨w.heap.size + 1, 2, none⟩) (by simp)).trans D2.out
    by_cases hlt : k < o.us.length
    · obtain ⟨u, hu⟩ := get_lt hlt
      have HU := Lib.hid hu
      clear hu
      go_wp2_with fail
      refine (unit34 ps o _ _ k u wr (HVI.out.below hbe) (HVO.out.below hbe) HU.out fp fu HF.out.ug).mono ?_
      rintro e w4 ⟨q, rfl, hq, hb4⟩
      have HQ := Lib.hid hq
      have hb4' := hb.trans (hb4.mono hsz)
      clear hq hb4
      by_cases hq0 : q = 0
      · subst hq0
        go_wp2_with fail
        go_roundw
        case rel => exact ⟨k + 1, by omega, by go_num, (fun j hj => by
          by_cases e : j = k
          · subst e; exact ⟨u, HU.out, HQ.out⟩
          · exact HALL.out j (by omega)), hb4'⟩
        case measure => simp [intOf]; omega
      · have hq' : (q != 0) = true := bne_iff_ne.2 hq0
        go_wp2_with fail
        go_ret
        exact ⟨q, rfl, .inr (.inr ⟨HNM.out, by omega, q, .inr ⟨hq0, k, hlt, ⟨u, HU.out, HQ.out⟩, HALL.out⟩, .inl ⟨hq0, rfl⟩⟩), hbw.trans (hb4'.mono (by omega))⟩
    · have HUN := Lib.hid (show FirstE (UE ps.length o.us) o.us.length 0 from .inl ⟨rfl, fun j hj => HALL.out j (by omega)⟩)
      clear HALL
      by_cases hl100 : 100 < o.ls.length
      · have hl' : (100 : Int) < (o.ls.length : Int) := by omega
        go_wp2_with fail
        go_ret
        exact ⟨_, rfl, .inr (.inr ⟨HNM.out, by omega, 0, HUN.out, .inr ⟨rfl, .inl ⟨hl100, rfl⟩⟩⟩), hbe⟩
      have hl' : ¬ (100 : Int) < (o.ls.length : Int) := by omega
      obtain ⟨wo, rfl⟩ : ∃ wo : World, wo = wr := ⟨_, rfl⟩
      go_wp2_with fail
      clear e0 d0 d1 d2
      go_loopw [7, 8] (fun v i wr => ∃ k : Nat, k ≤ o.ls.length ∧ i = .int .i64 k ∧ (∀ j, j < k → LE_ o.ls j 0) ∧ wr.ownsRow (w.heap.size + 2) 9 1 v (o.ls.take k).flatten.length (BS (o.ls.take k).flatten) ∧ Below (w.heap.size + 2) w2 wr) (fun _ i _ => o.ls.length - (intOf i).toNat)
      case atStart => exact ⟨0, Nat.zero_le _, rfl, fun j hj => by omega, World.ownsRow_nil _ _ _ _, hb⟩
      case round =>
        obtain ⟨k, hk, rfl, hall, hI, hb⟩ := hrel
        have HALL := Lib.hid hall
        have HI := Lib.hid hI
        clear hall hI
        have hbe := hbw.trans (hb.mono (by omega))
        have hsz : w.heap.size + 2 ≤ wr.heap.size := by have := hb.size; have := Z2.out; omega
        have d2 := (hb.cell (p := ⟨w.heap.size + 1, 2, none⟩) (by simp)).trans D2.out
        by_cases hlt : k < o.ls.length
        · obtain ⟨l, hl⟩ := get_lt hlt
          have hll := (HF.out.ll l (List.mem_of_getElem? hl)).1
          have hls := (HF.out.ll l (List.mem_of_getElem? hl)).2
          have hfl := flat_len (fun l hl => (HF.out.ll l hl).1) k
          obtain ⟨ad, Aj, cj, rfl, hblk, c1, hstr⟩ := hL2.out k l hl
          have c1' := (hb.cell (p := ad.add k) (by rw [block_of_add]; omega)).trans c1
          have HLL := Lib.hid hl
          have HSTR := Lib.hid hstr
          have HLS := Lib.hid hls
          have FT := Lib.hid (flat_take hl)
          clear hl hstr hls
          obtain ⟨seen, hseen⟩ : ∃ seen, (o.ls.take k).flatten = seen := ⟨_, rfl⟩
          rw [hseen] at HI hfl FT
          have HSN := Lib.hid hseen
          clear hseen
          by_cases hl0 : l.length = 0
          · have hl0' : ((l.length : Int) == 0) = true := by rw [beq_iff_eq]; omega
            have HNIL := Lib.hid (show l = [] from List.eq_nil_of_length_eq_zero hl0)
            clear hl0
            go_wp2_with fail
            go_ret
            exact ⟨_, rfl, .inr (.inr ⟨HNM.out, by omega, 0, HUN.out, .inr ⟨rfl, .inr ⟨by omega, .inr ⟨by decide, k, hlt, ⟨l, HLL.out, .inl ⟨HNIL.out, rfl⟩⟩, HALL.out⟩⟩⟩⟩), hbe⟩
          have hl0' : ((l.length : Int) == 0) = false := by rw [beq_eq_false_iff_ne]; omega
          have HNN := Lib.hid (show l ≠ [] from fun e => hl0 (by rw [e]; rfl))
          clear hl0
          obtain ⟨wo2, rfl⟩ : ∃ wo : World, wo = wr := ⟨_, rfl⟩
          go_wp2_with fail
          clear d2 c1'
          go_loopw [7, 9] (fun v i wr => ∃ (j : Nat) (sl : List ByteArray), j ≤ l.length ∧ i = .int .i64 j ∧ (∀ i, i < j → WE seen l i 0) ∧ sl = seen ++ l.take j ∧ wr.ownsRow (w.heap.size + 2) 9 1 v sl.length (BS sl) ∧ Below (w.heap.size + 2) w2 wr) (fun _ i _ => l.length - (intOf i).toNat)
          case atStart => exact ⟨0, seen, Nat.zero_le _, rfl, fun j hj => by omega, by simp, HI.out, hb⟩
          case round =>
            obtain ⟨j, sl, hj, rfl, hin, hsl, hI, hb⟩ := hrel
            have HIN := Lib.hid hin
            have HI := Lib.hid hI
            have HSE := Lib.hid hsl
            have hslen : sl.length ≤ seen.length + j := by rw [hsl, List.length_append, List.length_take]; omega
            clear hin hI hsl
            have hbe := hbw.trans (hb.mono (by omega))
            have hsz : w.heap.size + 2 ≤ wr.heap.size := by have := hb.size; have := Z2.out; omega
            have d2 := (hb.cell (p := ⟨w.heap.size + 1, 2, none⟩) (by simp)).trans D2.out
            have c1' := (hb.cell (p := ad.add k) (by rw [block_of_add]; omega)).trans c1
            by_cases hjl : j < l.length
            · obtain ⟨s, hs⟩ := get_lt hjl
              have hss := HLS.out s (List.mem_of_getElem? hs)
              obtain ⟨ad4, rfl, hblk4, c4⟩ := HSTR.out j s hs
              have c4' := (hb.cell (p := ad4.add j) (by rw [block_of_add]; omega)).trans c4
              have HS := Lib.hid hs
              clear hs
              go_wp2_with fail
              refine (label35 s _ (by omega)).mono ?_
              rintro e w4 ⟨b, rfl, hok, hb4⟩
              have HOK := Lib.hid hok
              have hb4' := hb.trans (hb4.mono hsz)
              have HI4 := Lib.hid (own_below HI.out hb4)
              have hsz4 : w.heap.size + 2 ≤ w4.heap.size := Nat.le_trans hsz hb4.size
              clear hok hb4
              cases b
              · have HNP := Lib.hid (show ¬ PlP s from fun h => by have := HOK.out.2 h; cases this)
                go_wp2_with fail
                go_ret
                exact ⟨_, rfl, .inr (.inr ⟨HNM.out, by omega, 0, HUN.out, .inr ⟨rfl, .inr ⟨by omega, .inr ⟨by decide, k, hlt, ⟨l, HLL.out, .inr ⟨HNN.out, .inr ⟨by decide, j, hjl, ⟨s, HS.out, .inl ⟨HNP.out, rfl⟩⟩, by rw [HSN.out]; exact HIN.out⟩⟩⟩, HALL.out⟩⟩⟩⟩), hbw.trans (hb4'.mono (by omega))⟩
              have HPL := Lib.hid (HOK.out.1 rfl)
              clear HOK
              obtain ⟨A7, cap7, hv7, hst7⟩ := strs_of rfl HI4.out
              subst hv7
              have HST7 := Lib.hid hst7
              clear hst7
              go_wp2_with fail
              refine (has36 A7 cap7 sl s w4 HST7.out (by omega)).mono ?_
              rintro e w5 ⟨b, rfl, hok, rfl⟩
              have HOK := Lib.hid hok
              clear hok
              cases b
              · have HNM2 := Lib.hid (show ¬ s ∈ seen ++ l.take j from fun h => by rw [← HSE.out] at h; have := HOK.out.2 h; cases this)
                have HT := Lib.hid (take_one HS.out)
                go_wp2_with (at_builtin; refine wpList_append_own _ rfl _ _ 55 rfl (w.heap.size + 2) 9 i0 (.string ⟨#[]⟩) 1 16 Tryd.underlying55 HI9.out HZ0.out HZ1.out HZ2.out rfl (by decide) _ _ _ rfl (HI4.out.alloc _) ⟨w4.heap.size, 0, none⟩ 1 1 [.string s] rfl rfl ?c1 ?c2 ?c3 ?c4 ?c5 ?_)
                case c1 => exact cells_one w4 _ 9
                case c2 => intro u hu; simp at hu; subst hu; rfl
                case c3 => unfold maxLen; omega
                case c4 => omega
                case c5 => simp; omega
                intro v' w6 hown' hgrow hnil
                clear hnil
                have HO6 := Lib.hid hown'
                clear hown'
                have hb6 := (hb4'.alloc hsz4 _).grown hgrow (by simp; omega) (fun k hk => (HI4.out.lt k hk).1)
                clear hgrow
                go_wp2_with fail
                go_roundw
                case rel => exact ⟨j + 1, sl ++ [s], by omega, by go_num, (fun i hi => by
                  by_cases e : i = j
                  · subst e; exact ⟨s, HS.out, .inr (.inr ⟨HPL.out, HNM2.out, rfl⟩)⟩
                  · exact HIN.out i (by omega)), by rw [HT.out, ← List.append_assoc, ← HSE.out], by rw [BS_snoc, List.length_append]; exact HO6.out, hb6⟩
                case measure => simp [intOf]; omega
              · have HM2 := Lib.hid (show s ∈ seen ++ l.take j from by rw [← HSE.out]; exact HOK.out.1 rfl)
                go_wp2_with fail
                go_ret
                exact ⟨_, rfl, .inr (.inr ⟨HNM.out, by omega, 0, HUN.out, .inr ⟨rfl, .inr ⟨by omega, .inr ⟨by decide, k, hlt, ⟨l, HLL.out, .inr ⟨HNN.out, .inr ⟨by decide, j, hjl, ⟨s, HS.out, .inr (.inl ⟨HPL.out, by rw [HSN.out]; exact HM2.out, rfl⟩)⟩, by rw [HSN.out]; exact HIN.out⟩⟩⟩, HALL.out⟩⟩⟩⟩), hbw.trans (hb4'.mono (by omega))⟩
            · have ht : l.take j = l := List.take_of_length_le (by omega)
              have HE := Lib.hid (show sl = seen ++ l by rw [HSE.out, ht])
              clear ht
              go_wp2_with fail
              go_roundw
              case rel => exact ⟨k + 1, by omega, by go_num, (fun i hi => by
                by_cases e : i = k
                · subst e; exact ⟨l, HLL.out, .inr ⟨HNN.out, .inl ⟨rfl, fun i hi => by rw [HSN.out]; exact HIN.out i (by omega)⟩⟩⟩
                · exact HALL.out i (by omega)), by rw [FT.out, ← HE.out]; exact HI.out, hb⟩
              case measure => simp [intOf]; omega
        · go_wp2_with fail
          go_ret
          exact ⟨_, rfl, .inr (.inr ⟨HNM.out, by omega, 0, HUN.out, .inr ⟨rfl, .inr ⟨by omega, .inl ⟨rfl, fun i hi => HALL.out i (by omega)⟩⟩⟩⟩), hbe⟩
end Go.Proofs.YtoechdnhgkelfaaDoor
