/-
  What spelled of the laws returns.
-/
import Derived.Test.YtoechdnhgkelfaaDoorRight
namespace Go.Proofs.YtoechdnhgkelfaaDoor
open Go.RowKit Go.PlainAid Pl

/-! The plain side. -/
section
variable {us : List U} {r : List Int} {t tt : List UInt8} {l : List Nat} {a j : Nat}
theorem SpP.spelt (h : SpP us r t 0 0) : ∃ l, Done us.length (sg us) r l r.length ∧ t = grs us l := by
  rcases h with ⟨_, _, _, h⟩ | ⟨_, _, _, h⟩ | ⟨_, _, l, a, hd, ⟨_, _, _, h⟩ | ⟨rfl, ht, _, _⟩⟩
  · omega
  · omega
  · omega
  · exact ⟨l, hd, ht⟩
theorem spd_none (hv : Dv us.length (sg us) r l a) (ha : a < r.length) (hn : Nob us.length (sg us) (r.drop a)) : ¬ SpP us r t 0 0 := fun h => by
  obtain ⟨l', hd, _⟩ := h.spelt
  obtain ⟨_, h2⟩ := Done.unique (show Done us.length (sg us) r l a from ⟨hv, .inr hn⟩) hd
  omega
theorem spd_wrong (hv : Dv us.length (sg us) r l a) (ha : a < r.length) (hb : Best us.length (sg us) (r.drop a) j) (ht : t = grs us l ++ tt) (hn : ¬ gr us j <+: tt) : ¬ SpP us r t 0 0 := fun h => by
  obtain ⟨l', hd, h2⟩ := h.spelt
  have hv' := Dv.snoc hv ha hb
  have hlen := hd.stop hv'
  have hag := hv'.agree hd.1 (l ++ [j]).length (Nat.le_refl _) hlen
  rw [List.take_length] at hag
  have hl' : l' = (l ++ [j]) ++ l'.drop (l ++ [j]).length := by
    have := List.take_append_drop (l ++ [j]).length l'
    rw [← hag] at this
    exact this.symm
  rw [hl', ht] at h2
  unfold grs at h2
  rw [List.flatMap_append, List.flatMap_append, List.append_assoc] at h2
  have h3 := List.append_cancel_left h2
  refine hn ⟨(l'.drop (l ++ [j]).length).flatMap (gr us), ?_⟩
  rw [h3]
  simp
theorem spd_end (hr : r ≠ []) (h24 : r.length ≤ 24) (hv : Dv us.length (sg us) r l r.length) (ht : t = grs us l ++ tt) : tt = [] ↔ SpP us r t 0 0 := by
  have hd : Done us.length (sg us) r l r.length := ⟨hv, .inl (Nat.le_refl _)⟩
  constructor
  · rintro rfl
    exact .inr (.inr ⟨hr, h24, l, _, hd, .inr ⟨rfl, by rw [ht, List.append_nil], rfl, rfl⟩⟩)
  · intro h
    obtain ⟨l', hd', h2⟩ := h.spelt
    obtain ⟨rfl, _⟩ := hd.unique hd'
    rw [ht] at h2
    have : grs us l ++ tt = grs us l ++ [] := by rw [h2, List.append_nil]
    exact List.append_cancel_left this
theorem spd_no (hr : r.length = 0 ∨ 24 < r.length) : ¬ SpP us r t 0 0 := fun h => by
  rcases h with ⟨_, _, _, h⟩ | ⟨_, _, _, h⟩ | ⟨h1, h2, _⟩
  · omega
  · omega
  · rcases hr with h | h
    · exact h1 (List.eq_nil_of_length_eq_zero h)
    · omega
end
/-- The best of the first k units, as its Graph and the number of its Segs. -/
def BSp (us : List U) (rest : List Int) (k : Nat) (g : ByteArray) (n : Nat) : Prop :=
  (Nob k (sg us) rest ∧ n = 0) ∨ ∃ (j : Nat) (u : U), us[j]? = some u ∧ Best k (sg us) rest j ∧ g = u.1 ∧ n = u.2.length
theorem BSp.skip {us : List U} {rest : List Int} {k : Nat} {g : ByteArray} {n : Nat} (h : BSp us rest k g n) {u : U} (hu : us[k]? = some u) (hn : u.2 <+: rest → 1 ≤ u.2.length ∧ u.2.length ≤ n) : BSp us rest (k + 1) g n := by
  rcases h with ⟨h1, rfl⟩ | ⟨j, u', hj, hb, rfl, rfl⟩
  · refine .inl ⟨h1.skip (fun h => ?_), rfl⟩
    rw [sg_at hu] at h
    have := hn h
    omega
  · refine .inr ⟨j, u', hj, hb.skip (fun h => ?_), rfl, rfl⟩
    rw [sg_at hu, sg_at hj] at h
    have := hn h.1
    omega
theorem BSp.take {us : List U} {rest : List Int} {k : Nat} {g : ByteArray} {n : Nat} (h : BSp us rest k g n) {u : U} (hu : us[k]? = some u) (hp : u.2 <+: rest) (hn : n < u.2.length) : BSp us rest (k + 1) u.1 u.2.length := by
  rcases h with ⟨h1, rfl⟩ | ⟨j, u', hj, hb, rfl, rfl⟩
  · exact .inr ⟨k, u, hu, h1.take (by rw [sg_at hu]; exact hp), rfl, rfl⟩
  · exact .inr ⟨k, u, hu, hb.take (by rw [sg_at hu]; exact hp) (by rw [sg_at hu, sg_at hj]; exact hn), rfl, rfl⟩
/-! A box of two cells. -/
section
variable {w : World} {B : Nat} {x y x' y' : Value} {T : TypeId}
theorem pair_cells (h : w.heap[B]? = some (.cells #[x, y] T)) : w.cell? ⟨B, 0, none⟩ = some x ∧ w.cell? ⟨B, 1, none⟩ = some y := by
  unfold World.cell?
  simp [h]
theorem pair_soft (h : w.heap[B]? = some (.cells #[x, y] T)) : w.frozen? ⟨B, 0, none⟩ = false ∧ w.frozen? ⟨B, 1, none⟩ = false := by
  unfold World.frozen?
  simp [h]
theorem pair_later (h : w.heap[B]? = some (.cells #[x, y] T)) (o : Obj) : (w.alloc o).heap[B]? = some (.cells #[x, y] T) := by
  have hlt := (Array.getElem?_eq_some_iff.1 h).1
  show (w.heap.push o)[B]? = _
  rw [Array.getElem?_push_lt hlt, ← h, Array.getElem?_eq_getElem hlt]
theorem pair_set (h : w.heap[B]? = some (.cells #[x, y] T)) : ((w.setCell ⟨B, 0, none⟩ x').setCell ⟨B, 1, none⟩ y').heap[B]? = some (.cells #[x', y'] T) := by
  unfold World.setCell
  simp [Array.getElem?_modify, h]
theorem pair_new (w : World) (x y : Value) (T : TypeId) : (w.alloc (.cells #[x, y] T)).heap[w.heap.size]? = some (.cells #[x, y] T) := by
  show (w.heap.push _)[w.heap.size]? = _
  simp
end
theorem ints_none {w : World} {B : Nat} (A : Option Addr) : Ints w B A [] := ⟨by simp [IS], fun h => by simp at h⟩
def SpdOut (us : List U) (r : List Int) (t : List UInt8) (w : World) (e : Ending) (w' : World) : Prop := ∃ b : Bool, e = .returned (.bool b) ∧ (b = true ↔ SpP us r t 0 0) ∧ Below w.heap.size w w'
theorem empty_list (tt : ByteArray) : tt.toList.isEmpty = true ↔ tt.data.toList = [] := by rw [Lib.toList_data]; exact List.isEmpty_iff
set_option maxHeartbeats 3200000 in
set_option maxRecDepth 100000 in
theorem spelled26 (o : Ort) (vo : Value) (A : Option Addr) (cap : Nat) (r : List Int) (t : ByteArray) (w : World) (ho : OAt w w.heap.size o vo) (hr : Ints w w.heap.size A r) (hcap : r.length ≤ cap) (hl : r.length ≤ 1000) (_htl : t.size ≤ 4000) (hg : Good o.us) :
    Calls Tryd.prog 26 #[vo, .slice A r.length cap, .string t] w (SpdOut o.us r t.data.toList w) := by
  obtain ⟨AU, capU, AL, capL, rfl, hU, hL⟩ := ho
  obtain ⟨d0, d1, d2⟩ := box_o w o.name (.slice AU o.us.length capU) (.slice AL o.ls.length capL) 28
  have hbw := below_one w (.cells #[.string o.name, .slice AU o.us.length capU, .slice AL o.ls.length capL] 28)
  have hz := size_one w (.cells #[.string o.name, .slice AU o.us.length capU, .slice AL o.ls.length capL] 28)
  obtain ⟨w2, hw2⟩ : ∃ w2, w.alloc (.cells #[.string o.name, .slice AU o.us.length capU, .slice AL o.ls.length capL] 28) = w2 := ⟨_, rfl⟩
  rw [hw2] at d0 d1 d2 hbw hz
  have hU2 := Lib.hid (hU.keep fun _ hp => hbw.cell hp)
  have HR2 := Lib.hid (hr.keep fun _ hp => hbw.cell hp)
  have HW2 := Lib.hid hw2
  have HZ := Lib.hid hz
  have D1 := Lib.hid d1
  clear hU hL hw2 d0 d2 hz hr
  have HG := Lib.hid hg
  have hn : o.us.length ≤ 120 := hg.n
  clear hg
  obtain ⟨us, hus⟩ : ∃ us, o.us = us := ⟨_, rfl⟩
  rw [hus] at hU2 HW2 HG d1 D1 hn
  rw [hus]
  clear hus d1
  by_cases h0 : r.length = 0
  · have h0' : ((r.length : Int) == 0) = true := by rw [beq_iff_eq]; omega
    go_enter Tryd.func26, Tryd.ntmps26
    go_wp2_with fail
    rw [HW2.out]
    go_ret
    exact ⟨false, rfl, ⟨(fun h => nomatch h), fun h => absurd h (spd_no (.inl h0))⟩, hbw⟩
  have h0' : ((r.length : Int) == 0) = false := by rw [beq_eq_false_iff_ne]; omega
  by_cases h24 : 24 < r.length
  · have h24' : (24 : Int) < (r.length : Int) := by omega
    go_enter Tryd.func26, Tryd.ntmps26
    go_wp2_with fail
    rw [HW2.out]
    go_ret
    exact ⟨false, rfl, ⟨(fun h => nomatch h), fun h => absurd h (spd_no (.inr h24))⟩, hbw⟩
  have h24' : ¬ (24 : Int) < (r.length : Int) := by omega
  go_enter Tryd.func26, Tryd.ntmps26
  go_wp2_with fail
  rw [HW2.out]
  clear HW2
  go_loopw [1, 2, 7, 8, 9] (fun v s _ _ _ wr => ∃ (l : List Nat) (a : Nat) (rest : List Int) (A' : Option Addr) (c' : Nat) (tt : ByteArray), v = .slice A' rest.length c' ∧ rest = r.drop a ∧ rest.length ≤ c' ∧ Ints w2 w.heap.size A' rest ∧ s = .string tt ∧ Dv us.length (sg us) r l a ∧ t.data.toList = grs us l ++ tt.data.toList ∧ Below (w.heap.size + 1) w2 wr) (fun v _ _ _ _ _ => match v with | .slice _ n _ => n | _ => 0)
  case atStart => exact ⟨[], 0, r, A, cap, t, rfl, rfl, hcap, HR2.out, rfl, .nil, rfl, Below.refl _ _⟩
  case round =>
    obtain ⟨l, a, rest, A', c', tt, rfl, hrest, hc', hri, rfl, hdv, htt, hb⟩ := hrel
    have HRS := Lib.hid hrest
    have HDV := Lib.hid hdv
    have HTT := Lib.hid htt
    have hle := hdv.le
    have hrl : rest.length = r.length - a := by rw [hrest, List.length_drop]
    have HRL := Lib.hid hrl
    have hr24 : rest.length ≤ 24 := by omega
    have hoz : w.heap.size + 1 ≤ wr.heap.size := by have := hb.size; have := HZ.out; omega
    clear hrest hdv htt hrl
    by_cases ha : 0 < rest.length
    · have q1 : (0 : Int) < (rest.length : Int) := by omega
      obtain ⟨x0, hx0⟩ := get_lt ha
      obtain ⟨ar, rfl, _, _⟩ := hri.at_ hx0
      have HRI := Lib.hid hri
      clear hx0 hri
      obtain ⟨wo, rfl⟩ : ∃ wo : World, wo = wr := ⟨_, rfl⟩
      go_wp2_with fail
      go_loopw [8, 9] (fun i _ wq => ∃ (k : Nat) (g : ByteArray) (S : Option Addr) (n c : Nat), k ≤ us.length ∧ i = .int .i64 k ∧ wq.heap[wo.heap.size]? = some (.cells #[.string g, .slice S n c] 47) ∧ BSp us rest k g n ∧ Below (w.heap.size + 1) w2 wq) (fun i _ _ => us.length - (intOf i).toNat)
      case atStart => exact ⟨0, _, _, 0, 0, Nat.zero_le _, rfl, pair_new _ _ _ _, .inl ⟨nob_zero, rfl⟩, hb.alloc hoz _⟩
      case round =>
        obtain ⟨k, g, S, n, c, hk, rfl, hbox, hbs, hb2⟩ := hrel
        have hsz : wo.heap.size < wr.heap.size := (Array.getElem?_eq_some_iff.1 hbox).1
        have e1 := (hb2.cell (p := ⟨w.heap.size, 1, none⟩) (by simp)).trans D1.out
        have HBX := Lib.hid hbox
        have HBS := Lib.hid hbs
        by_cases hlt : k < us.length
        · obtain ⟨u, hu⟩ := get_lt hlt
          have s1 := HG.out.s1 u (List.mem_of_getElem? hu)
          have s2 := HG.out.s2 u (List.mem_of_getElem? hu)
          have HU := Lib.hid hu
          obtain ⟨ad, Aj, cj, rfl, hblk, x1, x2, hints⟩ := hU2.out k u hu
          have x1' := (hb2.cell (p := ad.add (k * 2)) (by rw [block_of_add]; omega)).trans x1
          have x2' := (hb2.cell (p := ⟨(ad.add (k * 2)).block, (ad.add (k * 2)).off + 1, none⟩) (by show (ad.add (k * 2)).block < _; rw [block_of_add]; omega)).trans x2
          have hk2 : ∀ p : Addr, p.block < w.heap.size → wr.cell? p = w2.cell? p := fun p hp => hb2.cell (p := p) (by omega)
          have HJ := Lib.hid ((hints.keep hk2).more (show w.heap.size ≤ wr.heap.size by omega))
          have HRr := Lib.hid (((HRI.out.keep hk2).more (show w.heap.size ≤ wr.heap.size by omega)).take u.2.length)
          have HBX2 := Lib.hid (pair_later hbox (.cells #[.string u.1, .slice Aj u.2.length cj] 47))
          obtain ⟨z0, z1⟩ := pair_cells HBX2.out
          obtain ⟨f0, f1⟩ := pair_soft hbox
          have hb3 := Lib.hid (hb2.alloc (show w.heap.size + 1 ≤ wr.heap.size by omega) (.cells #[.string u.1, .slice Aj u.2.length cj] 47))
          clear x1 x2 hints hk2 hbox hbs hu
          by_cases hn1 : n < u.2.length
          · have q2 : decide (n < u.2.length) = true := decide_eq_true hn1
            by_cases hn2 : u.2.length ≤ rest.length
            · have q3 : decide (u.2.length ≤ rest.length) = true := decide_eq_true hn2
              have q4 : (u.2.length : Int) ≤ (rest.length : Int) := by omega
              have q5 : (u.2.length : Int) ≤ (c' : Int) := by omega
              have HT := Lib.hid (take_eq (a := u.2) (b := rest) hn2)
              have HC := Lib.hid (fun (ob : Obj) (m : Nat) => same20q Aj (some ar) cj c' u.2 (rest.take u.2.length) _ (by omega) (HJ.out.later ob m) (HRr.out.later ob m))
              rw [show (rest.take u.2.length).length = u.2.length by rw [List.length_take]; omega] at HC
              cases hq : eqB u.2 (rest.take u.2.length)
              · rw [hq] at HC
                have hni := Lib.hid (show ¬ u.2 <+: rest from fun h => by have := HT.out.2 h; rw [hq] at this; cases this)
                clear hq HT
                go_wp2_with fail
                go_quiet ((go_at_call 20; exact Calls.quiet_of (HC.out _ _)))
                go_wp2_with fail
                go_roundw
                case rel => exact ⟨k + 1, g, S, n, c, by omega, by go_num, HBX2.out, HBS.out.skip HU.out (fun h => absurd h hni.out), below_drewN hb3.out _⟩
                case measure => simp [intOf]; omega
              · rw [hq] at HC
                have hpre := Lib.hid (HT.out.1 hq)
                clear hq HT
                go_wp2_with fail
                go_quiet ((go_at_call 20; exact Calls.quiet_of (HC.out _ _)))
                go_wp2_with fail
                go_roundw
                case rel => exact ⟨k + 1, u.1, Aj, u.2.length, cj, by omega, by go_num, pair_set (w := (wr.alloc (.cells #[.string u.1, .slice Aj u.2.length cj] 47)).drewN nq) HBX2.out, HBS.out.take HU.out hpre.out hn1, ((below_drewN hb3.out _).setCell (by omega) _).setCell (by omega) _⟩
                case measure => simp [intOf]; omega
            · have q3 : decide (u.2.length ≤ rest.length) = false := decide_eq_false hn2
              go_wp2_with fail
              go_quiet (fail)
              go_wp2_with fail
              go_roundw
              case rel => exact ⟨k + 1, g, S, n, c, by omega, by go_num, HBX2.out, HBS.out.skip HU.out (fun h => absurd h.length_le hn2), below_drewN hb3.out _⟩
              case measure => simp [intOf]; omega
          · have q2 : decide (n < u.2.length) = false := decide_eq_false hn1
            go_wp2_with fail
            go_quiet (fail)
            go_wp2_with fail
            go_roundw
            case rel => exact ⟨k + 1, g, S, n, c, by omega, by go_num, HBX2.out, HBS.out.skip HU.out (fun _ => ⟨by omega, by omega⟩), below_drewN hb3.out _⟩
            case measure => simp [intOf]; omega
        · obtain rfl : us.length = k := by omega
          obtain ⟨z0, z1⟩ := pair_cells hbox
          clear hbox
          rcases hbs with ⟨hnob, rfl⟩ | ⟨j, u, hj, hbest, rfl, rfl⟩
          · have HN := Lib.hid hnob
            clear hnob
            go_wp2_with fail
            go_ret
            exact ⟨false, rfl, ⟨(fun h => nomatch h), fun h => absurd h (spd_none HDV.out (by have := HRL.out; omega) (by rw [← HRS.out]; exact HN.out))⟩, hbw.trans (hb2.mono (by omega))⟩
          · have s1 := HG.out.s1 u (List.mem_of_getElem? hj)
            have GU := Lib.hid (gr_at hj)
            have SU := Lib.hid (sg_at hj)
            have HB := Lib.hid hbest
            have hlen := hbest.len
            rw [sg_at hj] at hlen
            have q6 : ((u.2.length : Int) == 0) = false := by rw [beq_eq_false_iff_ne]; omega
            have BI := Lib.hid (begB_iff (s := tt) (t := u.1))
            rw [← GU.out] at BI
            clear hj hbest
            go_wp2_with fail
            refine (begins25 tt u.1 _).mono ?_
            rintro e w' ⟨rfl, rfl⟩
            cases hq : begB tt u.1
            · have hni := Lib.hid (show ¬ gr us j <+: tt.data.toList from fun h => by have := BI.out.2 h; rw [hq] at this; cases this)
              clear hq BI
              go_wp2_with fail
              go_ret
              exact ⟨false, rfl, ⟨(fun h => nomatch h), fun h => absurd h (spd_wrong HDV.out (by have := HRL.out; omega) (by rw [← HRS.out]; exact HB.out) HTT.out hni.out)⟩, hbw.trans (hb2.mono (by omega))⟩
            · have hpre := Lib.hid (BI.out.1 hq)
              have hgs : u.1.size ≤ tt.size := by
                have := hpre.out.length_le
                rw [GU.out, size_list, size_list] at this
                exact this
              clear hq BI
              have q7 : (u.2.length : Int) ≤ (rest.length : Int) := by omega
              have q8 : (u.2.length : Int) ≤ (c' : Int) := by omega
              have q9 : (u.1.size : Int) ≤ (tt.size : Int) := by omega
              go_wp2_with fail
              go_roundw
              case rel =>
                refine ⟨l ++ [j], a + u.2.length, rest.drop u.2.length, _, c' - u.2.length, tt.extract u.1.size tt.size, by rw [List.length_drop], by rw [HRS.out, List.drop_drop], by rw [List.length_drop]; omega, ?_, rfl, ?_, ?_, hb2⟩
                · by_cases hc : u.2.length < rest.length
                  · rw [if_neg (by omega)]
                    exact HRI.out.cut _ hc
                  · rw [List.drop_of_length_le (by omega)]
                    exact ints_none _
                · have := Dv.snoc HDV.out (by have := HRL.out; omega) (show Best us.length (sg us) (r.drop a) j by rw [← HRS.out]; exact HB.out)
                  rw [SU.out] at this
                  exact this
                · rw [HTT.out, ext_drop]
                  unfold grs
                  rw [List.flatMap_append, List.append_assoc]
                  congr 1
                  obtain ⟨x, hx⟩ := hpre.out
                  rw [List.flatMap_cons, List.flatMap_nil, List.append_nil, ← hx, GU.out, List.drop_left' (by rw [size_list])]
              case measure => simp only; omega
    · have hra : a = r.length := by have := HRL.out; omega
      subst hra
      go_wp2_with fail
      go_ret
      exact ⟨_, rfl, (empty_list tt).trans (spd_end (fun h => h0 (by rw [h]; rfl)) (by omega) HDV.out HTT.out), hbw.trans (hb.mono (by omega))⟩
end Go.Proofs.YtoechdnhgkelfaaDoor
