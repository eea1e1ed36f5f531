/-
  Check, few and the laws QueryChecks, QuerySame for queries of any size. Printed by gen_wide.py.
-/
import Derived.Test.YtgbjldkbbbjnkaaDoorWide
import Derived.Test.YtgbjldkbbbjnkaaDoorFrame
namespace Go.Proofs.YtgbjldkbbbjnkaaDoor
open Go.RowKit Go.PlainAid Pl Go.ChangeShapes Go.WideShapes Go.ChangeAt Go.Deep

set_option maxHeartbeats 3200000 in
set_option maxRecDepth 100000 in
theorem check30W_ : ∀ (n : Nat) (q : Qt) (v : Value) (w : World), sz q ≤ n → lb q → tb q → QAt w w.heap.size q v → Tab w → Calls Tryd.prog 30 #[v] w (IntOut (err pe q) w) := by
  intro n
  induction n with
  | zero => intro q v w h; have := sz_pos q; omega
  | succ n ih =>
    intro q v w hn hlb htb hq hT
    obtain ⟨o, r, t, ks⟩ := q
    obtain ⟨A, cap, rfl, _⟩ := hq.inv
    have X0 := Lib.hid (Bx.start hq)
    have IH := Lib.hid ih
    have hsz : sz (.mk o r t ks) = 1 + szs ks := by rw [sz]
    rw [hsz] at hn
    rw [tb] at htb
    have htt := htb.1
    have HTB := Lib.hid htb.2
    have HT0 := Lib.hid (hT.below (below_one w (.cells #[.int .i64 o, .int .i64 r, .string t, .slice A ks.length cap] 25)))
    clear hq ih hsz htb hT
    obtain ⟨W0, hW0⟩ : ∃ W0, w.alloc (.cells #[.int .i64 o, .int .i64 r, .string t, .slice A ks.length cap] 25) = W0 := ⟨_, rfl⟩
    rw [hW0] at X0 HT0
    have HW := Lib.hid hW0
    have c0 := X0.out.c0
    have c1 := X0.out.c1
    have c2 := X0.out.c2
    have c3 := X0.out.c3
    clear hW0
    rw [lb] at hlb
    obtain ⟨hlen, hks⟩ := hlb
    have HLB := Lib.hid hks
    clear hks
    have EO := Lib.hid (of37 o W0 HT0.out)
    by_cases hop : o < 0 ∨ 6 < o
    · have HE := Lib.hid (err_bad (r := r) (t := t) (ks := ks) (o := o) (by omega))
      have HB := Lib.hid (show ofB o = false by simp [ofB]; omega)
      clear hop
      go_enter Tryd.func30, Tryd.ntmps30
      go_wp2_with fail
      rw [HW.out]
      refine EO.out.mono ?_
      rintro e w' ⟨rfl, hw⟩
      rw [hw, HB.out]
      clear hw
      go_wp2_with fail
      go_quiet (fail)
      go_wp2_with fail
      go_ret
      exact ⟨by rw [HE.out]; rfl, below_drewN X0.out.k _⟩
    have HB := Lib.hid (show ofB o = true by simp [ofB]; omega)
    have HOLD := Lib.hid (fun (W : World) (hb : Below W0.heap.size W0 W) => (X0.out.next hb).c3)
    have ta1 := ta_leaf
    have ta2 := ta_neg
    have ta3 := ta_pair
    have ta4 := ta_neg2
    have ta5 := ta_pair2
    by_cases h0 : o = 0
    · subst h0
      clear hop
      by_cases hl : ks.length = 0
      · have hne : ((ks.length : Int) != 0) = false := by simp; exact List.eq_nil_of_length_eq_zero hl
        by_cases hr : 1 ≤ r ∧ r ≤ 5
        · have HE := Lib.hid (show err pe (.mk 0 r t ks) = pe t by rw [err, if_neg (by simp [kidsN]; exact List.eq_nil_of_length_eq_zero hl), if_neg (by simp [roleOk]; omega), if_pos rfl])
          have r1 := hr.1
          have r2 := hr.2
          clear hr hl
          go_enter Tryd.func30, Tryd.ntmps30
          go_wp2_with fail
          rw [HW.out]
          refine EO.out.mono ?_
          rintro e w' ⟨rfl, hw⟩
          rw [hw, HB.out, ofV_leaf (.inl rfl)]
          clear hw
          go_wp2_with fail
          go_region_held3 (fun w' => w'.cell? ⟨w.heap.size, 3, none⟩ = some (.slice A ks.length cap)) (first | assumption | go_keep) (first | (go_at_call 117; refine (leaf117 _).mono ?_; rintro e w1 ⟨rfl, hb1⟩; have hb1' := below_undrew hb1; have hc1 := HOLD.out w1 hb1'))
          have X1 := Lib.hid (X0.out.next hb1')
          have d1 := X1.out.c1
          have d2 := X1.out.c2
          have HC := Lib.hid (check39 t w1 htt (HT0.out.below hb1'))
          go_wp2_with fail
          refine HC.out.mono ?_
          rintro e w2 ⟨rfl, hb2⟩
          go_wp2_with fail
          go_ret
          exact ⟨by rw [HE.out]; rfl, (X1.out.next hb2).k⟩
        · have HE := Lib.hid (show err pe (.mk 0 r t ks) = 2 by rw [err, if_neg (by simp [kidsN]; exact List.eq_nil_of_length_eq_zero hl), if_pos (by simp [roleOk]; omega)])
          clear hl
          by_cases r1 : 1 ≤ r
          · have r2 : ¬ r ≤ 5 := by omega
            clear hr
            go_enter Tryd.func30, Tryd.ntmps30
            go_wp2_with fail
            rw [HW.out]
            refine EO.out.mono ?_
            rintro e w' ⟨rfl, hw⟩
            rw [hw, HB.out, ofV_leaf (.inl rfl)]
            clear hw
            go_wp2_with fail
            go_region_held3 (fun w' => w'.cell? ⟨w.heap.size, 3, none⟩ = some (.slice A ks.length cap)) (first | assumption | go_keep) (first | (go_at_call 117; refine (leaf117 _).mono ?_; rintro e w1 ⟨rfl, hb1⟩; have hb1' := below_undrew hb1; have hc1 := HOLD.out w1 hb1'))
            have X1 := Lib.hid (X0.out.next hb1')
            have d1 := X1.out.c1
            go_upto_if 38 with (fail)
            rw [show decide (r ≤ 5) = false by simp; omega]
            go_wp2_with fail
            go_ret
            exact ⟨by rw [HE.out]; rfl, X1.out.k⟩
          · have r2 : decide (1 ≤ r) = false := by simp; omega
            clear hr
            go_enter Tryd.func30, Tryd.ntmps30
            go_wp2_with fail
            rw [HW.out]
            refine EO.out.mono ?_
            rintro e w' ⟨rfl, hw⟩
            rw [hw, HB.out, ofV_leaf (.inl rfl)]
            clear hw
            go_wp2_with fail
            go_region_held3 (fun w' => w'.cell? ⟨w.heap.size, 3, none⟩ = some (.slice A ks.length cap)) (first | assumption | go_keep) (first | (go_at_call 117; refine (leaf117 _).mono ?_; rintro e w1 ⟨rfl, hb1⟩; have hb1' := below_undrew hb1; have hc1 := HOLD.out w1 hb1'))
            have X1 := Lib.hid (X0.out.next hb1')
            have d1 := X1.out.c1
            go_wp2_with fail
            go_ret
            exact ⟨by rw [HE.out]; rfl, X1.out.k⟩
      · have HE := Lib.hid (err_bad (r := r) (t := t) (ks := ks) (o := 0) (.inr (.inr (by show ks.length ≠ 0; exact hl))))
        have hne : ((ks.length : Int) != 0) = true := by simp; exact fun h => hl (by rw [h]; rfl)
        clear hl
        go_enter Tryd.func30, Tryd.ntmps30
        go_wp2_with fail
        rw [HW.out]
        refine EO.out.mono ?_
        rintro e w' ⟨rfl, hw⟩
        rw [hw, HB.out, ofV_leaf (.inl rfl)]
        clear hw
        go_wp2_with fail
        go_region_held3 (fun w' => w'.cell? ⟨w.heap.size, 3, none⟩ = some (.slice A ks.length cap)) (first | assumption | go_keep) (first | (go_at_call 117; refine (leaf117 _).mono ?_; rintro e w1 ⟨rfl, hb1⟩; have hb1' := below_undrew hb1; have hc1 := HOLD.out w1 hb1'))
        go_wp2_with fail
        go_ret
        exact ⟨by rw [HE.out]; rfl, X0.out.k.trans (hb1'.mono X0.out.k.size)⟩
    · have hO : 1 ≤ o ∧ o ≤ 6 := by omega
      clear hop
      obtain ⟨V, hV⟩ : ∃ V, ofV o = V := ⟨_, rfl⟩
      rw [hV] at EO
      have HVV := Lib.hid hV
      clear hV
      go_enter Tryd.func30, Tryd.ntmps30
      go_upto_region 1 with (fail)
      rw [HW.out]
      go_upto_region 2 with (go_at_call 37; refine EO.out.mono ?_; rintro e w' ⟨rfl, hw⟩; rw [hw, HB.out]; clear hw)
      go_cut [24] (fun v wx => v = .bool (decide (ks.length ≠ kidsN o)) ∧ Below W0.heap.size W0 wx)
      case first =>
        by_cases h3 : o = 3
        · subst h3
          obtain rfl : V = .iface 61 (.agg #[]) := HVV.out.symm
          cases hne : ((ks.length : Int) != 1)
          · have HD := Lib.hid (show decide (ks.length ≠ kidsN 3) = false by simp at hne; simp [kidsN]; omega)
            go_region_held3 (fun w' => w'.cell? ⟨w.heap.size, 3, none⟩ = some (.slice A ks.length cap)) (first | assumption | go_keep) (first | (go_at_call 116; refine (negation116 _).mono ?_; rintro e w1 ⟨rfl, hb1⟩; have hb1' := below_undrew hb1; have hc1 := HOLD.out w1 hb1'))
            go_wp2_with fail
            go_meet
            exact ⟨by rw [HD.out], hb1'⟩
          · have HD := Lib.hid (show decide (ks.length ≠ kidsN 3) = true by simp at hne; simp [kidsN]; omega)
            go_region_held3 (fun w' => w'.cell? ⟨w.heap.size, 3, none⟩ = some (.slice A ks.length cap)) (first | assumption | go_keep) (first | (go_at_call 116; refine (negation116 _).mono ?_; rintro e w1 ⟨rfl, hb1⟩; have hb1' := below_undrew hb1; have hc1 := HOLD.out w1 hb1'))
            go_wp2_with fail
            go_meet
            exact ⟨by rw [HD.out], hb1'⟩
        · obtain ⟨nm, rfl⟩ : ∃ nm, V = .iface 59 (.agg #[.string nm]) := ⟨_, HVV.out.symm.trans (ofV_pair (by omega) (by omega) h3)⟩
          have hkn : kidsN o = 2 := by unfold kidsN; rw [if_neg h0, if_neg h3]
          cases hne : ((ks.length : Int) != 2)
          · have HD := Lib.hid (show decide (ks.length ≠ kidsN o) = false by rw [hkn]; simp at hne; simp; omega)
            clear hkn h0 h3
            go_region_held3 (fun w' => w'.cell? ⟨w.heap.size, 3, none⟩ = some (.slice A ks.length cap)) (first | assumption | go_keep) (first | (go_at_call 115; refine (pair115 _ _).mono ?_; rintro e w1 ⟨rfl, hb1⟩; have hb1' := below_undrew hb1; have hc1 := HOLD.out w1 hb1'))
            go_wp2_with fail
            go_meet
            exact ⟨by rw [HD.out], hb1'⟩
          · have HD := Lib.hid (show decide (ks.length ≠ kidsN o) = true by rw [hkn]; simp at hne; simp; omega)
            clear hkn h0 h3
            go_region_held3 (fun w' => w'.cell? ⟨w.heap.size, 3, none⟩ = some (.slice A ks.length cap)) (first | assumption | go_keep) (first | (go_at_call 115; refine (pair115 _ _).mono ?_; rintro e w1 ⟨rfl, hb1⟩; have hb1' := below_undrew hb1; have hc1 := HOLD.out w1 hb1'))
            go_wp2_with fail
            go_meet
            exact ⟨by rw [HD.out], hb1'⟩
      case rest =>
        obtain ⟨rfl, hbc⟩ := hcut
        have X1 := Lib.hid (X0.out.next hbc)
        have HBC := Lib.hid hbc
        have H0 := Lib.hid h0
        clear hbc h0
        cases hd : decide (ks.length ≠ kidsN o)
        · have hlk : ks.length = kidsN o := by simpa using hd
          have HNE := Lib.hid (show ¬ (o < 0 ∨ 6 < o ∨ ks.length ≠ kidsN o) from fun h => by rcases h with h | h | h; omega; omega; exact h hlk)
          clear hlk hd
          go_upto_region 4 with (fail)
          go_cut [5] (fun v wx => v = .bool (decide (1 ≤ r ∧ r ≤ 5)) ∧ wx = wc)
          case first =>
            have d1 := X1.out.c1
            by_cases r1 : 1 ≤ r
            · have HD := Lib.hid (show decide (1 ≤ r ∧ r ≤ 5) = decide (r ≤ 5) by simp [r1])
              go_wp2_with fail
              go_meet
              exact ⟨by rw [HD.out], rfl⟩
            · have HD := Lib.hid (show decide (1 ≤ r ∧ r ≤ 5) = false by simp; omega)
              go_wp2_with fail
              go_meet
              exact ⟨by rw [HD.out], rfl⟩
          case rest =>
            obtain ⟨rfl, rfl⟩ := hcut
            obtain ⟨rb, hrb⟩ : ∃ rb, decide (1 ≤ r ∧ r ≤ 5) = rb := ⟨_, rfl⟩
            rw [hrb]
            have HRB := Lib.hid hrb
            clear hrb
            go_upto_block 0 with (fail)
            go_cut [5] (fun v wx => v = .bool (roleOk o r) ∧ wx = wc)
            case first =>
              by_cases h3 : o = 3
              · subst h3
                obtain rfl : V = .iface 61 (.agg #[]) := HVV.out.symm
                have HD := Lib.hid (show roleOk 3 r = rb by rw [← HRB.out]; rfl)
                go_wp2_with fail
                go_meet
                exact ⟨by rw [HD.out], rfl⟩
              · obtain ⟨nm, rfl⟩ : ∃ nm, V = .iface 59 (.agg #[.string nm]) := ⟨_, HVV.out.symm.trans (ofV_pair (by omega) (by omega) h3)⟩
                have HD := Lib.hid (show roleOk o r = (r == 0) by
                  have h0 := H0.out
                  unfold roleOk
                  rw [if_neg (by omega)]
                  rfl)
                have d1 := X1.out.c1
                clear h3
                go_wp2_with fail
                go_meet
                exact ⟨by rw [HD.out], rfl⟩
            case rest =>
              obtain ⟨rfl, rfl⟩ := hcut
              cases hro : roleOk o r
              · have HE := Lib.hid (show err pe (.mk o r t ks) = 2 by rw [err, if_neg HNE.out, if_pos hro])
                clear hro
                go_wp2_with fail
                go_ret
                exact ⟨by rw [HE.out]; rfl, X1.out.k⟩
              · have e2 := X1.out.c2
                have e3 := X1.out.c3
                have HRO := Lib.hid hro
                clear hro
                by_cases ht : t.size = 0
                · have HE := Lib.hid (show err pe (.mk o r t ks) = errs pe ks by rw [err, if_neg HNE.out, if_neg (by rw [HRO.out]; simp), if_neg H0.out, if_neg (by omega)])
                  have he := empty_of ht
                  have he2 : (!t.toList.isEmpty) = false := by rw [he]; rfl
                  clear ht
                  go_wp2_with fail
                  go_loopw [56] (fun i wr => ∃ k : Nat, k ≤ ks.length ∧ i = .int .i64 k ∧ (∀ j x, j < k → ks[j]? = some x → err pe x = 0) ∧ Below W0.heap.size W0 wr) (fun i _ => ks.length - (intOf i).toNat)
                  case atStart => exact ⟨0, Nat.zero_le _, rfl, fun j x h => by omega, HBC.out⟩
                  case round =>
                    obtain ⟨k, hk, rfl, hall, hb⟩ := hrel
                    have HALL := Lib.hid hall
                    clear hall
                    have Xr := Lib.hid (X0.out.next hb)
                    by_cases hlt : k < ks.length
                    · obtain ⟨kid, hkid⟩ := get_lt hlt
                      have HKD := Lib.hid hkid
                      have hkm : sz kid ≤ n := by have := szs_mem (List.mem_of_getElem? hkid); omega
                      have HTK := Lib.hid (tbs_mem HTB.out (List.mem_of_getElem? hkid))
                      have HKL := Lib.hid (lbs_get HLB.out hkid)
                      obtain ⟨o', r', t', ks'⟩ := kid
                      obtain ⟨ad, A', cap', rfl, x0, x1, x2, x3, hq'⟩ := Xr.out.kid hkid
                      obtain ⟨kid, hkd⟩ : ∃ kid, Qt.mk o' r' t' ks' = kid := ⟨_, rfl⟩
                      rw [hkd] at hq' hkm HKD HTK HKL
                      have HQ := Lib.hid (hq'.step (below_one wr (.cells #[.int .i64 o', .int .i64 r', .string t', .slice A' ks'.length cap'] 25)))
                      have HB1 := Lib.hid (below_one wr (.cells #[.int .i64 o', .int .i64 r', .string t', .slice A' ks'.length cap'] 25))
                      have HTk := Lib.hid ((HT0.out.below hb).below HB1.out)
                      clear hkid hq' hkd
                      go_wp2_with fail
                      refine (IH.out kid _ _ hkm HKL.out HTK.out HQ.out HTk.out).mono ?_
                      rintro e w1 ⟨rfl, hb1⟩
                      have HB2 := Lib.hid (hb.trans ((HB1.out.trans (hb1.mono HB1.out.size)).mono hb.size))
                      clear hb1
                      cases hz : (err pe kid == 0)
                      · have HR := Lib.hid (show err pe (.mk o r t ks) = err pe kid by rw [HE.out]; exact errs_first HKD.out HALL.out (by simpa using hz))
                        have hz2 : (err pe kid != 0) = true := by rw [bne, hz]; rfl
                        go_wp2_with fail
                        go_ret
                        exact ⟨by rw [HR.out]; rfl, (X0.out.next HB2.out).k⟩
                      · have hz1 : err pe kid = 0 := by simpa using hz
                        have HS := Lib.hid (show ∀ j x, j < k + 1 → ks[j]? = some x → err pe x = 0 from fun j x hj hx => by
                          by_cases e : j = k
                          · subst e
                            rw [HKD.out] at hx
                            cases hx
                            exact hz1
                          · exact HALL.out j x (by omega) hx)
                        rw [hz1]
                        clear hz hz1
                        go_wp2_with fail
                        go_roundw
                        case rel => exact ⟨k + 1, by omega, by go_num, HS.out, HB2.out⟩
                        case measure => simp [intOf]; omega
                    · obtain rfl : ks.length = k := by omega
                      have HR := Lib.hid (show err pe (.mk o r t ks) = 0 by
                        rw [HE.out]
                        exact errs_take_zero fun x hx => by
                          obtain ⟨j, hj, rfl⟩ := List.mem_iff_getElem.1 hx
                          exact HALL.out j _ hj (List.getElem?_eq_getElem hj))
                      go_wp2_with fail
                      go_ret
                      exact ⟨by rw [HR.out]; rfl, Xr.out.k⟩
                · have HE := Lib.hid (show err pe (.mk o r t ks) = 1 by rw [err, if_neg HNE.out, if_neg (by rw [HRO.out]; simp), if_neg H0.out, if_pos ht])
                  have he := some_of ht
                  have he2 : (!t.toList.isEmpty) = true := by rw [he]; rfl
                  clear ht
                  go_wp2_with fail
                  go_ret
                  exact ⟨by rw [HE.out]; rfl, X1.out.k⟩
        · have HE := Lib.hid (err_bad (r := r) (t := t) (ks := ks) (o := o) (.inr (.inr (by simpa using hd))))
          clear hd
          go_wp2_with fail
          go_ret
          exact ⟨by rw [HE.out]; rfl, X1.out.k⟩
set_option maxHeartbeats 3200000 in
set_option maxRecDepth 100000 in
theorem node31W_ : ∀ (n : Nat) (q : Qt) (v : Value) (w : World), sz q ≤ n → lb q → tb q → QAt w w.heap.size q v → Calls Tryd.prog 31 #[v] w (IntOut (err pe q) w) := by
  intro n
  induction n with
  | zero => intro q v w h; have := sz_pos q; omega
  | succ n ih =>
    intro q v w hn hlb htb hq
    obtain ⟨o, r, t, ks⟩ := q
    obtain ⟨A, cap, rfl, _⟩ := hq.inv
    have X0 := Lib.hid (Bx.start hq)
    have IH := Lib.hid ih
    have hsz : sz (.mk o r t ks) = 1 + szs ks := by rw [sz]
    rw [hsz] at hn
    rw [tb] at htb
    have htt := htb.1
    have HTB := Lib.hid htb.2
    clear hq ih hsz htb
    obtain ⟨W0, hW0⟩ : ∃ W0, w.alloc (.cells #[.int .i64 o, .int .i64 r, .string t, .slice A ks.length cap] 25) = W0 := ⟨_, rfl⟩
    rw [hW0] at X0
    have HW := Lib.hid hW0
    have c0 := X0.out.c0
    have c1 := X0.out.c1
    have c2 := X0.out.c2
    have c3 := X0.out.c3
    clear hW0
    rw [lb] at hlb
    obtain ⟨hlen, hks⟩ := hlb
    have HLB := Lib.hid hks
    clear hks
    go_enter Tryd.func31, Tryd.ntmps31
    go_upto_region 1 with (fail)
    rw [HW.out]
    go_cut [21] (fun v wx => v = .bool (decide (o < 0 ∨ 6 < o ∨ ks.length ≠ kidsN o)) ∧ Below W0.heap.size W0 wx)
    case first =>
      by_cases h1 : o < 0
      · have HD := Lib.hid (show decide (o < 0 ∨ 6 < o ∨ ks.length ≠ kidsN o) = true by simp [h1])
        go_quiet (fail)
        go_wp2_with fail
        go_meet
        exact ⟨by rw [HD.out], below_drewN (Below.refl _ _) _⟩
      · by_cases h2 : 6 < o
        · have HD := Lib.hid (show decide (o < 0 ∨ 6 < o ∨ ks.length ≠ kidsN o) = true by simp [h2])
          go_quiet (fail)
          go_wp2_with fail
          go_meet
          exact ⟨by rw [HD.out], below_drewN (Below.refl _ _) _⟩
        · have HD := Lib.hid (show decide (o < 0 ∨ 6 < o ∨ ks.length ≠ kidsN o) = ((ks.length : Int) != kdI o) by
            rw [kdI_N, Bool.eq_iff_iff]
            simp
            omega)
          go_quiet ((go_at_call 40; exact Calls.quiet_of_same ((kids40 o _).mono fun e w' h => ⟨h.1, h.2.symm⟩)))
          go_wp2_with fail
          go_meet
          exact ⟨by rw [HD.out], below_drewN (Below.refl _ _) _⟩
    case rest =>
      obtain ⟨rfl, hbc⟩ := hcut
      have X1 := Lib.hid (X0.out.next hbc)
      have HBC := Lib.hid hbc
      clear hbc c0 c1 c2 c3
      cases hd : decide (o < 0 ∨ 6 < o ∨ ks.length ≠ kidsN o)
      · have HNE := Lib.hid (show ¬ (o < 0 ∨ 6 < o ∨ ks.length ≠ kidsN o) by simpa using hd)
        have hO : 0 ≤ o ∧ o ≤ 6 := by have := HNE.out; omega
        have d0 := X1.out.c0
        have d1 := X1.out.c1
        have d2 := X1.out.c2
        have d3 := X1.out.c3
        clear hd
        go_upto_region 3 with (fail)
        go_cut [29] (fun v wx => v = .bool (decide (o = 0 ∨ o = 3)) ∧ wx = wc)
        case first =>
          by_cases h0 : o = 0
          · have HD := Lib.hid (show decide (o = 0 ∨ o = 3) = true by simp [h0])
            have t0 : (o == 0) = true := by simpa using h0
            clear h0
            go_wp2_with fail
            go_meet
            exact ⟨by rw [HD.out], rfl⟩
          · have HD := Lib.hid (show decide (o = 0 ∨ o = 3) = (o == 3) by rw [Bool.eq_iff_iff]; simp [h0])
            have t0 : (o == 0) = false := by simpa using h0
            clear h0
            go_wp2_with fail
            go_meet
            exact ⟨by rw [HD.out], rfl⟩
        case rest =>
          obtain ⟨rfl, rfl⟩ := hcut
          obtain ⟨bk, hbk⟩ : ∃ bk, decide (o = 0 ∨ o = 3) = bk := ⟨_, rfl⟩
          rw [hbk]
          have HBK := Lib.hid hbk
          clear hbk
          go_upto_if 29 with (fail)
          go_cut [] (fun wx => wx = wc ∧ roleOk o r = true)
          case first =>
            cases bk
            · have HRK := Lib.hid (show roleOk o r = decide (r = 0) by have h := HBK.out; simp at h; unfold roleOk; rw [if_neg (by omega)])
              cases hr0 : (r != 0)
              · have HRO := Lib.hid (show roleOk o r = true by rw [HRK.out]; simp at hr0; simp [hr0])
                go_wp2_with fail
                go_meet
                exact ⟨rfl, HRO.out⟩
              · have HE := Lib.hid (show err pe (.mk o r t ks) = 2 by rw [err, if_neg HNE.out, if_pos (by rw [HRK.out]; simp at hr0; simp [hr0])])
                go_wp2_with fail
                go_ret
                exact ⟨by rw [HE.out]; rfl, X1.out.k⟩
            · have HRK := Lib.hid (show roleOk o r = decide (1 ≤ r ∧ r ≤ 5) by have h := HBK.out; simp at h; unfold roleOk; rw [if_pos h])
              by_cases r1 : r < 1
              · have HE := Lib.hid (show err pe (.mk o r t ks) = 2 by rw [err, if_neg HNE.out, if_pos (by rw [HRK.out]; simp; omega)])
                go_wp2_with fail
                go_ret
                exact ⟨by rw [HE.out]; rfl, X1.out.k⟩
              · by_cases r2 : 5 < r
                · have HE := Lib.hid (show err pe (.mk o r t ks) = 2 by rw [err, if_neg HNE.out, if_pos (by rw [HRK.out]; simp; omega)])
                  go_wp2_with fail
                  go_ret
                  exact ⟨by rw [HE.out]; rfl, X1.out.k⟩
                · have HRO := Lib.hid (show roleOk o r = true by rw [HRK.out]; simp; omega)
                  go_wp2_with fail
                  go_meet
                  exact ⟨rfl, HRO.out⟩
          case rest =>
            obtain ⟨rfl, hro⟩ := hcut
            have HRO := Lib.hid hro
            clear hro
            by_cases h0 : o = 0
            · subst h0
              have HE := Lib.hid (show err pe (.mk 0 r t ks) = pe t by rw [err, if_neg HNE.out, if_neg (by rw [HRO.out]; simp), if_pos rfl])
              have HC := Lib.hid (check41 t wc htt)
              go_wp2_with fail
              refine HC.out.mono ?_
              rintro e w2 ⟨rfl, hb2⟩
              go_wp2_with fail
              go_ret
              exact ⟨by rw [HE.out]; rfl, (X1.out.next hb2).k⟩
            · have H0 := Lib.hid h0
              have t0 : (o == 0) = false := by simpa using h0
              clear h0
              by_cases ht : t.size = 0
              · have HE := Lib.hid (show err pe (.mk o r t ks) = errs pe ks by rw [err, if_neg HNE.out, if_neg (by rw [HRO.out]; simp), if_neg H0.out, if_neg (by omega)])
                have he := empty_of ht
                have he2 : (!t.toList.isEmpty) = false := by rw [he]; rfl
                clear ht
                go_wp2_with fail
                go_loopw [53] (fun i wr => ∃ k : Nat, k ≤ ks.length ∧ i = .int .i64 k ∧ (∀ j x, j < k → ks[j]? = some x → err pe x = 0) ∧ Below W0.heap.size W0 wr) (fun i _ => ks.length - (intOf i).toNat)
                case atStart => exact ⟨0, Nat.zero_le _, rfl, fun j x h => by omega, HBC.out⟩
                case round =>
                  obtain ⟨k, hk, rfl, hall, hb⟩ := hrel
                  have HALL := Lib.hid hall
                  clear hall
                  have Xr := Lib.hid (X0.out.next hb)
                  have f3 := Xr.out.c3
                  by_cases hlt : k < ks.length
                  · obtain ⟨kid, hkid⟩ := get_lt hlt
                    have HKD := Lib.hid hkid
                    have hkm : sz kid ≤ n := by have := szs_mem (List.mem_of_getElem? hkid); omega
                    have HTK := Lib.hid (tbs_mem HTB.out (List.mem_of_getElem? hkid))
                    have HKL := Lib.hid (lbs_get HLB.out hkid)
                    obtain ⟨o', r', t', ks'⟩ := kid
                    obtain ⟨ad, A', cap', rfl, x0, x1, x2, x3, hq'⟩ := Xr.out.kid hkid
                    obtain ⟨kid, hkd⟩ : ∃ kid, Qt.mk o' r' t' ks' = kid := ⟨_, rfl⟩
                    rw [hkd] at hq' hkm HKD HTK HKL
                    have HQ := Lib.hid hq'
                    clear hkid hq' hkd
                    go_wp2_with fail
                    refine (IH.out kid _ _ hkm HKL.out HTK.out HQ.out).mono ?_
                    rintro e w1 ⟨rfl, hb1⟩
                    have HB2 := Lib.hid (hb.trans (hb1.mono hb.size))
                    clear hb1
                    cases hz : (err pe kid == 0)
                    · have HR := Lib.hid (show err pe (.mk o r t ks) = err pe kid by rw [HE.out]; exact errs_first HKD.out HALL.out (by simpa using hz))
                      have hz2 : (err pe kid != 0) = true := by rw [bne, hz]; rfl
                      go_wp2_with fail
                      go_ret
                      exact ⟨by rw [HR.out]; rfl, (X0.out.next HB2.out).k⟩
                    · have hz1 : err pe kid = 0 := by simpa using hz
                      have HS := Lib.hid (show ∀ j x, j < k + 1 → ks[j]? = some x → err pe x = 0 from fun j x hj hx => by
                        by_cases e : j = k
                        · subst e
                          rw [HKD.out] at hx
                          cases hx
                          exact hz1
                        · exact HALL.out j x (by omega) hx)
                      rw [hz1]
                      clear hz hz1
                      go_wp2_with fail
                      go_roundw
                      case rel => exact ⟨k + 1, by omega, by go_num, HS.out, HB2.out⟩
                      case measure => simp [intOf]; omega
                  · obtain rfl : ks.length = k := by omega
                    have HR := Lib.hid (show err pe (.mk o r t ks) = 0 by
                      rw [HE.out]
                      exact errs_take_zero fun x hx => by
                        obtain ⟨j, hj, rfl⟩ := List.mem_iff_getElem.1 hx
                        exact HALL.out j _ hj (List.getElem?_eq_getElem hj))
                    go_wp2_with fail
                    go_ret
                    exact ⟨by rw [HR.out]; rfl, Xr.out.k⟩
              · have HE := Lib.hid (show err pe (.mk o r t ks) = 1 by rw [err, if_neg HNE.out, if_neg (by rw [HRO.out]; simp), if_neg H0.out, if_pos ht])
                have he := some_of ht
                have he2 : (!t.toList.isEmpty) = true := by rw [he]; rfl
                clear ht
                go_wp2_with fail
                go_ret
                exact ⟨by rw [HE.out]; rfl, X1.out.k⟩
      · have HE := Lib.hid (err_bad (r := r) (t := t) (ks := ks) (o := o) (by simpa using hd))
        clear hd
        go_wp2_with fail
        go_ret
        exact ⟨by rw [HE.out]; rfl, X1.out.k⟩
theorem check30W (q : Qt) (v : Value) (w : World) (hl : lb q) (ht : tb q) (h : QAt w w.heap.size q v) (hT : Tab w) : Calls Tryd.prog 30 #[v] w (IntOut (err pe q) w) := check30W_ (sz q) q v w (Nat.le_refl _) hl ht h hT
theorem node31W (q : Qt) (v : Value) (w : World) (hl : lb q) (ht : tb q) (h : QAt w w.heap.size q v) : Calls Tryd.prog 31 #[v] w (IntOut (err pe q) w) := node31W_ (sz q) q v w (Nat.le_refl _) hl ht h
/-- What Check returns, for a query of any size. -/
def chkW (q : Qt) : Int := if 60 < nw q ∨ 12 < dw q then 11 else err pe q
set_option maxHeartbeats 1600000 in
theorem check18W (q : Qt) (v : Value) (w : World) (hl : lb q) (ht : tb q) (hq : QAt w w.heap.size q v) (hT : Tab w) : Calls Tryd.prog 18 #[v] w (IntOut (chkW q) w) := by
  have HQ1 := Lib.hid hq
  obtain ⟨q, hqq⟩ : ∃ q', q = q' := ⟨_, rfl⟩
  subst hqq
  obtain ⟨a, b, c, d, rfl⟩ := hq.flat
  clear hq
  obtain ⟨W0, hW0⟩ : ∃ W0, w.alloc (.cells #[a, b, c, d] 25) = W0 := ⟨_, rfl⟩
  have hb0 := below_one w (.cells #[a, b, c, d] 25)
  have hbx := quad_new w a b c d 25
  rw [hW0] at hb0 hbx
  have HQ := Lib.hid (HQ1.out.step hb0)
  have HT0 := Lib.hid (hT.below hb0)
  have HBX := Lib.hid hbx
  have HB0 := Lib.hid hb0
  have HW := Lib.hid hW0
  clear hW0 hbx hb0
  obtain ⟨x0, x1, x2, x3⟩ := quad_cells HBX.out
  have E1 := Lib.hid (nodes15W q _ W0 hl HQ.out)
  obtain ⟨N, hN⟩ : ∃ N, nw q = N := ⟨_, rfl⟩
  obtain ⟨D, hD⟩ : ∃ D, dw q = D := ⟨_, rfl⟩
  have HC := Lib.hid (show chkW q = if 60 < N ∨ 12 < D then 11 else err pe q by rw [chkW, hN, hD])
  rw [hN] at E1
  clear hN
  go_enter Tryd.func18, Tryd.ntmps18
  go_wp2_with fail
  rw [HW.out]
  clear HW
  refine E1.out.mono ?_
  rintro e w1 ⟨rfl, hb1⟩
  by_cases h60 : 60 < N
  · have HR := Lib.hid (show chkW q = 11 by rw [HC.out, if_pos (.inl h60)])
    go_wp2_with fail
    go_ret
    exact ⟨by rw [HR.out]; rfl, HB0.out.trans (hb1.mono HB0.out.size)⟩
  · have HQ2 := Lib.hid (HQ.out.step hb1)
    have HBX1 := Lib.hid (heap_below HBX.out hb1)
    have HB1 := Lib.hid (HB0.out.trans (hb1.mono HB0.out.size))
    have HT1 := Lib.hid (HT0.out.below hb1)
    have E2 := Lib.hid (depth16W q _ w1 hl HQ2.out)
    rw [hD] at E2
    clear hb1 hD
    obtain ⟨y0, y1, y2, y3⟩ := quad_cells HBX1.out
    go_wp2_with fail
    refine E2.out.mono ?_
    rintro e w2 ⟨rfl, hb2⟩
    by_cases h12 : 12 < D
    · have HR := Lib.hid (show chkW q = 11 by rw [HC.out, if_pos (.inr h12)])
      go_wp2_with fail
      go_ret
      exact ⟨by rw [HR.out]; rfl, HB1.out.trans (hb2.mono HB1.out.size)⟩
    · have HR := Lib.hid (show chkW q = err pe q by rw [HC.out, if_neg (by omega)])
      have HQ3 := Lib.hid (HQ2.out.step hb2)
      have HBX2 := Lib.hid (heap_below HBX1.out hb2)
      have HB2 := Lib.hid (HB1.out.trans (hb2.mono HB1.out.size))
      have HT2 := Lib.hid (HT1.out.below hb2)
      have E3 := Lib.hid (check30W q _ w2 hl ht HQ3.out HT2.out)
      clear hb2
      obtain ⟨z0, z1, z2, z3⟩ := quad_cells HBX2.out
      go_wp2_with fail
      refine E3.out.mono ?_
      rintro e w3 ⟨rfl, hb3⟩
      go_wp2_with fail
      go_ret
      exact ⟨by rw [HR.out]; rfl, HB2.out.trans (hb3.mono HB2.out.size)⟩
set_option maxHeartbeats 1600000 in
theorem check19W (q : Qt) (v : Value) (w : World) (hl : lb q) (ht : tb q) (hq : QAt w w.heap.size q v) : Calls Tryd.prog 19 #[v] w (IntOut (chkW q) w) := by
  have HQ1 := Lib.hid hq
  obtain ⟨q, hqq⟩ : ∃ q', q = q' := ⟨_, rfl⟩
  subst hqq
  obtain ⟨a, b, c, d, rfl⟩ := hq.flat
  clear hq
  obtain ⟨W0, hW0⟩ : ∃ W0, w.alloc (.cells #[a, b, c, d] 25) = W0 := ⟨_, rfl⟩
  have hb0 := below_one w (.cells #[a, b, c, d] 25)
  have hbx := quad_new w a b c d 25
  rw [hW0] at hb0 hbx
  have HQ := Lib.hid (HQ1.out.step hb0)
  have HBX := Lib.hid hbx
  have HB0 := Lib.hid hb0
  have HW := Lib.hid hW0
  clear hW0 hbx hb0
  obtain ⟨x0, x1, x2, x3⟩ := quad_cells HBX.out
  have E1 := Lib.hid (nodes20W q _ W0 hl HQ.out)
  obtain ⟨N, hN⟩ : ∃ N, nw q = N := ⟨_, rfl⟩
  obtain ⟨D, hD⟩ : ∃ D, dw q = D := ⟨_, rfl⟩
  have HC := Lib.hid (show chkW q = if 60 < N ∨ 12 < D then 11 else err pe q by rw [chkW, hN, hD])
  rw [hN] at E1
  clear hN
  go_enter Tryd.func19, Tryd.ntmps19
  go_wp2_with fail
  rw [HW.out]
  clear HW
  refine E1.out.mono ?_
  rintro e w1 ⟨rfl, hb1⟩
  by_cases h60 : 60 < N
  · have HR := Lib.hid (show chkW q = 11 by rw [HC.out, if_pos (.inl h60)])
    go_wp2_with fail
    go_ret
    exact ⟨by rw [HR.out]; rfl, HB0.out.trans (hb1.mono HB0.out.size)⟩
  · have HQ2 := Lib.hid (HQ.out.step hb1)
    have HBX1 := Lib.hid (heap_below HBX.out hb1)
    have HB1 := Lib.hid (HB0.out.trans (hb1.mono HB0.out.size))
    have E2 := Lib.hid (depth21W q _ w1 hl HQ2.out)
    rw [hD] at E2
    clear hb1 hD
    obtain ⟨y0, y1, y2, y3⟩ := quad_cells HBX1.out
    go_wp2_with fail
    refine E2.out.mono ?_
    rintro e w2 ⟨rfl, hb2⟩
    by_cases h12 : 12 < D
    · have HR := Lib.hid (show chkW q = 11 by rw [HC.out, if_pos (.inr h12)])
      go_wp2_with fail
      go_ret
      exact ⟨by rw [HR.out]; rfl, HB1.out.trans (hb2.mono HB1.out.size)⟩
    · have HR := Lib.hid (show chkW q = err pe q by rw [HC.out, if_neg (by omega)])
      have HQ3 := Lib.hid (HQ2.out.step hb2)
      have HBX2 := Lib.hid (heap_below HBX1.out hb2)
      have HB2 := Lib.hid (HB1.out.trans (hb2.mono HB1.out.size))
      have E3 := Lib.hid (node31W q _ w2 hl ht HQ3.out)
      clear hb2
      obtain ⟨z0, z1, z2, z3⟩ := quad_cells HBX2.out
      go_wp2_with fail
      refine E3.out.mono ?_
      rintro e w3 ⟨rfl, hb3⟩
      go_wp2_with fail
      go_ret
      exact ⟨by rw [HR.out]; rfl, HB2.out.trans (hb3.mono HB2.out.size)⟩
def fewW (q : Qt) : Bool := decide (nw q ≤ 150) && short q
theorem fewW_yes {q : Qt} (h : fewW q = true) : short q = true ∧ tb q := by
  unfold fewW at h
  simp only [Bool.and_eq_true] at h
  exact ⟨h.2, short_tb q h.2⟩
set_option maxHeartbeats 1600000 in
set_option maxRecDepth 100000 in
theorem few14W (q : Qt) (v : Value) (w : World) (hl : lb q) (hq : QAt w w.heap.size q v) : Calls Tryd.prog 14 #[v] w (BoolIs (fewW q) w) := by
  obtain ⟨a, b, c, d, rfl⟩ := hq.flat
  have L0 := Lib.hid (Ld.start hq)
  obtain ⟨W0, hW0⟩ : ∃ W0, w.alloc (.cells #[a, b, c, d] 25) = W0 := ⟨_, rfl⟩
  rw [hW0] at L0
  have HW := Lib.hid hW0
  clear hW0 hq
  obtain ⟨x0, x1, x2, x3⟩ := L0.out.cells
  have E1 := Lib.hid (nodes20W q _ W0 hl L0.out.q)
  obtain ⟨N, hN⟩ : ∃ N, nw q = N := ⟨_, rfl⟩
  have HF := Lib.hid (show fewW q = (decide (N ≤ 150) && short q) by rw [fewW, hN])
  rw [hN] at E1
  clear hN
  go_enter Tryd.func14, Tryd.ntmps14
  go_wp2_with fail
  rw [HW.out]
  clear HW
  refine E1.out.mono ?_
  rintro e w1 ⟨rfl, hb1⟩
  by_cases h150 : N ≤ 150
  · have L1 := Lib.hid (L0.out.next hb1)
    have E2 := Lib.hid (texts28W q _ w1 hl L1.out.q)
    have HR := Lib.hid (show fewW q = short q by rw [HF.out, decide_eq_true h150]; rfl)
    obtain ⟨sh, hsh⟩ : ∃ sh, short q = sh := ⟨_, rfl⟩
    rw [hsh] at E2 HR
    clear hb1 hsh
    obtain ⟨y0, y1, y2, y3⟩ := L1.out.cells
    go_wp2_with fail
    refine E2.out.mono ?_
    rintro e w2 ⟨rfl, hb2⟩
    go_wp2_with fail
    go_ret
    exact ⟨by rw [HR.out]; rfl, (L1.out.next hb2).k⟩
  · have HR := Lib.hid (show fewW q = false by rw [HF.out, decide_eq_false h150]; rfl)
    go_wp2_with fail
    go_ret
    exact ⟨by rw [HR.out]; rfl, (L0.out.next hb1).k⟩
set_option maxHeartbeats 6400000 in
set_option maxRecDepth 100000 in
theorem law5W (q : Qt) (v : Value) (w : World) (hl : lb q) (hq : QAt w w.heap.size q v) (hT : Tab w) : Calls Tryd.prog 5 #[v] w (AwOut w) := by
  obtain ⟨a, b, c, d, rfl⟩ := hq.flat
  have L0 := Lib.hid (Ld.start hq)
  obtain ⟨W0, hW0⟩ : ∃ W0, w.alloc (.cells #[a, b, c, d] 25) = W0 := ⟨_, rfl⟩
  rw [hW0] at L0
  have HW := Lib.hid hW0
  have HT0 := Lib.hid (show ∀ W, Below w.heap.size w W → Tab W from fun W hb => hT.below hb)
  clear hW0 hq hT
  obtain ⟨x0, x1, x2, x3⟩ := L0.out.cells
  have E1 := Lib.hid (few14W q _ W0 hl L0.out.q)
  obtain ⟨F, hF⟩ : ∃ F, fewW q = F := ⟨_, rfl⟩
  rw [hF] at E1
  go_enter Tryd.func5, Tryd.ntmps5
  go_wp2_with fail
  rw [HW.out]
  clear HW
  refine E1.out.mono ?_
  rintro e w1 ⟨rfl, hb1⟩
  have L1 := Lib.hid (L0.out.next hb1)
  clear hb1 x0 x1 x2 x3
  cases F
  · go_wp2_with fail
    refine (awake12 w1 (HT0.out w1 L1.out.k)).mono ?_
    rintro e w2 ⟨rfl, hb2⟩
    go_wp2_with fail
    go_ret
    exact ⟨rfl, (L1.out.next hb2).k⟩
  obtain ⟨hsh, htb⟩ := fewW_yes hF
  clear hF hsh
  obtain ⟨x0, x1, x2, x3⟩ := L1.out.cells
  have hS0 := And.intro x0 (And.intro x1 (And.intro x2 x3))
  have KS := Lib.hid (fun (W : World) (hb : Below w1.heap.size w1 W) => (L1.out.next hb).cells)
  have C18 := Lib.hid (fun (W : World) (hb : Below w1.heap.size w1 W) => check18W q _ W hl htb (L1.out.next hb).q (HT0.out W (L1.out.next hb).k))
  have C19 := Lib.hid (fun (W : World) (hb : Below w1.heap.size w1 W) => check19W q _ W hl htb (L1.out.next hb).q)
  have C15 := Lib.hid (fun (W : World) (hb : Below w1.heap.size w1 W) => nodes15W q _ W hl (L1.out.next hb).q)
  have C20 := Lib.hid (fun (W : World) (hb : Below w1.heap.size w1 W) => nodes20W q _ W hl (L1.out.next hb).q)
  have C16 := Lib.hid (fun (W : World) (hb : Below w1.heap.size w1 W) => depth16W q _ W hl (L1.out.next hb).q)
  have C21 := Lib.hid (fun (W : World) (hb : Below w1.heap.size w1 W) => depth21W q _ W hl (L1.out.next hb).q)
  have C12 := Lib.hid (fun (W : World) (hb : Below w1.heap.size w1 W) => awake12 W (HT0.out W (L1.out.next hb).k))
  obtain ⟨C, hC⟩ : ∃ C, chkW q = C := ⟨_, rfl⟩
  obtain ⟨N, hN⟩ : ∃ N, nw q = N := ⟨_, rfl⟩
  obtain ⟨D, hD⟩ : ∃ D, dw q = D := ⟨_, rfl⟩
  have HC := Lib.hid hC
  have HN := Lib.hid hN
  have HD := Lib.hid hD
  clear hC hN hD
  go_upto_region 3 with (fail)
  go_region_held3 (fun w' => w'.cell? ⟨w.heap.size, 0, none⟩ = some a ∧ w'.cell? ⟨w.heap.size, 1, none⟩ = some b ∧ w'.cell? ⟨w.heap.size, 2, none⟩ = some c ∧ w'.cell? ⟨w.heap.size, 3, none⟩ = some d)
    (first | exact hS | exact hS0 | go_keep)
    (first
      | (go_at_call 18
         (with_reducible refine (C18.out _ (Below.refl _ _).drew).mono ?_)
         rintro e u1 ⟨rfl, hu1⟩
         rw [HC.out]
         have k1 : Below w1.heap.size w1 u1 := below_undrew hu1
         have hS := KS.out u1 k1)
      | (go_at_call 19
         (with_reducible refine (C19.out _ k1).mono ?_)
         rintro e u2 ⟨rfl, hu2⟩
         rw [HC.out]
         have k2 : Below w1.heap.size w1 u2 := k1.trans (hu2.mono k1.size)
         have hS := KS.out u2 k2)
      | (go_at_call 15
         (with_reducible refine (C15.out _ k2).mono ?_)
         rintro e u3 ⟨rfl, hu3⟩
         rw [HN.out]
         have k3 : Below w1.heap.size w1 u3 := k2.trans (hu3.mono k2.size)
         have hS := KS.out u3 k3)
      | (go_at_call 20
         (with_reducible refine (C20.out _ k3).mono ?_)
         rintro e u4 ⟨rfl, hu4⟩
         rw [HN.out]
         have k4 : Below w1.heap.size w1 u4 := k3.trans (hu4.mono k3.size)
         have hS := KS.out u4 k4)
      | (go_at_call 16
         (with_reducible refine (C16.out _ k4).mono ?_)
         rintro e u5 ⟨rfl, hu5⟩
         rw [HD.out]
         have k5 : Below w1.heap.size w1 u5 := k4.trans (hu5.mono k4.size)
         have hS := KS.out u5 k5)
      | (go_at_call 21
         (with_reducible refine (C21.out _ k5).mono ?_)
         rintro e u6 ⟨rfl, hu6⟩
         rw [HD.out]
         have k6 : Below w1.heap.size w1 u6 := k5.trans (hu6.mono k5.size)
         have hS := KS.out u6 k6)
      | (go_at_call 12
         (with_reducible refine (C12.out _ k6).mono ?_)
         rintro e u7 ⟨rfl, hu7⟩
         have k7 : Below w1.heap.size w1 u7 := k6.trans (hu7.mono k6.size)
         have hS := KS.out u7 k7))
  all_goals
    go_wp2_with fail
    go_ret
    exact ⟨rfl, (L1.out.next k7).k⟩
theorem cells8W {a b c d a' b' c' d' : Value} {q r : Qt} {B C : Nat} {w w1 W : World} (h : Ld a b c d q B w W) (g : Ld a' b' c' d' r C w1 W) :
    W.cell? ⟨B, 0, none⟩ = some a ∧ W.cell? ⟨B, 1, none⟩ = some b ∧ W.cell? ⟨B, 2, none⟩ = some c ∧ W.cell? ⟨B, 3, none⟩ = some d ∧ W.cell? ⟨C, 0, none⟩ = some a' ∧ W.cell? ⟨C, 1, none⟩ = some b' ∧ W.cell? ⟨C, 2, none⟩ = some c' ∧ W.cell? ⟨C, 3, none⟩ = some d' :=
  ⟨h.cells.1, h.cells.2.1, h.cells.2.2.1, h.cells.2.2.2, g.cells.1, g.cells.2.1, g.cells.2.2.1, g.cells.2.2.2⟩
set_option maxHeartbeats 12800000 in
set_option maxRecDepth 100000 in
theorem law8W (q : Qt) (v : Value) (r : Qt) (u : Value) (w : World) (hl : lb q) (hm : lb r) (hq : QAt w w.heap.size q v) (hr : QAt w w.heap.size r u) (hT : Tab w) : Calls Tryd.prog 8 #[v, u] w (AwOut w) := by
  obtain ⟨a, b, c, d, rfl⟩ := hq.flat
  obtain ⟨a', b', c', d', rfl⟩ := hr.flat
  obtain ⟨W1, hW1⟩ : ∃ W1, w.alloc (.cells #[a, b, c, d] 25) = W1 := ⟨_, rfl⟩
  have X0 := Ld.start hq
  have hz1 := size_one w (.cells #[a, b, c, d] 25)
  have hr1 := hr.step (below_one w (.cells #[a, b, c, d] 25))
  rw [hW1] at X0 hz1 hr1
  have Y0 := Ld.start hr1
  have X1 := X0.next (below_one W1 (.cells #[a', b', c', d'] 25))
  obtain ⟨W0, hW0⟩ : ∃ W0, W1.alloc (.cells #[a', b', c', d'] 25) = W0 := ⟨_, rfl⟩
  rw [hW0] at Y0 X1
  rw [hz1] at Y0
  have LX := Lib.hid X1
  have LY := Lib.hid Y0
  have HW1 := Lib.hid hW1
  have HW0 := Lib.hid hW0
  have HT0 := Lib.hid (show ∀ W, Below w.heap.size w W → Tab W from fun W hb => hT.below hb)
  clear X0 X1 Y0 hW1 hW0 hz1 hr1 hq hr hT
  obtain ⟨x0, x1, x2, x3⟩ := LX.out.cells
  obtain ⟨y0, y1, y2, y3⟩ := LY.out.cells
  have E1 := Lib.hid (few14W q _ W0 hl LX.out.q)
  obtain ⟨F, hF⟩ : ∃ F, fewW q = F := ⟨_, rfl⟩
  rw [hF] at E1
  go_enter Tryd.func8, Tryd.ntmps8
  go_wp2_with fail
  rw [HW1.out, HW0.out]
  clear HW1 HW0
  refine E1.out.mono ?_
  rintro e w1 ⟨rfl, hb1⟩
  have LX1 := Lib.hid (LX.out.next hb1)
  have LY1 := Lib.hid (LY.out.next hb1)
  clear hb1 x0 x1 x2 x3 y0 y1 y2 y3 LX LY
  cases F
  · go_wp2_with fail
    refine (awake12 w1 (HT0.out w1 LX1.out.k)).mono ?_
    rintro e w2 ⟨rfl, hb2⟩
    go_wp2_with fail
    go_ret
    exact ⟨rfl, (LX1.out.next hb2).k⟩
  clear hF
  obtain ⟨y0, y1, y2, y3⟩ := LY1.out.cells
  have E2 := Lib.hid (few14W r _ w1 hm LY1.out.q)
  obtain ⟨G, hG⟩ : ∃ G, fewW r = G := ⟨_, rfl⟩
  rw [hG] at E2
  go_wp2_with fail
  refine E2.out.mono ?_
  rintro e w2 ⟨rfl, hb2⟩
  have LX2 := Lib.hid (LX1.out.next hb2)
  have LY2 := Lib.hid (LY1.out.next hb2)
  clear hb2 y0 y1 y2 y3 LX1 LY1 hG
  cases G
  · go_wp2_with fail
    refine (awake12 w2 (HT0.out w2 LX2.out.k)).mono ?_
    rintro e w3 ⟨rfl, hb3⟩
    go_wp2_with fail
    go_ret
    exact ⟨rfl, (LX2.out.next hb3).k⟩
  obtain ⟨x0, x1, x2, x3⟩ := LX2.out.cells
  obtain ⟨y0, y1, y2, y3⟩ := LY2.out.cells
  have hS0 := And.intro x0 (And.intro x1 (And.intro x2 (And.intro x3 (And.intro y0 (And.intro y1 (And.intro y2 y3))))))
  have KS := Lib.hid (fun (W : World) (hb : Below w2.heap.size w2 W) => cells8W (LX2.out.next hb) (LY2.out.next hb))
  have CA := Lib.hid (fun (W : World) (hb : Below w2.heap.size w2 W) => same25W q r _ _ W hl (LX2.out.next hb).q (LY2.out.next hb).q)
  have CB := Lib.hid (fun (W : World) (hb : Below w2.heap.size w2 W) => same24W q r _ _ W hl (LX2.out.next hb).q (LY2.out.next hb).q)
  have CC := Lib.hid (fun (W : World) (hb : Below w2.heap.size w2 W) => same25W q q _ _ W hl (LX2.out.next hb).q (LX2.out.next hb).q)
  have C12 := Lib.hid (fun (W : World) (hb : Below w2.heap.size w2 W) => awake12 W (HT0.out W (LX2.out.next hb).k))
  have HY := Lib.hid (same_yes (a := q) (b := q) rfl)
  obtain ⟨S, hS'⟩ : ∃ S, sameB q r = S := ⟨_, rfl⟩
  rw [hS'] at CA CB
  clear hl hm hS'
  cases S
  all_goals
    go_upto_region 3 with (fail)
    go_region_held3 (fun w' => w'.cell? ⟨w.heap.size, 0, none⟩ = some a ∧ w'.cell? ⟨w.heap.size, 1, none⟩ = some b ∧ w'.cell? ⟨w.heap.size, 2, none⟩ = some c ∧ w'.cell? ⟨w.heap.size, 3, none⟩ = some d ∧ w'.cell? ⟨w.heap.size + 1, 0, none⟩ = some a' ∧ w'.cell? ⟨w.heap.size + 1, 1, none⟩ = some b' ∧ w'.cell? ⟨w.heap.size + 1, 2, none⟩ = some c' ∧ w'.cell? ⟨w.heap.size + 1, 3, none⟩ = some d')
      (first | exact hS | exact hS0 | go_keep)
      (first
        | (go_at_call 25
           (with_reducible refine (CA.out _ (Below.refl _ _).drew).mono ?_)
           rintro e u1 ⟨rfl, hu1⟩
           have k1 : Below w2.heap.size w2 u1 := below_undrew hu1
           have hS := KS.out u1 k1)
        | (go_at_call 24
           (with_reducible refine (CB.out _ k1).mono ?_)
           rintro e u2 ⟨rfl, hu2⟩
           have k2 : Below w2.heap.size w2 u2 := k1.trans (hu2.mono k1.size)
           have hS := KS.out u2 k2)
        | (go_at_call 25
           (with_reducible refine (CC.out _ k2).mono ?_)
           rintro e u3 ⟨rfl, hu3⟩
           rw [HY.out]
           have k3 : Below w2.heap.size w2 u3 := k2.trans (hu3.mono k2.size)
           have hS := KS.out u3 k3)
        | (go_at_call 12
           (with_reducible refine (C12.out _ k3).mono ?_)
           rintro e u4 ⟨rfl, hu4⟩
           have k4 : Below w2.heap.size w2 u4 := k3.trans (hu4.mono k3.size)
           have hS := KS.out u4 k4))
    all_goals
      go_wp2_with fail
      go_ret
      exact ⟨rfl, (LX2.out.next k4).k⟩
section
variable {H : Type} {enc : TypeId × Value → H} {W : World}
set_option maxRecDepth 100000 in
theorem open_qW : ∀ (N fuel : Nat) (cs : List Value) (d : DataW H) (p : List MemPlace), Tr enc W fuel 25 cs = some (d, p) → Rows.uptoBulk d ≤ N →
    ∃ q : Qt, cs.length = 4 ∧ QAt W W.heap.size q (.agg cs.toArray) ∧ lb q := by
  intro N
  induction N with
  | zero =>
    intro fuel cs d p h hN
    obtain ⟨ys, n', _, hy, _, _, _⟩ := DataW.trod_struct Tryd.underlying25 h
    simp only [Prod.mk.injEq] at hy
    rw [hy.1, Rows.uptoBulk] at hN
    omega
  | succ N ih =>
    intro fuel cs d p h hN
    obtain ⟨ys, n', _, hy, hlen, hyl, hf⟩ := DataW.trod_struct Tryd.underlying25 h
    simp only [Prod.mk.injEq] at hy
    have hc4 : cs.length = 4 := by rw [hlen]; kernel_rfl
    have hone : oneCellFields Tryd.prog (match Tryd.prog.underlying 25 with | some (.struct fs) => fs | _ => #[]) = true := by kernel_rfl
    match cs, hc4, ys, hyl with
    | [c0, c1, c2, c3], _, [y0, y1, y2, y3], _ =>
      have h0 : Tr enc W n' 3 [c0] = some y0 := hf 0 _ rfl
      have h1 : Tr enc W n' 3 [c1] = some y1 := hf 1 _ rfl
      have h2 : Tr enc W n' 9 [c2] = some y2 := hf 2 _ rfl
      have h3 : Tr enc W n' 23 [c3] = some y3 := hf 3 _ rfl
      obtain ⟨o, eo, _⟩ := DataW.trod_int Tryd.underlying3 h0
      obtain ⟨r, er, _⟩ := DataW.trod_int Tryd.underlying3 h1
      obtain ⟨t, et, _⟩ := DataW.trod_string Tryd.underlying9 h2
      obtain rfl := List.singleton_inj.1 eo
      obtain rfl := List.singleton_inj.1 er
      obtain rfl := List.singleton_inj.1 et
      have hd : Rows.uptoBulk d = Rows.uptoBulk y0.1 + (Rows.uptoBulk y1.1 + (Rows.uptoBulk y2.1 + (Rows.uptoBulk y3.1 + 0))) + 1 := by
        rw [hy.1, Rows.uptoBulk]
        simp only [List.map_cons, List.map_nil, Rows.uptoBulkAll]
      rcases open_slice Tryd.underlying23 h3 with ⟨es, _⟩ | ⟨a, len, cap, m, n, D, Pl, es, _, hl, hcm, hm, hx, hi⟩
      · obtain rfl := List.singleton_inj.1 es
        refine ⟨.mk o r t [], rfl, ?_, ?_⟩
        · exact (QN.leaf (lo := 0) 0).at_
        · rw [lb, lbs]; exact ⟨Nat.zero_le _, trivial⟩
      · obtain rfl := List.singleton_inj.1 es
        have hmc : m = cap := by simpa using hm
        have hb3 : Rows.uptoBulk y3.1 = Rows.uptoBulkAll ((List.range len).map D) + Rows.uptoBulkAll ((List.range (m - len)).map fun j => D (len + j)) + 1 := by rw [hx, Rows.uptoBulk]
        have h4 : Tryd.prog.cellsOf 25 = 4 := by kernel_rfl
        obtain ⟨ks, hkl, hks⟩ := list_of (n := len) (p := fun i (k : Qt) => ∃ cs' : List Value, (∀ j, j < 4 → W.cell? ((a.add (i * 4)).add j) = cs'[j]?) ∧ cs'.length = 4 ∧ QAt W W.heap.size k (.agg cs'.toArray) ∧ lb k) fun i hi' => by
          obtain ⟨cs', h5, h6⟩ := hi i (by omega)
          rw [h4] at h5
          have hbi := bulk_mem (D := D) hi'
          obtain ⟨k, h7, h8, h9⟩ := ih n cs' (D i) (Pl i) h6 (by omega)
          exact ⟨k, cs', (World.cells?_some h5).2.2, h7, h8, h9⟩
        have hlbs : lbs ks := lbs_all fun k hk => by
          obtain ⟨i, hi2, rfl⟩ := List.mem_iff_getElem.1 hk
          obtain ⟨_, _, _, _, h9⟩ := hks i _ (List.getElem?_eq_getElem hi2)
          exact h9
        have hmx : Go.maxLen = 9223372036854775807 := rfl
        refine ⟨.mk o r t ks, rfl, ?_, by rw [lb]; exact ⟨by omega, hlbs⟩⟩
        have hcs : ∀ i k, ks[i]? = some k → ∃ v, KC W W.heap.size (some a) i v ∧ QAt W W.heap.size k v := fun i k hk => by
          obtain ⟨cs', h5, h6, h7, _⟩ := hks i k hk
          match cs', h6 with
          | [e0, e1, e2, e3], _ =>
            have g0 : W.cell? (a.add (i * 4)) = some e0 := h5 0 (by omega)
            have g1 := h5 1 (by omega)
            have g2 := h5 2 (by omega)
            have g3 := h5 3 (by omega)
            rw [add_pos _ (by omega)] at g1 g2 g3
            exact ⟨_, ⟨a, e0, e1, e2, e3, rfl, block_lt g0, rfl, g0, g1, g2, g3⟩, h7⟩
        have hV : ∀ i, ∃ v, ∀ k, ks[i]? = some k → KC W W.heap.size (some a) i v ∧ QAt W W.heap.size k v := fun i => by
          rcases Nat.lt_or_ge i ks.length with hlt | hge
          · obtain ⟨k, hk⟩ := get_lt hlt
            obtain ⟨v, hv⟩ := hcs i k hk
            exact ⟨v, fun k' hk' => by rw [hk] at hk'; cases hk'; exact hv⟩
          · exact ⟨.nilIface, fun k' hk' => by have := lt_get hk'; omega⟩
        have hQ := QAt.mk (w := W) (B := W.heap.size) o r t ks (some a) cap (fun i => Classical.choose (hV i)) (fun i k hk => (Classical.choose_spec (hV i) k hk).1) (fun i k hk => (Classical.choose_spec (hV i) k hk).2)
        rw [hkl] at hQ
        exact hQ
end
section
variable {H : Type} {enc : TypeId × Value → H} {W : World} {base : Nat} {v : Value} {d : DataW H} {p : List MemPlace}
set_option maxRecDepth 100000 in
theorem open_queryW (hv : Value.okWide Tryd.prog W .any base 25 v) (h : DataW.Trod enc Tryd.prog W 0 (fun _ => true) true 25 v d p) : ∃ q : Qt, QAt W W.heap.size q v ∧ lb q := by
  obtain ⟨cs, rfl, hsz⟩ := okWide_struct Tryd.underlying25 hv
  obtain ⟨l⟩ := cs
  obtain ⟨fuel, hf⟩ := h
  obtain ⟨q, _, h2, h3⟩ := open_qW _ fuel l d p (by simpa [Value.cells] using hf) (Nat.le_refl _)
  exact ⟨q, h2, h3⟩
end
end Go.Proofs.YtgbjldkbbbjnkaaDoor
