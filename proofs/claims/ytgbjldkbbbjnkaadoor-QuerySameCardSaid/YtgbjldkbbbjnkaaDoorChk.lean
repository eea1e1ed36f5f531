/-
  What check of the program returns.
-/
import Derived.Test.YtgbjldkbbbjnkaaDoorPatR
import Derived.Test.YtgbjldkbbbjnkaaDoorTb
import Derived.Test.YtgbjldkbbbjnkaaDoorQuePre
import Derived.Deep.RegionHeld3
import Derived.Deep.DeepCutAuto
import Derived.Outline
namespace Go.Proofs.YtgbjldkbbbjnkaaDoor
open Go.RowKit Go.PlainAid Pl

theorem below_undrew {B : Nat} {w w' : World} (h : Below B w.drew w') : Below B w w' := ⟨h.os, h.tape, h.output, h.size, h.block⟩
theorem err_bad {o r : Int} {t : ByteArray} {ks : List Qt} (h : o < 0 ∨ 6 < o ∨ ks.length ≠ kidsN o) : err pe (.mk o r t ks) = 28 := by rw [err, if_pos h]
theorem ta_leaf (w : World) : (Instr.typeAssert (.iface 64 (.agg #[])) 54 64 true).run Tryd.prog w = .ok (.tuple #[.agg #[], .bool true]) w := by kernel_rfl
theorem ta_neg (w : World) : (Instr.typeAssert (.iface 61 (.agg #[])) 54 64 true).run Tryd.prog w = .ok (.tuple #[.agg #[], .bool false]) w := by kernel_rfl
theorem ta_pair (nm : ByteArray) (w : World) : (Instr.typeAssert (.iface 59 (.agg #[.string nm])) 54 64 true).run Tryd.prog w = .ok (.tuple #[.agg #[], .bool false]) w := by kernel_rfl
theorem ta_neg2 (w : World) : (Instr.typeAssert (.iface 61 (.agg #[])) 54 59 true).run Tryd.prog w = .ok (.tuple #[.agg #[.string ⟨#[]⟩], .bool false]) w := by kernel_rfl
theorem ta_pair2 (nm : ByteArray) (w : World) : (Instr.typeAssert (.iface 59 (.agg #[.string nm])) 54 59 true).run Tryd.prog w = .ok (.tuple #[.agg #[.string nm], .bool true]) w := by kernel_rfl
set_option maxHeartbeats 3200000 in
set_option maxRecDepth 100000 in
theorem check30_ (m : Nat) : ∀ (n : Nat) (q : Qt) (v : Value) (w : World), sz q ≤ n → n ≤ m → m ≤ 4194304 → tb q → QAt w w.heap.size q v → Tab w → Calls Tryd.prog 30 #[v] w (IntOut (err pe q) w) := by
  intro n
  induction n with
  | zero => intro q v w h; have := sz_pos q; omega
  | succ n ih =>
    intro q v w hn hm hmm htb hq hT
    obtain ⟨o, r, t, ks⟩ := q
    obtain ⟨A, cap, rfl, _⟩ := hq.inv
    have X0 := Lib.hid (Bx.start hq)
    have IH := Lib.hid ih
    have hsz : sz (.mk o r t ks) = 1 + szs ks := by rw [sz]
    rw [hsz] at hn
    rw [tb] at htb
    have htt := htb.1
    have HTB := Lib.hid htb.2
    have HT0 := Lib.hid (hT.below (below_one w (.cells #[.int .i64 o, .int .i64 r, .string t, .slice A ks.length cap] 25)))
    clear hq ih hsz htb hT
    obtain ⟨W0, hW0⟩ : ∃ W0, w.alloc (.cells #[.int .i64 o, .int .i64 r, .string t, .slice A ks.length cap] 25) = W0 := ⟨_, rfl⟩
    rw [hW0] at X0 HT0
    have HW := Lib.hid hW0
    have c0 := X0.out.c0
    have c1 := X0.out.c1
    have c2 := X0.out.c2
    have c3 := X0.out.c3
    clear hW0
    have hlen : ks.length ≤ szs ks := len_szs ks
    have EO := Lib.hid (of37 o W0 HT0.out)
    by_cases hop : o < 0 ∨ 6 < o
    · have HE := Lib.hid (err_bad (r := r) (t := t) (ks := ks) (o := o) (by omega))
      have HB := Lib.hid (show ofB o = false by simp [ofB]; omega)
      clear hop
      go_enter Tryd.func30, Tryd.ntmps30
      go_wp2_with fail
      rw [HW.out]
      refine EO.out.mono ?_
      rintro e w' ⟨rfl, hw⟩
      rw [hw, HB.out]
      clear hw
      go_wp2_with fail
      go_quiet (fail)
      go_wp2_with fail
      go_ret
      exact ⟨by rw [HE.out]; rfl, below_drewN X0.out.k _⟩
    have HB := Lib.hid (show ofB o = true by simp [ofB]; omega)
    have HOLD := Lib.hid (fun (W : World) (hb : Below W0.heap.size W0 W) => (X0.out.next hb).c3)
    have ta1 := ta_leaf
    have ta2 := ta_neg
    have ta3 := ta_pair
    have ta4 := ta_neg2
    have ta5 := ta_pair2
    by_cases h0 : o = 0
    · subst h0
      clear hop
      by_cases hl : ks.length = 0
      · have hne : ((ks.length : Int) != 0) = false := by simp; exact List.eq_nil_of_length_eq_zero hl
        by_cases hr : 1 ≤ r ∧ r ≤ 5
        · have HE := Lib.hid (show err pe (.mk 0 r t ks) = pe t by rw [err, if_neg (by simp [kidsN]; exact List.eq_nil_of_length_eq_zero hl), if_neg (by simp [roleOk]; omega), if_pos rfl])
          have r1 := hr.1
          have r2 := hr.2
          clear hr hl
          go_enter Tryd.func30, Tryd.ntmps30
          go_wp2_with fail
          rw [HW.out]
          refine EO.out.mono ?_
          rintro e w' ⟨rfl, hw⟩
          rw [hw, HB.out, ofV_leaf (.inl rfl)]
          clear hw
          go_wp2_with fail
          go_region_held3 (fun w' => w'.cell? ⟨w.heap.size, 3, none⟩ = some (.slice A ks.length cap)) (first | assumption | go_keep) (first | (go_at_call 117; refine (leaf117 _).mono ?_; rintro e w1 ⟨rfl, hb1⟩; have hb1' := below_undrew hb1; have hc1 := HOLD.out w1 hb1'))
          have X1 := Lib.hid (X0.out.next hb1')
          have d1 := X1.out.c1
          have d2 := X1.out.c2
          have HC := Lib.hid (check39 t w1 htt (HT0.out.below hb1'))
          go_wp2_with fail
          refine HC.out.mono ?_
          rintro e w2 ⟨rfl, hb2⟩
          go_wp2_with fail
          go_ret
          exact ⟨by rw [HE.out]; rfl, (X1.out.next hb2).k⟩
        · have HE := Lib.hid (show err pe (.mk 0 r t ks) = 2 by rw [err, if_neg (by simp [kidsN]; exact List.eq_nil_of_length_eq_zero hl), if_pos (by simp [roleOk]; omega)])
          clear hl
          by_cases r1 : 1 ≤ r
          · have r2 : ¬ r ≤ 5 := by omega
            clear hr
            go_enter Tryd.func30, Tryd.ntmps30
            go_wp2_with fail
            rw [HW.out]
            refine EO.out.mono ?_
            rintro e w' ⟨rfl, hw⟩
            rw [hw, HB.out, ofV_leaf (.inl rfl)]
            clear hw
            go_wp2_with fail
            go_region_held3 (fun w' => w'.cell? ⟨w.heap.size, 3, none⟩ = some (.slice A ks.length cap)) (first | assumption | go_keep) (first | (go_at_call 117; refine (leaf117 _).mono ?_; rintro e w1 ⟨rfl, hb1⟩; have hb1' := below_undrew hb1; have hc1 := HOLD.out w1 hb1'))
            have X1 := Lib.hid (X0.out.next hb1')
            have d1 := X1.out.c1
            go_upto_if 38 with (fail)
            rw [show decide (r ≤ 5) = false by simp; omega]
            go_wp2_with fail
            go_ret
            exact ⟨by rw [HE.out]; rfl, X1.out.k⟩
          · have r2 : decide (1 ≤ r) = false := by simp; omega
            clear hr
            go_enter Tryd.func30, Tryd.ntmps30
            go_wp2_with fail
            rw [HW.out]
            refine EO.out.mono ?_
            rintro e w' ⟨rfl, hw⟩
            rw [hw, HB.out, ofV_leaf (.inl rfl)]
            clear hw
            go_wp2_with fail
            go_region_held3 (fun w' => w'.cell? ⟨w.heap.size, 3, none⟩ = some (.slice A ks.length cap)) (first | assumption | go_keep) (first | (go_at_call 117; refine (leaf117 _).mono ?_; rintro e w1 ⟨rfl, hb1⟩; have hb1' := below_undrew hb1; have hc1 := HOLD.out w1 hb1'))
            have X1 := Lib.hid (X0.out.next hb1')
            have d1 := X1.out.c1
            go_wp2_with fail
            go_ret
            exact ⟨by rw [HE.out]; rfl, X1.out.k⟩
      · have HE := Lib.hid (err_bad (r := r) (t := t) (ks := ks) (o := 0) (.inr (.inr (by show ks.length ≠ 0; exact hl))))
        have hne : ((ks.length : Int) != 0) = true := by simp; exact fun h => hl (by rw [h]; rfl)
        clear hl
        go_enter Tryd.func30, Tryd.ntmps30
        go_wp2_with fail
        rw [HW.out]
        refine EO.out.mono ?_
        rintro e w' ⟨rfl, hw⟩
        rw [hw, HB.out, ofV_leaf (.inl rfl)]
        clear hw
        go_wp2_with fail
        go_region_held3 (fun w' => w'.cell? ⟨w.heap.size, 3, none⟩ = some (.slice A ks.length cap)) (first | assumption | go_keep) (first | (go_at_call 117; refine (leaf117 _).mono ?_; rintro e w1 ⟨rfl, hb1⟩; have hb1' := below_undrew hb1; have hc1 := HOLD.out w1 hb1'))
        go_wp2_with fail
        go_ret
        exact ⟨by rw [HE.out]; rfl, X0.out.k.trans (hb1'.mono X0.out.k.size)⟩
    · have hO : 1 ≤ o ∧ o ≤ 6 := by omega
      clear hop
      obtain ⟨V, hV⟩ : ∃ V, ofV o = V := ⟨_, rfl⟩
      rw [hV] at EO
      have HVV := Lib.hid hV
      clear hV
      go_enter Tryd.func30, Tryd.ntmps30
      go_upto_region 1 with (fail)
      rw [HW.out]
      go_upto_region 2 with (go_at_call 37; refine EO.out.mono ?_; rintro e w' ⟨rfl, hw⟩; rw [hw, HB.out]; clear hw)
      go_cut [24] (fun v wx => v = .bool (decide (ks.length ≠ kidsN o)) ∧ Below W0.heap.size W0 wx)
      case first =>
        by_cases h3 : o = 3
        · subst h3
          obtain rfl : V = .iface 61 (.agg #[]) := HVV.out.symm
          cases hne : ((ks.length : Int) != 1)
          · have HD := Lib.hid (show decide (ks.length ≠ kidsN 3) = false by simp at hne; simp [kidsN]; omega)
            go_region_held3 (fun w' => w'.cell? ⟨w.heap.size, 3, none⟩ = some (.slice A ks.length cap)) (first | assumption | go_keep) (first | (go_at_call 116; refine (negation116 _).mono ?_; rintro e w1 ⟨rfl, hb1⟩; have hb1' := below_undrew hb1; have hc1 := HOLD.out w1 hb1'))
            go_wp2_with fail
            go_meet
            exact ⟨by rw [HD.out], hb1'⟩
          · have HD := Lib.hid (show decide (ks.length ≠ kidsN 3) = true by simp at hne; simp [kidsN]; omega)
            go_region_held3 (fun w' => w'.cell? ⟨w.heap.size, 3, none⟩ = some (.slice A ks.length cap)) (first | assumption | go_keep) (first | (go_at_call 116; refine (negation116 _).mono ?_; rintro e w1 ⟨rfl, hb1⟩; have hb1' := below_undrew hb1; have hc1 := HOLD.out w1 hb1'))
            go_wp2_with fail
            go_meet
            exact ⟨by rw [HD.out], hb1'⟩
        · obtain ⟨nm, rfl⟩ : ∃ nm, V = .iface 59 (.agg #[.string nm]) := ⟨_, HVV.out.symm.trans (ofV_pair (by omega) (by omega) h3)⟩
          have hkn : kidsN o = 2 := by unfold kidsN; rw [if_neg h0, if_neg h3]
          cases hne : ((ks.length : Int) != 2)
          · have HD := Lib.hid (show decide (ks.length ≠ kidsN o) = false by rw [hkn]; simp at hne; simp; omega)
            clear hkn h0 h3
            go_region_held3 (fun w' => w'.cell? ⟨w.heap.size, 3, none⟩ = some (.slice A ks.length cap)) (first | assumption | go_keep) (first | (go_at_call 115; refine (pair115 _ _).mono ?_; rintro e w1 ⟨rfl, hb1⟩; have hb1' := below_undrew hb1; have hc1 := HOLD.out w1 hb1'))
            go_wp2_with fail
            go_meet
            exact ⟨by rw [HD.out], hb1'⟩
          · have HD := Lib.hid (show decide (ks.length ≠ kidsN o) = true by rw [hkn]; simp at hne; simp; omega)
            clear hkn h0 h3
            go_region_held3 (fun w' => w'.cell? ⟨w.heap.size, 3, none⟩ = some (.slice A ks.length cap)) (first | assumption | go_keep) (first | (go_at_call 115; refine (pair115 _ _).mono ?_; rintro e w1 ⟨rfl, hb1⟩; have hb1' := below_undrew hb1; have hc1 := HOLD.out w1 hb1'))
            go_wp2_with fail
            go_meet
            exact ⟨by rw [HD.out], hb1'⟩
      case rest =>
        obtain ⟨rfl, hbc⟩ := hcut
        have X1 := Lib.hid (X0.out.next hbc)
        have HBC := Lib.hid hbc
        have H0 := Lib.hid h0
        clear hbc h0
        cases hd : decide (ks.length ≠ kidsN o)
        · have hlk : ks.length = kidsN o := by simpa using hd
          have HNE := Lib.hid (show ¬ (o < 0 ∨ 6 < o ∨ ks.length ≠ kidsN o) from fun h => by rcases h with h | h | h; omega; omega; exact h hlk)
          clear hlk hd
          go_upto_region 4 with (fail)
          go_cut [5] (fun v wx => v = .bool (decide (1 ≤ r ∧ r ≤ 5)) ∧ wx = wc)
          case first =>
            have d1 := X1.out.c1
            by_cases r1 : 1 ≤ r
            · have HD := Lib.hid (show decide (1 ≤ r ∧ r ≤ 5) = decide (r ≤ 5) by simp [r1])
              go_wp2_with fail
              go_meet
              exact ⟨by rw [HD.out], rfl⟩
            · have HD := Lib.hid (show decide (1 ≤ r ∧ r ≤ 5) = false by simp; omega)
              go_wp2_with fail
              go_meet
              exact ⟨by rw [HD.out], rfl⟩
          case rest =>
            obtain ⟨rfl, rfl⟩ := hcut
            obtain ⟨rb, hrb⟩ : ∃ rb, decide (1 ≤ r ∧ r ≤ 5) = rb := ⟨_, rfl⟩
            rw [hrb]
            have HRB := Lib.hid hrb
            clear hrb
            go_upto_block 0 with (fail)
            go_cut [5] (fun v wx => v = .bool (roleOk o r) ∧ wx = wc)
            case first =>
              by_cases h3 : o = 3
              · subst h3
                obtain rfl : V = .iface 61 (.agg #[]) := HVV.out.symm
                have HD := Lib.hid (show roleOk 3 r = rb by rw [← HRB.out]; rfl)
                go_wp2_with fail
                go_meet
                exact ⟨by rw [HD.out], rfl⟩
              · obtain ⟨nm, rfl⟩ : ∃ nm, V = .iface 59 (.agg #[.string nm]) := ⟨_, HVV.out.symm.trans (ofV_pair (by omega) (by omega) h3)⟩
                have HD := Lib.hid (show roleOk o r = (r == 0) by
                  have h0 := H0.out
                  unfold roleOk
                  rw [if_neg (by omega)]
                  rfl)
                have d1 := X1.out.c1
                clear h3
                go_wp2_with fail
                go_meet
                exact ⟨by rw [HD.out], rfl⟩
            case rest =>
              obtain ⟨rfl, rfl⟩ := hcut
              cases hro : roleOk o r
              · have HE := Lib.hid (show err pe (.mk o r t ks) = 2 by rw [err, if_neg HNE.out, if_pos hro])
                clear hro
                go_wp2_with fail
                go_ret
                exact ⟨by rw [HE.out]; rfl, X1.out.k⟩
              · have e2 := X1.out.c2
                have e3 := X1.out.c3
                have HRO := Lib.hid hro
                clear hro
                by_cases ht : t.size = 0
                · have HE := Lib.hid (show err pe (.mk o r t ks) = errs pe ks by rw [err, if_neg HNE.out, if_neg (by rw [HRO.out]; simp), if_neg H0.out, if_neg (by omega)])
                  have he := empty_of ht
                  have he2 : (!t.toList.isEmpty) = false := by rw [he]; rfl
                  clear ht
                  go_wp2_with fail
                  go_loopw [56] (fun i wr => ∃ k : Nat, k ≤ ks.length ∧ i = .int .i64 k ∧ (∀ j x, j < k → ks[j]? = some x → err pe x = 0) ∧ Below W0.heap.size W0 wr) (fun i _ => ks.length - (intOf i).toNat)
                  case atStart => exact ⟨0, Nat.zero_le _, rfl, fun j x h => by omega, HBC.out⟩
                  case round =>
                    obtain ⟨k, hk, rfl, hall, hb⟩ := hrel
                    have HALL := Lib.hid hall
                    clear hall
                    have Xr := Lib.hid (X0.out.next hb)
                    by_cases hlt : k < ks.length
                    · obtain ⟨kid, hkid⟩ := get_lt hlt
                      have HKD := Lib.hid hkid
                      have hkm : sz kid ≤ n := by have := szs_mem (List.mem_of_getElem? hkid); omega
                      have HTK := Lib.hid (tbs_mem HTB.out (List.mem_of_getElem? hkid))
                      obtain ⟨o', r', t', ks'⟩ := kid
                      obtain ⟨ad, A', cap', rfl, x0, x1, x2, x3, hq'⟩ := Xr.out.kid hkid
                      obtain ⟨kid, hkd⟩ : ∃ kid, Qt.mk o' r' t' ks' = kid := ⟨_, rfl⟩
                      rw [hkd] at hq' hkm HKD HTK
                      have HQ := Lib.hid (hq'.step (below_one wr (.cells #[.int .i64 o', .int .i64 r', .string t', .slice A' ks'.length cap'] 25)))
                      have HB1 := Lib.hid (below_one wr (.cells #[.int .i64 o', .int .i64 r', .string t', .slice A' ks'.length cap'] 25))
                      have HTk := Lib.hid ((HT0.out.below hb).below HB1.out)
                      clear hkid hq' hkd
                      go_wp2_with fail
                      refine (IH.out kid _ _ hkm (by omega) hmm HTK.out HQ.out HTk.out).mono ?_
                      rintro e w1 ⟨rfl, hb1⟩
                      have HB2 := Lib.hid (hb.trans ((HB1.out.trans (hb1.mono HB1.out.size)).mono hb.size))
                      clear hb1
                      cases hz : (err pe kid == 0)
                      · have HR := Lib.hid (show err pe (.mk o r t ks) = err pe kid by rw [HE.out]; exact errs_first HKD.out HALL.out (by simpa using hz))
                        have hz2 : (err pe kid != 0) = true := by rw [bne, hz]; rfl
                        go_wp2_with fail
                        go_ret
                        exact ⟨by rw [HR.out]; rfl, (X0.out.next HB2.out).k⟩
                      · have hz1 : err pe kid = 0 := by simpa using hz
                        have HS := Lib.hid (show ∀ j x, j < k + 1 → ks[j]? = some x → err pe x = 0 from fun j x hj hx => by
                          by_cases e : j = k
                          · subst e
                            rw [HKD.out] at hx
                            cases hx
                            exact hz1
                          · exact HALL.out j x (by omega) hx)
                        rw [hz1]
                        clear hz hz1
                        go_wp2_with fail
                        go_roundw
                        case rel => exact ⟨k + 1, by omega, by go_num, HS.out, HB2.out⟩
                        case measure => simp [intOf]; omega
                    · obtain rfl : ks.length = k := by omega
                      have HR := Lib.hid (show err pe (.mk o r t ks) = 0 by
                        rw [HE.out]
                        exact errs_take_zero fun x hx => by
                          obtain ⟨j, hj, rfl⟩ := List.mem_iff_getElem.1 hx
                          exact HALL.out j _ hj (List.getElem?_eq_getElem hj))
                      go_wp2_with fail
                      go_ret
                      exact ⟨by rw [HR.out]; rfl, Xr.out.k⟩
                · have HE := Lib.hid (show err pe (.mk o r t ks) = 1 by rw [err, if_neg HNE.out, if_neg (by rw [HRO.out]; simp), if_neg H0.out, if_pos ht])
                  have he := some_of ht
                  have he2 : (!t.toList.isEmpty) = true := by rw [he]; rfl
                  clear ht
                  go_wp2_with fail
                  go_ret
                  exact ⟨by rw [HE.out]; rfl, X1.out.k⟩
        · have HE := Lib.hid (err_bad (r := r) (t := t) (ks := ks) (o := o) (.inr (.inr (by simpa using hd))))
          clear hd
          go_wp2_with fail
          go_ret
          exact ⟨by rw [HE.out]; rfl, X1.out.k⟩
theorem check30 (q : Qt) (v : Value) (w : World) (hn : sz q ≤ 4194304) (ht : tb q) (h : QAt w w.heap.size q v) (hT : Tab w) : Calls Tryd.prog 30 #[v] w (IntOut (err pe q) w) := check30_ (sz q) (sz q) q v w (Nat.le_refl _) (Nat.le_refl _) hn ht h hT
end Go.Proofs.YtgbjldkbbbjnkaaDoor
