/-
  What node and Check of the reference, and Check of the program, return.
-/
import Derived.Test.YtgbjldkbbbjnkaaDoorChk
import Derived.Test.YtgbjldkbbbjnkaaDoorTree2
namespace Go.Proofs.YtgbjldkbbbjnkaaDoor
open Go.RowKit Go.PlainAid Pl

theorem kdI_N (o : Int) : kdI o = (kidsN o : Int) := by
  unfold kdI kidsN
  split
  · rfl
  · split <;> rfl
set_option maxHeartbeats 3200000 in
set_option maxRecDepth 100000 in
theorem node31_ (m : Nat) : ∀ (n : Nat) (q : Qt) (v : Value) (w : World), sz q ≤ n → n ≤ m → m ≤ 4194304 → tb q → QAt w w.heap.size q v → Calls Tryd.prog 31 #[v] w (IntOut (err pe q) w) := by
  intro n
  induction n with
  | zero => intro q v w h; have := sz_pos q; omega
  | succ n ih =>
    intro q v w hn hm hmm htb hq
    obtain ⟨o, r, t, ks⟩ := q
    obtain ⟨A, cap, rfl, _⟩ := hq.inv
    have X0 := Lib.hid (Bx.start hq)
    have IH := Lib.hid ih
    have hsz : sz (.mk o r t ks) = 1 + szs ks := by rw [sz]
    rw [hsz] at hn
    rw [tb] at htb
    have htt := htb.1
    have HTB := Lib.hid htb.2
    clear hq ih hsz htb
    obtain ⟨W0, hW0⟩ : ∃ W0, w.alloc (.cells #[.int .i64 o, .int .i64 r, .string t, .slice A ks.length cap] 25) = W0 := ⟨_, rfl⟩
    rw [hW0] at X0
    have HW := Lib.hid hW0
    have c0 := X0.out.c0
    have c1 := X0.out.c1
    have c2 := X0.out.c2
    have c3 := X0.out.c3
    clear hW0
    have hlen : ks.length ≤ szs ks := len_szs ks
    go_enter Tryd.func31, Tryd.ntmps31
    go_upto_region 1 with (fail)
    rw [HW.out]
    go_cut [21] (fun v wx => v = .bool (decide (o < 0 ∨ 6 < o ∨ ks.length ≠ kidsN o)) ∧ Below W0.heap.size W0 wx)
    case first =>
      by_cases h1 : o < 0
      · have HD := Lib.hid (show decide (o < 0 ∨ 6 < o ∨ ks.length ≠ kidsN o) = true by simp [h1])
        go_quiet (fail)
        go_wp2_with fail
        go_meet
        exact ⟨by rw [HD.out], below_drewN (Below.refl _ _) _⟩
      · by_cases h2 : 6 < o
        · have HD := Lib.hid (show decide (o < 0 ∨ 6 < o ∨ ks.length ≠ kidsN o) = true by simp [h2])
          go_quiet (fail)
          go_wp2_with fail
          go_meet
          exact ⟨by rw [HD.out], below_drewN (Below.refl _ _) _⟩
        · have HD := Lib.hid (show decide (o < 0 ∨ 6 < o ∨ ks.length ≠ kidsN o) = ((ks.length : Int) != kdI o) by
            rw [kdI_N, Bool.eq_iff_iff]
            simp
            omega)
          go_quiet ((go_at_call 40; exact Calls.quiet_of_same ((kids40 o _).mono fun e w' h => ⟨h.1, h.2.symm⟩)))
          go_wp2_with fail
          go_meet
          exact ⟨by rw [HD.out], below_drewN (Below.refl _ _) _⟩
    case rest =>
      obtain ⟨rfl, hbc⟩ := hcut
      have X1 := Lib.hid (X0.out.next hbc)
      have HBC := Lib.hid hbc
      clear hbc c0 c1 c2 c3
      cases hd : decide (o < 0 ∨ 6 < o ∨ ks.length ≠ kidsN o)
      · have HNE := Lib.hid (show ¬ (o < 0 ∨ 6 < o ∨ ks.length ≠ kidsN o) by simpa using hd)
        have hO : 0 ≤ o ∧ o ≤ 6 := by have := HNE.out; omega
        have d0 := X1.out.c0
        have d1 := X1.out.c1
        have d2 := X1.out.c2
        have d3 := X1.out.c3
        clear hd
        go_upto_region 3 with (fail)
        go_cut [29] (fun v wx => v = .bool (decide (o = 0 ∨ o = 3)) ∧ wx = wc)
        case first =>
          by_cases h0 : o = 0
          · have HD := Lib.hid (show decide (o = 0 ∨ o = 3) = true by simp [h0])
            have t0 : (o == 0) = true := by simpa using h0
            clear h0
            go_wp2_with fail
            go_meet
            exact ⟨by rw [HD.out], rfl⟩
          · have HD := Lib.hid (show decide (o = 0 ∨ o = 3) = (o == 3) by rw [Bool.eq_iff_iff]; simp [h0])
            have t0 : (o == 0) = false := by simpa using h0
            clear h0
            go_wp2_with fail
            go_meet
            exact ⟨by rw [HD.out], rfl⟩
        case rest =>
          obtain ⟨rfl, rfl⟩ := hcut
          obtain ⟨bk, hbk⟩ : ∃ bk, decide (o = 0 ∨ o = 3) = bk := ⟨_, rfl⟩
          rw [hbk]
          have HBK := Lib.hid hbk
          clear hbk
          go_upto_if 29 with (fail)
          go_cut [] (fun wx => wx = wc ∧ roleOk o r = true)
          case first =>
            cases bk
            · have HRK := Lib.hid (show roleOk o r = decide (r = 0) by have h := HBK.out; simp at h; unfold roleOk; rw [if_neg (by omega)])
              cases hr0 : (r != 0)
              · have HRO := Lib.hid (show roleOk o r = true by rw [HRK.out]; simp at hr0; simp [hr0])
                go_wp2_with fail
                go_meet
                exact ⟨rfl, HRO.out⟩
              · have HE := Lib.hid (show err pe (.mk o r t ks) = 2 by rw [err, if_neg HNE.out, if_pos (by rw [HRK.out]; simp at hr0; simp [hr0])])
                go_wp2_with fail
                go_ret
                exact ⟨by rw [HE.out]; rfl, X1.out.k⟩
            · have HRK := Lib.hid (show roleOk o r = decide (1 ≤ r ∧ r ≤ 5) by have h := HBK.out; simp at h; unfold roleOk; rw [if_pos h])
              by_cases r1 : r < 1
              · have HE := Lib.hid (show err pe (.mk o r t ks) = 2 by rw [err, if_neg HNE.out, if_pos (by rw [HRK.out]; simp; omega)])
                go_wp2_with fail
                go_ret
                exact ⟨by rw [HE.out]; rfl, X1.out.k⟩
              · by_cases r2 : 5 < r
                · have HE := Lib.hid (show err pe (.mk o r t ks) = 2 by rw [err, if_neg HNE.out, if_pos (by rw [HRK.out]; simp; omega)])
                  go_wp2_with fail
                  go_ret
                  exact ⟨by rw [HE.out]; rfl, X1.out.k⟩
                · have HRO := Lib.hid (show roleOk o r = true by rw [HRK.out]; simp; omega)
                  go_wp2_with fail
                  go_meet
                  exact ⟨rfl, HRO.out⟩
          case rest =>
            obtain ⟨rfl, hro⟩ := hcut
            have HRO := Lib.hid hro
            clear hro
            by_cases h0 : o = 0
            · subst h0
              have HE := Lib.hid (show err pe (.mk 0 r t ks) = pe t by rw [err, if_neg HNE.out, if_neg (by rw [HRO.out]; simp), if_pos rfl])
              have HC := Lib.hid (check41 t wc htt)
              go_wp2_with fail
              refine HC.out.mono ?_
              rintro e w2 ⟨rfl, hb2⟩
              go_wp2_with fail
              go_ret
              exact ⟨by rw [HE.out]; rfl, (X1.out.next hb2).k⟩
            · have H0 := Lib.hid h0
              have t0 : (o == 0) = false := by simpa using h0
              clear h0
              by_cases ht : t.size = 0
              · have HE := Lib.hid (show err pe (.mk o r t ks) = errs pe ks by rw [err, if_neg HNE.out, if_neg (by rw [HRO.out]; simp), if_neg H0.out, if_neg (by omega)])
                have he := empty_of ht
                have he2 : (!t.toList.isEmpty) = false := by rw [he]; rfl
                clear ht
                go_wp2_with fail
                go_loopw [53] (fun i wr => ∃ k : Nat, k ≤ ks.length ∧ i = .int .i64 k ∧ (∀ j x, j < k → ks[j]? = some x → err pe x = 0) ∧ Below W0.heap.size W0 wr) (fun i _ => ks.length - (intOf i).toNat)
                case atStart => exact ⟨0, Nat.zero_le _, rfl, fun j x h => by omega, HBC.out⟩
                case round =>
                  obtain ⟨k, hk, rfl, hall, hb⟩ := hrel
                  have HALL := Lib.hid hall
                  clear hall
                  have Xr := Lib.hid (X0.out.next hb)
                  have f3 := Xr.out.c3
                  by_cases hlt : k < ks.length
                  · obtain ⟨kid, hkid⟩ := get_lt hlt
                    have HKD := Lib.hid hkid
                    have hkm : sz kid ≤ n := by have := szs_mem (List.mem_of_getElem? hkid); omega
                    have HTK := Lib.hid (tbs_mem HTB.out (List.mem_of_getElem? hkid))
                    obtain ⟨o', r', t', ks'⟩ := kid
                    obtain ⟨ad, A', cap', rfl, x0, x1, x2, x3, hq'⟩ := Xr.out.kid hkid
                    obtain ⟨kid, hkd⟩ : ∃ kid, Qt.mk o' r' t' ks' = kid := ⟨_, rfl⟩
                    rw [hkd] at hq' hkm HKD HTK
                    have HQ := Lib.hid hq'
                    clear hkid hq' hkd
                    go_wp2_with fail
                    refine (IH.out kid _ _ hkm (by omega) hmm HTK.out HQ.out).mono ?_
                    rintro e w1 ⟨rfl, hb1⟩
                    have HB2 := Lib.hid (hb.trans (hb1.mono hb.size))
                    clear hb1
                    cases hz : (err pe kid == 0)
                    · have HR := Lib.hid (show err pe (.mk o r t ks) = err pe kid by rw [HE.out]; exact errs_first HKD.out HALL.out (by simpa using hz))
                      have hz2 : (err pe kid != 0) = true := by rw [bne, hz]; rfl
                      go_wp2_with fail
                      go_ret
                      exact ⟨by rw [HR.out]; rfl, (X0.out.next HB2.out).k⟩
                    · have hz1 : err pe kid = 0 := by simpa using hz
                      have HS := Lib.hid (show ∀ j x, j < k + 1 → ks[j]? = some x → err pe x = 0 from fun j x hj hx => by
                        by_cases e : j = k
                        · subst e
                          rw [HKD.out] at hx
                          cases hx
                          exact hz1
                        · exact HALL.out j x (by omega) hx)
                      rw [hz1]
                      clear hz hz1
                      go_wp2_with fail
                      go_roundw
                      case rel => exact ⟨k + 1, by omega, by go_num, HS.out, HB2.out⟩
                      case measure => simp [intOf]; omega
                  · obtain rfl : ks.length = k := by omega
                    have HR := Lib.hid (show err pe (.mk o r t ks) = 0 by
                      rw [HE.out]
                      exact errs_take_zero fun x hx => by
                        obtain ⟨j, hj, rfl⟩ := List.mem_iff_getElem.1 hx
                        exact HALL.out j _ hj (List.getElem?_eq_getElem hj))
                    go_wp2_with fail
                    go_ret
                    exact ⟨by rw [HR.out]; rfl, Xr.out.k⟩
              · have HE := Lib.hid (show err pe (.mk o r t ks) = 1 by rw [err, if_neg HNE.out, if_neg (by rw [HRO.out]; simp), if_neg H0.out, if_pos ht])
                have he := some_of ht
                have he2 : (!t.toList.isEmpty) = true := by rw [he]; rfl
                clear ht
                go_wp2_with fail
                go_ret
                exact ⟨by rw [HE.out]; rfl, X1.out.k⟩
      · have HE := Lib.hid (err_bad (r := r) (t := t) (ks := ks) (o := o) (by simpa using hd))
        clear hd
        go_wp2_with fail
        go_ret
        exact ⟨by rw [HE.out]; rfl, X1.out.k⟩
theorem node31 (q : Qt) (v : Value) (w : World) (hn : sz q ≤ 4194304) (ht : tb q) (h : QAt w w.heap.size q v) : Calls Tryd.prog 31 #[v] w (IntOut (err pe q) w) := node31_ (sz q) (sz q) q v w (Nat.le_refl _) (Nat.le_refl _) hn ht h
set_option maxHeartbeats 1600000 in
theorem check18 (q : Qt) (v : Value) (w : World) (hn : sz q ≤ 4194304) (ht : tb q) (hq : QAt w w.heap.size q v) (hT : Tab w) : Calls Tryd.prog 18 #[v] w (IntOut (chk pe q) w) := by
  have HQ1 := Lib.hid hq
  obtain ⟨q, hqq⟩ : ∃ q', q = q' := ⟨_, rfl⟩
  subst hqq
  obtain ⟨a, b, c, d, rfl⟩ := hq.flat
  clear hq
  obtain ⟨W0, hW0⟩ : ∃ W0, w.alloc (.cells #[a, b, c, d] 25) = W0 := ⟨_, rfl⟩
  have hb0 := below_one w (.cells #[a, b, c, d] 25)
  have hbx := quad_new w a b c d 25
  rw [hW0] at hb0 hbx
  have HQ := Lib.hid (HQ1.out.step hb0)
  have HT0 := Lib.hid (hT.below hb0)
  have HBX := Lib.hid hbx
  have HB0 := Lib.hid hb0
  have HW := Lib.hid hW0
  clear hW0 hbx hb0
  have hds := dp_sz q
  obtain ⟨x0, x1, x2, x3⟩ := quad_cells HBX.out
  have E1 := Lib.hid (nodes15 q _ W0 hn HQ.out)
  obtain ⟨N, hN⟩ : ∃ N, sz q = N := ⟨_, rfl⟩
  obtain ⟨D, hD⟩ : ∃ D, dp q = D := ⟨_, rfl⟩
  have HC := Lib.hid (show chk pe q = if 60 < N ∨ 12 < D then 11 else err pe q by rw [chk, hN, hD])
  rw [hN] at E1 hn
  have HND := Lib.hid (And.intro hN hD)
  clear hN hds
  go_enter Tryd.func18, Tryd.ntmps18
  go_wp2_with fail
  rw [HW.out]
  clear HW
  refine E1.out.mono ?_
  rintro e w1 ⟨rfl, hb1⟩
  by_cases h60 : 60 < N
  · have HR := Lib.hid (show chk pe q = 11 by rw [HC.out, if_pos (.inl h60)])
    go_wp2_with fail
    go_ret
    exact ⟨by rw [HR.out]; rfl, HB0.out.trans (hb1.mono HB0.out.size)⟩
  · have HQ2 := Lib.hid (HQ.out.step hb1)
    have HBX1 := Lib.hid (heap_below HBX.out hb1)
    have HB1 := Lib.hid (HB0.out.trans (hb1.mono HB0.out.size))
    have HT1 := Lib.hid (HT0.out.below hb1)
    have E2 := Lib.hid (depth16 q _ w1 (by rw [HND.out.1]; exact hn) HQ2.out)
    rw [hD] at E2
    clear hb1 hD
    obtain ⟨y0, y1, y2, y3⟩ := quad_cells HBX1.out
    go_wp2_with fail
    refine E2.out.mono ?_
    rintro e w2 ⟨rfl, hb2⟩
    by_cases h12 : 12 < D
    · have HR := Lib.hid (show chk pe q = 11 by rw [HC.out, if_pos (.inr h12)])
      go_wp2_with fail
      go_ret
      exact ⟨by rw [HR.out]; rfl, HB1.out.trans (hb2.mono HB1.out.size)⟩
    · have HR := Lib.hid (show chk pe q = err pe q by rw [HC.out, if_neg (by omega)])
      have HQ3 := Lib.hid (HQ2.out.step hb2)
      have HBX2 := Lib.hid (heap_below HBX1.out hb2)
      have HB2 := Lib.hid (HB1.out.trans (hb2.mono HB1.out.size))
      have HT2 := Lib.hid (HT1.out.below hb2)
      have E3 := Lib.hid (check30 q _ w2 (by rw [HND.out.1]; exact hn) ht HQ3.out HT2.out)
      clear hb2
      obtain ⟨z0, z1, z2, z3⟩ := quad_cells HBX2.out
      go_wp2_with fail
      refine E3.out.mono ?_
      rintro e w3 ⟨rfl, hb3⟩
      go_wp2_with fail
      go_ret
      exact ⟨by rw [HR.out]; rfl, HB2.out.trans (hb3.mono HB2.out.size)⟩
set_option maxHeartbeats 1600000 in
theorem check19 (q : Qt) (v : Value) (w : World) (hn : sz q ≤ 4194304) (ht : tb q) (hq : QAt w w.heap.size q v) : Calls Tryd.prog 19 #[v] w (IntOut (chk pe q) w) := by
  have HQ1 := Lib.hid hq
  obtain ⟨q, hqq⟩ : ∃ q', q = q' := ⟨_, rfl⟩
  subst hqq
  obtain ⟨a, b, c, d, rfl⟩ := hq.flat
  clear hq
  obtain ⟨W0, hW0⟩ : ∃ W0, w.alloc (.cells #[a, b, c, d] 25) = W0 := ⟨_, rfl⟩
  have hb0 := below_one w (.cells #[a, b, c, d] 25)
  have hbx := quad_new w a b c d 25
  rw [hW0] at hb0 hbx
  have HQ := Lib.hid (HQ1.out.step hb0)
  have HBX := Lib.hid hbx
  have HB0 := Lib.hid hb0
  have HW := Lib.hid hW0
  clear hW0 hbx hb0
  have hds := dp_sz q
  obtain ⟨x0, x1, x2, x3⟩ := quad_cells HBX.out
  have E1 := Lib.hid (nodes20 q _ W0 hn HQ.out)
  obtain ⟨N, hN⟩ : ∃ N, sz q = N := ⟨_, rfl⟩
  obtain ⟨D, hD⟩ : ∃ D, dp q = D := ⟨_, rfl⟩
  have HC := Lib.hid (show chk pe q = if 60 < N ∨ 12 < D then 11 else err pe q by rw [chk, hN, hD])
  rw [hN] at E1 hn
  have HND := Lib.hid (And.intro hN hD)
  clear hN hds
  go_enter Tryd.func19, Tryd.ntmps19
  go_wp2_with fail
  rw [HW.out]
  clear HW
  refine E1.out.mono ?_
  rintro e w1 ⟨rfl, hb1⟩
  by_cases h60 : 60 < N
  · have HR := Lib.hid (show chk pe q = 11 by rw [HC.out, if_pos (.inl h60)])
    go_wp2_with fail
    go_ret
    exact ⟨by rw [HR.out]; rfl, HB0.out.trans (hb1.mono HB0.out.size)⟩
  · have HQ2 := Lib.hid (HQ.out.step hb1)
    have HBX1 := Lib.hid (heap_below HBX.out hb1)
    have HB1 := Lib.hid (HB0.out.trans (hb1.mono HB0.out.size))
    have E2 := Lib.hid (depth21 q _ w1 (by rw [HND.out.1]; exact hn) HQ2.out)
    rw [hD] at E2
    clear hb1 hD
    obtain ⟨y0, y1, y2, y3⟩ := quad_cells HBX1.out
    go_wp2_with fail
    refine E2.out.mono ?_
    rintro e w2 ⟨rfl, hb2⟩
    by_cases h12 : 12 < D
    · have HR := Lib.hid (show chk pe q = 11 by rw [HC.out, if_pos (.inr h12)])
      go_wp2_with fail
      go_ret
      exact ⟨by rw [HR.out]; rfl, HB1.out.trans (hb2.mono HB1.out.size)⟩
    · have HR := Lib.hid (show chk pe q = err pe q by rw [HC.out, if_neg (by omega)])
      have HQ3 := Lib.hid (HQ2.out.step hb2)
      have HBX2 := Lib.hid (heap_below HBX1.out hb2)
      have HB2 := Lib.hid (HB1.out.trans (hb2.mono HB1.out.size))
      have E3 := Lib.hid (node31 q _ w2 (by rw [HND.out.1]; exact hn) ht HQ3.out)
      clear hb2
      obtain ⟨z0, z1, z2, z3⟩ := quad_cells HBX2.out
      go_wp2_with fail
      refine E3.out.mono ?_
      rintro e w3 ⟨rfl, hb3⟩
      go_wp2_with fail
      go_ret
      exact ⟨by rw [HR.out]; rfl, HB2.out.trans (hb3.mono HB2.out.size)⟩
end Go.Proofs.YtgbjldkbbbjnkaaDoor
