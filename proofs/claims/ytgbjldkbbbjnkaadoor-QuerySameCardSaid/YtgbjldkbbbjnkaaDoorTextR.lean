/-
  What text of the reference returns.
-/
import Derived.Test.YtgbjldkbbbjnkaaDoorTextP
namespace Go.Proofs.YtgbjldkbbbjnkaaDoor
open Go.RowKit Go.PlainAid Pl

theorem newS_cell (w : World) {l : List (List UInt8)} {i : Nat} {v : List UInt8} (h : l[i]? = some v) : (newS w l).cell? ⟨w.heap.size, i, none⟩ = some (.string (str v)) := by
  obtain ⟨ad, ha, _, hc⟩ := (newS_strs w l).at_ h
  obtain rfl : (⟨w.heap.size, 0, none⟩ : Addr) = ad := by injection ha
  rw [← hc]
  congr 1
  unfold Addr.add
  split
  · rename_i h0
    rw [h0]
  · simp
/-- Behind a call that makes a list of strings. -/
theorem made {W0 w1 : World} {l : List (List UInt8)} {i : Nat} {v : List UInt8} (h : w1 = newS W0.drew l) (hi : l[i]? = some v) : Below W0.heap.size W0 w1 ∧ w1.cell? ⟨W0.heap.size, i, none⟩ = some (.string (str v)) := by
  subst h
  exact ⟨below_undrew (newS_below W0.drew l), newS_cell W0.drew hi⟩
theorem getD_some {l : List (List UInt8)} {i : Nat} (h : i < l.length) : l[i]? = some (l.getD i []) := by
  rw [List.getD_eq_getElem?_getD, List.getElem?_eq_getElem h]
  rfl
/-- The texts of some kids, with blanks between. -/
def tj : List Qt → List UInt8
  | [] => []
  | [k] => txt k
  | k :: k' :: ks => txt k ++ 32 :: tj (k' :: ks)
theorem tj_snoc : ∀ (ks : List Qt) (k : Qt), tj (ks ++ [k]) = tj ks ++ ((if ks.isEmpty = true then [] else [32]) ++ txt k)
  | [], k => by simp [tj]
  | [x], k => by simp [tj]
  | x :: y :: ks, k => by
    have ih := tj_snoc (y :: ks) k
    rw [List.cons_append, List.cons_append, tj, ← List.cons_append, ih, tj]
    simp
theorem txts_tj : ∀ {ks : List Qt}, ks ≠ [] → txts ks = tj ks ++ [41]
  | [], h => absurd rfl h
  | [k], _ => by rw [txts, txts, tj]; rfl
  | k :: k' :: ks, _ => by
    rw [txts, txts_tj (ks := k' :: ks) (by simp), tj]
    simp
theorem tj_take {ks : List Qt} {i : Nat} {k : Qt} (h : ks[i]? = some k) : tj (ks.take (i + 1)) = tj (ks.take i) ++ ((if i = 0 then [] else [32]) ++ txt k) := by
  rw [take_one h, tj_snoc]
  congr 2
  have hl := lt_get h
  by_cases h0 : i = 0
  · subst h0
    rfl
  · rw [if_neg h0, if_neg]
    intro he
    rw [List.isEmpty_iff] at he
    have := congrArg List.length he
    rw [List.length_take, List.length_nil] at this
    omega
theorem tj_le (ks : List Qt) : ∀ (d k : Nat), k + d = ks.length → (tj (ks.take k)).length ≤ (tj ks).length
  | 0, k, h => by rw [List.take_of_length_le (by omega)]; exact Nat.le_refl _
  | d + 1, k, h => by
    obtain ⟨x, hx⟩ := get_lt (l := ks) (k := k) (by omega)
    have h1 := tj_le ks d (k + 1) (by omega)
    rw [tj_take hx, List.length_append] at h1
    omega
set_option maxHeartbeats 6400000 in
set_option maxRecDepth 100000 in
theorem text32_ (m : Nat) : ∀ (n : Nat) (q : Qt) (v : Value) (w : World), sz q ≤ n → n ≤ m → m ≤ 4194304 → Wf q → tb q → (txt q).length ≤ 100000000 → QAt w w.heap.size q v → Calls Tryd.prog 32 #[v] w (StrOut (txt q) w) := by
  intro n
  induction n with
  | zero => intro q v w h; have := sz_pos q; omega
  | succ n ih =>
    intro q v w hn hm hmm hwf htb htl hq
    obtain ⟨o, r, t, ks⟩ := q
    obtain ⟨A, cap, rfl, _⟩ := hq.inv
    have X0 := Lib.hid (Bx.start hq)
    have IH := Lib.hid ih
    have hsz : sz (.mk o r t ks) = 1 + szs ks := by rw [sz]
    rw [hsz] at hn
    obtain ⟨e1, e2, e3, e4, _, e6⟩ := err_zero hwf
    rw [tb] at htb
    have htt := htb.1
    have HTB := Lib.hid htb.2
    have hlen : ks.length ≤ szs ks := len_szs ks
    clear hq ih hsz htb hwf
    obtain ⟨W0, hW0⟩ : ∃ W0, w.alloc (.cells #[.int .i64 o, .int .i64 r, .string t, .slice A ks.length cap] 25) = W0 := ⟨_, rfl⟩
    rw [hW0] at X0
    have HW := Lib.hid hW0
    have c0 := X0.out.c0
    have c1 := X0.out.c1
    have c2 := X0.out.c2
    have c3 := X0.out.c3
    clear hW0
    by_cases h0 : o = 0
    · subst h0
      have hr : 1 ≤ r ∧ r ≤ 5 := by unfold roleOk at e4; simpa using e4
      obtain ⟨i, hi⟩ : ∃ i : Nat, r = (i : Int) + 1 := ⟨(r - 1).toNat, by omega⟩
      subst hi
      have hi5 : i < 5 := by omega
      obtain ⟨nm, hnm, htop, _, hnl⟩ := role_get hi5
      have hget : (tops.take 5)[i]? = some (nm ++ [58]) := by
        rw [List.getElem?_take, if_pos hi5, getD_some (by show i < 6; omega), htop]
      have HTX := Lib.hid (show txt (.mk 0 ((i : Int) + 1) t ks) = (nm ++ [58]) ++ wordq t.data.toList by rw [txt, if_pos rfl, show ((i : Int) + 1 - 1).toNat = i by omega, htop])
      rw [HTX.out, List.length_append, List.length_append] at htl
      obtain ⟨S2, hS2, k2⟩ := cat_of (A := str (nm ++ [58])) (B := str (wordq t.data.toList)) rfl rfl (by simp at htl ⊢; omega)
      have HS2 := Lib.hid (show S2 = str (txt (.mk 0 ((i : Int) + 1) t ks)) by rw [HTX.out]; exact hS2)
      obtain ⟨N1, hN1⟩ : ∃ N1, str (nm ++ [58]) = N1 := ⟨_, rfl⟩
      rw [hN1] at k2
      have HN1 := Lib.hid hN1
      clear hS2 hN1
      have i0 : (0 : Int) ≤ (i : Int) := by omega
      have i5 : (i : Int) < 5 := by omega
      have hw1 : IntKind.i64.wrap ((i : Int) + 1 - 1) = (i : Int) := by rw [show (i : Int) + 1 - 1 = i by omega]; exact wrap_in (by omega)
      have hw2 : IntKind.i64.wrap (i : Int) = (i : Int) := wrap_in (by omega)
      have EW := Lib.hid (fun (W : World) => word43 t W htt)
      have ER := Lib.hid (roles42_colon W0.drew)
      have HG := Lib.hid (fun (w1 : World) (h : w1 = newS W0.drew (tops.take 5)) => made h hget)
      clear e1 e2 e3 e4 e6 hr hnm htop htl hget
      go_enter Tryd.func32, Tryd.ntmps32
      go_wp2_with fail
      rw [HW.out]
      go_wp2_with fail
      go_region_law
        (first
          | (go_simp
             go_at_call 42
             refine ER.out.mono ?_
             rintro e w1 ⟨rfl, hw1⟩
             obtain ⟨hb1, hg1⟩ := HG.out w1 hw1
             rw [HN1.out] at hg1
             have X1 := X0.out.next hb1
             have d1 := X1.c1
             have d2 := X1.c2
             clear hw1
             go_wp2_with fail)
          | (go_simp
             go_at_call 43
             refine (EW.out w1).mono ?_
             rintro e w2 ⟨rfl, hb2⟩
             have X2 := X1.next hb2
             have f1 := X2.c1
             have hg2 := (hb2.cell (p := ⟨W0.heap.size, i, none⟩) (World.block_lt_of_cell? _ _ hg1)).trans hg1
             go_wp2_with fail))
      all_goals
        go_wp2_with fail
        go_ret
        exact ⟨by rw [← HS2.out]; rfl, X2.k⟩
    obtain ⟨hts, hes⟩ := e6 h0
    obtain ⟨j, hj⟩ : ∃ j : Nat, o = (j : Int) + 1 := ⟨(o - 1).toNat, by omega⟩
    subst hj
    have hj6 : j < 6 := by omega
    have hkne : ks ≠ [] := by
      intro e
      rw [e] at e3
      unfold kidsN at e3
      rw [if_neg h0] at e3
      split at e3 <;> simp at e3
    obtain ⟨on, hon⟩ : ∃ on, opsL.getD j [] = on := ⟨_, rfl⟩
    have hgo : opsL[j]? = some on := by rw [← hon]; exact getD_some hj6
    obtain ⟨P0, hP0⟩ : ∃ P0, [40] ++ (on ++ (if (j : Int) + 1 = 3 then rolesL.getD (r - 1).toNat [] else [])) = P0 := ⟨_, rfl⟩
    have HTX := Lib.hid (show txt (.mk ((j : Int) + 1) r t ks) = P0 ++ (tj ks ++ [41]) by
      rw [txt, if_neg h0, show ((j : Int) + 1 - 1).toNat = j by omega, hon, txts_tj hkne, ← hP0]
      simp)
    have htl2 := htl
    rw [HTX.out, List.length_append, List.length_append] at htl2
    have hp0l : P0.length ≤ 100000000 := by omega
    have hjl : (tj ks).length ≤ 100000000 := by omega
    have hsum : P0.length + (tj ks).length ≤ 100000000 := by omega
    have honl : on.length ≤ 7 := by rw [← hon]; exact getD_len (l := opsL) (m := 7) (by decide) j
    obtain ⟨S1, hS1, k1⟩ := cat_of (A := { data := #[40] }) (B := str on) (a := [40]) (b := on) rfl rfl (by simp; omega)
    have i0 : (0 : Int) ≤ (j : Int) := by omega
    have i6 : (j : Int) < 6 := by omega
    have hw1 : IntKind.i64.wrap ((j : Int) + 1 - 1) = (j : Int) := by rw [show (j : Int) + 1 - 1 = j by omega]; exact wrap_in (by omega)
    have hw2 : IntKind.i64.wrap (j : Int) = (j : Int) := wrap_in (by omega)
    have ER := Lib.hid (ops44 W0.drew)
    have HG := Lib.hid (fun (w1 : World) (h : w1 = newS W0.drew opsL) => made h hgo)
    have HS1 := Lib.hid hS1
    have HE4 := Lib.hid e4
    have HP0 := Lib.hid hP0
    have HES := Lib.hid (errs_all hes)
    have t0 : (((j : Int) + 1) == 0) = false := by simp; omega
    clear e1 e2 e3 e4 e6 h0 hts hes hon hgo hS1 hP0 htl htl2 hkne
    go_enter Tryd.func32, Tryd.ntmps32
    go_upto_region 1 with (fail)
    rw [HW.out]
    go_upto_region 3 with (fail)
    go_cut [3] (fun v wx => v = .string S1 ∧ Below W0.heap.size W0 wx)
    case first =>
      go_region_law
        (go_simp
         go_at_call 44
         refine ER.out.mono ?_
         rintro e w1 ⟨rfl, hw1⟩
         obtain ⟨hb1, hg1⟩ := HG.out w1 hw1
         have X1 := X0.out.next hb1
         have d0 := X1.c0
         clear hw1
         go_wp2_with fail)
      all_goals
        go_wp2_with fail
        go_meet
        exact ⟨rfl, hb1⟩
    case rest =>
      obtain ⟨rfl, hb1⟩ := hcut
      have X1 := Lib.hid (X0.out.next hb1)
      have HB1 := Lib.hid hb1
      have d0 := X1.out.c0
      have d1 := X1.out.c1
      have d3 := X1.out.c3
      clear hb1
      go_upto_if 27 with (fail)
      go_cut [3] (fun v wx => v = .string (str P0) ∧ Below W0.heap.size W0 wx)
      case first =>
        by_cases h3 : j = 2
        · subst h3
          have hr : 1 ≤ r ∧ r ≤ 5 := by have h := HE4.out; unfold roleOk at h; simpa using h
          obtain ⟨i, hi⟩ : ∃ i : Nat, r = (i : Int) + 1 := ⟨(r - 1).toNat, by omega⟩
          subst hi
          have hi5 : i < 5 := by omega
          obtain ⟨rn, hrn⟩ : ∃ rn, rolesL.getD i [] = rn := ⟨_, rfl⟩
          have hgr : rolesL[i]? = some rn := by rw [← hrn]; exact getD_some (by show i < 5; exact hi5)
          have hrl : rn.length ≤ 6 := by rw [← hrn]; exact getD_len (l := rolesL) (m := 6) (by decide) i
          obtain ⟨S2, hS2, k2⟩ := cat_of (A := S1) (B := str rn) (b := rn) HS1.out rfl (by simp; omega)
          have HS2 := Lib.hid (show S2 = str P0 by
            rw [hS2, ← HP0.out, if_pos (by decide), show ((i : Int) + 1 - 1).toNat = i by omega, hrn]
            simp)
          have j0 : (0 : Int) ≤ (i : Int) := by omega
          have j5 : (i : Int) < 5 := by omega
          have hw3 : IntKind.i64.wrap ((i : Int) + 1 - 1) = (i : Int) := by rw [show (i : Int) + 1 - 1 = i by omega]; exact wrap_in (by omega)
          have hw4 : IntKind.i64.wrap (i : Int) = (i : Int) := wrap_in (by omega)
          have ER2 := Lib.hid (roles42_blank wc.drew)
          have HG2 := Lib.hid (fun (w1 : World) (h : w1 = newS wc.drew rolesL) => made h hgr)
          clear hS2 hrn hgr hr
          go_wp2_with fail
          go_region_law
            (go_simp
             go_at_call 42
             refine ER2.out.mono ?_
             rintro e w2 ⟨rfl, hw2'⟩
             obtain ⟨hb2, hg2⟩ := HG2.out w2 hw2'
             have X2 := X1.out.next hb2
             have f1 := X2.c1
             clear hw2'
             go_wp2_with fail)
          all_goals
            go_wp2_with fail
            go_meet
            exact ⟨by rw [← HS2.out], HB1.out.trans (hb2.mono HB1.out.size)⟩
        · have HS2 := Lib.hid (show S1 = str P0 by
            rw [HS1.out, ← HP0.out, if_neg (by omega), List.append_nil])
          have t3 : (((j : Int) + 1) == 3) = false := by simp; omega
          clear h3
          go_wp2_with fail
          go_meet
          exact ⟨by rw [← HS2.out], HB1.out⟩
      case rest =>
        obtain ⟨rfl, hbc⟩ := hcut
        have X2 := Lib.hid (X0.out.next hbc)
        have HBC := Lib.hid hbc
        have f3 := X2.out.c3
        clear hbc d0 d1 d3
        go_wp2_with fail
        go_loopw [3, 39] (fun s i wr => ∃ k : Nat, k ≤ ks.length ∧ i = .int .i64 k ∧ s = .string (str (P0 ++ tj (ks.take k))) ∧ Below W0.heap.size W0 wr) (fun _ i _ => ks.length - (intOf i).toNat)
        case atStart => exact ⟨0, Nat.zero_le _, rfl, by simp [tj], HBC.out⟩
        case round =>
          obtain ⟨k, hk, rfl, rfl, hb⟩ := hrel
          have Xr := Lib.hid (X0.out.next hb)
          have g3 := Xr.out.c3
          obtain ⟨T, hT⟩ : ∃ T, tj (ks.take k) = T := ⟨_, rfl⟩
          have hTl := tj_le ks (ks.length - k) k (by omega)
          rw [hT] at hTl ⊢
          have HT := Lib.hid hT
          clear hT
          by_cases hlt : k < ks.length
          · obtain ⟨kid, hkid⟩ := get_lt hlt
            have HTJ := Lib.hid (tj_take hkid)
            have hTl2 := tj_le ks (ks.length - (k + 1)) (k + 1) (by omega)
            rw [HTJ.out, HT.out, List.length_append, List.length_append] at hTl2
            have hkm : sz kid ≤ n := by have := szs_mem (List.mem_of_getElem? hkid); omega
            have HTK := Lib.hid (tbs_mem HTB.out (List.mem_of_getElem? hkid))
            have hkwf : Wf kid := HES.out kid (List.mem_of_getElem? hkid)
            have hlk : (txt kid).length ≤ 100000000 := by omega
            obtain ⟨o', r', t', ks'⟩ := kid
            obtain ⟨ad, A', cap', rfl, x0, x1, x2, x3, hq'⟩ := Xr.out.kid hkid
            obtain ⟨kid, hkd⟩ : ∃ kid, Qt.mk o' r' t' ks' = kid := ⟨_, rfl⟩
            rw [hkd] at hq' hkm HTK hkwf hlk HTJ hTl2
            have EK := Lib.hid (IH.out kid _ wr hkm (by omega) hmm hkwf HTK.out hlk hq')
            have HKW := Lib.hid hkwf
            clear hkid hq' hkd hkwf
            cases hk0 : decide (0 < k)
            · have hk0' : k = 0 := by simpa using hk0
              obtain ⟨S2, hS2, k2⟩ := cat_of (A := str (P0 ++ T)) (B := str (txt kid)) rfl rfl (by simp; omega)
              have HS2 := Lib.hid (show S2 = str (P0 ++ tj (ks.take (k + 1))) by rw [hS2, HTJ.out, HT.out, if_pos hk0']; simp)
              obtain ⟨N1, hN1⟩ : ∃ N1, str (P0 ++ T) = N1 := ⟨_, rfl⟩
              rw [hN1] at k2 ⊢
              clear hS2 hN1 hk0'
              go_wp2_with fail
              refine EK.out.mono ?_
              rintro e w2 ⟨rfl, hb2⟩
              go_wp2_with fail
              go_roundw
              case rel => exact ⟨k + 1, by omega, by go_num, by rw [← HS2.out], hb.trans (hb2.mono hb.size)⟩
              case measure => simp [intOf]; omega
            · have hk0' : ¬ k = 0 := by have : 0 < k := by simpa using hk0
                                        omega
              rw [if_neg hk0', List.length_singleton] at hTl2
              obtain ⟨S2, hS2, k2⟩ := cat_of (A := str (P0 ++ T)) (B := { data := #[32] }) (b := [32]) rfl rfl (by simp; omega)
              obtain ⟨S3, hS3, k3⟩ := cat_of (A := S2) (B := str (txt kid)) hS2 rfl (by simp; omega)
              have HS3 := Lib.hid (show S3 = str (P0 ++ tj (ks.take (k + 1))) by rw [hS3, HTJ.out, HT.out, if_neg hk0']; simp)
              obtain ⟨N1, hN1⟩ : ∃ N1, str (P0 ++ T) = N1 := ⟨_, rfl⟩
              rw [hN1] at k2 ⊢
              clear hS2 hS3 hN1 hk0'
              go_wp2_with fail
              refine EK.out.mono ?_
              rintro e w2 ⟨rfl, hb2⟩
              go_wp2_with fail
              go_roundw
              case rel => exact ⟨k + 1, by omega, by go_num, by rw [← HS3.out], hb.trans (hb2.mono hb.size)⟩
              case measure => simp [intOf]; omega
          · obtain rfl : ks.length = k := by omega
            have HTA := Lib.hid (show T = tj ks by rw [← HT.out, List.take_length])
            obtain ⟨S2, hS2, k2⟩ := cat_of (A := str (P0 ++ T)) (B := { data := #[41] }) (b := [41]) rfl rfl (by simp; omega)
            have HS2 := Lib.hid (show S2 = str (txt (.mk ((j : Int) + 1) r t ks)) by rw [hS2, HTX.out, HTA.out]; simp)
            obtain ⟨N1, hN1⟩ : ∃ N1, str (P0 ++ T) = N1 := ⟨_, rfl⟩
            rw [hN1] at k2 ⊢
            clear hS2 hN1
            go_wp2_with fail
            go_ret
            exact ⟨by rw [← HS2.out]; rfl, Xr.out.k⟩
theorem text32 (q : Qt) (v : Value) (w : World) (hn : sz q ≤ 4194304) (hw : Wf q) (ht : tb q) (hl : (txt q).length ≤ 100000000) (h : QAt w w.heap.size q v) : Calls Tryd.prog 32 #[v] w (StrOut (txt q) w) := text32_ (sz q) (sz q) q v w (Nat.le_refl _) (Nat.le_refl _) hn hw ht hl h
end Go.Proofs.YtgbjldkbbbjnkaaDoor
