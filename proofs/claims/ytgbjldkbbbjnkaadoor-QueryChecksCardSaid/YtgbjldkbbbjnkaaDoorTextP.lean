/-
  What text of the program returns.
-/
import Derived.Test.YtgbjldkbbbjnkaaDoorWrd
import Derived.Test.YtgbjldkbbbjnkaaDoorChkR
namespace Go.Proofs.YtgbjldkbbbjnkaaDoor
open Go.RowKit Go.PlainAid Pl

def StrOut (l : List UInt8) (w : World) (e : Ending) (w' : World) : Prop := e = .returned (.string (str l)) ∧ Below w.heap.size w w'
theorem ta_leaf2 (w : World) : (Instr.typeAssert (.iface 64 (.agg #[])) 54 59 true).run Tryd.prog w = .ok (.tuple #[.agg #[.string ⟨#[]⟩], .bool false]) w := by kernel_rfl
theorem ta_leaf3 (w : World) : (Instr.typeAssert (.iface 64 (.agg #[])) 54 61 true).run Tryd.prog w = .ok (.tuple #[.agg #[], .bool false]) w := by kernel_rfl
theorem ta_neg3 (w : World) : (Instr.typeAssert (.iface 61 (.agg #[])) 54 61 true).run Tryd.prog w = .ok (.tuple #[.agg #[], .bool true]) w := by kernel_rfl
theorem role_get {i : Nat} (h : i < 5) : ∃ v, rolesN[i]? = some v ∧ tops.getD i [] = v ++ [58] ∧ rolesL.getD i [] = v ++ [32] ∧ v.length ≤ 5 := by
  rcases (show i = 0 ∨ i = 1 ∨ i = 2 ∨ i = 3 ∨ i = 4 by omega) with rfl | rfl | rfl | rfl | rfl <;> exact ⟨_, rfl, rfl, rfl, by decide⟩
theorem op_get {j : Nat} (h : j < 6) (h2 : j ≠ 2) : opsL.getD j [] = pairsN.getD (j + 1) [] ++ [32] := by
  rcases (show j = 0 ∨ j = 1 ∨ j = 3 ∨ j = 4 ∨ j = 5 by omega) with rfl | rfl | rfl | rfl | rfl <;> rfl
theorem cat_run (a b : List UInt8) (h : a.length + b.length ≤ 400000000) (w : World) : (Op.stringOp .add (str a) (str b)).run Tryd.prog w = .ok (.string (str (a ++ b))) w := by
  rw [run_string_add_sum w _ _ (by rw [str_len, str_len]; omega), str_append]
theorem cat_of {A B : ByteArray} {a b : List UInt8} (hA : A = str a) (hB : B = str b) (h : a.length + b.length ≤ 400000000) : ∃ S, S = str (a ++ b) ∧ ∀ w, (Op.stringOp .add A B).run Tryd.prog w = .ok (.string S) w := by
  subst hA hB
  exact ⟨_, rfl, cat_run a b h⟩
theorem Tab.pos {w : World} (h : Tab w) : 0 < w.heap.size := by have := h.z; omega
set_option maxHeartbeats 3200000 in
set_option maxRecDepth 100000 in
theorem text29_ (m : Nat) : ∀ (n : Nat) (q : Qt) (v : Value) (w : World), sz q ≤ n → n ≤ m → m ≤ 4194304 → Wf q → tb q → (txt q).length ≤ 100000000 → QAt w w.heap.size q v → Tab w → Calls Tryd.prog 29 #[v] w (StrOut (txt q) w) := by
  intro n
  induction n with
  | zero => intro q v w h; have := sz_pos q; omega
  | succ n ih =>
    intro q v w hn hm hmm hwf htb htl hq hT
    obtain ⟨o, r, t, ks⟩ := q
    obtain ⟨A, cap, rfl, _⟩ := hq.inv
    have X0 := Lib.hid (Bx.start hq)
    have IH := Lib.hid ih
    have hsz : sz (.mk o r t ks) = 1 + szs ks := by rw [sz]
    rw [hsz] at hn
    obtain ⟨e1, e2, e3, e4, _, e6⟩ := err_zero hwf
    rw [tb] at htb
    have htt := htb.1
    have HTB := Lib.hid htb.2
    have HT0 := Lib.hid (hT.below (below_one w (.cells #[.int .i64 o, .int .i64 r, .string t, .slice A ks.length cap] 25)))
    clear hq ih hsz htb hT hwf
    obtain ⟨W0, hW0⟩ : ∃ W0, w.alloc (.cells #[.int .i64 o, .int .i64 r, .string t, .slice A ks.length cap] 25) = W0 := ⟨_, rfl⟩
    rw [hW0] at X0 HT0
    have HW := Lib.hid hW0
    have c0 := X0.out.c0
    have c1 := X0.out.c1
    have c2 := X0.out.c2
    have c3 := X0.out.c3
    clear hW0
    have EO := Lib.hid (of37 o W0 HT0.out)
    have ta1 := ta_leaf2
    have ta2 := ta_leaf3
    have ta3 := ta_neg2
    have ta4 := ta_neg3
    have ta5 := ta_pair2
    by_cases h0 : o = 0
    · subst h0
      have hr : 1 ≤ r ∧ r ≤ 5 := by unfold roleOk at e4; simpa using e4
      obtain ⟨i, hi⟩ : ∃ i : Nat, r = (i : Int) + 1 := ⟨(r - 1).toNat, by omega⟩
      subst hi
      have hi5 : i < 5 := by omega
      obtain ⟨nm, hnm, htop, _, hnl⟩ := role_get hi5
      have HTX := Lib.hid (show txt (.mk 0 ((i : Int) + 1) t ks) = (nm ++ [58]) ++ wordq t.data.toList by rw [txt, if_pos rfl, show ((i : Int) + 1 - 1).toNat = i by omega, htop])
      rw [HTX.out, List.length_append, List.length_append] at htl
      have g0 := HT0.out.r i nm hnm
      have hwl : (str (wordq t.data.toList)).size ≤ 100000000 := by rw [str_len]; omega
      have hnl2 : (str nm).size ≤ 5 := by rw [str_len]; exact hnl
      obtain ⟨S1, hS1, k1⟩ := cat_of (A := str nm) (B := { data := #[58] }) (a := nm) (b := [58]) rfl rfl (by simp; omega)
      obtain ⟨S2, hS2, k2⟩ := cat_of (A := S1) (B := str (wordq t.data.toList)) hS1 rfl (by simp at htl ⊢; omega)
      have HS2 := Lib.hid (show S2 = str (txt (.mk 0 ((i : Int) + 1) t ks)) by rw [HTX.out]; exact hS2)
      clear hS1 hS2
      have i0 : (0 : Int) ≤ (i : Int) := by omega
      have i5 : (i : Int) < 5 := by omega
      have hw1 : IntKind.i64.wrap ((i : Int) + 1 - 1) = (i : Int) := by rw [show (i : Int) + 1 - 1 = i by omega]; exact wrap_in (by omega)
      have hw2 : IntKind.i64.wrap (i : Int) = (i : Int) := wrap_in (by omega)
      have EW := Lib.hid (fun (W : World) (hb : Below W0.heap.size W0 W) => word38 t W htt (HT0.out.below hb))
      clear e1 e2 e3 e4 e6 hr hnm htop htl
      go_enter Tryd.func29, Tryd.ntmps29
      go_wp2_with fail
      rw [HW.out]
      refine EO.out.mono ?_
      rintro e w' ⟨rfl, hw⟩
      rw [hw, ofV_leaf (.inl rfl)]
      clear hw
      go_wp2_with fail
      go_region_held3 (fun w' => w'.cell? ⟨w.heap.size, 1, none⟩ = some (.int .i64 ((i : Int) + 1)) ∧ w'.cell? ⟨w.heap.size, 2, none⟩ = some (.string t) ∧ w'.cell? ⟨0, i, none⟩ = some (.string (str nm)))
        (first | exact hS | go_keep)
        (first
          | (go_at_call 38
             refine (EW.out _ (Below.refl _ _).drew).mono ?_
             rintro e w1 ⟨rfl, hb1⟩
             have hb1' : Below W0.heap.size W0 w1 := below_undrew hb1
             have X1 := X0.out.next hb1'
             have hS : w1.cell? ⟨w.heap.size, 1, none⟩ = some (.int .i64 ((i : Int) + 1)) ∧ w1.cell? ⟨w.heap.size, 2, none⟩ = some (.string t) ∧ w1.cell? ⟨0, i, none⟩ = some (.string (str nm)) := ⟨X1.c1, X1.c2, (hb1'.cell (p := ⟨0, i, none⟩) HT0.out.pos).trans g0⟩))
      all_goals
        go_wp2_with fail
        go_ret
        exact ⟨by rw [← HS2.out]; rfl, X0.out.k.trans (hb1'.mono X0.out.k.size)⟩
    obtain ⟨hts, hes⟩ := e6 h0
    by_cases h3 : o = 3
    · subst h3
      have hr : 1 ≤ r ∧ r ≤ 5 := by unfold roleOk at e4; simpa using e4
      obtain ⟨i, hi⟩ : ∃ i : Nat, r = (i : Int) + 1 := ⟨(r - 1).toNat, by omega⟩
      subst hi
      have hi5 : i < 5 := by omega
      obtain ⟨nm, hnm, _, htop, hnl⟩ := role_get hi5
      have hkl : ks.length = 1 := e3
      obtain ⟨kid, hkid⟩ := get_lt (l := ks) (k := 0) (by omega)
      have hkwf : Wf kid := errs_all hes kid (List.mem_of_getElem? hkid)
      have hkm : sz kid ≤ n := by have := szs_mem (List.mem_of_getElem? hkid); omega
      have HTK := Lib.hid (tbs_mem HTB.out (List.mem_of_getElem? hkid))
      have hks1 : ks = [kid] := by
        match ks, hkl, hkid with
        | [x], _, h => simp at h; rw [h]
      have HTX := Lib.hid (show txt (.mk 3 ((i : Int) + 1) t ks) = (([40, 110, 111, 116, 32] ++ nm) ++ [32]) ++ txt kid ++ [41] by
        rw [hks1, txt, if_neg (by decide), show ((i : Int) + 1 - 1).toNat = i by omega, if_pos rfl, htop, txts, txts]
        simp
        rfl)
      rw [HTX.out, List.length_append, List.length_append] at htl
      have hlk : (txt kid).length ≤ 100000000 := by omega
      have g0 := HT0.out.r i nm hnm
      obtain ⟨S1, hS1, k1⟩ := cat_of (A := { data := #[40, 110, 111, 116, 32] }) (B := str nm) (a := [40, 110, 111, 116, 32]) (b := nm) rfl rfl (by simp; omega)
      obtain ⟨S2, hS2, k2⟩ := cat_of (A := S1) (B := { data := #[32] }) (b := [32]) hS1 rfl (by simp; omega)
      obtain ⟨S3, hS3, k3⟩ := cat_of (A := S2) (B := str (txt kid)) hS2 rfl (by simp at htl ⊢; omega)
      obtain ⟨S4, hS4, k4⟩ := cat_of (A := S3) (B := { data := #[41] }) (b := [41]) hS3 rfl (by simp at htl ⊢; omega)
      have HS4 := Lib.hid (show S4 = str (txt (.mk 3 ((i : Int) + 1) t ks)) by rw [HTX.out]; exact hS4)
      clear hS1 hS2 hS3 hS4
      have i0 : (0 : Int) ≤ (i : Int) := by omega
      have i5 : (i : Int) < 5 := by omega
      have hw1 : IntKind.i64.wrap ((i : Int) + 1 - 1) = (i : Int) := by rw [show (i : Int) + 1 - 1 = i by omega]; exact wrap_in (by omega)
      have hw2 : IntKind.i64.wrap (i : Int) = (i : Int) := wrap_in (by omega)
      obtain ⟨W1, hW1⟩ : ∃ W1, W0.alloc (.cells #[] 61) = W1 := ⟨_, rfl⟩
      have hb01 : Below W0.heap.size W0 W1 := by rw [← hW1]; exact below_one _ _
      have HW1 := Lib.hid hW1
      have hkp : 0 < ks.length := by omega
      clear hW1 e1 e2 e3 e4 e6 hr hnm htop htl hes h0 hts hks1 hkl
      have X1 := Lib.hid (X0.out.next hb01)
      have g1 := (hb01.cell (p := ⟨0, i, none⟩) HT0.out.pos).trans g0
      obtain ⟨o', r', t', ks'⟩ := kid
      obtain ⟨ad, A', cap', rfl, x0, x1, x2, x3, hq'⟩ := X1.out.kid hkid
      obtain ⟨kid, hkd⟩ : ∃ kid, Qt.mk o' r' t' ks' = kid := ⟨_, rfl⟩
      rw [hkd] at hq' hkm HTK hkwf hlk k3
      clear hkid hkd
      have HTT := Lib.hid (HT0.out.below hb01)
      have EK := Lib.hid (IH.out kid _ W1.drew hkm (by omega) hmm hkwf HTK.out hlk (hq'.keep fun p _ => rfl) HTT.out.drew)
      go_enter Tryd.func29, Tryd.ntmps29
      go_wp2_with fail
      rw [HW.out]
      refine EO.out.mono ?_
      rintro e w' ⟨rfl, hw⟩
      rw [hw, ofV_not]
      clear hw
      have y0 : W1.cell? ad = some (.int .i64 o') := x0
      have y1 : W1.cell? ⟨ad.block, ad.off + 1, none⟩ = some (.int .i64 r') := x1
      have y2 : W1.cell? ⟨ad.block, ad.off + 2, none⟩ = some (.string t') := x2
      have y3 : W1.cell? ⟨ad.block, ad.off + 3, none⟩ = some (.slice A' ks'.length cap') := x3
      have hab := World.block_lt_of_cell? W1 _ y0
      have d1 := X1.out.c1
      have d3 := X1.out.c3
      have hxb := X1.out.z
      clear x0 x1 x2 x3
      go_upto_region 8 with (fail)
      rw [HW1.out]
      go_region_held3 (fun w' => w'.cell? ⟨w.heap.size, 1, none⟩ = some (.int .i64 ((i : Int) + 1)) ∧ w'.cell? ⟨w.heap.size, 3, none⟩ = some (.slice (some ad) ks.length cap) ∧ w'.cell? ⟨0, i, none⟩ = some (.string (str nm)) ∧
          w'.cell? ad = some (.int .i64 o') ∧ w'.cell? ⟨ad.block, ad.off + 1, none⟩ = some (.int .i64 r') ∧ w'.cell? ⟨ad.block, ad.off + 2, none⟩ = some (.string t') ∧ w'.cell? ⟨ad.block, ad.off + 3, none⟩ = some (.slice A' ks'.length cap'))
        (first | exact hS | go_keep)
        (first
          | (go_at_call 29
             refine EK.out.mono ?_
             rintro e w2 ⟨rfl, hb2⟩
             have hb2' : Below W1.heap.size W1 w2 := below_undrew hb2
             have hS : w2.cell? ⟨w.heap.size, 1, none⟩ = some (.int .i64 ((i : Int) + 1)) ∧ w2.cell? ⟨w.heap.size, 3, none⟩ = some (.slice (some ad) ks.length cap) ∧ w2.cell? ⟨0, i, none⟩ = some (.string (str nm)) ∧
               w2.cell? ad = some (.int .i64 o') ∧ w2.cell? ⟨ad.block, ad.off + 1, none⟩ = some (.int .i64 r') ∧ w2.cell? ⟨ad.block, ad.off + 2, none⟩ = some (.string t') ∧ w2.cell? ⟨ad.block, ad.off + 3, none⟩ = some (.slice A' ks'.length cap') :=
               ⟨(hb2'.cell (p := ⟨w.heap.size, 1, none⟩) hxb).trans d1, (hb2'.cell (p := ⟨w.heap.size, 3, none⟩) hxb).trans d3, (hb2'.cell (p := ⟨0, i, none⟩) HTT.out.pos).trans g1, (hb2'.cell (p := ad) hab).trans y0, (hb2'.cell (p := ⟨ad.block, ad.off + 1, none⟩) hab).trans y1, (hb2'.cell (p := ⟨ad.block, ad.off + 2, none⟩) hab).trans y2, (hb2'.cell (p := ⟨ad.block, ad.off + 3, none⟩) hab).trans y3⟩))
      all_goals
        go_wp2_with fail
        go_ret
        exact ⟨by rw [← HS4.out]; rfl, X1.out.k.trans (hb2'.mono X1.out.k.size)⟩
    obtain ⟨j, hj⟩ : ∃ j : Nat, o = ((j + 1 : Nat) : Int) := ⟨(o - 1).toNat, by omega⟩
    obtain ⟨nm, hnm⟩ : ∃ nm, pairsN.getD (j + 1) [] = nm := ⟨_, rfl⟩
    have hV := ofV_pair (o := o) (by omega) (by omega) h3
    rw [show o.toNat = j + 1 by omega, hnm] at hV
    have hj6 : j < 6 := by omega
    have hj2 : j ≠ 2 := by omega
    have htop := op_get hj6 hj2
    rw [hnm] at htop
    have hnl : nm.length ≤ 6 := by rw [← hnm]; exact getD_len (l := pairsN) (m := 6) (by decide) (j + 1)
    have hkl : ks.length = 2 := by rw [e3]; unfold kidsN; rw [if_neg h0, if_neg h3]
    obtain ⟨kid, hkid⟩ := get_lt (l := ks) (k := 0) (by omega)
    obtain ⟨kib, hkib⟩ := get_lt (l := ks) (k := 1) (by omega)
    have hkwf : Wf kid := errs_all hes kid (List.mem_of_getElem? hkid)
    have hbwf : Wf kib := errs_all hes kib (List.mem_of_getElem? hkib)
    have hkm : sz kid ≤ n := by have := szs_mem (List.mem_of_getElem? hkid); omega
    have hbm : sz kib ≤ n := by have := szs_mem (List.mem_of_getElem? hkib); omega
    have HTK := Lib.hid (tbs_mem HTB.out (List.mem_of_getElem? hkid))
    have HTKb := Lib.hid (tbs_mem HTB.out (List.mem_of_getElem? hkib))
    have hks1 : ks = [kid, kib] := by
      match ks, hkl, hkid, hkib with
      | [x, y], _, h, h' => simp at h h'; rw [h, h']
    have HTX := Lib.hid (show txt (.mk o r t ks) = (((([40] ++ nm) ++ [32]) ++ txt kid) ++ [32]) ++ txt kib ++ [41] by
      rw [hks1, txt, if_neg h0, if_neg h3, show (o - 1).toNat = j by omega, htop, txts, txts, txts]
      simp)
    rw [HTX.out] at htl
    simp only [List.length_append, List.length_singleton] at htl
    have hlk : (txt kid).length ≤ 100000000 := by omega
    have hlb : (txt kib).length ≤ 100000000 := by omega
    obtain ⟨S1, hS1, k1⟩ := cat_of (A := { data := #[40] }) (B := str nm) (a := [40]) (b := nm) rfl rfl (by simp; omega)
    obtain ⟨S2, hS2, k2⟩ := cat_of (A := S1) (B := { data := #[32] }) (b := [32]) hS1 rfl (by simp; omega)
    obtain ⟨S3, hS3, k3⟩ := cat_of (A := S2) (B := str (txt kid)) hS2 rfl (by simp; omega)
    obtain ⟨S4, hS4, k4⟩ := cat_of (A := S3) (B := { data := #[32] }) (b := [32]) hS3 rfl (by simp; omega)
    obtain ⟨S5, hS5, k5⟩ := cat_of (A := S4) (B := str (txt kib)) hS4 rfl (by simp; omega)
    obtain ⟨S6, hS6, k6⟩ := cat_of (A := S5) (B := { data := #[41] }) (b := [41]) hS5 rfl (by simp; omega)
    have HS6 := Lib.hid (show S6 = str (txt (.mk o r t ks)) by rw [HTX.out]; exact hS6)
    clear hS1 hS2 hS3 hS4 hS5 hS6
    obtain ⟨W1, hW1⟩ : ∃ W1, W0.alloc (.cells #[.string (str nm)] 59) = W1 := ⟨_, rfl⟩
    have hb01 : Below W0.heap.size W0 W1 := by rw [← hW1]; exact below_one _ _
    have g1 : W1.cell? ⟨W0.heap.size, 0, none⟩ = some (.string (str nm)) := by rw [← hW1]; exact (heap_cell (one_new _ _ _)).1
    have HW1 := Lib.hid hW1
    have HV := Lib.hid hV
    have hkp : (1 : Int) < (ks.length : Int) := by omega
    have hkp0 : 0 < ks.length := by omega
    have hxc : W0.heap.size < W1.heap.size := by rw [← hW1, size_one]; omega
    clear hW1 e1 e2 e3 e4 e6 htop htl hes h0 hts hks1 hkl h3 hV hnm hnl hj
    have X1 := Lib.hid (X0.out.next hb01)
    obtain ⟨o1, r1, t1, ks1⟩ := kid
    obtain ⟨ad, A1, cap1, rfl, x0, x1, x2, x3, hq1⟩ := X1.out.kid hkid
    obtain ⟨o2, r2, t2, ks2⟩ := kib
    obtain ⟨ad2, A2, cap2, had, v0, v1, v2, v3, hq2⟩ := X1.out.kid hkib
    obtain rfl : ad = ad2 := by injection had
    obtain ⟨kid, hkd⟩ : ∃ kid, Qt.mk o1 r1 t1 ks1 = kid := ⟨_, rfl⟩
    obtain ⟨kib, hkb⟩ : ∃ kib, Qt.mk o2 r2 t2 ks2 = kib := ⟨_, rfl⟩
    rw [hkd] at hq1 hkm HTK hkwf hlk k3
    rw [hkb] at hq2 hbm HTKb hbwf hlb k5
    have HTT := Lib.hid (HT0.out.below hb01)
    have EK := Lib.hid (fun (W : World) (hb : Below W1.heap.size W1 W) => IH.out kid _ W hkm (by omega) hmm hkwf HTK.out hlk ((hq1.keep fun p hp => hb.cell (p := p) hp).more hb.size) (HTT.out.below hb))
    have EB := Lib.hid (fun (W : World) (hb : Below W1.heap.size W1 W) => IH.out kib _ W hbm (by omega) hmm hbwf HTKb.out hlb ((hq2.keep fun p hp => hb.cell (p := p) hp).more hb.size) (HTT.out.below hb))
    have y0 : W1.cell? ad = some (.int .i64 o1) := x0
    have y1 : W1.cell? ⟨ad.block, ad.off + 1, none⟩ = some (.int .i64 r1) := x1
    have y2 : W1.cell? ⟨ad.block, ad.off + 2, none⟩ = some (.string t1) := x2
    have y3 : W1.cell? ⟨ad.block, ad.off + 3, none⟩ = some (.slice A1 ks1.length cap1) := x3
    have z0 : W1.cell? ⟨ad.block, ad.off + 4, none⟩ = some (.int .i64 o2) := v0
    have z1 : W1.cell? ⟨ad.block, ad.off + 4 + 1, none⟩ = some (.int .i64 r2) := v1
    have z2 : W1.cell? ⟨ad.block, ad.off + 4 + 2, none⟩ = some (.string t2) := v2
    have z3 : W1.cell? ⟨ad.block, ad.off + 4 + 3, none⟩ = some (.slice A2 ks2.length cap2) := v3
    have hab := World.block_lt_of_cell? W1 _ y0
    have d3 := X1.out.c3
    have hxb := X1.out.z
    have KS := Lib.hid (fun (W : World) (hb : Below W1.heap.size W1 W) => (show W.cell? ⟨w.heap.size, 3, none⟩ = some (.slice (some ad) ks.length cap) ∧ W.cell? ⟨W0.heap.size, 0, none⟩ = some (.string (str nm)) ∧ W.cell? ad = some (.int .i64 o1) ∧ W.cell? ⟨ad.block, ad.off + 1, none⟩ = some (.int .i64 r1) ∧ W.cell? ⟨ad.block, ad.off + 2, none⟩ = some (.string t1) ∧ W.cell? ⟨ad.block, ad.off + 3, none⟩ = some (.slice A1 ks1.length cap1) ∧ W.cell? ⟨ad.block, ad.off + 4, none⟩ = some (.int .i64 o2) ∧ W.cell? ⟨ad.block, ad.off + 4 + 1, none⟩ = some (.int .i64 r2) ∧ W.cell? ⟨ad.block, ad.off + 4 + 2, none⟩ = some (.string t2) ∧ W.cell? ⟨ad.block, ad.off + 4 + 3, none⟩ = some (.slice A2 ks2.length cap2) from
      ⟨(hb.cell (p := ⟨w.heap.size, 3, none⟩) hxb).trans d3, (hb.cell (p := ⟨W0.heap.size, 0, none⟩) hxc).trans g1, (hb.cell (p := ad) hab).trans y0, (hb.cell (p := ⟨ad.block, ad.off + 1, none⟩) hab).trans y1, (hb.cell (p := ⟨ad.block, ad.off + 2, none⟩) hab).trans y2, (hb.cell (p := ⟨ad.block, ad.off + 3, none⟩) hab).trans y3, (hb.cell (p := ⟨ad.block, ad.off + 4, none⟩) hab).trans z0, (hb.cell (p := ⟨ad.block, ad.off + 4 + 1, none⟩) hab).trans z1, (hb.cell (p := ⟨ad.block, ad.off + 4 + 2, none⟩) hab).trans z2, (hb.cell (p := ⟨ad.block, ad.off + 4 + 3, none⟩) hab).trans z3⟩))
    clear hkid hkd hkib hkb had hq1 hq2 x0 x1 x2 x3 v0 v1 v2 v3
    go_enter Tryd.func29, Tryd.ntmps29
    go_wp2_with fail
    rw [HW.out]
    refine EO.out.mono ?_
    rintro e w' ⟨rfl, hw⟩
    rw [hw, HV.out]
    clear hw
    go_upto_region 5 with (fail)
    rw [HW1.out]
    go_region_held3 (fun w' => w'.cell? ⟨w.heap.size, 3, none⟩ = some (.slice (some ad) ks.length cap) ∧ w'.cell? ⟨W0.heap.size, 0, none⟩ = some (.string (str nm)) ∧ w'.cell? ad = some (.int .i64 o1) ∧ w'.cell? ⟨ad.block, ad.off + 1, none⟩ = some (.int .i64 r1) ∧ w'.cell? ⟨ad.block, ad.off + 2, none⟩ = some (.string t1) ∧ w'.cell? ⟨ad.block, ad.off + 3, none⟩ = some (.slice A1 ks1.length cap1) ∧ w'.cell? ⟨ad.block, ad.off + 4, none⟩ = some (.int .i64 o2) ∧ w'.cell? ⟨ad.block, ad.off + 4 + 1, none⟩ = some (.int .i64 r2) ∧ w'.cell? ⟨ad.block, ad.off + 4 + 2, none⟩ = some (.string t2) ∧ w'.cell? ⟨ad.block, ad.off + 4 + 3, none⟩ = some (.slice A2 ks2.length cap2))
      (first | exact hS | go_keep)
      (first
        | (go_at_call 29
           (with_reducible refine (EK.out _ (Below.refl _ _).drew).mono ?_)
           rintro e w2 ⟨rfl, hb2⟩
           have hb2' : Below W1.heap.size W1 w2 := below_undrew hb2
           have hS := KS.out w2 hb2')
        | (go_at_call 29
           (with_reducible refine (EB.out _ hb2').mono ?_)
           rintro e w3 ⟨rfl, hb3⟩
           have hb3' : Below W1.heap.size W1 w3 := hb2'.trans (hb3.mono hb2'.size)
           have hS := KS.out w3 hb3'))
    all_goals
      go_wp2_with fail
      go_ret
      exact ⟨by rw [← HS6.out]; rfl, X1.out.k.trans (hb3'.mono X1.out.k.size)⟩
theorem text29 (q : Qt) (v : Value) (w : World) (hn : sz q ≤ 4194304) (hw : Wf q) (ht : tb q) (hl : (txt q).length ≤ 100000000) (h : QAt w w.heap.size q v) (hT : Tab w) : Calls Tryd.prog 29 #[v] w (StrOut (txt q) w) := text29_ (sz q) (sz q) q v w (Nat.le_refl _) (Nat.le_refl _) hn hw ht hl h hT
end Go.Proofs.YtgbjldkbbbjnkaaDoor
