/-
  What Parse of the program and of the reference return. Printed by gen_parse.py.
-/
import Derived.Test.YtgbjldkbbbjnkaaDoorChkR
import Derived.Test.YtgbjldkbbbjnkaaDoorQueP
import Derived.Test.YtgbjldkbbbjnkaaDoorParR
namespace Go.Proofs.YtgbjldkbbbjnkaaDoor
open Go.RowKit Go.PlainAid Pl

/-- What is parsed: the query, or the index of the error. -/
def prs (s : ByteArray) : Qt ⊕ Nat := whole (pq true (s.size + 1) (rest s 0)) s.size
def pQ : Qt ⊕ Nat → Qt
  | .inl q => if chk pe q = 0 then q else noQt
  | .inr _ => noQt
def pAt : Qt ⊕ Nat → Nat
  | .inl _ => 0
  | .inr n => n
def pEr : Qt ⊕ Nat → Int
  | .inl q => chk pe q
  | .inr _ => 28
def PaOut (s : ByteArray) (w : World) (e : Ending) (w' : World) : Prop := Below w.heap.size w w' ∧ ∃ v, e = .returned (.tuple #[v, .int .i64 (pAt (prs s) : Int), .int .i64 (pEr (prs s))]) ∧ QAt w' w'.heap.size (pQ (prs s)) v
theorem prs_ref (s : ByteArray) : prs s = whole (pq false (s.size + 1) (rest s 0)) s.size := by
  have h := whole_ag (s.size + 1) (rest s 0)
  rw [rest_len, Nat.sub_zero] at h
  exact h
theorem no_at (w : World) (B : Nat) : QAt w B noQt (.agg #[.int .i64 0, .int .i64 0, .string ⟨#[]⟩, .slice none 0 0]) := (QN.leaf (lo := 0) 0).at_
theorem no_at2 {x : Qt} (h : x = noQt) (w : World) (B : Nat) : QAt w B x (.agg #[.int .i64 0, .int .i64 0, .string ⟨#[]⟩, .slice none 0 0]) := by
  rw [h]
  exact no_at w B
theorem tri_alloc (w : World) (a b c : Value) (o : Obj) : ((w.alloc o).alloc (.cells #[a, b, c] 45)).heap[w.heap.size + 1]? = some (.cells #[a, b, c] 45) := by
  have h := tri_new (w.alloc o) a b c 45
  rw [size_one] at h
  exact h
theorem pa_is {s : ByteArray} {x : Qt ⊕ Nat} (h : prs s = x) : pAt (prs s) = pAt x ∧ pEr (prs s) = pEr x ∧ pQ (prs s) = pQ x := by rw [h]; exact ⟨rfl, rfl, rfl⟩
theorem fin_at {w w' : World} {lo B : Nat} {q : Qt} {v : Value} (h : QN w lo B q v) (hk : ∀ p : Addr, lo ≤ p.block → p.block < B → w'.cell? p = w.cell? p) (hB : B ≤ w'.heap.size) : QAt w' w'.heap.size q v := ((h.keep hk).more hB).at_
set_option maxHeartbeats 3200000 in
set_option maxRecDepth 100000 in
theorem parse13 (s : ByteArray) (w : World) (hs : s.size ≤ 4194303) (hT : Tab w) : Calls Tryd.prog 13 #[.string s] w (PaOut s w) := by
  have h5 := hT.z
  obtain ⟨x1, hi0, hz0, hz1, hz2⟩ := info_parts info25
  obtain ⟨W1, hW1⟩ : ∃ W1, (w.alloc (.cells #[.int .i64 0, .int .i64 0, .string ⟨#[]⟩, .slice none 0 0] 25)).alloc (.cells #[.string s, .int .i64 0, .bool false] 45) = W1 := ⟨_, rfl⟩
  have hbx := heap_later (quad_new w (.int .i64 0) (.int .i64 0) (.string ⟨#[]⟩) (.slice none 0 0) 25) (.cells #[.string s, .int .i64 0, .bool false] 45)
  have hps := tri_alloc w (.string s) (.int .i64 0) (.bool false) (.cells #[.int .i64 0, .int .i64 0, .string ⟨#[]⟩, .slice none 0 0] 25)
  have hb1 : Below w.heap.size w W1 := by rw [← hW1]; exact ((below_one w _).alloc (by rw [size_one]; omega) _)
  have hz1' : W1.heap.size = w.heap.size + 2 := by rw [← hW1]; simp
  rw [hW1] at hbx hps
  have HB1 := Lib.hid hb1
  have HBX1 := Lib.hid hbx
  have HPS1 := Lib.hid (show PS W1 (w.heap.size + 1) s 0 false from hps)
  have HZ1 := Lib.hid hz1'
  have HW1 := Lib.hid hW1
  have HT1 := Lib.hid (hT.below hb1)
  have E1 := Lib.hid (query27_ (w.heap.size + 1) (by omega) s (by omega) (s.size + 1) 0 W1 (Nat.zero_le _) (by omega) HPS1.out HT1.out)
  obtain ⟨x, hx⟩ : ∃ x, pq true (s.size + 1) (rest s 0) = x := ⟨_, rfl⟩
  rw [hx] at E1
  have HX := Lib.hid hx
  have HPOS := Lib.hid (pq_bd true (s.size + 1) (rest s 0))
  clear hi0 hz0 hz1 hz2 hbx hps hb1 hz1' hW1 hT hx
  go_enter Tryd.func13, Tryd.ntmps13
  go_wp2_with fail
  rw [HW1.out]
  clear HW1
  refine E1.out.mono ?_
  rintro e w2 ⟨ho2, qo, qr, qt, A, l, c, rfl, hok, hbad⟩
  have HT2 := Lib.hid (HT1.out.onl ho2 (by omega))
  have hsz2 := ho2.size
  rw [HZ1.out] at hsz2
  have HB2 := Lib.hid (HB1.out.trans ((ho2.to (show w.heap.size ≤ w.heap.size + 1 by omega) (by rw [HZ1.out]; omega))))
  have HBX2 := Lib.hid (heap_onl HBX1.out ho2 (by omega))
  have HO2 := Lib.hid ho2
  clear ho2
  obtain ⟨w3, hw3⟩ : ∃ w3, w2.alloc (.cells #[.int .i64 qo, .int .i64 qr, .string qt, .slice A l c] 25) = w3 := ⟨_, rfl⟩
  have hq3 := quad_new w2 (.int .i64 qo) (.int .i64 qr) (.string qt) (.slice A l c) 25
  have hbx3 := heap_later HBX2.out (.cells #[.int .i64 qo, .int .i64 qr, .string qt, .slice A l c] 25)
  have hb3 : Below w.heap.size w w3 := by rw [← hw3]; exact HB2.out.alloc HB2.out.size _
  have hb23 := below_one w2 (.cells #[.int .i64 qo, .int .i64 qr, .string qt, .slice A l c] 25)
  rw [hw3] at hq3 hbx3 hb23
  have HQ3 := Lib.hid hq3
  have HBX3 := Lib.hid hbx3
  have HB3 := Lib.hid hb3
  have HB23 := Lib.hid hb23
  have HW3 := Lib.hid hw3
  clear hw3 hq3 hbx3 hb3 hb23
  cases x with
  | bad n =>
    have HR := Lib.hid (pa_is (s := s) (x := .inr n) (by rw [prs, HX.out]; rfl))
    have hps := (hbad n rfl).below HB23.out
    rw [Nat.zero_add] at hps
    obtain ⟨p0, p1, p2⟩ := tri_cells hps
    clear hok hbad hps
    obtain ⟨c0, c1, c2, c3⟩ := quad_cells HBX3.out
    obtain ⟨d0, d1, d2, d3⟩ := quad_soft HBX3.out
    go_upto_region 3 with (fail)
    rw [HW3.out]
    clear HW3
    go_wp2_with fail
    go_region_held3 (fun w' => w'.cell? ⟨w.heap.size + 1, 1, none⟩ = some (.int .i64 (n : Int))) (go_keep) (fail)
    go_wp2_with fail
    obtain ⟨W9, hW9⟩ : ∃ W9, ((((w3.setCell ⟨w.heap.size, 0, none⟩ (.int .i64 0)).setCell ⟨w.heap.size, 1, none⟩ (.int .i64 0)).setCell ⟨w.heap.size, 2, none⟩ (.string ⟨#[]⟩)).setCell ⟨w.heap.size, 3, none⟩ (.slice none 0 0)) = W9 := ⟨_, rfl⟩
    have hq := quad_set4 (a' := .int .i64 0) (b' := .int .i64 0) (c' := .string ⟨#[]⟩) (d' := .slice none 0 0) HBX3.out
    have hw9 := below_set4 (B := w.heap.size) (a' := .int .i64 0) (b' := .int .i64 0) (c' := .string ⟨#[]⟩) (d' := .slice none 0 0) HB3.out (Nat.le_refl _)
    rw [hW9] at hq hw9
    rw [hW9]
    obtain ⟨z0, z1, z2, z3⟩ := quad_cells hq
    exact bodyPost_ret (v := .tuple #[.agg #[.int .i64 0, .int .i64 0, .string ⟨#[]⟩, .slice none 0 0], .int .i64 (n : Int), .int .i64 28]) (by simp [results, Tryd.results13, go_sem, z0, z1, z2, z3]) rfl ⟨hw9.drew, _, by rw [HR.out.1, HR.out.2.1]; rfl, no_at2 HR.out.2.2 _ _⟩
  | ok q n =>
    obtain ⟨hqn, hps⟩ := hok q n rfl
    have hps := hps.below HB23.out
    rw [Nat.zero_add] at hps
    obtain ⟨p0, p1, p2⟩ := tri_cells hps
    have HQN := Lib.hid ((hqn.keep fun p _ hp => HB23.out.cell (p := p) hp))
    have hpos := HPOS.out
    rw [HX.out, rest_len, Rd.pos] at hpos
    clear hok hbad hps hqn
    obtain ⟨c0, c1, c2, c3⟩ := quad_cells HBX3.out
    obtain ⟨d0, d1, d2, d3⟩ := quad_soft HBX3.out
    by_cases hn : n < s.size
    · have HR := Lib.hid (pa_is (s := s) (x := .inr n) (by rw [prs, HX.out, whole, if_pos hn]))
      go_upto_region 3 with (fail)
      rw [HW3.out]
      clear HW3
      go_wp2_with fail
      go_region_held3 (fun w' => w'.cell? ⟨w.heap.size + 1, 1, none⟩ = some (.int .i64 (n : Int))) (go_keep) (fail)
      go_wp2_with fail
      obtain ⟨W9, hW9⟩ : ∃ W9, ((((w3.setCell ⟨w.heap.size, 0, none⟩ (.int .i64 0)).setCell ⟨w.heap.size, 1, none⟩ (.int .i64 0)).setCell ⟨w.heap.size, 2, none⟩ (.string ⟨#[]⟩)).setCell ⟨w.heap.size, 3, none⟩ (.slice none 0 0)) = W9 := ⟨_, rfl⟩
      have hq := quad_set4 (a' := .int .i64 0) (b' := .int .i64 0) (c' := .string ⟨#[]⟩) (d' := .slice none 0 0) HBX3.out
      have hw9 := below_set4 (B := w.heap.size) (a' := .int .i64 0) (b' := .int .i64 0) (c' := .string ⟨#[]⟩) (d' := .slice none 0 0) HB3.out (Nat.le_refl _)
      rw [hW9] at hq hw9
      rw [hW9]
      obtain ⟨z0, z1, z2, z3⟩ := quad_cells hq
      exact bodyPost_ret (v := .tuple #[.agg #[.int .i64 0, .int .i64 0, .string ⟨#[]⟩, .slice none 0 0], .int .i64 (n : Int), .int .i64 28]) (by simp [results, Tryd.results13, go_sem, z0, z1, z2, z3]) rfl ⟨hw9.drew, _, by rw [HR.out.1, HR.out.2.1]; rfl, no_at2 HR.out.2.2 _ _⟩
    · have HR := Lib.hid (pa_is (s := s) (x := .inl q) (by rw [prs, HX.out, whole, if_neg hn]))
      obtain ⟨htb, hsz⟩ := pq_small HX.out (by rw [rest_len]; omega)
      rw [rest_len] at hsz
      have HQA := Lib.hid (show QAt w3 w3.heap.size q (.agg #[.int .i64 qo, .int .i64 qr, .string qt, .slice A l c]) from HQN.out.at_.more HB23.out.size)
      have EC := Lib.hid (check18 q _ w3 (by omega) htb HQA.out (HT2.out.below HB23.out))
      have hlt3 := lt_of_heap HQ3.out
      clear htb hsz
      obtain ⟨y0, y1, y2, y3⟩ := quad_cells HQ3.out
      go_upto_region 3 with (fail)
      rw [HW3.out]
      clear HW3
      go_wp2_with fail
      refine EC.out.mono ?_
      rintro e w4 ⟨rfl, hb4⟩
      have HBX4 := Lib.hid (heap_below HBX3.out hb4)
      have HQ4 := Lib.hid (heap_below HQ3.out hb4)
      have HB4 := Lib.hid (HB3.out.trans (hb4.mono HB3.out.size))
      have hz4 := hb4.size
      have hzw : w2.heap.size ≤ w3.heap.size := HB23.out.size
      have HB34 := Lib.hid hb4
      clear hb4 c0 c1 c2 c3 d0 d1 d2 d3 y0 y1 y2 y3 p0 p1 p2
      obtain ⟨c0, c1, c2, c3⟩ := quad_cells HBX4.out
      obtain ⟨d0, d1, d2, d3⟩ := quad_soft HBX4.out
      obtain ⟨y0, y1, y2, y3⟩ := quad_cells HQ4.out
      cases hz : (chk pe q == 0)
      · have hz2 : (chk pe q != 0) = true := by rw [bne, hz]; rfl
        have hz0 : chk pe q ≠ 0 := by simpa using hz
        have HNQ := Lib.hid (show pQ (prs s) = noQt by rw [HR.out.2.2, pQ, if_neg hz0])
        clear hz0
        go_wp2_with fail
        obtain ⟨W9, hW9⟩ : ∃ W9, ((((w4.setCell ⟨w.heap.size, 0, none⟩ (.int .i64 0)).setCell ⟨w.heap.size, 1, none⟩ (.int .i64 0)).setCell ⟨w.heap.size, 2, none⟩ (.string ⟨#[]⟩)).setCell ⟨w.heap.size, 3, none⟩ (.slice none 0 0)) = W9 := ⟨_, rfl⟩
        have hq := quad_set4 (a' := .int .i64 0) (b' := .int .i64 0) (c' := .string ⟨#[]⟩) (d' := .slice none 0 0) HBX4.out
        have hw9 := below_set4 (B := w.heap.size) (a' := .int .i64 0) (b' := .int .i64 0) (c' := .string ⟨#[]⟩) (d' := .slice none 0 0) HB4.out (Nat.le_refl _)
        rw [hW9] at hq hw9
        rw [hW9]
        obtain ⟨z0, z1, z2, z3⟩ := quad_cells hq
        exact bodyPost_ret (v := .tuple #[.agg #[.int .i64 0, .int .i64 0, .string ⟨#[]⟩, .slice none 0 0], .int .i64 0, .int .i64 (chk pe q)]) (by simp [results, Tryd.results13, go_sem, z0, z1, z2, z3]) rfl ⟨hw9, _, by rw [HR.out.1, HR.out.2.1]; rfl, no_at2 HNQ.out _ _⟩
      · have hz1 : chk pe q = 0 := by simpa using hz
        have HYQ := Lib.hid (show pQ (prs s) = q by rw [HR.out.2.2, pQ, if_pos hz1])
        have HEQ := Lib.hid (show pEr (prs s) = 0 by rw [HR.out.2.1, pEr, hz1])
        rw [hz1]
        clear hz hz1
        go_wp2_with fail
        obtain ⟨W9, hW9⟩ : ∃ W9, ((((w4.setCell ⟨w.heap.size, 0, none⟩ (.int .i64 qo)).setCell ⟨w.heap.size, 1, none⟩ (.int .i64 qr)).setCell ⟨w.heap.size, 2, none⟩ (.string qt)).setCell ⟨w.heap.size, 3, none⟩ (.slice A l c)) = W9 := ⟨_, rfl⟩
        have hq := quad_set4 (a' := .int .i64 qo) (b' := .int .i64 qr) (c' := .string qt) (d' := .slice A l c) HBX4.out
        have hw9 := below_set4 (B := w.heap.size) (a' := .int .i64 qo) (b' := .int .i64 qr) (c' := .string qt) (d' := .slice A l c) HB4.out (Nat.le_refl _)
        have hqa := fin_at (w' := W9) (QN.set4 (HQN.out.keep fun p _ hp => HB34.out.cell (p := p) (by have := HB23.out.size; omega)) (b := w.heap.size) (by rw [HZ1.out]; omega) (.int .i64 qo) (.int .i64 qr) (.string qt) (.slice A l c)) (fun p _ _ => by rw [hW9]) (by rw [← hW9]; simp; have := HB34.out.size; have := HB23.out.size; omega)
        rw [hW9] at hq hw9
        rw [hW9]
        obtain ⟨z0, z1, z2, z3⟩ := quad_cells hq
        exact bodyPost_ret (v := .tuple #[.agg #[.int .i64 qo, .int .i64 qr, .string qt, .slice A l c], .int .i64 0, .int .i64 0]) (by simp [results, Tryd.results13, go_sem, z0, z1, z2, z3]) rfl ⟨hw9, _, by rw [HR.out.1, HEQ.out]; rfl, by rw [HYQ.out]; exact hqa⟩
set_option maxHeartbeats 3200000 in
set_option maxRecDepth 100000 in
theorem parse23 (s : ByteArray) (w : World) (hs : s.size ≤ 4194303) : Calls Tryd.prog 23 #[.string s] w (PaOut s w) := by
  obtain ⟨W1, hW1⟩ : ∃ W1, w.alloc (.cells #[.int .i64 0, .int .i64 0, .string ⟨#[]⟩, .slice none 0 0] 25) = W1 := ⟨_, rfl⟩
  have hbx := quad_new w (.int .i64 0) (.int .i64 0) (.string ⟨#[]⟩) (.slice none 0 0) 25
  have hb1 : Below w.heap.size w W1 := by rw [← hW1]; exact below_one w _
  have hz1' : W1.heap.size = w.heap.size + 1 := by rw [← hW1]; simp
  rw [hW1] at hbx
  have HB1 := Lib.hid hb1
  have HBX1 := Lib.hid hbx
  have HZ1 := Lib.hid hz1'
  have HW1 := Lib.hid hW1
  have E1 := Lib.hid (parse33_ s (by omega) (s.size + 1) 0 W1 (Nat.zero_le _) (by omega))
  obtain ⟨x, hx⟩ : ∃ x, pq false (s.size + 1) (rest s 0) = x := ⟨_, rfl⟩
  rw [hx] at E1
  have HX := Lib.hid hx
  have HPR := Lib.hid (show prs s = whole x s.size by rw [prs_ref, hx])
  have HPOS := Lib.hid (pq_bd false (s.size + 1) (rest s 0))
  clear hbx hb1 hz1' hW1 hx
  go_enter Tryd.func23, Tryd.ntmps23
  go_wp2_with fail
  rw [HW1.out]
  clear HW1
  refine E1.out.mono ?_
  rintro e w2 ⟨⟨qo, qr, qt, A, l, c, rfl, hok⟩, hb12⟩
  have HB2 := Lib.hid (HB1.out.trans (hb12.mono HB1.out.size))
  have HBX2 := Lib.hid (heap_below HBX1.out hb12)
  have hsz2 := hb12.size
  rw [HZ1.out] at hsz2
  clear hb12
  obtain ⟨w3, hw3⟩ : ∃ w3, w2.alloc (.cells #[.int .i64 qo, .int .i64 qr, .string qt, .slice A l c] 25) = w3 := ⟨_, rfl⟩
  have hq3 := quad_new w2 (.int .i64 qo) (.int .i64 qr) (.string qt) (.slice A l c) 25
  have hbx3 := heap_later HBX2.out (.cells #[.int .i64 qo, .int .i64 qr, .string qt, .slice A l c] 25)
  have hb3 : Below w.heap.size w w3 := by rw [← hw3]; exact HB2.out.alloc HB2.out.size _
  have hb23 := below_one w2 (.cells #[.int .i64 qo, .int .i64 qr, .string qt, .slice A l c] 25)
  rw [hw3] at hq3 hbx3 hb23
  have HQ3 := Lib.hid hq3
  have HBX3 := Lib.hid hbx3
  have HB3 := Lib.hid hb3
  have HB23 := Lib.hid hb23
  have HW3 := Lib.hid hw3
  clear hw3 hq3 hbx3 hb3 hb23
  cases x with
  | bad n =>
    have HR := Lib.hid (pa_is (s := s) (x := .inr n) (by rw [HPR.out]; rfl))
    rw [show isOk (Rd.bad n : Rd Qt) = false from rfl, show (0 + (Rd.bad n : Rd Qt).pos : Nat) = n by rw [Rd.pos, Nat.zero_add]]
    clear hok
    obtain ⟨c0, c1, c2, c3⟩ := quad_cells HBX3.out
    obtain ⟨d0, d1, d2, d3⟩ := quad_soft HBX3.out
    go_upto_region 2 with (fail)
    rw [HW3.out]
    clear HW3
    go_wp2_with fail
    obtain ⟨W9, hW9⟩ : ∃ W9, ((((w3.setCell ⟨w.heap.size, 0, none⟩ (.int .i64 0)).setCell ⟨w.heap.size, 1, none⟩ (.int .i64 0)).setCell ⟨w.heap.size, 2, none⟩ (.string ⟨#[]⟩)).setCell ⟨w.heap.size, 3, none⟩ (.slice none 0 0)) = W9 := ⟨_, rfl⟩
    have hq := quad_set4 (a' := .int .i64 0) (b' := .int .i64 0) (c' := .string ⟨#[]⟩) (d' := .slice none 0 0) HBX3.out
    have hw9 := below_set4 (B := w.heap.size) (a' := .int .i64 0) (b' := .int .i64 0) (c' := .string ⟨#[]⟩) (d' := .slice none 0 0) HB3.out (Nat.le_refl _)
    rw [hW9] at hq hw9
    rw [hW9]
    obtain ⟨z0, z1, z2, z3⟩ := quad_cells hq
    exact bodyPost_ret (v := .tuple #[.agg #[.int .i64 0, .int .i64 0, .string ⟨#[]⟩, .slice none 0 0], .int .i64 (n : Int), .int .i64 28]) (by simp [results, Tryd.results23, go_sem, z0, z1, z2, z3]) rfl ⟨hw9, _, by rw [HR.out.1, HR.out.2.1]; rfl, no_at2 HR.out.2.2 _ _⟩
  | ok q n =>
    have hqn := hok q n rfl
    have HQN := Lib.hid ((hqn.keep fun p _ hp => HB23.out.cell (p := p) hp))
    have hpos := HPOS.out
    rw [HX.out, rest_len, Rd.pos] at hpos
    rw [show isOk (Rd.ok q n : Rd Qt) = true from rfl, show (0 + (Rd.ok q n : Rd Qt).pos : Nat) = n by rw [Rd.pos, Nat.zero_add]]
    clear hok hqn
    obtain ⟨c0, c1, c2, c3⟩ := quad_cells HBX3.out
    obtain ⟨d0, d1, d2, d3⟩ := quad_soft HBX3.out
    by_cases hn : n < s.size
    · have HR := Lib.hid (pa_is (s := s) (x := .inr n) (by rw [HPR.out, whole, if_pos hn]))
      go_upto_region 2 with (fail)
      rw [HW3.out]
      clear HW3
      go_wp2_with fail
      obtain ⟨W9, hW9⟩ : ∃ W9, ((((w3.setCell ⟨w.heap.size, 0, none⟩ (.int .i64 0)).setCell ⟨w.heap.size, 1, none⟩ (.int .i64 0)).setCell ⟨w.heap.size, 2, none⟩ (.string ⟨#[]⟩)).setCell ⟨w.heap.size, 3, none⟩ (.slice none 0 0)) = W9 := ⟨_, rfl⟩
      have hq := quad_set4 (a' := .int .i64 0) (b' := .int .i64 0) (c' := .string ⟨#[]⟩) (d' := .slice none 0 0) HBX3.out
      have hw9 := below_set4 (B := w.heap.size) (a' := .int .i64 0) (b' := .int .i64 0) (c' := .string ⟨#[]⟩) (d' := .slice none 0 0) HB3.out (Nat.le_refl _)
      rw [hW9] at hq hw9
      rw [hW9]
      obtain ⟨z0, z1, z2, z3⟩ := quad_cells hq
      exact bodyPost_ret (v := .tuple #[.agg #[.int .i64 0, .int .i64 0, .string ⟨#[]⟩, .slice none 0 0], .int .i64 (n : Int), .int .i64 28]) (by simp [results, Tryd.results23, go_sem, z0, z1, z2, z3]) rfl ⟨hw9, _, by rw [HR.out.1, HR.out.2.1]; rfl, no_at2 HR.out.2.2 _ _⟩
    · have HR := Lib.hid (pa_is (s := s) (x := .inl q) (by rw [HPR.out, whole, if_neg hn]))
      obtain ⟨htb, hsz⟩ := pq_small HX.out (by rw [rest_len]; omega)
      rw [rest_len] at hsz
      have HQA := Lib.hid (show QAt w3 w3.heap.size q (.agg #[.int .i64 qo, .int .i64 qr, .string qt, .slice A l c]) from HQN.out.at_.more HB23.out.size)
      have EC := Lib.hid (check19 q _ w3 (by omega) htb HQA.out)
      have hlt3 := lt_of_heap HQ3.out
      clear htb hsz
      obtain ⟨y0, y1, y2, y3⟩ := quad_cells HQ3.out
      go_upto_region 2 with (fail)
      rw [HW3.out]
      clear HW3
      go_wp2_with fail
      refine EC.out.mono ?_
      rintro e w4 ⟨rfl, hb4⟩
      have HBX4 := Lib.hid (heap_below HBX3.out hb4)
      have HQ4 := Lib.hid (heap_below HQ3.out hb4)
      have HB4 := Lib.hid (HB3.out.trans (hb4.mono HB3.out.size))
      have hz4 := hb4.size
      have hzw : w2.heap.size ≤ w3.heap.size := HB23.out.size
      have HB34 := Lib.hid hb4
      clear hb4 c0 c1 c2 c3 d0 d1 d2 d3 y0 y1 y2 y3
      obtain ⟨c0, c1, c2, c3⟩ := quad_cells HBX4.out
      obtain ⟨d0, d1, d2, d3⟩ := quad_soft HBX4.out
      obtain ⟨y0, y1, y2, y3⟩ := quad_cells HQ4.out
      cases hz : (chk pe q == 0)
      · have hz2 : (chk pe q != 0) = true := by rw [bne, hz]; rfl
        have hz0 : chk pe q ≠ 0 := by simpa using hz
        have HNQ := Lib.hid (show pQ (prs s) = noQt by rw [HR.out.2.2, pQ, if_neg hz0])
        clear hz0
        go_wp2_with fail
        obtain ⟨W9, hW9⟩ : ∃ W9, ((((w4.setCell ⟨w.heap.size, 0, none⟩ (.int .i64 0)).setCell ⟨w.heap.size, 1, none⟩ (.int .i64 0)).setCell ⟨w.heap.size, 2, none⟩ (.string ⟨#[]⟩)).setCell ⟨w.heap.size, 3, none⟩ (.slice none 0 0)) = W9 := ⟨_, rfl⟩
        have hq := quad_set4 (a' := .int .i64 0) (b' := .int .i64 0) (c' := .string ⟨#[]⟩) (d' := .slice none 0 0) HBX4.out
        have hw9 := below_set4 (B := w.heap.size) (a' := .int .i64 0) (b' := .int .i64 0) (c' := .string ⟨#[]⟩) (d' := .slice none 0 0) HB4.out (Nat.le_refl _)
        rw [hW9] at hq hw9
        rw [hW9]
        obtain ⟨z0, z1, z2, z3⟩ := quad_cells hq
        exact bodyPost_ret (v := .tuple #[.agg #[.int .i64 0, .int .i64 0, .string ⟨#[]⟩, .slice none 0 0], .int .i64 0, .int .i64 (chk pe q)]) (by simp [results, Tryd.results23, go_sem, z0, z1, z2, z3]) rfl ⟨hw9, _, by rw [HR.out.1, HR.out.2.1]; rfl, no_at2 HNQ.out _ _⟩
      · have hz1 : chk pe q = 0 := by simpa using hz
        have HYQ := Lib.hid (show pQ (prs s) = q by rw [HR.out.2.2, pQ, if_pos hz1])
        have HEQ := Lib.hid (show pEr (prs s) = 0 by rw [HR.out.2.1, pEr, hz1])
        rw [hz1]
        clear hz hz1
        go_wp2_with fail
        obtain ⟨W9, hW9⟩ : ∃ W9, ((((w4.setCell ⟨w.heap.size, 0, none⟩ (.int .i64 qo)).setCell ⟨w.heap.size, 1, none⟩ (.int .i64 qr)).setCell ⟨w.heap.size, 2, none⟩ (.string qt)).setCell ⟨w.heap.size, 3, none⟩ (.slice A l c)) = W9 := ⟨_, rfl⟩
        have hq := quad_set4 (a' := .int .i64 qo) (b' := .int .i64 qr) (c' := .string qt) (d' := .slice A l c) HBX4.out
        have hw9 := below_set4 (B := w.heap.size) (a' := .int .i64 qo) (b' := .int .i64 qr) (c' := .string qt) (d' := .slice A l c) HB4.out (Nat.le_refl _)
        have hqa := fin_at (w' := W9) (QN.set4 (HQN.out.keep fun p _ hp => HB34.out.cell (p := p) (by have := HB23.out.size; omega)) (b := w.heap.size) (by rw [HZ1.out]; omega) (.int .i64 qo) (.int .i64 qr) (.string qt) (.slice A l c)) (fun p _ _ => by rw [hW9]) (by rw [← hW9]; simp; have := HB34.out.size; have := HB23.out.size; omega)
        rw [hW9] at hq hw9
        rw [hW9]
        obtain ⟨z0, z1, z2, z3⟩ := quad_cells hq
        exact bodyPost_ret (v := .tuple #[.agg #[.int .i64 qo, .int .i64 qr, .string qt, .slice A l c], .int .i64 0, .int .i64 0]) (by simp [results, Tryd.results23, go_sem, z0, z1, z2, z3]) rfl ⟨hw9, _, by rw [HR.out.1, HEQ.out]; rfl, by rw [HYQ.out]; exact hqa⟩
end Go.Proofs.YtgbjldkbbbjnkaaDoor
