/-
  What Lines of words, and Split and Lines of the reference, return, for strings of at most 4194304 bytes.
-/
import Derived.Test.YtkkacgabikbedaaDoorSplit
namespace Go.Proofs.YtkkacgabikbedaaDoor
open Go.RowKit Go.PlainAid

/-! A scan that cuts a string at a byte. -/
def CutInv (c : UInt8) (L : List UInt8) (i b : Nat) (done : List (List UInt8)) : Prop :=
  b ≤ i ∧ i ≤ L.length ∧ Wd.pieces c L = done ++ Wd.pieces c (L.drop b) ∧ ∀ x ∈ (L.drop b).take (i - b), x ≠ c
theorem CutInv.start (c : UInt8) (L : List UInt8) : CutInv c L 0 0 [] := ⟨Nat.le_refl _, Nat.zero_le _, by simp, by simp⟩
theorem take_more {L : List UInt8} {i b : Nat} {x : UInt8} (hb : b ≤ i) (h : L[i]? = some x) : (L.drop b).take (i + 1 - b) = (L.drop b).take (i - b) ++ [x] := by
  have e : i + 1 - b = (i - b) + 1 := by omega
  rw [e]
  refine take_one ?_
  rw [List.getElem?_drop, show b + (i - b) = i by omega]
  exact h
theorem CutInv.skip {c x : UInt8} {L : List UInt8} {i b : Nat} {done : List (List UInt8)} (h : CutInv c L i b done) (hx : L[i]? = some x) (hne : x ≠ c) : CutInv c L (i + 1) b done := by
  have hl : i < L.length := (List.getElem?_eq_some_iff.1 hx).1
  refine ⟨by have := h.1; omega, by omega, h.2.2.1, fun y hy => ?_⟩
  rw [take_more h.1 hx, List.mem_append, List.mem_singleton] at hy
  rcases hy with hy | rfl
  · exact h.2.2.2 y hy
  · exact hne
theorem CutInv.split {c : UInt8} {L : List UInt8} {i b : Nat} {done : List (List UInt8)} (h : CutInv c L i b done) (hx : L[i]? = some c) : Wd.pieces c L = (done ++ [(L.drop b).take (i - b)]) ++ Wd.pieces c (L.drop (i + 1)) := by
  have hl : i < L.length := (List.getElem?_eq_some_iff.1 hx).1
  have e : L.drop b = (L.drop b).take (i - b) ++ c :: L.drop (i + 1) := by
    conv => lhs; rw [← List.take_append_drop (i - b) (L.drop b)]
    congr 1
    rw [List.drop_drop, show b + (i - b) = i by have := h.1; omega, List.drop_eq_getElem_cons hl]
    congr 1
    exact Option.some.inj ((List.getElem?_eq_getElem hl).symm.trans hx)
  have hp := Wd.pieces_cut (c := c) ((L.drop b).take (i - b)) (L.drop (i + 1)) h.2.2.2
  rw [← e] at hp
  rw [h.2.2.1, hp]
  simp
theorem CutInv.cut {c : UInt8} {L : List UInt8} {i b : Nat} {done : List (List UInt8)} (h : CutInv c L i b done) (hx : L[i]? = some c) : CutInv c L (i + 1) (i + 1) (done ++ [(L.drop b).take (i - b)]) :=
  ⟨Nat.le_refl _, (List.getElem?_eq_some_iff.1 hx).1, h.split hx, by simp⟩
theorem CutInv.last {c : UInt8} {L : List UInt8} {b : Nat} {done : List (List UInt8)} (h : CutInv c L L.length b done) : Wd.pieces c L = done ++ [(L.drop b).take (L.length - b)] := by
  rw [h.2.2.1]
  congr 1
  have e : (L.drop b).take (L.length - b) = L.drop b := List.take_of_length_le (by rw [List.length_drop]; omega)
  rw [e]
  refine Wd.pieces_last _ fun x hx => h.2.2.2 x ?_
  rw [e]
  exact hx
theorem unqs_of_fail {c : UInt8} {L p : List UInt8} {done rest : List (List UInt8)} (h : Wd.pieces c L = (done ++ [p]) ++ rest) (hf : Wd.unquote p = none) : Wd.unqs (Wd.pieces c L) = none := by
  rw [h, List.append_assoc]
  exact Wd.unqs_fail _ hf
/-- Where the scan of Lines ends at the end, the cut pieces are the lines. -/
theorem glue_end (c : UInt8) (q : List (List UInt8)) : Wd.glue c (q ++ [[]]) = q.flatMap (· ++ [c]) := by
  cases q with
  | nil => rfl
  | cons p q => rw [glue_more c [] (p :: q) (by simp), Wd.glue_snoc c (p :: q) (by simp)]
theorem CutInv.lines_yes {L : List UInt8} {done : List (List UInt8)} (h : CutInv 10 L L.length L.length done) : Wd.linesL L = some done := by
  have hp := h.2.2.1
  rw [List.drop_length] at hp
  have hL : L = Wd.textL done := by
    have := Wd.glue_pieces 10 L
    rw [hp, show Wd.pieces 10 [] = [[]] from rfl, glue_end] at this
    exact this.symm
  have hc : ∀ p ∈ done, ∀ x ∈ p, x ≠ 10 := fun p hpd => Wd.pieces_clean L p (by rw [hp]; exact List.mem_append_left _ hpd)
  rw [hL]
  exact Wd.lines_text hc
theorem CutInv.lines_no {L : List UInt8} {b : Nat} {done : List (List UInt8)} (h : CutInv 10 L L.length b done) (hb : b ≠ L.length) : Wd.linesL L = none := by
  have hlt : b < L.length := by have := h.1; omega
  have e : (L.drop b).take (L.length - b) = L.drop b := List.take_of_length_le (by rw [List.length_drop]; omega)
  have hne : L.drop b ≠ [] := by intro e2; have := congrArg List.length e2; rw [List.length_drop] at this; simp at this; omega
  have hLne : L ≠ [] := by rintro rfl; simp at hlt
  have hlast : L.getLast? ≠ some 10 := by
    intro hl
    have h1 : (L.drop b).getLast? = some 10 := by rw [List.getLast?_drop, if_neg (by omega)]; exact hl
    have h2 := List.mem_of_getLast? h1
    rw [← e] at h2
    exact h.2.2.2 10 h2 rfl
  unfold Wd.linesL
  rw [if_neg (by simpa using hLne), if_neg hlast]

/-! Lines of words. -/
theorem suffix_ten (l : List UInt8) : Lib.hasSuffix l [10] = (l.getLast? == some 10) := by
  unfold Lib.hasSuffix
  rw [Bool.eq_iff_iff, List.isSuffixOf_iff_suffix, beq_iff_eq]
  constructor
  · rintro ⟨t, rfl⟩; simp
  · intro h
    obtain ⟨ys, rfl⟩ := List.getLast?_eq_some_iff.1 h
    exact ⟨ys, rfl⟩
theorem trim_ten {l : List UInt8} (h : Lib.hasSuffix l [10] = true) : Lib.trimSuffix l [10] = l.dropLast := by
  unfold Lib.trimSuffix
  rw [if_pos h, List.dropLast_eq_take]; rfl
theorem lines25_empty (s : ByteArray) (w : World) (h : s.toList.isEmpty = true) : Calls Tryd.prog 25 #[.string s] w (LstOut (Wd.linesL s.data.toList) w) := by
  have e : Wd.linesL s.data.toList = some [] := by rw [empty_iff] at h; unfold Wd.linesL; rw [if_pos h]
  have E := Lib.hid e
  clear e
  go_enter Tryd.func25, Tryd.ntmps25
  go_wp2_with fail
  go_ret2
  rw [E.out]
  exact ⟨_, rfl, World.ownsRow_nil _ _ _ _, Below.refl _ _⟩
theorem own_lit9 (w : World) (ps : List (List UInt8)) (hn : ps.length ≤ maxLen) : (w.alloc (.cells (SS ps).toArray 9)).ownsRow w.heap.size 9 1 (.slice (some ⟨w.heap.size, 0, none⟩) ps.length ps.length) ps.length (SS ps) :=
  ⟨by rw [SS_length]; omega, .inr ⟨w.heap.size, ps.length, (SS ps).toArray, rfl, Nat.le_refl _, heap_alloc_new w _, Nat.le_refl _, hn, by simp [SS_length], by simp [← SS_length]⟩⟩
theorem lines25_some (s : ByteArray) (w : World) (hs : s.size ≤ 4194304) (hm : Mx w) (h : s.toList.isEmpty = false) : Calls Tryd.prog 25 #[.string s] w (LstOut (Wd.linesL s.data.toList) w) := by
  have HC := Lib.hid (Tryd.strings_CutSuffix s ⟨#[10]⟩ w (by omega))
  rw [show (⟨#[10]⟩ : ByteArray).data.toList = [10] from rfl] at HC
  have h' := h
  rw [empty_iff] at h'
  cases hf : Lib.hasSuffix s.data.toList [10]
  · have E := Lib.hid (show Wd.linesL s.data.toList = none by
      rw [suffix_ten, beq_eq_false_iff_ne] at hf
      unfold Wd.linesL
      rw [h', if_neg (by decide), if_neg hf])
    rw [hf] at HC
    clear hf h' hm
    go_enter Tryd.func25, Tryd.ntmps25
    go_wp2_with fail
    refine HC.out.mono ?_
    rintro e w' ⟨rfl, rfl⟩
    go_wp2_with fail
    go_ret2
    rw [E.out]
    exact ⟨_, rfl, World.ownsRow_nil _ _ _ _, Below.refl _ _⟩
  · have E := Lib.hid (show Wd.linesL s.data.toList = some (Wd.pieces 10 s.data.toList.dropLast) by
      have hf' := hf
      rw [suffix_ten, beq_iff_eq] at hf'
      unfold Wd.linesL
      rw [h', if_neg (by decide), if_pos hf'])
    rw [trim_ten hf, hf] at HC
    have hsz : (⟨s.data.toList.dropLast.toArray⟩ : ByteArray).size ≤ 4194304 := by
      rw [str_size, List.length_dropLast, size_list]; omega
    have HS := Lib.hid (fun w hm => split_lib ⟨s.data.toList.dropLast.toArray⟩ 10 w hsz hm)
    rw [str_data] at HS
    have hbd := ps_bd 10 s.data.toList.dropLast
    rw [List.length_dropLast, size_list] at hbd
    have hpl := tot_len (Wd.pieces 10 s.data.toList.dropLast)
    obtain ⟨ps, hps⟩ : ∃ ps, Wd.pieces 10 s.data.toList.dropLast = ps := ⟨_, rfl⟩
    rw [hps] at HS E hbd hpl
    have hn : ps.length ≤ maxLen := by unfold maxLen; omega
    have HM := Lib.hid hm
    clear hf h' hbd hps hm hsz
    go_enter Tryd.func25, Tryd.ntmps25
    go_wp2_with fail
    refine HC.out.mono ?_
    rintro e w' ⟨rfl, rfl⟩
    go_wp2_with fail
    refine (HS.out _ HM.out).mono ?_
    rintro e w1 ⟨rfl, hw1⟩
    have HW := Lib.hid hw1
    clear hw1
    go_wp2_with fail
    go_ret2
    rw [E.out, HW.out]
    exact ⟨_, rfl, own_lit9 _ ps hn, (Below.refl _ _).alloc (Nat.le_refl _) _⟩
theorem lines25 (s : ByteArray) (w : World) (hs : s.size ≤ 4194304) (hm : Mx w) : Calls Tryd.prog 25 #[.string s] w (LstOut (Wd.linesL s.data.toList) w) := by
  cases h : s.toList.isEmpty
  · exact lines25_some s w hs hm h
  · exact lines25_empty s w h

/-! The reference's Lines and Split. -/
theorem byte_is {s : ByteArray} {i : Nat} (h : i < s.size) {c : UInt8} (hc : bt s i = (c.toNat : Int)) : s.data.toList[i]? = some c := by
  rw [List.getElem?_eq_getElem (by rw [size_list]; exact h)]
  rw [bt_of s i h] at hc
  exact congrArg some (UInt8.toNat_inj.1 (by show s[i].toNat = _; omega))
theorem byte_some (s : ByteArray) {i : Nat} (h : i < s.size) : ∃ c : UInt8, s.data.toList[i]? = some c ∧ bt s i = (c.toNat : Int) :=
  ⟨s[i], by rw [List.getElem?_eq_getElem (by rw [size_list]; exact h)]; rfl, bt_of s i h⟩
theorem ext_str (s : ByteArray) (a b : Nat) : s.extract a b = ⟨((s.data.toList.drop a).take (b - a)).toArray⟩ := by
  apply ByteArray.ext
  apply Array.toList_inj.1
  rw [Lib.extract_data]
theorem ext_size (s : ByteArray) (a b : Nat) : (s.extract a b).size ≤ s.size := by
  rw [← size_list, Lib.extract_data, List.length_take, List.length_drop, size_list]; omega
set_option maxHeartbeats 1600000 in
theorem lines26 (s : ByteArray) (w : World) (hs : s.size ≤ 4194304) : Calls Tryd.prog 26 #[.string s] w (LstOut (Wd.linesL s.data.toList) w) := by
  have hbt := get_bt s
  obtain ⟨i0, hi, hz0, hz1, hz2⟩ := info_parts info9
  have HI9 := Lib.hid hi
  have HZ0 := Lib.hid hz0
  have HZ1 := Lib.hid hz1
  have HZ2 := Lib.hid hz2
  clear hi hz0 hz1 hz2
  go_enter Tryd.func26, Tryd.ntmps26
  go_wp2_with fail
  go_loopw [4, 5, 6] (fun v f i wr => ∃ (k b : Nat) (o : List (List UInt8)), k ≤ s.size ∧ b ≤ k ∧ i = .int .i64 k ∧ f = .int .i64 b ∧ o.length ≤ k ∧ CutInv 10 s.data.toList k b o ∧ wr.ownsRow w.heap.size 9 1 v o.length (SS o) ∧ Below w.heap.size w wr) (fun _ _ i _ => s.size - (intOf i).toNat)
  case atStart => exact ⟨0, 0, [], Nat.zero_le _, Nat.le_refl _, rfl, rfl, Nat.le_refl _, CutInv.start _ _, own_empty9 w, (Below.refl _ _).alloc (Nat.le_refl _) _⟩
  case round =>
    obtain ⟨k, b, o, hk, hbk, rfl, rfl, hok, hU, hI, hb⟩ := hrel
    have HU := Lib.hid hU
    have HI := Lib.hid hI
    clear hI hU
    by_cases hlt : k < s.size
    · obtain ⟨c, hc, hbc⟩ := byte_some s hlt
      have b0 := bt_nonneg s k
      have b1 := bt_le s k
      have HC := Lib.hid hc
      have HB := Lib.hid hbc
      clear hc hbc
      by_cases h10 : bt s k = 10
      · have hq : (bt s k == 10) = true := by simpa using h10
        have hc10 : c = 10 := UInt8.toNat_inj.1 (by have := HB.out; show c.toNat = 10; omega)
        have HT := Lib.hid (hc10 ▸ HC.out)
        clear h10 hc10
        go_wp2_with (at_builtin; refine wpList_append_own _ rfl _ _ 28 rfl w.heap.size 9 i0 (.string ⟨#[]⟩) 1 16 Tryd.underlying28 HI9.out HZ0.out HZ1.out HZ2.out rfl (by decide) _ _ _ rfl (HI.out.alloc _) ⟨wr.heap.size, 0, none⟩ 1 1 [.string (s.extract b k)] rfl rfl ?c1 ?c2 ?c3 ?c4 ?c5 ?_)
        case c1 => exact cells_one wr _ 9
        case c2 => intro u hu; simp at hu; subst hu; rfl
        case c3 => unfold maxLen; omega
        case c4 => omega
        case c5 => have := hb.size; simp; omega
        intro v' w3 hown' hgrow hnil
        clear hnil
        have HO := Lib.hid hown'
        clear hown'
        have hb3 := (hb.alloc hb.size _).grown hgrow (by have := hb.size; simp; omega) (fun k hk => (HI.out.lt k hk).1)
        clear hgrow
        go_wp2_with fail
        go_roundw
        case rel => exact ⟨k + 1, k + 1, o ++ [(s.data.toList.drop b).take (k - b)], by omega, by omega, by go_num, by go_num, by simp; omega, HU.out.cut HT.out, by rw [SS_snoc, List.length_append, ← ext_str]; exact HO.out, hb3⟩
        case measure => simp [intOf]; omega
      · have hq : (bt s k == 10) = false := by simpa using h10
        have hc10 : c ≠ 10 := fun e => h10 (by rw [HB.out, e]; rfl)
        have HN := Lib.hid hc10
        clear h10 hc10
        go_wp2_with fail
        go_roundw
        case rel => exact ⟨k + 1, b, o, by omega, by omega, by go_num, rfl, by omega, HU.out.skip HC.out HN.out, HI.out, hb⟩
        case measure => simp [intOf]; omega
    · obtain rfl : k = s.size := by omega
      rw [← size_list] at HU
      by_cases hbe : b = s.size
      · subst hbe
        have E := Lib.hid (CutInv.lines_yes (L := s.data.toList) (done := o) (by have := HU.out; rw [size_list] at this ⊢; exact this))
        go_wp2_with fail
        go_ret2
        rw [E.out]
        exact ⟨_, rfl, HI.out, hb⟩
      · have E := Lib.hid (HU.out.lines_no (by rw [size_list]; exact hbe))
        have hne : ((b : Int) != (s.size : Int)) = true := by rw [bne_iff_ne]; omega
        clear hbe
        go_wp2_with fail
        go_ret2
        rw [E.out]
        exact ⟨_, rfl, World.ownsRow_nil _ _ _ _, hb⟩
theorem split23_empty (s : ByteArray) (w : World) (h : s.toList.isEmpty = true) : Calls Tryd.prog 23 #[.string s] w (LstOut (Wd.splitL s.data.toList) w) := by
  have e : Wd.splitL s.data.toList = some [] := by rw [empty_iff] at h; unfold Wd.splitL; rw [if_pos h]
  have E := Lib.hid e
  clear e
  go_enter Tryd.func23, Tryd.ntmps23
  go_wp2_with fail
  go_ret2
  rw [E.out]
  exact ⟨_, rfl, World.ownsRow_nil _ _ _ _, Below.refl _ _⟩
/-- What the scan of Split holds: at place k, or behind the end. -/
def SplInv (s : ByteArray) (k b : Nat) (done : List (List UInt8)) : Prop :=
  (k ≤ s.size ∧ CutInv 32 s.data.toList k b done) ∨ (k = s.size + 1 ∧ Wd.pieces 32 s.data.toList = done)
set_option maxHeartbeats 1600000 in
theorem split23_some (s : ByteArray) (w : World) (hs : s.size ≤ 4194304) (h : s.toList.isEmpty = false) : Calls Tryd.prog 23 #[.string s] w (LstOut (Wd.splitL s.data.toList) w) := by
  have hbt := get_bt s
  have E := Lib.hid (show Wd.splitL s.data.toList = Wd.unqs (Wd.pieces 32 s.data.toList) by rw [empty_iff] at h; unfold Wd.splitL; rw [h]; rfl)
  obtain ⟨i0, hi, hz0, hz1, hz2⟩ := info_parts info9
  have HI9 := Lib.hid hi
  have HZ0 := Lib.hid hz0
  have HZ1 := Lib.hid hz1
  have HZ2 := Lib.hid hz2
  clear hi hz0 hz1 hz2
  go_enter Tryd.func23, Tryd.ntmps23
  go_wp2_with fail
  go_loopw [4, 5, 6] (fun v f i wr => ∃ (k b : Nat) (done o : List (List UInt8)), k ≤ s.size + 1 ∧ b ≤ k ∧ i = .int .i64 k ∧ f = .int .i64 b ∧ o.length ≤ k ∧ SplInv s k b done ∧ Wd.unqs done = some o ∧ wr.ownsRow w.heap.size 9 1 v o.length (SS o) ∧ Below w.heap.size w wr) (fun _ _ i _ => s.size + 1 - (intOf i).toNat)
  case atStart => exact ⟨0, 0, [], [], Nat.zero_le _, Nat.le_refl _, rfl, rfl, Nat.le_refl _, .inl ⟨Nat.zero_le _, CutInv.start _ _⟩, rfl, own_empty9 w, (Below.refl _ _).alloc (Nat.le_refl _) _⟩
  case round =>
    obtain ⟨k, b, done, o, hk, hbk, rfl, rfl, hok, hV, hU, hI, hb⟩ := hrel
    have HV := Lib.hid hV
    have HU := Lib.hid hU
    have HI := Lib.hid hI
    clear hI hU hV
    by_cases hle : k ≤ s.size
    · have HC := Lib.hid (show CutInv 32 s.data.toList k b done by
        rcases HV.out with h | h
        · exact h.2
        · omega)
      by_cases hskip : k < s.size ∧ ¬ bt s k = 32
      · obtain ⟨hlt, h32⟩ := hskip
        obtain ⟨c, hc, hbc⟩ := byte_some s hlt
        have HN := Lib.hid (show SplInv s (k + 1) b done from .inl ⟨by omega, HC.out.skip hc (fun e => h32 (by rw [hbc, e]; rfl))⟩)
        have hq : (bt s k != 32) = true := by simpa using h32
        clear hc hbc h32
        go_wp2_with fail
        go_roundw
        case rel => exact ⟨k + 1, b, done, o, by omega, by omega, by go_num, rfl, by omega, HN.out, HU.out, HI.out, hb⟩
        case measure => simp [intOf]; omega
      · obtain ⟨p, hp⟩ : ∃ p, (s.data.toList.drop b).take (k - b) = p := ⟨_, rfl⟩
        have hstep : SplInv s (k + 1) (k + 1) (done ++ [p]) ∧ ∃ rest, Wd.pieces 32 s.data.toList = (done ++ [p]) ++ rest := by
          by_cases hlt : k < s.size
          · have h32 : bt s k = 32 := by
              by_cases h : bt s k = 32
              · exact h
              · exact absurd ⟨hlt, h⟩ hskip
            have hx := byte_is (c := 32) hlt h32
            have h1 := HC.out.cut hx
            have h2 := HC.out.split hx
            rw [hp] at h1 h2
            exact ⟨.inl ⟨by omega, h1⟩, _, h2⟩
          · have hkk : k = s.data.toList.length := by rw [size_list]; omega
            have h1 : CutInv 32 s.data.toList s.data.toList.length b done := hkk ▸ HC.out
            have h2 := h1.last
            rw [← hkk, hp] at h2
            exact ⟨.inr ⟨by omega, h2⟩, [], by rw [h2]; simp⟩
        have HS := Lib.hid hstep
        have HP := Lib.hid hp
        have hext : s.extract b k = ⟨p.toArray⟩ := by rw [ext_str, hp]
        have hpl : p.length ≤ s.size := by rw [← hp, List.length_take, List.length_drop, size_list]; omega
        clear hstep hp
        have hsz : p.length ≤ 4194304 := by omega
        have HQ0 := Lib.hid (fun w => unquoteRL ⟨p.toArray⟩ w (by rw [str_size]; exact hsz))
        rw [str_data] at HQ0
        have hcond : (decide (k < s.size) && (bt s k != 32)) = false := by
          by_cases hlt : k < s.size
          · by_cases h : bt s k = 32
            · simp [h]
            · exact absurd ⟨hlt, h⟩ hskip
          · simp [hlt]
        clear hskip
        by_cases hlt : k < s.size
        · have hq : (bt s k != 32) = false := by simpa [hlt] using hcond
          clear hcond
          go_wp2_with fail
          refine (HQ0.out _).mono ?_
          rintro e w2 ⟨rfl, hb2⟩
          have HI2 := Lib.hid (own_below HI.out hb2)
          have hb2' := hb.trans (hb2.mono hb.size)
          clear hb2
          cases hu : uqB p
          · obtain ⟨rest, hrest⟩ := HS.out.2
            have HN := Lib.hid (unqs_of_fail hrest (uqB_false hu))
            clear hrest
            go_wp2_with fail
            go_ret2
            rw [E.out, HN.out]
            exact ⟨_, rfl, World.ownsRow_nil _ _ _ _, hb2'⟩
          · have HQ := Lib.hid (uqB_true hu)
            go_wp2_with (at_builtin; refine wpList_append_own _ rfl _ _ 28 rfl w.heap.size 9 i0 (.string ⟨#[]⟩) 1 16 Tryd.underlying28 HI9.out HZ0.out HZ1.out HZ2.out rfl (by decide) _ _ _ rfl (HI2.out.alloc _) ⟨w2.heap.size, 0, none⟩ 1 1 [.string ⟨(uqS p).toArray⟩] rfl rfl ?c1 ?c2 ?c3 ?c4 ?c5 ?_)
            case c1 => exact cells_one w2 _ 9
            case c2 => intro u hu; simp at hu; subst hu; rfl
            case c3 => unfold maxLen; omega
            case c4 => omega
            case c5 => have := hb2'.size; simp; omega
            intro v' w3 hown' hgrow hnil
            clear hnil
            have HO := Lib.hid hown'
            clear hown'
            have hb3 := (hb2'.alloc hb2'.size _).grown hgrow (by have := hb2'.size; simp; omega) (fun k hk => (HI2.out.lt k hk).1)
            clear hgrow
            go_wp2_with fail
            go_roundw
            case rel => exact ⟨k + 1, k + 1, done ++ [p], o ++ [uqS p], by omega, by omega, by go_num, by go_num, by simp; omega, HS.out.1, Wd.unqs_snoc HU.out HQ.out, by rw [SS_snoc, List.length_append]; exact HO.out, hb3⟩
            case measure => simp [intOf]; omega
        · clear hcond
          go_wp2_with fail
          refine (HQ0.out _).mono ?_
          rintro e w2 ⟨rfl, hb2⟩
          have HI2 := Lib.hid (own_below HI.out hb2)
          have hb2' := hb.trans (hb2.mono hb.size)
          clear hb2
          cases hu : uqB p
          · obtain ⟨rest, hrest⟩ := HS.out.2
            have HN := Lib.hid (unqs_of_fail hrest (uqB_false hu))
            clear hrest
            go_wp2_with fail
            go_ret2
            rw [E.out, HN.out]
            exact ⟨_, rfl, World.ownsRow_nil _ _ _ _, hb2'⟩
          · have HQ := Lib.hid (uqB_true hu)
            go_wp2_with (at_builtin; refine wpList_append_own _ rfl _ _ 28 rfl w.heap.size 9 i0 (.string ⟨#[]⟩) 1 16 Tryd.underlying28 HI9.out HZ0.out HZ1.out HZ2.out rfl (by decide) _ _ _ rfl (HI2.out.alloc _) ⟨w2.heap.size, 0, none⟩ 1 1 [.string ⟨(uqS p).toArray⟩] rfl rfl ?c1 ?c2 ?c3 ?c4 ?c5 ?_)
            case c1 => exact cells_one w2 _ 9
            case c2 => intro u hu; simp at hu; subst hu; rfl
            case c3 => unfold maxLen; omega
            case c4 => omega
            case c5 => have := hb2'.size; simp; omega
            intro v' w3 hown' hgrow hnil
            clear hnil
            have HO := Lib.hid hown'
            clear hown'
            have hb3 := (hb2'.alloc hb2'.size _).grown hgrow (by have := hb2'.size; simp; omega) (fun k hk => (HI2.out.lt k hk).1)
            clear hgrow
            go_wp2_with fail
            go_roundw
            case rel => exact ⟨k + 1, k + 1, done ++ [p], o ++ [uqS p], by omega, by omega, by go_num, by go_num, by simp; omega, HS.out.1, Wd.unqs_snoc HU.out HQ.out, by rw [SS_snoc, List.length_append]; exact HO.out, hb3⟩
            case measure => simp [intOf]; omega
    · have HE := Lib.hid (show Wd.unqs (Wd.pieces 32 s.data.toList) = some o by
        rcases HV.out with h | h
        · omega
        · rw [h.2]; exact HU.out)
      go_wp2_with fail
      go_ret2
      rw [E.out, HE.out]
      exact ⟨_, rfl, HI.out, hb⟩
theorem split23 (s : ByteArray) (w : World) (hs : s.size ≤ 4194304) : Calls Tryd.prog 23 #[.string s] w (LstOut (Wd.splitL s.data.toList) w) := by
  cases h : s.toList.isEmpty
  · exact split23_some s w hs h
  · exact split23_empty s w h
end Go.Proofs.YtkkacgabikbedaaDoor
