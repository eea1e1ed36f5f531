/-
  The word of a pattern: word of the program and Word of its reference.
-/
import Derived.Test.YtgbjldkbbbjnkaaDoorQuo
import Derived.Test.YtgbjldkbbbjnkaaDoorTxt2
import Derived.Test.YtgbjldkbbbjnkaaDoorLabel
import Derived.Lib.Replace
import Derived.Lib.ReplaceLaws
namespace Go.Proofs.YtgbjldkbbbjnkaaDoor
open Go.RowKit Go.PlainAid Pl

/-- Each byte c is replaced. -/
def rep1 (c : UInt8) (new : List UInt8) (b : UInt8) : List UInt8 := if b = c then new else [b]
theorem rep_none {c : UInt8} {new : List UInt8} : ∀ {l : List UInt8}, l.count c = 0 → l.flatMap (rep1 c new) = l
  | [], _ => rfl
  | b :: l, h => by
    rw [List.count_cons] at h
    have hb : ¬ b = c := fun e => by simp [e] at h
    rw [List.flatMap_cons, rep_none (by omega), rep1, if_neg hb]
    rfl
theorem rep_all {c : UInt8} {new : List UInt8} : ∀ l : List UInt8, Lib.replaceK [c] new (l.count c) l = l.flatMap (rep1 c new)
  | [] => rfl
  | b :: l => by
    have ih := rep_all (c := c) (new := new) l
    by_cases hb : b = c
    · subst hb
      have hi : Lib.index (b :: l) [b] = ((0 : Nat) : Int) := by rw [Lib.index]; simp
      rw [List.count_cons_self, Lib.replaceK_hit _ _ _ _ 0 hi, List.flatMap_cons, rep1, if_pos rfl]
      simp [ih]
    · have hcnt : (b :: l).count c = l.count c := by rw [List.count_cons]; simp [hb]
      rw [hcnt]
      rcases Nat.eq_zero_or_pos (l.count c) with h0 | h0
      · rw [h0]
        rw [rep_none (by rw [hcnt]; exact h0)]
        rfl
      · obtain ⟨i, hi⟩ := Lib.index_of_count (s := l) (old := [c]) (by rw [Lib.count_one]; exact h0)
        obtain ⟨k, hk⟩ : ∃ k, l.count c = k + 1 := ⟨l.count c - 1, by omega⟩
        have hi2 : Lib.index (b :: l) [c] = ((i + 1 : Nat) : Int) := by
          rw [Lib.index]
          have h1 : ([c] : List UInt8).isPrefixOf (b :: l) = false := by simp [List.isPrefixOf, Ne.symm hb]
          rw [h1, hi]
          simp
        rw [hk] at ih ⊢
        rw [Lib.replaceK_hit _ _ _ _ (i + 1) hi2, List.flatMap_cons, ← ih, Lib.replaceK_hit _ _ _ _ i hi, rep1, if_neg hb]
        simp
theorem replace_one {c : UInt8} {new l : List UInt8} (h : new.length = 3) : Lib.replaceAll l [c] new = l.flatMap (rep1 c new) := by
  rw [Lib.replaceAll, Lib.replace, if_neg]
  · rw [Lib.replaceNum, if_pos (.inl (by decide)), Lib.count_one, rep_all]
  · intro e
    rw [beq_iff_eq] at e
    rw [← e] at h
    simp at h
theorem enc_rep (c : UInt8) : ((Wd.enc c).flatMap (rep1 40 [37, 50, 56])).flatMap (rep1 41 [37, 50, 57]) = encq c :=
  all8 (P := fun c => ((Wd.enc c).flatMap (rep1 40 [37, 50, 56])).flatMap (rep1 41 [37, 50, 57]) = encq c) (by decide +kernel) c
theorem wordq_rep (l : List UInt8) : ((Wd.quote l).flatMap (rep1 40 [37, 50, 56])).flatMap (rep1 41 [37, 50, 57]) = wordq l := by
  unfold Wd.quote wordq
  cases l with
  | nil => rfl
  | cons c l =>
    rw [if_neg (by simp), if_neg (by simp)]
    have key : ∀ l : List UInt8, ((l.flatMap Wd.enc).flatMap (rep1 40 [37, 50, 56])).flatMap (rep1 41 [37, 50, 57]) = l.flatMap encq := fun l => by
      induction l with
      | nil => rfl
      | cons c l ih => rw [List.flatMap_cons, List.flatMap_append, List.flatMap_append, ih, enc_rep, List.flatMap_cons]
    exact key (c :: l)
theorem rep_len (c : UInt8) (new : List UInt8) (h : new.length ≤ 3) : ∀ l : List UInt8, (l.flatMap (rep1 c new)).length ≤ 3 * l.length
  | [] => by simp
  | b :: l => by
    have := rep_len c new h l
    rw [List.flatMap_cons, List.length_append, List.length_cons]
    have h1 : (rep1 c new b).length ≤ 3 := by unfold rep1; split; exact h; simp
    omega
theorem countB_le (s old : ByteArray) (h : old.size = 1) : Lib.countB s old ≤ s.size := by
  have := Lib.countB_mul_le old (by omega) s.size s (Nat.le_refl _)
  rw [h] at this
  omega
def WdOut (s : ByteArray) (w : World) (e : Ending) (w' : World) : Prop := e = .returned (.string (str (wordq s.data.toList))) ∧ Below w.heap.size w w'
theorem word38 (s : ByteArray) (w : World) (hs : s.size ≤ 4194304) (hT : Tab w) : Calls Tryd.prog 38 #[.string s] w (WdOut s w) := by
  have HQ := Lib.hid (Q3.quote55 s w hs)
  obtain ⟨m, hm⟩ := hT.m
  have hz := hT.z
  have HM := Lib.hid hm
  have hql := Wd.quote_len s.data.toList
  rw [size_list] at hql
  have HW := Lib.hid (wordq_rep s.data.toList)
  obtain ⟨ql, hq⟩ : ∃ ql, Wd.quote s.data.toList = ql := ⟨_, rfl⟩
  rw [hq] at HQ hql HW
  clear hT hm hq
  have E1 := Lib.hid (fun w1 (hm1 : w1.cell? ⟨4, 0, none⟩ = some (.int .i64 m)) => Tryd.strings_ReplaceAll ⟨ql.toArray⟩ ⟨#[40]⟩ ⟨#[37, 50, 56]⟩ m w1 (by rw [str_size]; omega) hm1 (Nat.le_refl _) (by
    have h1 := countB_le ⟨ql.toArray⟩ ⟨#[40]⟩ rfl
    rw [str_size] at h1 ⊢
    show _ + _ * 3 ≤ _
    omega))
  obtain ⟨q2, hq2⟩ : ∃ q2, ql.flatMap (rep1 40 [37, 50, 56]) = q2 := ⟨_, rfl⟩
  have hl2 := rep_len 40 [37, 50, 56] (by decide) ql
  rw [hq2] at hl2 HW
  have R1 := Lib.hid (show (⟨(Lib.replaceAll (⟨ql.toArray⟩ : ByteArray).data.toList (⟨#[40]⟩ : ByteArray).data.toList (⟨#[37, 50, 56]⟩ : ByteArray).data.toList).toArray⟩ : ByteArray) = ⟨q2.toArray⟩ by
    rw [str_data, ← hq2]
    congr 2
    exact replace_one rfl)
  have E2 := Lib.hid (fun w1 (hm1 : w1.cell? ⟨4, 0, none⟩ = some (.int .i64 m)) => Tryd.strings_ReplaceAll ⟨q2.toArray⟩ ⟨#[41]⟩ ⟨#[37, 50, 57]⟩ m w1 (by rw [str_size]; omega) hm1 (Nat.le_refl _) (by
    have h1 := countB_le ⟨q2.toArray⟩ ⟨#[41]⟩ rfl
    rw [str_size] at h1 ⊢
    show _ + _ * 3 ≤ _
    omega))
  have R2 := Lib.hid (show (⟨(Lib.replaceAll (⟨q2.toArray⟩ : ByteArray).data.toList (⟨#[41]⟩ : ByteArray).data.toList (⟨#[37, 50, 57]⟩ : ByteArray).data.toList).toArray⟩ : ByteArray) = str (wordq s.data.toList) by
    rw [str_data, ← HW.out]
    unfold str
    congr 2
    exact replace_one rfl)
  clear hql hl2 hq2
  go_enter Tryd.func38, Tryd.ntmps38
  go_wp2_with fail
  refine HQ.out.mono ?_
  rintro e w1 ⟨rfl, hb1⟩
  have HM1 := Lib.hid ((hb1.cell (p := ⟨4, 0, none⟩) (by show 4 < _; omega)).trans HM.out)
  go_wp2_with fail
  refine (E1.out w1 HM1.out).mono ?_
  rintro e w2 ⟨rfl, hb2⟩
  rw [R1.out]
  have HM2 := Lib.hid ((hb2.cell (p := ⟨4, 0, none⟩) (by show 4 < _; have := hb1.size; omega)).trans HM1.out)
  go_wp2_with fail
  refine (E2.out w2 HM2.out).mono ?_
  rintro e w3 ⟨rfl, hb3⟩
  rw [R2.out]
  go_wp2_with fail
  go_ret
  have h12 := hb1.trans (hb2.mono hb1.size)
  exact ⟨rfl, h12.trans (hb3.mono h12.size)⟩
/-- Each parenthesis is replaced. -/
def rep2 (b : UInt8) : List UInt8 := if b = 40 then [37, 50, 56] else if b = 41 then [37, 50, 57] else [b]
theorem enc_rep2 (c : UInt8) : (Wd.enc c).flatMap rep2 = encq c := all8 (P := fun c => (Wd.enc c).flatMap rep2 = encq c) (by decide +kernel) c
theorem wordq_rep2 (l : List UInt8) : (Wd.quote l).flatMap rep2 = wordq l := by
  unfold Wd.quote wordq
  cases l with
  | nil => rfl
  | cons c l =>
    rw [if_neg (by simp), if_neg (by simp)]
    have key : ∀ l : List UInt8, (l.flatMap Wd.enc).flatMap rep2 = l.flatMap encq := fun l => by
      induction l with
      | nil => rfl
      | cons c l ih => rw [List.flatMap_cons, List.flatMap_append, ih, enc_rep2, List.flatMap_cons]
    exact key (c :: l)
theorem str_append (a b : List UInt8) : str a ++ str b = str (a ++ b) := by
  unfold str
  apply ByteArray.ext
  simp
theorem ext_one {s : ByteArray} {k : Nat} (hk : k < s.size) : s.extract k (k + 1) = str [s[k]] := by
  apply ByteArray.ext
  apply Array.toList_inj.1
  rw [Lib.extract_data, Nat.add_sub_cancel_left, List.drop_eq_getElem_cons (by rw [size_list]; exact hk)]
  simp [str]
  rfl
theorem rep2_len : ∀ l : List UInt8, (l.flatMap rep2).length ≤ 3 * l.length
  | [] => by simp
  | b :: l => by
    have := rep2_len l
    rw [List.flatMap_cons, List.length_append, List.length_cons]
    have h1 : (rep2 b).length ≤ 3 := by
      unfold rep2
      split
      · simp
      · split <;> simp
    omega
set_option maxHeartbeats 1600000 in
set_option maxRecDepth 100000 in
theorem word43 (s : ByteArray) (w : World) (hs : s.size ≤ 4194304) : Calls Tryd.prog 43 #[.string s] w (WdOut s w) := by
  have HQ := Lib.hid (Q3.quote59 s w hs)
  have hql := Wd.quote_len s.data.toList
  rw [size_list] at hql
  have HW := Lib.hid (wordq_rep2 s.data.toList)
  obtain ⟨ql, hq⟩ : ∃ ql, Wd.quote s.data.toList = ql := ⟨_, rfl⟩
  rw [hq] at HQ hql HW
  clear hq
  obtain ⟨q, hqq⟩ : ∃ q : ByteArray, ⟨ql.toArray⟩ = q := ⟨_, rfl⟩
  have hqd : q.data.toList = ql := by rw [← hqq]
  have hqs : q.size = ql.length := by rw [← hqd, size_list]
  rw [hqq] at HQ
  have HD := Lib.hid hqd
  have hqs2 : q.size ≤ 3 * 4194304 + 2 := by omega
  clear hqq hqd hqs hql
  have hbt := get_bt q
  go_enter Tryd.func43, Tryd.ntmps43
  go_wp2_with fail
  refine HQ.out.mono ?_
  rintro e w1 ⟨rfl, hb1⟩
  go_wp2_with fail
  go_loop [4, 5] (fun v i => ∃ k : Nat, k ≤ q.size ∧ i = .int .i64 k ∧ v = .string (str ((q.data.toList.take k).flatMap rep2))) (fun _ i => q.size - (intOf i).toNat)
  case atStart => exact ⟨0, Nat.zero_le _, rfl, rfl⟩
  case round =>
    obtain ⟨k, hk, rfl, rfl⟩ := hrel
    have hlen := rep2_len (q.data.toList.take k)
    have hlt2 : (q.data.toList.take k).length ≤ k := List.length_take_le _ _
    obtain ⟨pr, hpr⟩ : ∃ pr, (q.data.toList.take k).flatMap rep2 = pr := ⟨_, rfl⟩
    rw [hpr] at hlen ⊢
    have hps : (str pr).size ≤ 100000000 := by show (⟨pr.toArray⟩ : ByteArray).size ≤ _; rw [str_size]; omega
    have HPR := Lib.hid hpr
    clear hpr hlt2 hlen
    by_cases hlt : k < q.size
    · have HS := Lib.hid (show (q.data.toList.take (k + 1)).flatMap rep2 = pr ++ rep2 q[k] by
        rw [Q3.take_snoc q k hlt, List.flatMap_append, HPR.out]
        simp)
      have hb0 := bt_nonneg q k
      have HB := Lib.hid (show bt q k = (q[k].toNat : Int) from (get_bt q k hlt).symm)
      cases t40 : (bt q k == 40)
      case true =>
        have HR := Lib.hid (show rep2 q[k] = [37, 50, 56] by
          have h1 := HB.out
          have h2 : bt q k = 40 := by simpa using t40
          have h3 : q[k] = 40 := UInt8.toNat_inj.1 (by show q[k].toNat = 40; omega)
          rw [rep2, if_pos h3])
        go_wp2_with fail
        go_round
        case rel => exact ⟨k + 1, by omega, by go_num, by rw [HS.out, HR.out, ← str_append]; rfl⟩
        case measure => simp [intOf]; omega
      cases t41 : (bt q k == 41)
      case true =>
        have HR := Lib.hid (show rep2 q[k] = [37, 50, 57] by
          have h1 := HB.out
          have h2 : bt q k = 41 := by simpa using t41
          have h3 : q[k] = 41 := UInt8.toNat_inj.1 (by show q[k].toNat = 41; omega)
          rw [rep2, if_neg (by rw [h3]; decide), if_pos h3])
        go_wp2_with fail
        go_round
        case rel => exact ⟨k + 1, by omega, by go_num, by rw [HS.out, HR.out, ← str_append]; rfl⟩
        case measure => simp [intOf]; omega
      have HR := Lib.hid (show rep2 q[k] = [q[k]] by
        have h1 := HB.out
        have h2 : bt q k ≠ 40 := by simpa using t40
        have h3 : bt q k ≠ 41 := by simpa using t41
        rw [rep2, if_neg (fun e => h2 (by rw [h1, e]; rfl)), if_neg (fun e => h3 (by rw [h1, e]; rfl))])
      have HE := Lib.hid (ext_one hlt)
      have hxs : (q.extract k (k + 1)).size ≤ 1 := by rw [HE.out]; show (⟨[q[k]].toArray⟩ : ByteArray).size ≤ 1; rw [str_size]; simp
      have hsl := slice_run q k (k + 1) (by omega) (by omega)
      go_wp2_with fail
      go_round
      case rel => exact ⟨k + 1, by omega, by go_num, by rw [HS.out, HR.out, ← str_append, HE.out]⟩
      case measure => simp [intOf]; omega
    · obtain rfl : k = q.size := by omega
      have HA := Lib.hid (show pr = wordq s.data.toList by rw [← HPR.out, Q3.take_all q _ (Nat.le_refl _), HD.out, HW.out])
      go_wp2_with fail
      go_ret
      exact ⟨by rw [HA.out]; rfl, hb1⟩
end Go.Proofs.YtgbjldkbbbjnkaaDoor
