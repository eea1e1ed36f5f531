/-
  What word of the program's parser does.
-/
import Derived.Test.YtgbjldkbbbjnkaaDoorEscP
import Derived.Deep.LoopGhost
namespace Go.Proofs.YtgbjldkbbbjnkaaDoor
open Go.RowKit Go.PlainAid Pl

theorem own_onl {w w' : World} {base g : Nat} {e : TypeId} {size n : Nat} {v : Value} {xs : List Value} (h : w.ownsRow base e size v n xs) (hg : g < base) (ho : Onl g w w') : w'.ownsRow base e size v n xs :=
  h.kept ho (.inr fun e => by have := (h.lt g e).1; omega)
theorem own_at {w : World} {base g o : Nat} {e : TypeId} {size n : Nat} {v : Value} {xs : List Value} (h : w.ownsRow base e size v n xs) (hg : g < base) (u : Value) : (w.setCell ⟨g, o, none⟩ u).ownsRow base e size v n xs :=
  own_set h u fun i hi => by have := (h.lt i hi).1; show i ≠ g; omega
/-- What word of the program hands back. -/
def WPOut (g : Nat) (s : ByteArray) (k : Nat) (w : World) (e : Ending) (w' : World) : Prop :=
  Onl g w w' ∧ ∃ t : ByteArray, e = .returned (.string t) ∧ (∀ l n, pw true (rest s k) = .ok l n → t = ⟨l.toArray⟩ ∧ PS w' g s (k + n) false) ∧ (∀ n, pw true (rest s k) = .bad n → PS w' g s (k + n) true)
theorem wp_bad {g : Nat} {s : ByteArray} {k n j : Nat} {w w' : World} {t : ByteArray} (h : pw true (rest s k) = .bad n) (hj : j = k + n) (ho : Onl g w w') (hp : PS w' g s j true) : WPOut g s k w (.returned (.string t)) w' := by
  subst hj
  exact ⟨ho, t, rfl, (fun l m h' => by rw [h] at h'; cases h'), (fun m h' => by rw [h] at h'; cases h'; exact hp)⟩
theorem wp_ok {g : Nat} {s : ByteArray} {k n j : Nat} {w w' : World} {l : List UInt8} (h : pw true (rest s k) = .ok l n) (hj : j = k + n) (ho : Onl g w w') (hp : PS w' g s j false) : WPOut g s k w (.returned (.string ⟨l.toArray⟩)) w' := by
  subst hj
  exact ⟨ho, _, rfl, (fun l m h' => by rw [h] at h'; cases h'; exact ⟨rfl, hp⟩), (fun m h' => by rw [h] at h'; cases h')⟩
theorem wp_end {g : Nat} {s : ByteArray} {k j : Nat} {w w' : World} {l : List UInt8} {b : Bool} (h : pw true (rest s k) = if j = k then .bad 0 else .ok l (j - k)) (hk : k ≤ j) (hl : l.length = 0 ↔ j = k) (hb : b = decide (l.length = 0)) (ho : Onl g w w') (hp : PS w' g s j b) : WPOut g s k w (.returned (.string ⟨l.toArray⟩)) w' := by
  by_cases e : j = k
  · rw [if_pos e] at h
    have hb' : b = true := by rw [hb]; exact decide_eq_true (hl.2 e)
    subst hb'
    exact wp_bad h (by omega) ho hp
  · rw [if_neg e] at h
    have hb' : b = false := by rw [hb]; exact decide_eq_false (fun h' => e (hl.1 h'))
    subst hb'
    exact wp_ok h (by omega) ho hp
/-- What the loop holds: the word so far, or that it is bad here. -/
def WL (s : ByteArray) (k j : Nat) (acc : List UInt8) (f : Bool) : Prop :=
  (f = false ∧ WInv true s k j acc ∧ (j = k ∨ ¬ (rest s k).take 2 = [37, 45])) ∨ (f = true ∧ k ≤ j ∧ pw true (rest s k) = .bad (j - k))
theorem wl_nil_iff {s : ByteArray} {k j : Nat} {acc : List UInt8} {p : Bool} (h : WInv p s k j acc) : acc.length = 0 ↔ j = k :=
  ⟨fun e => h.2.2.2.2 (List.length_eq_zero_iff.1 e), fun e => List.length_eq_zero_iff.2 (h.2.2.2.1 e)⟩
theorem HObk {w w1 w2 : World} {g : Nat} (h : Below w.heap.size w1 w2) (ho : Onl g w w1) : Onl g w w2 :=
  ⟨h.os.trans ho.os, h.tape.trans ho.tape, h.output.trans ho.output, Nat.le_trans ho.size h.size, fun k hk hn => (h.block k hk).trans (ho.block k hk hn)⟩
theorem pct_minus {s : ByteArray} {k : Nat} (h : escS true (rest s (k + 1)) = true) : k + 1 < s.size ∧ bt s (k + 1) = 45 := by
  rcases Nat.lt_or_ge (k + 1) s.size with h1 | h1
  · rw [escS_at true h1] at h
    exact ⟨h1, by simpa using h⟩
  · rw [escS_no true h1] at h
    cases h
theorem no_minus {s : ByteArray} {k : Nat} (h : (rest s k).take 2 = [37, 45]) : escS true (rest s (k + 1)) = true := by
  obtain ⟨h1, _, h3⟩ := take_two.1 h
  rw [escS_at true h1, h3]
  rfl
/-- Rounds that are left. -/
def rl (s : ByteArray) (j : Nat) (f : Bool) : Nat := if f = true then 1 else s.size - j + 2
theorem rl_false (s : ByteArray) (j : Nat) : rl s j false = s.size - j + 2 := rfl
theorem rl_true (s : ByteArray) (j : Nat) : rl s j true = 1 := rfl
set_option maxHeartbeats 6400000 in
set_option maxRecDepth 100000 in
theorem word36 (g : Nat) (s : ByteArray) (k : Nat) (w : World) (hk : k ≤ s.size) (hs : s.size ≤ 4194304) (hp : PS w g s k false) : Calls Tryd.prog 36 #[.pointer (some ⟨g, 0, none⟩)] w (WPOut g s k w) := by
  have hbt := get_bt s
  have hgl := hp.lt
  obtain ⟨x0, hi0, hz0, hz1, hz2⟩ := info_parts info5
  have HI5 := Lib.hid hi0
  have HZ0 := Lib.hid hz0
  have HZ1 := Lib.hid hz1
  have HZ2 := Lib.hid hz2
  clear hi0 hz0 hz1 hz2
  have HP0 := Lib.hid hp
  clear hp
  go_enter Tryd.func36, Tryd.ntmps36
  go_wp2_with fail
  go_loopg [3] (rl s k false) (fun n v wr => ∃ (j : Nat) (acc : List UInt8) (f : Bool), n = rl s j f ∧ j ≤ s.size ∧ acc.length ≤ j + 1 ∧ PS wr g s j f ∧ wr.ownsRow w.heap.size 5 1 v acc.length (Lib.byteCells acc) ∧ WL s k j acc f ∧ Onl g w wr)
  case atStart => exact ⟨k, [], false, rfl, hk, Nat.zero_le _, HP0.out, World.ownsRow_nil _ _ _ _, .inl ⟨rfl, WInv.start, .inl rfl⟩, Onl.refl g w⟩
  case round =>
    obtain ⟨j, acc, f, rfl, hj, hal, hP, hI, hW, hO⟩ := hrel
    have HPwr := Lib.hid hP
    have HIwr := Lib.hid hI
    have HOwr := Lib.hid hO
    have hgw := hO.size
    clear hP hI hO
    obtain ⟨c0, c1, c2⟩ := tri_cells HPwr.out
    obtain ⟨f0, f1, f2⟩ := tri_soft HPwr.out
    rcases hW with ⟨rfl, hW, h0⟩ | ⟨rfl, hkj, hbad⟩
    · have hlen := wl_nil_iff hW
      have hkj := hW.2.2.1
      have HW := Lib.hid hW
      have H0 := Lib.hid h0
      have HLEN := Lib.hid hlen
      clear hW h0 hlen
      by_cases hlt : j < s.size
      · have e1 : (j : Int) < (s.size : Int) := by omega
        have e0 : (0 : Int) ≤ (j : Int) := by omega
        have b0 := bt_nonneg s j
        have b1 := bt_le s j
        have g1 : IntKind.i64.wrap ((j : Int) + 1) = (j : Int) + 1 := wrap_in (by omega)
        cases h37 : (bt s j == 37)
        · have hn37 : ¬ bt s j = 37 := by simpa using h37
          cases hq : qI (bt s j)
          · have HQ := Lib.hid hq
            have HW2 := Lib.hid (HW.out.plain hlt hq)
            have H02 := Lib.hid (show j + 1 = k ∨ ¬ (rest s k).take 2 = [37, 45] from .inr (by
              rcases H0.out with e | e
              · subst e; exact fun h => hn37 (take_two.1 h).2.1
              · exact e))
            clear hq hn37
            go_wp2_with fail
            go_quiet (fail)
            have HPwa := Lib.hid (show PS (wr.drewN nq) g s j false from HPwr.out)
            have HOwa := Lib.hid (show Onl g w (wr.drewN nq) from HOwr.out.drewN nq)
            have HIwa := Lib.hid (show (wr.drewN nq).ownsRow w.heap.size 5 1 u3 acc.length (Lib.byteCells acc) from HIwr.out)
            clear c0 c1 c2 f0 f1 f2
            generalize wr.drewN nq = wa at HPwa HOwa HIwa ⊢
            obtain ⟨c0, c1, c2⟩ := tri_cells HPwa.out
            obtain ⟨f0, f1, f2⟩ := tri_soft HPwa.out
            go_wp2_with fail
            go_quiet (fail)
            have HPwb := Lib.hid (show PS (wa.drewN nq) g s j false from HPwa.out)
            have HOwb := Lib.hid (show Onl g w (wa.drewN nq) from HOwa.out.drewN nq)
            have HIwb := Lib.hid (show (wa.drewN nq).ownsRow w.heap.size 5 1 u3 acc.length (Lib.byteCells acc) from HIwa.out)
            clear c0 c1 c2 f0 f1 f2
            generalize wa.drewN nq = wb at HPwb HOwb HIwb ⊢
            obtain ⟨c0, c1, c2⟩ := tri_cells HPwb.out
            obtain ⟨f0, f1, f2⟩ := tri_soft HPwb.out
            go_wp2_with fail
            refine (written53 _ _).mono ?_
            rintro e wc ⟨rfl, rfl⟩
            rw [HQ.out]
            go_wp2_with (at_builtin; refine wpList_append_own _ rfl _ _ 75 rfl w.heap.size 5 x0 (.int .u8 0) 1 1 Tryd.underlying75 HI5.out HZ0.out HZ1.out HZ2.out rfl (by decide) _ _ _ rfl (HIwb.out.alloc _) ⟨wb.heap.size, 0, none⟩ 1 1 [.int .u8 (bt s j)] rfl rfl ?c1 ?c2 ?c3 ?c4 ?c5 ?_)
            case c1 => exact cells_one' wb _ 5
            case c2 => intro u hu; simp at hu; subst hu; rfl
            case c3 => unfold maxLen; omega
            case c4 => omega
            case c5 => have := HOwb.out.size; simp; omega
            intro v' w9 hown' hgrow hnil
            clear hnil
            have HIw9 := Lib.hid hown'
            have hlt9 := HIwb.out.lt
            have hbel := Lib.hid (show Below w.heap.size wb w9 from ((Below.refl _ _).alloc HOwb.out.size _).grown hgrow (by have := HOwb.out.size; simp; omega) (fun k hk => (hlt9 k hk).1))
            clear hown' hgrow hlt9
            have HPw9 := Lib.hid (show PS w9 g s j false from (hbel.out.block g hgl).trans HPwb.out)
            have HOw9 := Lib.hid (HObk hbel.out HOwb.out)
            clear c0 c1 c2 f0 f1 f2
            obtain ⟨c0, c1, c2⟩ := tri_cells HPw9.out
            obtain ⟨f0, f1, f2⟩ := tri_soft HPw9.out
            go_wp2_with fail
            go_roundg (rl s (j + 1) false)
            case measure => rw [rl_false, rl_false]; omega
            case rel => exact ⟨j + 1, acc ++ [s[j]], false, rfl, hlt, by rw [List.length_append, List.length_singleton]; omega, HPw9.out.at_ (by omega), own_at (own_int (bt_of s j hlt) HIw9.out) hgl _, .inl ⟨rfl, HW2.out, H02.out⟩, HOw9.out.set 1 _⟩
          · have HQ := Lib.hid hq
            have hwl : wl true (rest s j) = .ok [] 0 := by
              by_cases h32 : bt s j = 32 ∨ bt s j = 41
              · exact wl_at_stop true hlt h32
              · rw [wl_at_odd true hlt (fun h => h32 (.inl h)) (fun h => h32 (.inr h)) hn37 hq]; rfl
            have hr := Lib.hid (pw_end HW.out (by
              rcases H0.out with e | e
              · subst e; exact fun h => hn37 (take_two.1 h).2.1
              · exact e) hwl)
            clear hq hn37 hwl
            go_wp2_with fail
            go_quiet (fail)
            have HPwa := Lib.hid (show PS (wr.drewN nq) g s j false from HPwr.out)
            have HOwa := Lib.hid (show Onl g w (wr.drewN nq) from HOwr.out.drewN nq)
            have HIwa := Lib.hid (show (wr.drewN nq).ownsRow w.heap.size 5 1 u3 acc.length (Lib.byteCells acc) from HIwr.out)
            clear c0 c1 c2 f0 f1 f2
            generalize wr.drewN nq = wa at HPwa HOwa HIwa ⊢
            obtain ⟨c0, c1, c2⟩ := tri_cells HPwa.out
            obtain ⟨f0, f1, f2⟩ := tri_soft HPwa.out
            go_wp2_with fail
            go_quiet (fail)
            have HPwb := Lib.hid (show PS (wa.drewN nq) g s j false from HPwa.out)
            have HOwb := Lib.hid (show Onl g w (wa.drewN nq) from HOwa.out.drewN nq)
            have HIwb := Lib.hid (show (wa.drewN nq).ownsRow w.heap.size 5 1 u3 acc.length (Lib.byteCells acc) from HIwa.out)
            clear c0 c1 c2 f0 f1 f2
            generalize wa.drewN nq = wb at HPwb HOwb HIwb ⊢
            obtain ⟨c0, c1, c2⟩ := tri_cells HPwb.out
            obtain ⟨f0, f1, f2⟩ := tri_soft HPwb.out
            go_wp2_with fail
            refine (written53 _ _).mono ?_
            rintro e wc ⟨rfl, rfl⟩
            rw [HQ.out]
            have hcvf := conv_own (own_at (o := 2) HIwb.out hgl (.bool false))
            have hcvt := conv_own (own_at (o := 2) HIwb.out hgl (.bool true))
            obtain ⟨A, cv, rfl⟩ := own_form HIwb.out
            cases hl0 : decide (acc.length = 0)
            · have hl1 : ((acc.length : Int) == 0) = false := by simpa using hl0
              have HL0 := Lib.hid hl0
              clear hl0
              go_wp2_with fail
              go_ret
              exact wp_end hr.out hkj HLEN.out HL0.out.symm (HOwb.out.set 2 _) (HPwb.out.fail false)
            · have hl1 : ((acc.length : Int) == 0) = true := by simpa using hl0
              have HL0 := Lib.hid hl0
              clear hl0
              go_wp2_with fail
              go_ret
              exact wp_end hr.out hkj HLEN.out HL0.out.symm (HOwb.out.set 2 _) (HPwb.out.fail true)
        · have H37 := Lib.hid (show bt s j = 37 by simpa using h37)
          have hjk : j + 1 ≤ s.size := hlt
          cases hl0 : decide (acc.length = 0)
          · have hl1 : ((acc.length : Int) == 0) = false := by simpa using hl0
            have HL0 := Lib.hid hl0
            clear hl0
            go_wp2_with fail
            go_quiet (fail)
            have HPwa := Lib.hid (show PS (wr.drewN nq) g s j false from HPwr.out)
            have HOwa := Lib.hid (show Onl g w (wr.drewN nq) from HOwr.out.drewN nq)
            have HIwa := Lib.hid (show (wr.drewN nq).ownsRow w.heap.size 5 1 u3 acc.length (Lib.byteCells acc) from HIwr.out)
            clear c0 c1 c2 f0 f1 f2
            generalize wr.drewN nq = wa at HPwa HOwa HIwa ⊢
            obtain ⟨c0, c1, c2⟩ := tri_cells HPwa.out
            obtain ⟨f0, f1, f2⟩ := tri_soft HPwa.out
            go_wp2_with fail
            go_quiet (fail)
            have HPwb := Lib.hid (show PS (wa.drewN nq) g s j false from HPwa.out)
            have HOwb := Lib.hid (show Onl g w (wa.drewN nq) from HOwa.out.drewN nq)
            have HIwb := Lib.hid (show (wa.drewN nq).ownsRow w.heap.size 5 1 u3 acc.length (Lib.byteCells acc) from HIwa.out)
            clear c0 c1 c2 f0 f1 f2
            generalize wa.drewN nq = wb at HPwb HOwb HIwb ⊢
            obtain ⟨c0, c1, c2⟩ := tri_cells HPwb.out
            obtain ⟨f0, f1, f2⟩ := tri_soft HPwb.out
            obtain ⟨A, cv, hA⟩ := own_form HIwb.out
            subst hA
            go_wp2_with fail
            refine (escape52 false g s (j + 1) _ hjk hs (HPwb.out.at_ (k' := j + 1) (by omega))).mono ?_
            rintro e wc ⟨hoE, hE⟩
            have HIwc := Lib.hid (own_onl (own_at (o := 1) HIwb.out hgl (.int .i64 ((j : Int) + 1))) hgl hoE)
            have HOwc := Lib.hid ((HOwb.out.set 1 _).trans hoE)
            clear c0 c1 c2 f0 f1 f2 hoE
            rcases hE with ⟨hs1, rfl, hpE⟩ | ⟨hs1, n, he, rfl, hpE⟩ | ⟨hs1, v, he, rfl, hpE⟩
            · cases hs1
            · have hns := Lib.hid (show ¬ (rest s k).take 2 = [37, 45] from by
                rcases H0.out with e | e
                · subst e
                  exact absurd (HLEN.out.2 rfl) (of_decide_eq_false HL0.out)
                · exact e)
              have hr := Lib.hid (pw_bad HW.out hns.out (wl_at_bad true hlt H37.out he))
              have hnn : j + 1 + n ≤ s.size := by
                have := rest_len s (j + 1)
                rcases esc_cases (rest s (j + 1)) with ⟨m, _, h2, h3, _⟩ | ⟨_, _, _, _, _, h3, _⟩
                · rw [he] at h3; cases h3; omega
                · rw [he] at h3; cases h3
              have HPwc := Lib.hid hpE
              clear he hpE hs1
              go_wp2_with (at_builtin; refine wpList_append_own _ rfl _ _ 75 rfl w.heap.size 5 x0 (.int .u8 0) 1 1 Tryd.underlying75 HI5.out HZ0.out HZ1.out HZ2.out rfl (by decide) _ _ _ rfl (HIwc.out.alloc _) ⟨wc.heap.size, 0, none⟩ 1 1 [.int .u8 0] rfl rfl ?c1 ?c2 ?c3 ?c4 ?c5 ?_)
              case c1 => exact cells_one' wc _ 5
              case c2 => intro u hu; simp at hu; subst hu; rfl
              case c3 => unfold maxLen; omega
              case c4 => omega
              case c5 => have := HOwc.out.size; simp; omega
              intro v' w9 hown' hgrow hnil
              clear hnil
              have HIw9 := Lib.hid hown'
              have hlt9 := HIwc.out.lt
              have hbel := Lib.hid (show Below w.heap.size wc w9 from ((Below.refl _ _).alloc HOwc.out.size _).grown hgrow (by have := HOwc.out.size; simp; omega) (fun k hk => (hlt9 k hk).1))
              clear hown' hgrow hlt9
              have HPw9 := Lib.hid (show PS w9 g s (j + 1 + n) true from (hbel.out.block g hgl).trans HPwc.out)
              have HOw9 := Lib.hid (HObk hbel.out HOwc.out)
              go_wp2_with fail
              go_roundg (rl s (j + 1 + n) true)
              case measure => rw [rl_false, rl_true]; omega
              case rel => exact ⟨j + 1 + n, acc ++ [0], true, rfl, hnn, by rw [List.length_append, List.length_singleton]; omega, HPw9.out, own_int rfl HIw9.out, .inr ⟨rfl, by omega, by rw [hr.out]; congr 1; omega⟩, HOw9.out⟩
            · have HWn := Lib.hid (HW.out.esc hlt H37.out he)
              have hnn : j + 3 ≤ s.size := by
                have h1 := rest_len s (j + 1)
                rcases esc_cases (rest s (j + 1)) with ⟨m, _, h2, h3, _⟩ | ⟨_, _, _, _, h2, _⟩
                · rw [he] at h3; cases h3
                · rw [h2] at h1; simp at h1; omega
              have hns := Lib.hid (show j + 3 = k ∨ ¬ (rest s k).take 2 = [37, 45] from .inr (by
                rcases H0.out with e | e
                · subst e
                  exact absurd (HLEN.out.2 rfl) (of_decide_eq_false HL0.out)
                · exact e))
              have HPwc := Lib.hid hpE
              obtain ⟨z, hz⟩ : ∃ z : Int, (v.toNat : Int) = z := ⟨_, rfl⟩
              rw [hz]
              have HZ := Lib.hid hz
              clear he hpE hs1 hz
              go_wp2_with (at_builtin; refine wpList_append_own _ rfl _ _ 75 rfl w.heap.size 5 x0 (.int .u8 0) 1 1 Tryd.underlying75 HI5.out HZ0.out HZ1.out HZ2.out rfl (by decide) _ _ _ rfl (HIwc.out.alloc _) ⟨wc.heap.size, 0, none⟩ 1 1 [.int .u8 z] rfl rfl ?c1 ?c2 ?c3 ?c4 ?c5 ?_)
              case c1 => exact cells_one' wc _ 5
              case c2 => intro u hu; simp at hu; subst hu; rfl
              case c3 => unfold maxLen; omega
              case c4 => omega
              case c5 => have := HOwc.out.size; simp; omega
              intro v' w9 hown' hgrow hnil
              clear hnil
              have HIw9 := Lib.hid hown'
              have hlt9 := HIwc.out.lt
              have hbel := Lib.hid (show Below w.heap.size wc w9 from ((Below.refl _ _).alloc HOwc.out.size _).grown hgrow (by have := HOwc.out.size; simp; omega) (fun k hk => (hlt9 k hk).1))
              clear hown' hgrow hlt9
              have HPw9 := Lib.hid (show PS w9 g s (j + 3) false from (hbel.out.block g hgl).trans HPwc.out)
              have HOw9 := Lib.hid (HObk hbel.out HOwc.out)
              go_wp2_with fail
              go_roundg (rl s (j + 3) false)
              case measure => rw [rl_false, rl_false]; omega
              case rel => exact ⟨j + 3, acc ++ [v], false, rfl, hnn, by rw [List.length_append, List.length_singleton]; omega, HPw9.out, own_int HZ.out.symm HIw9.out, .inl ⟨rfl, HWn.out, hns.out⟩, HOw9.out⟩
          · have hl1 : ((acc.length : Int) == 0) = true := by simpa using hl0
            have HL0 := Lib.hid hl0
            clear hl0
            go_wp2_with fail
            go_quiet (fail)
            have HPwa := Lib.hid (show PS (wr.drewN nq) g s j false from HPwr.out)
            have HOwa := Lib.hid (show Onl g w (wr.drewN nq) from HOwr.out.drewN nq)
            have HIwa := Lib.hid (show (wr.drewN nq).ownsRow w.heap.size 5 1 u3 acc.length (Lib.byteCells acc) from HIwr.out)
            clear c0 c1 c2 f0 f1 f2
            generalize wr.drewN nq = wa at HPwa HOwa HIwa ⊢
            obtain ⟨c0, c1, c2⟩ := tri_cells HPwa.out
            obtain ⟨f0, f1, f2⟩ := tri_soft HPwa.out
            go_wp2_with fail
            go_quiet (fail)
            have HPwb := Lib.hid (show PS (wa.drewN nq) g s j false from HPwa.out)
            have HOwb := Lib.hid (show Onl g w (wa.drewN nq) from HOwa.out.drewN nq)
            have HIwb := Lib.hid (show (wa.drewN nq).ownsRow w.heap.size 5 1 u3 acc.length (Lib.byteCells acc) from HIwa.out)
            clear c0 c1 c2 f0 f1 f2
            generalize wa.drewN nq = wb at HPwb HOwb HIwb ⊢
            obtain ⟨c0, c1, c2⟩ := tri_cells HPwb.out
            obtain ⟨f0, f1, f2⟩ := tri_soft HPwb.out
            obtain ⟨A, cv, hA⟩ := own_form HIwb.out
            subst hA
            go_wp2_with fail
            refine (escape52 true g s (j + 1) _ hjk hs (HPwb.out.at_ (k' := j + 1) (by omega))).mono ?_
            rintro e wc ⟨hoE, hE⟩
            have HIwc := Lib.hid (own_onl (own_at (o := 1) HIwb.out hgl (.int .i64 ((j : Int) + 1))) hgl hoE)
            have HOwc := Lib.hid ((HOwb.out.set 1 _).trans hoE)
            clear c0 c1 c2 f0 f1 f2 hoE
            rcases hE with ⟨hs1, rfl, hpE⟩ | ⟨hs1, n, he, rfl, hpE⟩ | ⟨hs1, v, he, rfl, hpE⟩
            · have hr := Lib.hid (show pw true (rest s k) = .ok [] 2 from by
                have ejk := (HLEN.out.1 (of_decide_eq_true HL0.out))
                subst ejk
                have h45 := pct_minus hs1
                rw [pw, if_pos (take_two.2 ⟨h45.1, H37.out, h45.2⟩)])
              have HPwc := Lib.hid hpE
              have ejk := (HLEN.out.1 (of_decide_eq_true HL0.out))
              clear hpE hs1
              go_wp2_with fail
              go_ret
              exact wp_ok (l := []) hr.out (by omega) HOwc.out HPwc.out
            · have hns := Lib.hid (show ¬ (rest s k).take 2 = [37, 45] from by
                rcases H0.out with e | e
                · subst e
                  exact fun h => by rw [no_minus h] at hs1; cases hs1
                · exact e)
              have hr := Lib.hid (pw_bad HW.out hns.out (wl_at_bad true hlt H37.out he))
              have hnn : j + 1 + n ≤ s.size := by
                have := rest_len s (j + 1)
                rcases esc_cases (rest s (j + 1)) with ⟨m, _, h2, h3, _⟩ | ⟨_, _, _, _, _, h3, _⟩
                · rw [he] at h3; cases h3; omega
                · rw [he] at h3; cases h3
              have HPwc := Lib.hid hpE
              clear he hpE hs1
              go_wp2_with (at_builtin; refine wpList_append_own _ rfl _ _ 75 rfl w.heap.size 5 x0 (.int .u8 0) 1 1 Tryd.underlying75 HI5.out HZ0.out HZ1.out HZ2.out rfl (by decide) _ _ _ rfl (HIwc.out.alloc _) ⟨wc.heap.size, 0, none⟩ 1 1 [.int .u8 0] rfl rfl ?c1 ?c2 ?c3 ?c4 ?c5 ?_)
              case c1 => exact cells_one' wc _ 5
              case c2 => intro u hu; simp at hu; subst hu; rfl
              case c3 => unfold maxLen; omega
              case c4 => omega
              case c5 => have := HOwc.out.size; simp; omega
              intro v' w9 hown' hgrow hnil
              clear hnil
              have HIw9 := Lib.hid hown'
              have hlt9 := HIwc.out.lt
              have hbel := Lib.hid (show Below w.heap.size wc w9 from ((Below.refl _ _).alloc HOwc.out.size _).grown hgrow (by have := HOwc.out.size; simp; omega) (fun k hk => (hlt9 k hk).1))
              clear hown' hgrow hlt9
              have HPw9 := Lib.hid (show PS w9 g s (j + 1 + n) true from (hbel.out.block g hgl).trans HPwc.out)
              have HOw9 := Lib.hid (HObk hbel.out HOwc.out)
              go_wp2_with fail
              go_roundg (rl s (j + 1 + n) true)
              case measure => rw [rl_false, rl_true]; omega
              case rel => exact ⟨j + 1 + n, acc ++ [0], true, rfl, hnn, by rw [List.length_append, List.length_singleton]; omega, HPw9.out, own_int rfl HIw9.out, .inr ⟨rfl, by omega, by rw [hr.out]; congr 1; omega⟩, HOw9.out⟩
            · have HWn := Lib.hid (HW.out.esc hlt H37.out he)
              have hnn : j + 3 ≤ s.size := by
                have h1 := rest_len s (j + 1)
                rcases esc_cases (rest s (j + 1)) with ⟨m, _, h2, h3, _⟩ | ⟨_, _, _, _, h2, _⟩
                · rw [he] at h3; cases h3
                · rw [h2] at h1; simp at h1; omega
              have hns := Lib.hid (show j + 3 = k ∨ ¬ (rest s k).take 2 = [37, 45] from .inr (by
                rcases H0.out with e | e
                · subst e
                  exact fun h => by rw [no_minus h] at hs1; cases hs1
                · exact e))
              have HPwc := Lib.hid hpE
              obtain ⟨z, hz⟩ : ∃ z : Int, (v.toNat : Int) = z := ⟨_, rfl⟩
              rw [hz]
              have HZ := Lib.hid hz
              clear he hpE hs1 hz
              go_wp2_with (at_builtin; refine wpList_append_own _ rfl _ _ 75 rfl w.heap.size 5 x0 (.int .u8 0) 1 1 Tryd.underlying75 HI5.out HZ0.out HZ1.out HZ2.out rfl (by decide) _ _ _ rfl (HIwc.out.alloc _) ⟨wc.heap.size, 0, none⟩ 1 1 [.int .u8 z] rfl rfl ?c1 ?c2 ?c3 ?c4 ?c5 ?_)
              case c1 => exact cells_one' wc _ 5
              case c2 => intro u hu; simp at hu; subst hu; rfl
              case c3 => unfold maxLen; omega
              case c4 => omega
              case c5 => have := HOwc.out.size; simp; omega
              intro v' w9 hown' hgrow hnil
              clear hnil
              have HIw9 := Lib.hid hown'
              have hlt9 := HIwc.out.lt
              have hbel := Lib.hid (show Below w.heap.size wc w9 from ((Below.refl _ _).alloc HOwc.out.size _).grown hgrow (by have := HOwc.out.size; simp; omega) (fun k hk => (hlt9 k hk).1))
              clear hown' hgrow hlt9
              have HPw9 := Lib.hid (show PS w9 g s (j + 3) false from (hbel.out.block g hgl).trans HPwc.out)
              have HOw9 := Lib.hid (HObk hbel.out HOwc.out)
              go_wp2_with fail
              go_roundg (rl s (j + 3) false)
              case measure => rw [rl_false, rl_false]; omega
              case rel => exact ⟨j + 3, acc ++ [v], false, rfl, hnn, by rw [List.length_append, List.length_singleton]; omega, HPw9.out, own_int HZ.out.symm HIw9.out, .inl ⟨rfl, HWn.out, hns.out⟩, HOw9.out⟩
      · have hr := Lib.hid (pw_end HW.out (by
          rcases H0.out with e | e
          · subst e; exact fun h => by have := (take_two.1 h).1; omega
          · exact e) (wl_at_end true (by omega)))
        have d1 : decide ((j : Int) < (s.size : Int)) = false := by simp; omega
        go_wp2_with fail
        go_quiet (fail)
        have HPwb := Lib.hid (show PS (wr.drewN nq) g s j false from HPwr.out)
        have HOwb := Lib.hid (show Onl g w (wr.drewN nq) from HOwr.out.drewN nq)
        have HIwb := Lib.hid (show (wr.drewN nq).ownsRow w.heap.size 5 1 u3 acc.length (Lib.byteCells acc) from HIwr.out)
        clear c0 c1 c2 f0 f1 f2
        generalize wr.drewN nq = wb at HPwb HOwb HIwb ⊢
        obtain ⟨c0, c1, c2⟩ := tri_cells HPwb.out
        obtain ⟨f0, f1, f2⟩ := tri_soft HPwb.out
        have hcvf := conv_own (own_at (o := 2) HIwb.out hgl (.bool false))
        have hcvt := conv_own (own_at (o := 2) HIwb.out hgl (.bool true))
        obtain ⟨A, cv, rfl⟩ := own_form HIwb.out
        cases hl0 : decide (acc.length = 0)
        · have hl1 : ((acc.length : Int) == 0) = false := by simpa using hl0
          have HL0 := Lib.hid hl0
          clear hl0
          go_wp2_with fail
          go_ret
          exact wp_end hr.out hkj HLEN.out HL0.out.symm (HOwb.out.set 2 _) (HPwb.out.fail false)
        · have hl1 : ((acc.length : Int) == 0) = true := by simpa using hl0
          have HL0 := Lib.hid hl0
          clear hl0
          go_wp2_with fail
          go_ret
          exact wp_end hr.out hkj HLEN.out HL0.out.symm (HOwb.out.set 2 _) (HPwb.out.fail true)
    · have hr := Lib.hid hbad
      clear hbad
      go_wp2_with fail
      go_quiet (fail)
      have HPwb := Lib.hid (show PS (wr.drewN nq) g s j true from HPwr.out)
      have HOwb := Lib.hid (show Onl g w (wr.drewN nq) from HOwr.out.drewN nq)
      have HIwb := Lib.hid (show (wr.drewN nq).ownsRow w.heap.size 5 1 u3 acc.length (Lib.byteCells acc) from HIwr.out)
      clear c0 c1 c2 f0 f1 f2
      generalize wr.drewN nq = wb at HPwb HOwb HIwb ⊢
      obtain ⟨c0, c1, c2⟩ := tri_cells HPwb.out
      obtain ⟨f0, f1, f2⟩ := tri_soft HPwb.out
      have hcv := conv_own (own_at (o := 2) HIwb.out hgl (.bool true))
      obtain ⟨A, cv, rfl⟩ := own_form HIwb.out
      go_wp2_with fail
      go_ret
      exact wp_bad hr.out (by omega) (HOwb.out.set 2 _) (HPwb.out.fail true)
end Go.Proofs.YtgbjldkbbbjnkaaDoor
