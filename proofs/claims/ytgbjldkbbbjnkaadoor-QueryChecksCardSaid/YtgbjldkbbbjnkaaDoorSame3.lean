/-
  What Same of the program returns.
-/
import Derived.Test.YtgbjldkbbbjnkaaDoorSame2
namespace Go.Proofs.YtgbjldkbbbjnkaaDoor
open Go.RowKit Go.PlainAid Pl

theorem same_list {o r : Int} {t : ByteArray} {ks ks' : List Qt} : sameB (.mk o r t ks) (.mk o r t ks') = listB ks ks' := by
  by_cases e : ks = ks'
  · rw [list_yes e, same_yes (by rw [e])]
  · rw [list_no e, same_no (fun h => e (by cases h; rfl))]
set_option maxHeartbeats 1600000 in
set_option maxRecDepth 100000 in
theorem same25_ (m : Nat) : ∀ (n : Nat) (a b : Qt) (va vb : Value) (w : World), sz a ≤ n → n ≤ m → m ≤ 4194304 → QAt w w.heap.size a va → QAt w w.heap.size b vb → Calls Tryd.prog 25 #[va, vb] w (BoolIs (sameB a b) w) := by
  intro n
  induction n with
  | zero => intro a b va vb w h; have := sz_pos a; omega
  | succ n ih =>
    intro a b va vb w hn hm hmm ha hb
    obtain ⟨o, r, t, ks⟩ := a
    obtain ⟨o', r', t', ks'⟩ := b
    obtain ⟨A, cap, rfl, _⟩ := ha.inv
    obtain ⟨A', cap', rfl, _⟩ := hb.inv
    have hsz : sz (.mk o r t ks) = 1 + szs ks := by rw [sz]
    rw [hsz] at hn
    have hlen : ks.length ≤ szs ks := len_szs ks
    have IH := Lib.hid ih
    obtain ⟨W1, hW1⟩ : ∃ W1, w.alloc (.cells #[.int .i64 o, .int .i64 r, .string t, .slice A ks.length cap] 25) = W1 := ⟨_, rfl⟩
    have X0 := Bx.start ha
    have hz1 := size_one w (.cells #[.int .i64 o, .int .i64 r, .string t, .slice A ks.length cap] 25)
    have hb1 := hb.step (below_one w (.cells #[.int .i64 o, .int .i64 r, .string t, .slice A ks.length cap] 25))
    rw [hW1] at X0 hz1 hb1
    have Y0 := Lib.hid (Bx.start hb1)
    have X1 := Lib.hid (X0.next Y0.out.k)
    obtain ⟨W0, hW0⟩ : ∃ W0, W1.alloc (.cells #[.int .i64 o', .int .i64 r', .string t', .slice A' ks'.length cap'] 25) = W0 := ⟨_, rfl⟩
    rw [hW0] at Y0 X1
    have HW1 := Lib.hid hW1
    have HW := Lib.hid hW0
    have HZ := Lib.hid hz1
    have a0 := X1.out.c0
    have a1 := X1.out.c1
    have a2 := X1.out.c2
    have a3 := X1.out.c3
    have b0 := Y0.out.c0
    have b1 := Y0.out.c1
    have b2 := Y0.out.c2
    have b3 := Y0.out.c3
    rw [hz1] at b0 b1 b2 b3
    clear ha hb ih hsz hW1 hW0 hz1 hb1 X0
    have FN := Lib.hid (fun (h : ¬ (o = o' ∧ r = r' ∧ t = t' ∧ ks.length = ks'.length)) => same_no (a := .mk o r t ks) (b := .mk o' r' t' ks') (fun e => h (by cases e; exact ⟨rfl, rfl, rfl, rfl⟩)))
    by_cases e0 : o = o'
    case neg =>
      have f := Lib.hid (FN.out (fun h => e0 h.1))
      have g : (o == o') = false := by simp [e0]
      go_enter Tryd.func25, Tryd.ntmps25
      go_wp2_with fail
      rw [HW1.out, HW.out]
      go_wp2_with fail
      go_ret
      exact ⟨by rw [f.out]; rfl, X1.out.k⟩
    subst e0
    by_cases e1 : r = r'
    case neg =>
      have f := Lib.hid (FN.out (fun h => e1 h.2.1))
      have g : (r == r') = false := by simp [e1]
      have g0 : (o == o) = true := by simp
      go_enter Tryd.func25, Tryd.ntmps25
      go_wp2_with fail
      rw [HW1.out, HW.out]
      go_wp2_with fail
      go_ret
      exact ⟨by rw [f.out]; rfl, X1.out.k⟩
    subst e1
    have g0 : (o == o) = true := by simp
    have g1 : (r == r) = true := by simp
    cases e2 : (t.toList == t'.toList)
    case false =>
      have f := Lib.hid (FN.out (fun h => by rw [h.2.2.1] at e2; simp at e2))
      go_enter Tryd.func25, Tryd.ntmps25
      go_wp2_with fail
      rw [HW1.out, HW.out]
      go_wp2_with fail
      go_ret
      exact ⟨by rw [f.out]; rfl, X1.out.k⟩
    obtain rfl := bytes_eq e2
    rw [same_list]
    clear FN
    have KA := Lib.hid (show Ks W0 A ks from X1.out.q)
    have KB := Lib.hid (show Ks W0 A' ks' from Y0.out.q)
    have HC := Lib.hid (equal34 n (fun a b va vb w h1 h2 h3 => IH.out a b va vb w h1 (by omega) hmm h2 h3) ks ks' A A' cap cap' W0 (fun k hk => by have := szs_mem hk; omega) (by omega) KA.out KB.out)
    go_enter Tryd.func25, Tryd.ntmps25
    go_wp2_with fail
    rw [HW1.out, HW.out]
    clear HW1 HW
    go_wp2_with fail
    refine HC.out.mono ?_
    rintro e w1 ⟨rfl, hb1⟩
    go_wp2_with fail
    go_ret
    exact ⟨rfl, (X1.out.next hb1).k⟩
theorem same25 (a b : Qt) (va vb : Value) (w : World) (hn : sz a ≤ 4194304) (ha : QAt w w.heap.size a va) (hb : QAt w w.heap.size b vb) : Calls Tryd.prog 25 #[va, vb] w (BoolIs (sameB a b) w) := same25_ (sz a) (sz a) a b va vb w (Nat.le_refl _) (Nat.le_refl _) hn ha hb
end Go.Proofs.YtgbjldkbbbjnkaaDoor
