/-
  The chapter's example: what is read, spelled and checked in it.
-/
import Derived.Test.YtoechdnhgkelfaaDoorCheckP
namespace Go.Proofs.YtoechdnhgkelfaaDoor
open Go.RowKit Go.PlainAid Pl
def bestB {α : Type} [BEq α] (n : Nat) (ky : Nat → List α) (r : List α) (i : Nat) : Bool :=
  decide (i < n) && (ky i).isPrefixOf r && (List.range n).all fun k => !(ky k).isPrefixOf r || (decide ((ky k).length ≤ (ky i).length) && (decide (i ≤ k) || decide ((ky k).length < (ky i).length)))
def nobB {α : Type} [BEq α] (n : Nat) (ky : Nat → List α) (r : List α) : Bool := (List.range n).all fun k => !(ky k).isPrefixOf r
theorem best_of {α : Type} [BEq α] [LawfulBEq α] {n : Nat} {ky : Nat → List α} {r : List α} {i : Nat} (h : bestB n ky r i = true) : Best n ky r i := by
  unfold bestB at h
  rw [Bool.and_eq_true, Bool.and_eq_true] at h
  obtain ⟨⟨h1, h2⟩, h3⟩ := h
  rw [List.all_eq_true] at h3
  have key : ∀ k, Beg n ky r k → (ky k).length ≤ (ky i).length ∧ (i ≤ k ∨ (ky k).length < (ky i).length) := fun k hk => by
    have := h3 k (List.mem_range.2 hk.1)
    rw [Bool.or_eq_true, Bool.and_eq_true, Bool.or_eq_true] at this
    rcases this with h | ⟨ha, hb⟩
    · rw [List.isPrefixOf_iff_prefix.2 hk.2] at h; cases h
    · refine ⟨of_decide_eq_true ha, ?_⟩
      rcases hb with hb | hb
      · exact .inl (of_decide_eq_true hb)
      · exact .inr (of_decide_eq_true hb)
  exact ⟨⟨of_decide_eq_true h1, List.isPrefixOf_iff_prefix.1 h2⟩, fun k hk => (key k hk).1, fun k hk hb => by rcases (key k hb).2 with c | c <;> omega⟩
theorem nob_of {α : Type} [BEq α] [LawfulBEq α] {n : Nat} {ky : Nat → List α} {r : List α} (h : nobB n ky r = true) : Nob n ky r := fun k hk => by
  unfold nobB at h
  rw [List.all_eq_true] at h
  have := h k (List.mem_range.2 hk.1)
  rw [List.isPrefixOf_iff_prefix.2 hk.2] at this
  cases this
/-- The units of the example. -/
def xU : List U := [(⟨#[116]⟩, [1]), (⟨#[104]⟩, [2]), (⟨#[116, 104]⟩, [3])]
def xO : Ort := ⟨⟨#[112, 108, 97, 105, 110]⟩, xU, []⟩
def xP : List (ByteArray × Int) := [(⟨#[116]⟩, 0), (⟨#[104]⟩, 0), (⟨#[116, 104]⟩, 0)]
theorem xgood : Good xU := ⟨by decide, by decide, by decide, by decide, by decide⟩
theorem dv1 {α : Type} [BEq α] [LawfulBEq α] {n : Nat} {ky : Nat → List α} {s : List α} {l : List Nat} {a b i : Nat} (h : Dv n ky s l a) (h1 : a < s.length) (h2 : bestB n ky (s.drop a) i = true) (h3 : a + (ky i).length = b) : Dv n ky s (l ++ [i]) b := by
  subst h3
  exact h.snoc h1 (best_of h2)
theorem x_units : Done xU.length (gr xU) [116, 104, 116, 104, 63] [2, 2] 4 :=
  ⟨dv1 (l := [2]) (a := 2) (i := 2) (dv1 (l := []) (a := 0) (i := 2) .nil (by decide) (by decide) (by decide)) (by decide) (by decide) (by decide), .inr (nob_of (by decide))⟩
theorem x_th : Done xU.length (gr xU) [116, 104] [2] 2 := ⟨dv1 (l := []) (a := 0) (i := 2) .nil (by decide) (by decide) (by decide), .inl (by decide)⟩
theorem x_tx : Done xU.length (gr xU) [116, 120] [0] 1 := ⟨dv1 (l := []) (a := 0) (i := 0) .nil (by decide) (by decide) (by decide), .inr (nob_of (by decide))⟩
theorem x_ht : Done xU.length (gr xU) [104, 116] [1, 0] 2 :=
  ⟨dv1 (l := [1]) (a := 1) (i := 0) (dv1 (l := []) (a := 0) (i := 1) .nil (by decide) (by decide) (by decide)) (by decide) (by decide) (by decide), .inl (by decide)⟩
theorem x_12 : Done xU.length (sg xU) [1, 2] [0, 1] 2 :=
  ⟨dv1 (l := [0]) (a := 1) (i := 1) (dv1 (l := []) (a := 0) (i := 0) .nil (by decide) (by decide) (by decide)) (by decide) (by decide) (by decide), .inl (by decide)⟩
theorem x_21 : Done xU.length (sg xU) [2, 1] [1, 0] 2 :=
  ⟨dv1 (l := [1]) (a := 1) (i := 0) (dv1 (l := []) (a := 0) (i := 1) .nil (by decide) (by decide) (by decide)) (by decide) (by decide) (by decide), .inl (by decide)⟩
theorem x_14 : Done xU.length (sg xU) [1, 4] [0] 1 := ⟨dv1 (l := []) (a := 0) (i := 0) .nil (by decide) (by decide) (by decide), .inr (nob_of (by decide))⟩
theorem r_th : RdP xU [116, 104] [3] 0 0 := .inr ⟨by decide, [2], 2, x_th, .inr (.inr ⟨by decide, by decide, by decide, rfl, rfl⟩)⟩
theorem r_tx : RdP xU [116, 120] [] 1 20 := .inr ⟨by decide, [0], 1, x_tx, .inl ⟨by decide, rfl, rfl, rfl⟩⟩
theorem r_ht : RdP xU [104, 116] [2, 1] 0 0 := .inr ⟨by decide, [1, 0], 2, x_ht, .inr (.inr ⟨by decide, by decide, by decide, rfl, rfl⟩)⟩
theorem r_no : RdP xU [] [] 0 4 := .inl ⟨rfl, rfl, rfl, rfl⟩
theorem s_12 : SpP xU [1, 2] [116, 104] 0 0 := .inr (.inr ⟨by decide, by decide, [0, 1], 2, x_12, .inr ⟨by decide, by decide, rfl, rfl⟩⟩)
theorem s_21 : SpP xU [2, 1] [104, 116] 0 0 := .inr (.inr ⟨by decide, by decide, [1, 0], 2, x_21, .inr ⟨by decide, by decide, rfl, rfl⟩⟩)
theorem s_14 : SpP xU [1, 4] [] 1 20 := .inr (.inr ⟨by decide, by decide, [0], 1, x_14, .inl ⟨by decide, rfl, rfl, rfl⟩⟩)
theorem ex_12 : ¬ ExP xU [1, 2] := fun ⟨t, h1, h2⟩ => by
  obtain ⟨rfl, _⟩ := s_12.unique h1
  exact absurd (r_th.unique h2).1 (by decide)
theorem ex_21 : ExP xU [2, 1] := ⟨_, s_21, r_ht⟩
theorem x_few : Few xP xO := ⟨by decide, by decide, by decide, by decide, by decide, by decide, by decide⟩
theorem lows_of {s : ByteArray} (h : (List.range s.size).all (fun j => !lowB (bt s j)) = true) : Lows s s.size := fun j hj => by
  rw [List.all_eq_true] at h
  have := h j (List.mem_range.2 hj)
  simpa using this
theorem blk_of {s : ByteArray} (h : (List.range s.size).all (fun j => decide (bt s j ≠ 32)) = true) : Blk0 s s.size := fun j hj => by
  rw [List.all_eq_true] at h
  exact of_decide_eq_true (h j (List.mem_range.2 hj))
theorem p_t : PlQ ⟨#[116]⟩ := ⟨⟨by decide, by decide, lows_of (by decide +kernel), by decide +kernel⟩, blk_of (by decide +kernel)⟩
theorem p_h : PlQ ⟨#[104]⟩ := ⟨⟨by decide, by decide, lows_of (by decide +kernel), by decide +kernel⟩, blk_of (by decide +kernel)⟩
theorem p_th : PlQ ⟨#[116, 104]⟩ := ⟨⟨by decide, by decide, lows_of (by decide +kernel), by decide +kernel⟩, blk_of (by decide +kernel)⟩
def nmB (k : Nat) (c : Int) : Bool := (decide (97 ≤ c) && decide (c ≤ 122)) || (decide (k ≠ 0) && (decide (c = 45) || decide (c = 95) || (decide (48 ≤ c) && decide (c ≤ 57))))
theorem nam_of {s : ByteArray} (h : (List.range s.size).all (fun j => nmB j (bt s j)) = true) : NmTo s s.size := fun j hj => by
  rw [List.all_eq_true] at h
  have := h j (List.mem_range.2 hj)
  unfold nmB at this
  unfold NmC
  simp at this
  omega
theorem n_plain : NamP ⟨#[112, 108, 97, 105, 110]⟩ := ⟨by decide, by decide, nam_of (by decide +kernel)⟩
theorem x_chk : ChkG PlQ 3 xO 0 := by
  refine .inr (.inr ⟨n_plain, by decide, 0, .inl ⟨rfl, fun i hi => ?_⟩, .inr ⟨rfl, .inr ⟨by decide, .inl ⟨rfl, fun i hi => absurd hi (by simp [xO])⟩⟩⟩⟩)
  have hi' : i < 3 := hi
  match i, hi' with
  | 0, _ => exact ⟨_, rfl, .inr (.inr (.inr ⟨p_t, fun ⟨k, v, hk, _⟩ => by omega, by unfold SegOk; decide, rfl⟩))⟩
  | 1, _ => exact ⟨_, rfl, .inr (.inr (.inr ⟨p_h, fun ⟨k, v, hk, hv, he⟩ => by
      obtain rfl : k = 0 := by omega
      cases hv
      exact absurd he (by decide), by unfold SegOk; decide, rfl⟩))⟩
  | 2, _ => exact ⟨_, rfl, .inr (.inr (.inr ⟨p_th, fun ⟨k, v, hk, hv, he⟩ => by
      rcases (show k = 0 ∨ k = 1 by omega) with rfl | rfl
      · cases hv; exact absurd he (by decide)
      · cases hv; exact absurd he (by decide), by unfold SegOk; decide, rfl⟩))⟩
theorem UG.unique {Pl : ByteArray → Prop} {np : Nat} {us : List U} (i : Nat) (p q : Int) (h : UG Pl np us i p) (h' : UG Pl np us i q) : p = q := by
  obtain ⟨u, hu, h⟩ := h
  obtain ⟨v, hv, h'⟩ := h'
  rw [hu] at hv
  cases hv
  rcases h with ⟨a, rfl⟩ | ⟨a, b, rfl⟩ | ⟨a, b, c, rfl⟩ | ⟨a, b, c, rfl⟩ <;> rcases h' with ⟨a', rfl⟩ | ⟨a', b', rfl⟩ | ⟨a', b', c', rfl⟩ | ⟨a', b', c', rfl⟩ <;> first | rfl | exact absurd a a' | exact absurd a' a | exact absurd b b' | exact absurd b' b | exact absurd c c' | exact absurd c' c
theorem x_chk_only {q : Int} (h : ChkG PlQ 3 xO q) : q = 0 := by
  rcases h with ⟨h, _⟩ | ⟨_, h, _⟩ | ⟨_, _, r, hr, h⟩
  · exact absurd n_plain h
  · exact absurd h (by decide)
  · rcases x_chk with ⟨h', _⟩ | ⟨_, h', _⟩ | ⟨_, _, r', hr', h'⟩
    · exact absurd n_plain h'
    · exact absurd h' (by decide)
    · have e := hr.unique UG.unique hr'
      subst e
      rcases h' with ⟨h1, h2⟩ | ⟨h1, _⟩
      · exact absurd h2.symm h1
      · subst h1
        rcases h with ⟨h1, _⟩ | ⟨_, h⟩
        · exact absurd rfl h1
        · rcases h with ⟨h, _⟩ | ⟨_, ⟨h, _⟩ | ⟨_, i, hi, _⟩⟩
          · exact absurd h (by decide)
          · exact h
          · exact absurd hi (by simp [xO])
def zO : Ort := ⟨⟨#[]⟩, [], []⟩
theorem z_chk_only {q : Int} (h : ChkG PlQ 3 zO q) : q = 7 := by
  have hn : ¬ NamP zO.name := fun h => absurd h.1 (by decide)
  rcases h with ⟨_, h⟩ | ⟨h, _⟩ | ⟨h, _⟩
  · exact h
  · exact absurd h hn
  · exact absurd h hn
theorem z_few : Few xP zO := ⟨by decide, by decide, by decide, by decide, by decide, by decide, by decide⟩
/-- What letters returns where there are none. -/
theorem lets_nil (o : Ort) (vo : Value) (h : o.ls = []) : LetsAt o vo := fun w _ ho => by
  obtain ⟨AU, capU, AL, capL, rfl, hU, hL⟩ := ho
  have hmm := @run_makeMap Tryd.prog
  have HL := Lib.hid (show LetG PlQ [] 0 from .inr ⟨by decide, .inl ⟨rfl, fun i hi => absurd hi (by simp)⟩⟩)
  rw [h]
  clear h hU hL
  generalize LetG PlQ [] = GG at HL
  go_enter Tryd.func32, Tryd.ntmps32
  go_wp2_with fail
  go_rounds 1
  go_wp2_with fail
  go_ret
  exact ⟨0, rfl, HL.out, ((Below.refl _ _).alloc (Nat.le_refl _) _).alloc (by simp) _⟩
end Go.Proofs.YtoechdnhgkelfaaDoor
