/-
  What Scalar, encoded and first of the reference return.
-/
import Derived.Test.YtgbjldkbbbjnkaaDoorSame3
import Derived.Deep.RegionHeld3
namespace Go.Proofs.YtgbjldkbbbjnkaaDoor
open Go.RowKit Go.PlainAid
theorem info3 : (Tryd.prog.info? 3).map (fun i => (i.zero, i.size, i.bytes)) = some (some (.int .i64 0), 1, 8) := by kernel_rfl
theorem cells_one (w : World) (u : Value) (t : TypeId) : ∀ (j : Nat) (x : Value), [u][j]? = some x → (w.alloc (.cells #[u] t)).cell? ((⟨w.heap.size, 0, none⟩ : Addr).add j) = some x := by
  intro j x hx
  match j, hx with
  | 0, hx => simp at hx; subst hx; simp [Addr.add, World.cell?_alloc_new]
  | j + 1, hx => simp at hx
theorem ext_drop {s : ByteArray} (k : Nat) : (s.extract k s.size).data.toList = s.data.toList.drop k := by
  rw [Lib.extract_data, List.take_of_length_le (by rw [List.length_drop, size_list]; omega)]
theorem ext_len {s : ByteArray} {k : Nat} (_h : k ≤ s.size) : (s.extract k s.size).size = s.size - k := by
  rw [← size_list, ext_drop, List.length_drop, size_list]
theorem below_drewN {B : Nat} {a w : World} (h : Below B a w) (n : Nat) : Below B a (w.drewN n) := ⟨h.os, h.tape, h.output, h.size, h.block⟩
theorem wrap_small (n : Int) (h : -9223372036854775808 ≤ n ∧ n ≤ 9223372036854775807) : IntKind.i64.wrap n = n := by rw [Go.PlainAid.i64_is]; exact Go.IntWalk.wrap64_in _ h
theorem slice_run (s : ByteArray) (a b : Nat) (h : a ≤ b) (hb : b ≤ s.size) : ∀ wx : World, (Instr.slice 9 (.string s) (some (.int .i64 (a : Int))) (some (.int .i64 (b : Int))) none).run Tryd.prog wx = .ok (.string (s.extract a b)) wx := fun wx => by
  have := run_slice_string (P := Tryd.prog) wx 9 s .i64 .i64 (a : Int) (b : Int) Tryd.underlying9 (by omega) (by omega) (by omega)
  simpa using this
def encN (p : Int) : List Int := if p < 128 then [p] else if p < 2048 then [192 + p / 64, 128 + p % 64] else if p < 65536 then [224 + p / 4096, 128 + p / 64 % 64, 128 + p % 64] else [240 + p / 262144, 128 + p / 4096 % 64, 128 + p / 64 % 64, 128 + p % 64]
theorem convN (w : World) (g n : Nat) (l : List Int) (hl : l.length = n) (hg : g = w.heap.size) : (convert 75 9 (.slice (some ⟨g, 0, none⟩) n n)).run Tryd.prog (w.alloc (.cells (l.map (fun a => Value.int .u8 a)).toArray 5)) = .ok (.string (strOfNums l)) (w.alloc (.cells (l.map (fun a => Value.int .u8 a)).toArray 5)) := by
  subst hg hl
  refine run_convert_bytes_arg _ 75 5 Tryd.underlying75 Tryd.underlying5 _ 0 l.length l.length l rfl ?_ 9 Tryd.underlying9
  intro i hi
  simp [World.cell?_alloc_new, hi]
def scalarB (p : Int) : Bool := decide (0 ≤ p) && decide (p ≤ 1114111) && (decide (p < 55296) || decide (57343 < p))
theorem scalar_le {p : Int} (h : scalarB p = true) : p ≤ 1114111 := by
  unfold scalarB at h
  simp at h
  omega
theorem scalar91 (p : Int) (w : World) : Calls Tryd.prog 91 #[.int .i64 p] w fun e w' => e = .returned (.bool (scalarB p)) ∧ w = w' := by
  unfold scalarB
  by_cases h1 : 0 ≤ p
  · by_cases h2 : p ≤ 1114111
    · by_cases h3 : p < 55296
      · go_enter Tryd.func91, Tryd.ntmps91
        go_wp2
        go_ret
        exact ⟨by simp [*], rfl⟩
      · go_enter Tryd.func91, Tryd.ntmps91
        go_wp2
        go_ret
        exact ⟨by simp [*]; omega, rfl⟩
    · go_enter Tryd.func91, Tryd.ntmps91
      go_wp2
      go_ret
      exact ⟨by simp [*]; omega, rfl⟩
  · go_enter Tryd.func91, Tryd.ntmps91
    go_wp2
    go_ret
    exact ⟨by simp [*]; omega, rfl⟩
theorem conv1 (w : World) (a : Int) : (convert 75 9 (.slice (some ⟨w.heap.size, 0, none⟩) 1 1)).run Tryd.prog (w.alloc (.cells #[.int .u8 a] 5)) = .ok (.string (strOfNums [a])) (w.alloc (.cells #[.int .u8 a] 5)) := convN w _ 1 [a] rfl rfl
theorem conv2 (w : World) (a b : Int) : (convert 75 9 (.slice (some ⟨w.heap.size, 0, none⟩) 2 2)).run Tryd.prog (w.alloc (.cells #[.int .u8 a, .int .u8 b] 5)) = .ok (.string (strOfNums [a, b])) (w.alloc (.cells #[.int .u8 a, .int .u8 b] 5)) := convN w _ 2 [a, b] rfl rfl
theorem conv3 (w : World) (a b c : Int) : (convert 75 9 (.slice (some ⟨w.heap.size, 0, none⟩) 3 3)).run Tryd.prog (w.alloc (.cells #[.int .u8 a, .int .u8 b, .int .u8 c] 5)) = .ok (.string (strOfNums [a, b, c])) (w.alloc (.cells #[.int .u8 a, .int .u8 b, .int .u8 c] 5)) := convN w _ 3 [a, b, c] rfl rfl
theorem conv4 (w : World) (a b c d : Int) : (convert 75 9 (.slice (some ⟨w.heap.size, 0, none⟩) 4 4)).run Tryd.prog (w.alloc (.cells #[.int .u8 a, .int .u8 b, .int .u8 c, .int .u8 d] 5)) = .ok (.string (strOfNums [a, b, c, d])) (w.alloc (.cells #[.int .u8 a, .int .u8 b, .int .u8 c, .int .u8 d] 5)) := convN w _ 4 [a, b, c, d] rfl rfl
set_option maxHeartbeats 1600000 in
set_option maxRecDepth 100000 in
theorem encoded92 (p : Int) (w : World) (h0 : 0 ≤ p) (h1 : p ≤ 1114111) : Calls Tryd.prog 92 #[.int .i64 p] w fun e w' => e = .returned (.string (strOfNums (encN p))) ∧ Below w.heap.size w w' := by
  have d1 : p.tdiv 64 = p / 64 := Int.tdiv_eq_ediv_of_nonneg h0
  have d2 : p.tdiv 4096 = p / 4096 := Int.tdiv_eq_ediv_of_nonneg h0
  have d3 : p.tdiv 262144 = p / 262144 := Int.tdiv_eq_ediv_of_nonneg h0
  have m1 : p.tmod 64 = p % 64 := Int.tmod_eq_emod_of_nonneg h0
  have m2 : (p / 64).tmod 64 = p / 64 % 64 := Int.tmod_eq_emod_of_nonneg (by omega)
  have m3 : (p / 4096).tmod 64 = p / 4096 % 64 := Int.tmod_eq_emod_of_nonneg (by omega)
  by_cases a1 : p < 128
  · clear d1 d2 d3 m1 m2 m3
    have hc := conv1 w p
    have E := Lib.hid (show encN p = [p] by unfold encN; rw [if_pos a1])
    go_enter Tryd.func92, Tryd.ntmps92
    go_wp2_with fail
    go_ret
    exact ⟨by rw [E.out]; rfl, (Below.refl _ _).alloc (Nat.le_refl _) _⟩
  by_cases a2 : p < 2048
  · clear d2 d3 m2 m3
    have hc := conv2 w (192 + p / 64) (128 + p % 64)
    have E := Lib.hid (show encN p = [192 + p / 64, 128 + p % 64] by unfold encN; rw [if_neg a1, if_pos a2])
    go_enter Tryd.func92, Tryd.ntmps92
    go_wp2_with fail
    go_ret
    exact ⟨by rw [E.out]; rfl, (Below.refl _ _).alloc (Nat.le_refl _) _⟩
  by_cases a3 : p < 65536
  · clear d3 m3
    have hc := conv3 w (224 + p / 4096) (128 + p / 64 % 64) (128 + p % 64)
    have E := Lib.hid (show encN p = [224 + p / 4096, 128 + p / 64 % 64, 128 + p % 64] by unfold encN; rw [if_neg a1, if_neg a2, if_pos a3])
    go_enter Tryd.func92, Tryd.ntmps92
    go_wp2_with fail
    go_ret
    exact ⟨by rw [E.out]; rfl, (Below.refl _ _).alloc (Nat.le_refl _) _⟩
  · have hc := conv4 w (240 + p / 262144) (128 + p / 4096 % 64) (128 + p / 64 % 64) (128 + p % 64)
    have E := Lib.hid (show encN p = [240 + p / 262144, 128 + p / 4096 % 64, 128 + p / 64 % 64, 128 + p % 64] by unfold encN; rw [if_neg a1, if_neg a2, if_neg a3])
    go_enter Tryd.func92, Tryd.ntmps92
    go_wp2_with fail
    go_ret
    exact ⟨by rw [E.out]; rfl, (Below.refl _ _).alloc (Nat.le_refl _) _⟩
/-- The number of bytes that a first byte asks for. -/
def lenI (c : Int) : Nat := if 240 ≤ c then 4 else if 224 ≤ c then 3 else if 192 ≤ c then 2 else 1
/-- The point whose encoding may begin at a place. -/
def ptI (s : ByteArray) (k : Nat) : Int :=
  if 240 ≤ bt s k then (((bt s k - 240) * 64 + bt s (k + 1) % 64) * 64 + bt s (k + 2) % 64) * 64 + bt s (k + 3) % 64
  else if 224 ≤ bt s k then ((bt s k - 224) * 64 + bt s (k + 1) % 64) * 64 + bt s (k + 2) % 64
  else if 192 ≤ bt s k then (bt s k - 192) * 64 + bt s (k + 1) % 64
  else bt s k
/-- A point is encoded at a place. -/
def FrOk (s : ByteArray) (k : Nat) : Prop := k + lenI (bt s k) ≤ s.size ∧ scalarB (ptI s k) = true ∧ strOfNums (encN (ptI s k)) = s.extract k (k + lenI (bt s k))
def FirstOut (s : ByteArray) (k : Nat) (w : World) (e : Ending) (w' : World) : Prop := ∃ (p : Int) (n : Nat), e = .returned (.tuple #[.int .i64 p, .int .i64 n]) ∧ ((n = 0 ∧ ¬ FrOk s k) ∨ (FrOk s k ∧ n = lenI (bt s k) ∧ p = ptI s k)) ∧ Below w.heap.size w w'
theorem beq_str (a b : ByteArray) : (a.toList == b.toList) = true ↔ a = b := by
  rw [Lib.toList_data, Lib.toList_data, beq_iff_eq]
  exact ⟨fun h => by cases a; cases b; congr 1; exact Array.toList_inj.1 h, fun h => by rw [h]⟩
theorem ne_str {a b : ByteArray} (h : (!a.toList == b.toList) = true) : a ≠ b := fun e => by
  subst e
  simp at h
theorem eq_str {a b : ByteArray} (h : (!a.toList == b.toList) = false) : a = b := by
  rw [← beq_str]
  simpa using h
set_option maxHeartbeats 3200000 in
set_option maxRecDepth 100000 in
theorem first84_1 (s : ByteArray) (k : Nat) (w : World) (hk : k < s.size) (hs : s.size ≤ 1000) (hc : bt s k < 192) : Calls Tryd.prog 84 #[.string s, .int .i64 k] w (FirstOut s k w) := by
  have hbt := get_bt s
  have b0 := bt_nonneg s k
  have b1 := bt_le s k
  have hn : lenI (bt s k) = 1 := by unfold lenI; rw [if_neg (by omega), if_neg (by omega), if_neg (by omega)]
  have hp : ptI s k = bt s k := by unfold ptI; rw [if_neg (by omega), if_neg (by omega), if_neg (by omega)]
  have HN := Lib.hid hn
  by_cases hlen : k + 1 ≤ s.size
  · have FR := Lib.hid (show FrOk s k ↔ scalarB (bt s k) = true ∧ strOfNums (encN (bt s k)) = s.extract k (k + 1) by unfold FrOk; rw [hn, hp]; simp [hlen])
    have HP := Lib.hid hp
    clear hn hp
    have hwr : IntKind.i64.wrap ((k : Int) + 1) = (k : Int) + 1 := wrap_small _ (by omega)
    have i0 : (0 : Int) ≤ (k : Int) := by omega
    have i1 : (k : Int) + 1 ≤ (s.size : Int) := by omega
    have i2 : (k : Int) ≤ (k : Int) + 1 := by omega
    have i3 : (0 : Int) ≤ (k : Int) + 1 := by omega
    have hsl := slice_run s k (k + 1) (by omega) (by omega)
    rw [show ((k + 1 : Nat) : Int) = (k : Int) + 1 by omega] at hsl
    have hp0 : 0 ≤ bt s k := by omega
    obtain ⟨p, hpe⟩ : ∃ p : Int, bt s k = p := ⟨_, rfl⟩
    rw [hpe] at FR hp0
    cases hsc : scalarB p
    · exfalso; rw [← hpe] at hsc; unfold scalarB at hsc; simp at hsc; omega
    · have HSC := Lib.hid hsc
      have hp1 := scalar_le hsc
      clear hsc
      go_enter Tryd.func84, Tryd.ntmps84
      go_wp2_with fail
      go_rounds 1
      go_wp2_with fail
      go_region_held3 (fun _ => True) (trivial) (first | (go_at_call 91; refine (scalar91 _ _).mono ?_; rintro e w1 ⟨rfl, rfl⟩; rw [HSC.out]) | (go_at_call 92; refine (encoded92 _ _ hp0 hp1).mono ?_; rintro e w1 ⟨rfl, hb1⟩))
      go_wp2_with fail
      · rename_i hq
        go_ret2
        exact ⟨-1, 0, rfl, .inl ⟨rfl, fun h => ne_str hq (FR.out.1 h).2⟩, (Below.refl _ _).drew.trans hb1⟩
      · rename_i hq
        go_ret2
        exact ⟨_, _, rfl, .inr ⟨FR.out.2 ⟨HSC.out, eq_str hq⟩, HN.out.symm, (HP.out.trans hpe).symm⟩, (Below.refl _ _).drew.trans hb1⟩
  · omega
set_option maxHeartbeats 3200000 in
set_option maxRecDepth 100000 in
theorem first84_2 (s : ByteArray) (k : Nat) (w : World) (hk : k < s.size) (hs : s.size ≤ 1000) (h1 : 192 ≤ bt s k) (h2 : bt s k < 224) : Calls Tryd.prog 84 #[.string s, .int .i64 k] w (FirstOut s k w) := by
  have hbt := get_bt s
  have b0 := bt_nonneg s k
  have b1 := bt_le s k
  have c1 := bt_nonneg s (k + 1)
  have e1 := bt_le s (k + 1)
  have m1 : (bt s (k + 1)).tmod 64 = bt s (k + 1) % 64 := Int.tmod_eq_emod_of_nonneg c1
  have hn : lenI (bt s k) = 2 := by unfold lenI; rw [if_neg (by omega), if_neg (by omega), if_pos h1]
  have hp : ptI s k = (bt s k - 192) * 64 + bt s (k + 1) % 64 := by unfold ptI; rw [if_neg (by omega), if_neg (by omega), if_pos h1]
  have HN := Lib.hid hn
  by_cases hlen : k + 2 ≤ s.size
  · have FR := Lib.hid (show FrOk s k ↔ scalarB ((bt s k - 192) * 64 + bt s (k + 1) % 64) = true ∧ strOfNums (encN ((bt s k - 192) * 64 + bt s (k + 1) % 64)) = s.extract k (k + 2) by unfold FrOk; rw [hn, hp]; simp [hlen])
    have HP := Lib.hid hp
    clear hn hp
    have hwr : IntKind.i64.wrap ((k : Int) + 2) = (k : Int) + 2 := wrap_small _ (by omega)
    have i0 : (0 : Int) ≤ (k : Int) := by omega
    have i1 : (k : Int) + 2 ≤ (s.size : Int) := by omega
    have i2 : (k : Int) ≤ (k : Int) + 2 := by omega
    have i3 : (0 : Int) ≤ (k : Int) + 2 := by omega
    have hsl := slice_run s k (k + 2) (by omega) (by omega)
    rw [show ((k + 2 : Nat) : Int) = (k : Int) + 2 by omega] at hsl
    have hp0 : 0 ≤ (bt s k - 192) * 64 + bt s (k + 1) % 64 := by omega
    obtain ⟨p, hpe⟩ : ∃ p : Int, (bt s k - 192) * 64 + bt s (k + 1) % 64 = p := ⟨_, rfl⟩
    rw [hpe] at FR hp0
    cases hsc : scalarB p
    · have HSC := Lib.hid hsc
      have HS0 := Lib.hid (fun w => by have := scalar91 p w; rw [hsc] at this; exact this.mono fun _ _ h => ⟨h.1, h.2.symm⟩ : ∀ w, Calls Tryd.prog 91 #[.int .i64 p] w fun e w' => e = .returned (.bool false) ∧ w' = w)
      clear hsc hsl i2 i3
      go_enter Tryd.func84, Tryd.ntmps84
      go_wp2_with fail
      go_rounds 2
      go_wp2_with fail
      go_quiet (first | (go_at_call 91; with_reducible exact Calls.quiet_of_same (HS0.out _)))
      go_wp2_with fail
      go_ret2
      exact ⟨-1, 0, rfl, .inl ⟨rfl, fun h => by have := (FR.out.1 h).1; rw [HSC.out] at this; cases this⟩, below_drewN (Below.refl _ _) _⟩
    · have HSC := Lib.hid hsc
      have hp1 := scalar_le hsc
      clear hsc
      go_enter Tryd.func84, Tryd.ntmps84
      go_wp2_with fail
      go_rounds 2
      go_wp2_with fail
      go_region_held3 (fun _ => True) (trivial) (first | (go_at_call 91; refine (scalar91 _ _).mono ?_; rintro e w1 ⟨rfl, rfl⟩; rw [HSC.out]) | (go_at_call 92; refine (encoded92 _ _ hp0 hp1).mono ?_; rintro e w1 ⟨rfl, hb1⟩))
      go_wp2_with fail
      · rename_i hq
        go_ret2
        exact ⟨-1, 0, rfl, .inl ⟨rfl, fun h => ne_str hq (FR.out.1 h).2⟩, (Below.refl _ _).drew.trans hb1⟩
      · rename_i hq
        go_ret2
        exact ⟨_, _, rfl, .inr ⟨FR.out.2 ⟨HSC.out, eq_str hq⟩, HN.out.symm, (HP.out.trans hpe).symm⟩, (Below.refl _ _).drew.trans hb1⟩
  · have FR := Lib.hid (show ¬ FrOk s k by unfold FrOk; rw [hn]; exact fun h => hlen h.1)
    clear hn hp
    go_enter Tryd.func84, Tryd.ntmps84
    go_wp2_with fail
    go_ret2
    exact ⟨-1, 0, rfl, .inl ⟨rfl, FR.out⟩, Below.refl _ _⟩
set_option maxHeartbeats 3200000 in
set_option maxRecDepth 100000 in
theorem first84_3 (s : ByteArray) (k : Nat) (w : World) (hk : k < s.size) (hs : s.size ≤ 1000) (h1 : 224 ≤ bt s k) (h2 : bt s k < 240) : Calls Tryd.prog 84 #[.string s, .int .i64 k] w (FirstOut s k w) := by
  have hbt := get_bt s
  have b0 := bt_nonneg s k
  have b1 := bt_le s k
  have c1 := bt_nonneg s (k + 1)
  have e1 := bt_le s (k + 1)
  have m1 : (bt s (k + 1)).tmod 64 = bt s (k + 1) % 64 := Int.tmod_eq_emod_of_nonneg c1
  have c2 := bt_nonneg s (k + 2)
  have e2 := bt_le s (k + 2)
  have m2 : (bt s (k + 2)).tmod 64 = bt s (k + 2) % 64 := Int.tmod_eq_emod_of_nonneg c2
  have hn : lenI (bt s k) = 3 := by unfold lenI; rw [if_neg (by omega), if_pos h1]
  have hp : ptI s k = ((bt s k - 224) * 64 + bt s (k + 1) % 64) * 64 + bt s (k + 2) % 64 := by unfold ptI; rw [if_neg (by omega), if_pos h1]
  have HN := Lib.hid hn
  by_cases hlen : k + 3 ≤ s.size
  · have FR := Lib.hid (show FrOk s k ↔ scalarB (((bt s k - 224) * 64 + bt s (k + 1) % 64) * 64 + bt s (k + 2) % 64) = true ∧ strOfNums (encN (((bt s k - 224) * 64 + bt s (k + 1) % 64) * 64 + bt s (k + 2) % 64)) = s.extract k (k + 3) by unfold FrOk; rw [hn, hp]; simp [hlen])
    have HP := Lib.hid hp
    clear hn hp
    have hwr : IntKind.i64.wrap ((k : Int) + 3) = (k : Int) + 3 := wrap_small _ (by omega)
    have i0 : (0 : Int) ≤ (k : Int) := by omega
    have i1 : (k : Int) + 3 ≤ (s.size : Int) := by omega
    have i2 : (k : Int) ≤ (k : Int) + 3 := by omega
    have i3 : (0 : Int) ≤ (k : Int) + 3 := by omega
    have hsl := slice_run s k (k + 3) (by omega) (by omega)
    rw [show ((k + 3 : Nat) : Int) = (k : Int) + 3 by omega] at hsl
    have hp0 : 0 ≤ ((bt s k - 224) * 64 + bt s (k + 1) % 64) * 64 + bt s (k + 2) % 64 := by omega
    obtain ⟨p, hpe⟩ : ∃ p : Int, ((bt s k - 224) * 64 + bt s (k + 1) % 64) * 64 + bt s (k + 2) % 64 = p := ⟨_, rfl⟩
    rw [hpe] at FR hp0
    cases hsc : scalarB p
    · have HSC := Lib.hid hsc
      have HS0 := Lib.hid (fun w => by have := scalar91 p w; rw [hsc] at this; exact this.mono fun _ _ h => ⟨h.1, h.2.symm⟩ : ∀ w, Calls Tryd.prog 91 #[.int .i64 p] w fun e w' => e = .returned (.bool false) ∧ w' = w)
      clear hsc hsl i2 i3
      go_enter Tryd.func84, Tryd.ntmps84
      go_wp2_with fail
      go_rounds 3
      go_wp2_with fail
      go_quiet (first | (go_at_call 91; with_reducible exact Calls.quiet_of_same (HS0.out _)))
      go_wp2_with fail
      go_ret2
      exact ⟨-1, 0, rfl, .inl ⟨rfl, fun h => by have := (FR.out.1 h).1; rw [HSC.out] at this; cases this⟩, below_drewN (Below.refl _ _) _⟩
    · have HSC := Lib.hid hsc
      have hp1 := scalar_le hsc
      clear hsc
      go_enter Tryd.func84, Tryd.ntmps84
      go_wp2_with fail
      go_rounds 3
      go_wp2_with fail
      go_region_held3 (fun _ => True) (trivial) (first | (go_at_call 91; refine (scalar91 _ _).mono ?_; rintro e w1 ⟨rfl, rfl⟩; rw [HSC.out]) | (go_at_call 92; refine (encoded92 _ _ hp0 hp1).mono ?_; rintro e w1 ⟨rfl, hb1⟩))
      go_wp2_with fail
      · rename_i hq
        go_ret2
        exact ⟨-1, 0, rfl, .inl ⟨rfl, fun h => ne_str hq (FR.out.1 h).2⟩, (Below.refl _ _).drew.trans hb1⟩
      · rename_i hq
        go_ret2
        exact ⟨_, _, rfl, .inr ⟨FR.out.2 ⟨HSC.out, eq_str hq⟩, HN.out.symm, (HP.out.trans hpe).symm⟩, (Below.refl _ _).drew.trans hb1⟩
  · have FR := Lib.hid (show ¬ FrOk s k by unfold FrOk; rw [hn]; exact fun h => hlen h.1)
    clear hn hp
    go_enter Tryd.func84, Tryd.ntmps84
    go_wp2_with fail
    go_ret2
    exact ⟨-1, 0, rfl, .inl ⟨rfl, FR.out⟩, Below.refl _ _⟩
set_option maxHeartbeats 3200000 in
set_option maxRecDepth 100000 in
theorem first84_4 (s : ByteArray) (k : Nat) (w : World) (hk : k < s.size) (hs : s.size ≤ 1000) (h1 : 240 ≤ bt s k) : Calls Tryd.prog 84 #[.string s, .int .i64 k] w (FirstOut s k w) := by
  have hbt := get_bt s
  have b0 := bt_nonneg s k
  have b1 := bt_le s k
  have c1 := bt_nonneg s (k + 1)
  have e1 := bt_le s (k + 1)
  have m1 : (bt s (k + 1)).tmod 64 = bt s (k + 1) % 64 := Int.tmod_eq_emod_of_nonneg c1
  have c2 := bt_nonneg s (k + 2)
  have e2 := bt_le s (k + 2)
  have m2 : (bt s (k + 2)).tmod 64 = bt s (k + 2) % 64 := Int.tmod_eq_emod_of_nonneg c2
  have c3 := bt_nonneg s (k + 3)
  have e3 := bt_le s (k + 3)
  have m3 : (bt s (k + 3)).tmod 64 = bt s (k + 3) % 64 := Int.tmod_eq_emod_of_nonneg c3
  have hn : lenI (bt s k) = 4 := by unfold lenI; rw [if_pos h1]
  have hp : ptI s k = (((bt s k - 240) * 64 + bt s (k + 1) % 64) * 64 + bt s (k + 2) % 64) * 64 + bt s (k + 3) % 64 := by unfold ptI; rw [if_pos h1]
  have HN := Lib.hid hn
  by_cases hlen : k + 4 ≤ s.size
  · have FR := Lib.hid (show FrOk s k ↔ scalarB ((((bt s k - 240) * 64 + bt s (k + 1) % 64) * 64 + bt s (k + 2) % 64) * 64 + bt s (k + 3) % 64) = true ∧ strOfNums (encN ((((bt s k - 240) * 64 + bt s (k + 1) % 64) * 64 + bt s (k + 2) % 64) * 64 + bt s (k + 3) % 64)) = s.extract k (k + 4) by unfold FrOk; rw [hn, hp]; simp [hlen])
    have HP := Lib.hid hp
    clear hn hp
    have hwr : IntKind.i64.wrap ((k : Int) + 4) = (k : Int) + 4 := wrap_small _ (by omega)
    have i0 : (0 : Int) ≤ (k : Int) := by omega
    have i1 : (k : Int) + 4 ≤ (s.size : Int) := by omega
    have i2 : (k : Int) ≤ (k : Int) + 4 := by omega
    have i3 : (0 : Int) ≤ (k : Int) + 4 := by omega
    have hsl := slice_run s k (k + 4) (by omega) (by omega)
    rw [show ((k + 4 : Nat) : Int) = (k : Int) + 4 by omega] at hsl
    have hp0 : 0 ≤ (((bt s k - 240) * 64 + bt s (k + 1) % 64) * 64 + bt s (k + 2) % 64) * 64 + bt s (k + 3) % 64 := by omega
    obtain ⟨p, hpe⟩ : ∃ p : Int, (((bt s k - 240) * 64 + bt s (k + 1) % 64) * 64 + bt s (k + 2) % 64) * 64 + bt s (k + 3) % 64 = p := ⟨_, rfl⟩
    rw [hpe] at FR hp0
    cases hsc : scalarB p
    · have HSC := Lib.hid hsc
      have HS0 := Lib.hid (fun w => by have := scalar91 p w; rw [hsc] at this; exact this.mono fun _ _ h => ⟨h.1, h.2.symm⟩ : ∀ w, Calls Tryd.prog 91 #[.int .i64 p] w fun e w' => e = .returned (.bool false) ∧ w' = w)
      clear hsc hsl i2 i3
      go_enter Tryd.func84, Tryd.ntmps84
      go_wp2_with fail
      go_rounds 4
      go_wp2_with fail
      go_quiet (first | (go_at_call 91; with_reducible exact Calls.quiet_of_same (HS0.out _)))
      go_wp2_with fail
      go_ret2
      exact ⟨-1, 0, rfl, .inl ⟨rfl, fun h => by have := (FR.out.1 h).1; rw [HSC.out] at this; cases this⟩, below_drewN (Below.refl _ _) _⟩
    · have HSC := Lib.hid hsc
      have hp1 := scalar_le hsc
      clear hsc
      go_enter Tryd.func84, Tryd.ntmps84
      go_wp2_with fail
      go_rounds 4
      go_wp2_with fail
      go_region_held3 (fun _ => True) (trivial) (first | (go_at_call 91; refine (scalar91 _ _).mono ?_; rintro e w1 ⟨rfl, rfl⟩; rw [HSC.out]) | (go_at_call 92; refine (encoded92 _ _ hp0 hp1).mono ?_; rintro e w1 ⟨rfl, hb1⟩))
      go_wp2_with fail
      · rename_i hq
        go_ret2
        exact ⟨-1, 0, rfl, .inl ⟨rfl, fun h => ne_str hq (FR.out.1 h).2⟩, (Below.refl _ _).drew.trans hb1⟩
      · rename_i hq
        go_ret2
        exact ⟨_, _, rfl, .inr ⟨FR.out.2 ⟨HSC.out, eq_str hq⟩, HN.out.symm, (HP.out.trans hpe).symm⟩, (Below.refl _ _).drew.trans hb1⟩
  · have FR := Lib.hid (show ¬ FrOk s k by unfold FrOk; rw [hn]; exact fun h => hlen h.1)
    clear hn hp
    go_enter Tryd.func84, Tryd.ntmps84
    go_wp2_with fail
    go_ret2
    exact ⟨-1, 0, rfl, .inl ⟨rfl, FR.out⟩, Below.refl _ _⟩
theorem first84 (s : ByteArray) (k : Nat) (w : World) (hk : k < s.size) (hs : s.size ≤ 1000) : Calls Tryd.prog 84 #[.string s, .int .i64 k] w (FirstOut s k w) := by
  by_cases h1 : bt s k < 192
  · exact first84_1 s k w hk hs h1
  · by_cases h2 : bt s k < 224
    · exact first84_2 s k w hk hs (by omega) h2
    · by_cases h3 : bt s k < 240
      · exact first84_3 s k w hk hs (by omega) h3
      · exact first84_4 s k w hk hs (by omega)
/-- From a place on a string consists of encoded points. -/
inductive OkFrom (s : ByteArray) : Nat → Prop
  | done {k : Nat} : s.size ≤ k → OkFrom s k
  | step {k : Nat} : k < s.size → FrOk s k → OkFrom s (k + lenI (bt s k)) → OkFrom s k
theorem OkFrom.iff {s : ByteArray} {k : Nat} (hk : k < s.size) (hf : FrOk s k) : OkFrom s k ↔ OkFrom s (k + lenI (bt s k)) := by
  constructor
  · intro h
    cases h with
    | done h => omega
    | step _ _ h => exact h
  · exact fun h => .step hk hf h
theorem OkFrom.no {s : ByteArray} {k : Nat} (hk : k < s.size) (hf : ¬ FrOk s k) : ¬ OkFrom s k := by
  intro h
  cases h with
  | done h => omega
  | step _ h _ => exact hf h
theorem lenI_pos (c : Int) : 1 ≤ lenI c ∧ lenI c ≤ 4 := by
  unfold lenI
  split
  · omega
  · split
    · omega
    · split <;> omega
/-- The points from the beginning up to a place. -/
inductive Pts (s : ByteArray) : Nat → List Int → Prop
  | nil : Pts s 0 []
  | snoc {k : Nat} {l : List Int} : Pts s k l → k < s.size → FrOk s k → Pts s (k + lenI (bt s k)) (l ++ [ptI s k])
def PointsOut (s : ByteArray) (w : World) (e : Ending) (w' : World) : Prop := ∃ (v : Value) (b : Bool), e = .returned (.tuple #[v, .bool b]) ∧ (b = true ↔ OkFrom s 0) ∧ Below w.heap.size w w' ∧
  (b = true → ∃ l : List Int, l.length ≤ s.size ∧ Pts s s.size l ∧ w'.ownsRow w.heap.size 3 1 v l.length (IS l))
set_option maxHeartbeats 1600000 in
theorem points72 (s : ByteArray) (w : World) (hs : s.size ≤ 1000) : Calls Tryd.prog 72 #[.string s] w (PointsOut s w) := by
  obtain ⟨i0, hi, hz0, hz1, hz2⟩ := info_parts info3
  have HI3 := Lib.hid hi
  have HZ0 := Lib.hid hz0
  have HZ1 := Lib.hid hz1
  have HZ2 := Lib.hid hz2
  clear hi hz0 hz1 hz2
  go_enter Tryd.func72, Tryd.ntmps72
  go_wp2_with fail
  go_loopw [4, 5] (fun v i wr => ∃ (l : List Int) (k : Nat), l.length ≤ k ∧ k ≤ s.size ∧ i = .int .i64 k ∧ (OkFrom s 0 ↔ OkFrom s k) ∧ Pts s k l ∧ wr.ownsRow w.heap.size 3 1 v l.length (IS l) ∧ Below w.heap.size w wr) (fun _ i _ => s.size - (intOf i).toNat)
  case atStart => exact ⟨[], 0, Nat.le_refl _, Nat.zero_le _, rfl, Iff.rfl, .nil, World.ownsRow_nil _ _ _ _, Below.refl _ _⟩
  case round =>
    obtain ⟨l, k, hlk, hk, rfl, hiff, hpts, hI, hb⟩ := hrel
    have HPT := Lib.hid hpts
    clear hpts
    have HIF := Lib.hid hiff
    have HI := Lib.hid hI
    clear hiff hI
    by_cases hlt : k < s.size
    · go_wp2_with fail
      refine (first84 s k _ hlt hs).mono ?_
      rintro e w3 ⟨p, n, rfl, hcase, hb3⟩
      have hb3' := hb.trans (hb3.mono hb.size)
      have HI2 := Lib.hid (own_below HI.out hb3)
      clear hb3
      rcases hcase with ⟨rfl, hno⟩ | ⟨hf, rfl, hpp⟩
      · have HN := Lib.hid (OkFrom.no hlt hno)
        clear hno
        go_wp2_with fail
        go_ret2
        exact ⟨_, false, rfl, ⟨(fun h => nomatch h), fun h => absurd (HIF.out.1 h) HN.out⟩, hb3', fun h => nomatch h⟩
      · have hp := lenI_pos (bt s k)
        have hfl := hf.1
        have HF := Lib.hid (OkFrom.iff hlt hf)
        have HPN := HPT.out.snoc hlt hf
        rw [← hpp] at HPN
        have HPN := Lib.hid HPN
        clear hf hpp
        have hz : (((lenI (bt s k) : Nat) : Int) == 0) = false := by rw [beq_eq_false_iff_ne]; omega
        generalize lenI (bt s k) = n at hp hfl HF hz HPN
        go_wp2_with (at_builtin; refine wpList_append_own _ rfl _ _ 32 rfl w.heap.size 3 i0 (.int .i64 0) 1 8 Tryd.underlying32 HI3.out HZ0.out HZ1.out HZ2.out rfl (by decide) _ _ _ rfl (HI2.out.alloc _) ⟨w3.heap.size, 0, none⟩ 1 1 [.int .i64 p] rfl rfl ?c1 ?c2 ?c3 ?c4 ?c5 ?_)
        case c1 => exact cells_one w3 _ 3
        case c2 => intro u hu; simp at hu; subst hu; rfl
        case c3 => unfold maxLen; omega
        case c4 => omega
        case c5 => have := hb3'.size; simp; omega
        intro v' w4 hown' hgrow hnil
        clear hnil
        have HO4 := Lib.hid hown'
        clear hown'
        have hb4 := (hb3'.alloc hb3'.size _).grown hgrow (by have := hb3'.size; simp; omega) (fun k hk => (HI2.out.lt k hk).1)
        clear hgrow
        go_wp2_with fail
        go_roundw
        case rel => exact ⟨l ++ [p], k + n, by simp; omega, by omega, by go_num, HIF.out.trans HF.out, HPN.out, by rw [IS_append, List.length_append]; exact HO4.out, hb4⟩
        case measure => simp [intOf]; omega
    · obtain rfl : s.size = k := by omega
      have HD := Lib.hid (OkFrom.done (s := s) (k := s.size) (Nat.le_refl _))
      go_wp2_with fail
      go_ret2
      exact ⟨_, true, rfl, ⟨fun _ => HIF.out.2 HD.out, fun _ => rfl⟩, hb, fun _ => ⟨l, hlk, HPT.out, HI.out⟩⟩
end Go.Proofs.YtgbjldkbbbjnkaaDoor
