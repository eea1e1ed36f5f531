/-
  What word of the reference's parser returns.
-/
import Derived.Test.YtgbjldkbbbjnkaaDoorEscR
import Derived.Deep.DeepCutAuto
namespace Go.Proofs.YtgbjldkbbbjnkaaDoor
open Go.RowKit Go.PlainAid

theorem info5 : (Tryd.prog.info? 5).map (fun i => (i.zero, i.size, i.bytes)) = some (some (.int .u8 0), 1, 1) := by kernel_rfl
/-- A row of bytes of the call's own, turned to a string. -/
theorem conv_own {w : World} {base : Nat} {v : Value} {l : List UInt8} (h : w.ownsRow base 5 1 v l.length (Lib.byteCells l)) : (convert 75 9 v).run Tryd.prog w = .ok (.string ⟨l.toArray⟩) w := by
  rcases h.2 with ⟨rfl, h0⟩ | ⟨g, cap, cur, rfl, _⟩
  · obtain rfl : l = [] := List.length_eq_zero_iff.1 h0
    exact run_convert_bytes_nil w 75 5 Tryd.underlying75 Tryd.underlying5 0 0 9 Tryd.underlying9
  · refine run_convert_bytes_back w 75 9 5 ⟨g, 0, none⟩ cap l Tryd.underlying75 Tryd.underlying5 Tryd.underlying9 fun j hj => ?_
    refine h.cells (g := g) rfl j _ ?_
    simp [Lib.byteCells, List.getElem?_eq_getElem hj]
theorem own_int {w : World} {base : Nat} {v : Value} {acc : List UInt8} {x : Int} {c : UInt8} (hx : x = (c.toNat : Int)) (h : w.ownsRow base 5 1 v (acc.length + 1) (Lib.byteCells acc ++ [.int .u8 x])) :
    w.ownsRow base 5 1 v (acc ++ [c]).length (Lib.byteCells (acc ++ [c])) := by
  subst hx
  rw [List.length_append, Lib.byteCells_append]
  exact h
/-- Some bytes of a word are read: i is the index, acc what they say. -/
def WInv (p : Bool) (s : ByteArray) (k i : Nat) (acc : List UInt8) : Prop := Pl.wl p (rest s k) = ((Pl.wl p (rest s i)).map (acc ++ ·)).sh (i - k) ∧ acc.length ≤ i ∧ k ≤ i ∧ (i = k → acc = []) ∧ (acc = [] → i = k)
section
variable {p : Bool} {s : ByteArray} {k i : Nat} {acc : List UInt8}
theorem map_id_rd {x : Pl.Rd Pl.Bs} : ((x.map ([] ++ ·)).sh 0) = x := by
  cases x <;> simp [Pl.Rd.map, Pl.Rd.sh]
theorem WInv.start : WInv p s k k [] := ⟨by rw [Nat.sub_self, map_id_rd], Nat.zero_le _, Nat.le_refl _, fun _ => rfl, fun _ => rfl⟩
theorem WInv.step (h : WInv p s k i acc) {c : UInt8} {n : Nat} (h1 : Pl.wl p (rest s i) = ((Pl.wl p (rest s (i + n))).map (c :: ·)).sh n) (hn : 0 < n) : WInv p s k (i + n) (acc ++ [c]) := by
  obtain ⟨h2, h3, h4, _, _⟩ := h
  refine ⟨?_, by rw [List.length_append, List.length_singleton]; omega, by omega, fun h => by omega, fun h => by simp at h⟩
  rw [h2, h1]
  cases Pl.wl p (rest s (i + n)) <;> simp [Pl.Rd.map, Pl.Rd.sh] <;> omega
theorem WInv.plain (h : WInv p s k i acc) (hi : i < s.size) (hq : qI (bt s i) = false) : WInv p s k (i + 1) (acc ++ [s[i]]) := by
  rw [bt_of s i hi, qI_of] at hq
  exact h.step (by conv => lhs; rw [rest_cons s i hi, Pl.wl_plain p _ hq]) (by omega)
theorem WInv.esc (h : WInv p s k i acc) (hi : i < s.size) (h37 : bt s i = 37) {v : UInt8} {n : Nat} (he : Pl.esc (rest s (i + 1)) = .ok v n) : WInv p s k (i + 3) (acc ++ [v]) := by
  have hc : s[i] = 37 := (bt_at hi).1 h37
  rcases Pl.esc_cases (rest s (i + 1)) with ⟨m, _, _, h2, _⟩ | ⟨a, b, q, v', h1, h2, _, _⟩
  · rw [he] at h2; cases h2
  · rw [he] at h2
    cases h2
    refine h.step ?_ (by omega)
    have hq : rest s (i + 3) = q := by
      have := rest_drop s (i + 1) 2
      rw [h1] at this
      exact this.symm
    conv => lhs; rw [rest_cons s i hi, hc, h1, Pl.wl_esc p (by rw [← h1]; exact he), ← hq]
/-- What a word reader answers. -/
def pwOk (x : Pl.Rd Pl.Bs) : Bool := match x with | .ok _ _ => true | .bad _ => false
theorem pw_bad (h : WInv p s k i acc) (h0 : ¬ (rest s k).take 2 = [37, 45]) {n : Nat} (hb : Pl.wl p (rest s i) = .bad n) : Pl.pw p (rest s k) = .bad (i - k + n) := by
  rw [Pl.pw, if_neg h0, h.1, hb]
  rfl
theorem pw_end (h : WInv p s k i acc) (h0 : ¬ (rest s k).take 2 = [37, 45]) (hb : Pl.wl p (rest s i) = .ok [] 0) : Pl.pw p (rest s k) = if i = k then .bad 0 else .ok acc (i - k) := by
  have h2 := h.2.2.1
  rw [Pl.pw, if_neg h0, h.1, hb]
  simp only [Pl.Rd.map, Pl.Rd.sh, List.append_nil, Nat.add_zero]
  by_cases e : i = k
  · rw [if_pos e, if_pos (by omega)]
  · rw [if_neg e, if_neg (by omega)]
end
theorem take_two {s : ByteArray} {k : Nat} : (rest s k).take 2 = [37, 45] ↔ k + 1 < s.size ∧ bt s k = 37 ∧ bt s (k + 1) = 45 := by
  constructor
  · intro h
    have hl := congrArg List.length h
    rw [List.length_take, rest_len] at hl
    simp at hl
    have h1 : k < s.size := by omega
    have h2 : k + 1 < s.size := by omega
    rw [rest_cons s k h1, rest_cons s (k + 1) h2] at h
    simp at h
    exact ⟨h2, (bt_at h1).2 h.1, (bt_at h2).2 h.2⟩
  · rintro ⟨h2, h3, h4⟩
    have h1 : k < s.size := by omega
    rw [rest_cons s k h1, rest_cons s (k + 1) h2, (bt_at (c := 37) h1).1 h3, (bt_at (c := 45) h2).1 h4]
    rfl
theorem wl_at_end (p : Bool) {s : ByteArray} {i : Nat} (h : s.size ≤ i) : Pl.wl p (rest s i) = .ok [] 0 := by rw [rest_nil s i h]; rfl
theorem wl_at_stop (p : Bool) {s : ByteArray} {i : Nat} (hi : i < s.size) (h : bt s i = 32 ∨ bt s i = 41) : Pl.wl p (rest s i) = .ok [] 0 := by
  rw [rest_cons s i hi]
  exact Pl.wl_end p _ (h.imp (fun h => (bt_at hi).1 h) fun h => (bt_at hi).1 h)
theorem wl_at_odd (p : Bool) {s : ByteArray} {i : Nat} (hi : i < s.size) (h0 : bt s i ≠ 32) (h1 : bt s i ≠ 41) (h2 : bt s i ≠ 37) (h3 : qI (bt s i) = true) : Pl.wl p (rest s i) = if p = true then .ok [] 0 else .bad 0 := by
  rw [rest_cons s i hi]
  refine Pl.wl_odd p _ (fun h => ?_) (fun h => h2 ((bt_at hi).2 h)) ?_
  · rcases h with h | h
    · exact h0 ((bt_at hi).2 h)
    · exact h1 ((bt_at hi).2 h)
  · rw [bt_of s i hi, qI_of] at h3
    exact h3
theorem wl_at_bad (p : Bool) {s : ByteArray} {i n : Nat} (hi : i < s.size) (h : bt s i = 37) (he : Pl.esc (rest s (i + 1)) = .bad n) : Pl.wl p (rest s i) = .bad (1 + n) := by
  rw [rest_cons s i hi, (bt_at (c := 37) hi).1 h]
  exact Pl.wl_escbad p he
theorem esc_n {r : List UInt8} {v : UInt8} {n : Nat} (h : Pl.esc r = .ok v n) : n = 2 := by
  rcases Pl.esc_cases r with ⟨m, _, _, h2, _⟩ | ⟨a, b, q, v', _, h2, _, _⟩
  · rw [h] at h2; cases h2
  · rw [h] at h2; cases h2; rfl
theorem escape60_bad (s : ByteArray) (k : Nat) (w : World) (hk : k < s.size) (hs : s.size ≤ 4194304) {n : Nat} (h : Pl.esc (rest s (k + 1)) = .bad n) : Calls Tryd.prog 60 #[.string s, .int .i64 k] w fun e w' => e = .returned (.tuple #[.int .i64 (-1), .int .i64 ((k + 1 + n : Nat) : Int)]) ∧ Below w.heap.size w w' :=
  (escape60 s k w hk hs).mono fun e w' ⟨h1, h2⟩ => ⟨by rw [h1, h]; rfl, h2⟩
theorem escape60_ok (s : ByteArray) (k : Nat) (w : World) (hk : k < s.size) (hs : s.size ≤ 4194304) {v : UInt8} {n : Nat} (h : Pl.esc (rest s (k + 1)) = .ok v n) : Calls Tryd.prog 60 #[.string s, .int .i64 k] w fun e w' => e = .returned (.tuple #[.int .i64 (v.toNat : Int), .int .i64 ((k : Int) + 3)]) ∧ Below w.heap.size w w' :=
  (escape60 s k w hk hs).mono fun e w' ⟨h1, h2⟩ => ⟨by rw [h1, h, esc_n h]; rfl, h2⟩
/-- What word of the reference hands back. -/
def WordOut (k : Nat) (x : Pl.Rd Pl.Bs) (w : World) (e : Ending) (w' : World) : Prop :=
  (∃ t : ByteArray, e = .returned (.tuple #[.string t, .int .i64 ((k + x.pos : Nat) : Int), .bool (pwOk x)]) ∧ (∀ l n, x = .ok l n → t = ⟨l.toArray⟩)) ∧ Below w.heap.size w w'
theorem word_bad {k n : Nat} {x : Pl.Rd Pl.Bs} {w w' : World} {t : ByteArray} {j : Int} (h : x = .bad n) (hj : j = ((k + n : Nat) : Int)) (hb : Below w.heap.size w w') : WordOut k x w (.returned (.tuple #[.string t, .int .i64 j, .bool false])) w' := by
  subst h hj
  exact ⟨⟨t, rfl, fun l n h => by cases h⟩, hb⟩
theorem word_ok {k n : Nat} {l : List UInt8} {x : Pl.Rd Pl.Bs} {w w' : World} {j : Int} (h : x = .ok l n) (hj : j = ((k + n : Nat) : Int)) (hb : Below w.heap.size w w') : WordOut k x w (.returned (.tuple #[.string ⟨l.toArray⟩, .int .i64 j, .bool true])) w' := by
  subst h hj
  exact ⟨⟨_, rfl, fun l n h => by cases h; rfl⟩, hb⟩
theorem word_end {k i : Nat} {l : List UInt8} {x : Pl.Rd Pl.Bs} {w w' : World} {b : Bool} (h : x = if i = k then .bad 0 else .ok l (i - k)) (hk : k ≤ i) (hb' : b = decide (k < i)) (hb : Below w.heap.size w w') : WordOut k x w (.returned (.tuple #[.string ⟨l.toArray⟩, .int .i64 (i : Int), .bool b])) w' := by
  subst hb'
  by_cases e : i = k
  · rw [if_pos e] at h
    subst e
    rw [decide_eq_false (by omega)]
    exact word_bad h (by omega) hb
  · rw [if_neg e] at h
    rw [decide_eq_true (by omega)]
    exact word_ok h (by omega) hb
theorem cells_one' (w : World) (u : Value) (t : TypeId) : ∀ (j : Nat) (x : Value), [u][j]? = some x → (w.alloc (.cells #[u] t)).cell? ((⟨w.heap.size, 0, none⟩ : Addr).add j) = some x := by
  intro j x hx
  match j, hx with
  | 0, hx => simp at hx; subst hx; simp [Addr.add, World.cell?_alloc_new]
  | j + 1, hx => simp at hx
set_option maxHeartbeats 6400000 in
set_option maxRecDepth 100000 in
theorem word46 (s : ByteArray) (k : Nat) (w : World) (hk : k ≤ s.size) (hs : s.size ≤ 4194304) : Calls Tryd.prog 46 #[.string s, .int .i64 k] w (WordOut k (Pl.pw false (rest s k)) w) := by
  have hbt := get_bt s
  have g1 : IntKind.i64.wrap ((k : Int) + 1) = (k : Int) + 1 := wrap_in (by omega)
  have i0 : (0 : Int) ≤ (k : Int) := by omega
  have i1 : (0 : Int) ≤ (k : Int) + 1 := by omega
  have j1 : ((k : Int) + 1).toNat = k + 1 := by omega
  obtain ⟨x0, hi0, hz0, hz1, hz2⟩ := info_parts info5
  have HI5 := Lib.hid hi0
  have HZ0 := Lib.hid hz0
  have HZ1 := Lib.hid hz1
  have HZ2 := Lib.hid hz2
  clear hi0 hz0 hz1 hz2
  by_cases h0 : (rest s k).take 2 = [37, 45]
  · have hr := Lib.hid (show Pl.pw false (rest s k) = .ok [] 2 by rw [Pl.pw, if_pos h0])
    obtain ⟨h1, h2, h3⟩ := take_two.1 h0
    clear h0
    have i2 : (k : Int) + 1 < (s.size : Int) := by omega
    have i3 : (k : Int) < (s.size : Int) := by omega
    go_enter Tryd.func46, Tryd.ntmps46
    go_wp2_with fail
    exact bodyPost_ret (v := .tuple #[.string ⟨#[]⟩, .int .i64 ((k : Int) + 2), .bool true]) (by simp [results, Tryd.results46, go_sem]) rfl (word_ok hr.out (by omega) (Below.refl _ _))
  · have H0 := Lib.hid h0
    go_enter Tryd.func46, Tryd.ntmps46
    go_upto_region 1 with (fail)
    go_cut [28] (fun c wx => c = .bool false ∧ w = wx)
    case first =>
      by_cases h1 : k + 1 < s.size
      · have i2 : (k : Int) + 1 < (s.size : Int) := by omega
        have i3 : (k : Int) < (s.size : Int) := by omega
        cases h2 : (bt s k == 37)
        · clear h0
          go_wp2_with fail
          go_meet
          exact ⟨rfl, rfl⟩
        · cases h3 : (bt s (k + 1) == 45)
          · clear h0
            go_wp2_with fail
            go_meet
            exact ⟨rfl, rfl⟩
          · exact (h0 (take_two.2 ⟨h1, by simpa using h2, by simpa using h3⟩)).elim
      · have i2 : ¬ (k : Int) + 1 < (s.size : Int) := by omega
        clear h0
        go_wp2_with fail
        go_meet
        exact ⟨rfl, rfl⟩
    case rest =>
      obtain ⟨rfl, rfl⟩ := hcut
      clear h0
      go_wp2_with fail
      go_loopw [7, 8] (fun v i wr => ∃ (j : Nat) (acc : List UInt8), j ≤ s.size ∧ i = .int .i64 j ∧ wr.ownsRow w.heap.size 5 1 v acc.length (Lib.byteCells acc) ∧ WInv false s k j acc ∧ Below w.heap.size w wr) (fun _ i _ => s.size - (intOf i).toNat)
      case atStart => exact ⟨k, [], hk, rfl, World.ownsRow_nil _ _ _ _, WInv.start, Below.refl _ _⟩
      case round =>
        obtain ⟨j, acc, hj, rfl, hI, hU, hb⟩ := hrel
        have hal := hU.2.1
        have HI := Lib.hid hI
        have HU := Lib.hid hU
        have hkj := hU.2.2.1
        clear hI hU
        have b0 := bt_nonneg s j
        have b1 := bt_le s j
        have m0 : (0 : Int) ≤ (j : Int) := by omega
        have hcv := conv_own HI.out
        by_cases hlt : j < s.size
        · have i2 : (j : Int) < (s.size : Int) := by omega
          by_cases h32 : bt s j = 32 ∨ bt s j = 41
          · have hr := Lib.hid (pw_end HU.out H0.out (wl_at_stop false hlt h32))
            rcases h32 with h32 | h32
            · have hc' : (bt s j != 32) = false := by rw [h32]; rfl
              clear h32
              go_wp2_with fail
              go_ret3
              exact word_end hr.out hkj (by simp) hb
            · have hc' : (bt s j != 41) = false := by rw [h32]; rfl
              have hc2 : (bt s j != 32) = true := by rw [h32]; rfl
              clear h32
              go_wp2_with fail
              go_ret3
              exact word_end hr.out hkj (by simp) hb
          · have n32 : (bt s j != 32) = true := by simp; omega
            have n41 : (bt s j != 41) = true := by simp; omega
            by_cases h37 : bt s j = 37
            · have hc' : (bt s j == 37) = true := by rw [h37]; rfl
              have HC := Lib.hid h37
              clear h37 h32
              cases he : Pl.esc (rest s (j + 1)) with
              | bad n =>
                have hr := Lib.hid (pw_bad HU.out H0.out (wl_at_bad false hlt HC.out he))
                have E := Lib.hid (fun w => escape60_bad s j w hlt hs he)
                clear he
                go_wp2_with fail
                refine (E.out _).mono ?_
                rintro e w' ⟨rfl, hb1⟩
                go_wp2_with fail
                go_ret3
                exact word_bad hr.out (by omega) (hb.trans (hb1.mono hb.size))
              | ok v n =>
                have hn := esc_n he
                have hjs : j + 3 ≤ s.size := by
                  rcases Pl.esc_cases (rest s (j + 1)) with ⟨m, _, _, h2, _⟩ | ⟨a, b, q, v', h2, _⟩
                  · rw [he] at h2; cases h2
                  · have := congrArg List.length h2
                    rw [rest_len] at this
                    simp at this
                    omega
                have HW := Lib.hid (HU.out.esc hlt HC.out he)
                have E := Lib.hid (fun w => escape60_ok s j w hlt hs he)
                clear he
                obtain ⟨z, hz⟩ : ∃ z : Int, (v.toNat : Int) = z := ⟨_, rfl⟩
                have z0 : 0 ≤ z := by omega
                have z1 : z ≤ 255 := by have := v.toNat_lt; omega
                rw [hz] at E
                have HZ := Lib.hid hz
                have hwz : z % 256 = z := by omega
                clear hz hn
                go_wp2_with fail
                refine (E.out _).mono ?_
                rintro e w2 ⟨rfl, hb1⟩
                have HI2 := Lib.hid (own_below HI.out hb1)
                have hb2 := hb.trans (hb1.mono hb.size)
                clear hb1 hcv
                go_wp2_with (at_builtin; refine wpList_append_own _ rfl _ _ 75 rfl w.heap.size 5 x0 (.int .u8 0) 1 1 Tryd.underlying75 HI5.out HZ0.out HZ1.out HZ2.out rfl (by decide) _ _ _ rfl (HI2.out.alloc _) ⟨w2.heap.size, 0, none⟩ 1 1 [.int .u8 z] rfl rfl ?c1 ?c2 ?c3 ?c4 ?c5 ?_)
                case c1 => exact cells_one' w2 _ 5
                case c2 => intro u hu; simp at hu; subst hu; rfl
                case c3 => unfold maxLen; omega
                case c4 => omega
                case c5 => have := hb2.size; simp; omega
                intro v' w3 hown' hgrow hnil
                clear hnil
                have HO := Lib.hid hown'
                clear hown'
                have hb3 := (hb2.alloc hb2.size _).grown hgrow (by have := hb2.size; simp; omega) (fun k hk => (HI2.out.lt k hk).1)
                clear hgrow
                go_wp2_with fail
                go_roundw
                case rel => exact ⟨j + 3, acc ++ [v], hjs, by go_num, own_int HZ.out.symm HO.out, HW.out, hb3⟩
                case measure => simp [intOf]; omega
            · have hc' : (bt s j == 37) = false := by simpa using h37
              cases hq : qI (bt s j)
              · have HW := Lib.hid (HU.out.plain hlt hq)
                have HQ := Lib.hid hq
                clear hq h37 h32 hcv
                go_wp2_with fail
                refine (quoted61 _ _).mono ?_
                rintro e w' ⟨rfl, rfl⟩
                rw [HQ.out]
                go_wp2_with (at_builtin; refine wpList_append_own _ rfl _ _ 75 rfl w.heap.size 5 x0 (.int .u8 0) 1 1 Tryd.underlying75 HI5.out HZ0.out HZ1.out HZ2.out rfl (by decide) _ _ _ rfl (HI.out.alloc _) ⟨wr.heap.size, 0, none⟩ 1 1 [.int .u8 (bt s j)] rfl rfl ?c1 ?c2 ?c3 ?c4 ?c5 ?_)
                case c1 => exact cells_one' wr _ 5
                case c2 => intro u hu; simp at hu; subst hu; rfl
                case c3 => unfold maxLen; omega
                case c4 => omega
                case c5 => have := hb.size; simp; omega
                intro v' w3 hown' hgrow hnil
                clear hnil
                have HO := Lib.hid hown'
                clear hown'
                have hb3 := (hb.alloc hb.size _).grown hgrow (by have := hb.size; simp; omega) (fun k hk => (HI.out.lt k hk).1)
                clear hgrow
                go_wp2_with fail
                go_roundw
                case rel => exact ⟨j + 1, acc ++ [s[j]], by omega, by go_num, own_int (bt_of s j hlt) HO.out, HW.out, hb3⟩
                case measure => simp [intOf]; omega
              · have hr := Lib.hid (pw_bad HU.out H0.out (n := 0) (by rw [wl_at_odd false hlt (by omega) (by omega) h37 hq]; rfl))
                have HQ := Lib.hid hq
                clear hq h37 h32
                go_wp2_with fail
                refine (quoted61 _ _).mono ?_
                rintro e w' ⟨rfl, rfl⟩
                rw [HQ.out]
                go_wp2_with fail
                go_ret3
                exact word_bad hr.out (by omega) hb
        · have hr := Lib.hid (pw_end HU.out H0.out (wl_at_end false (by omega)))
          have i2 : ¬ (j : Int) < (s.size : Int) := by omega
          go_wp2_with fail
          go_ret3
          exact word_end hr.out hkj (by simp) hb
end Go.Proofs.YtgbjldkbbbjnkaaDoor
