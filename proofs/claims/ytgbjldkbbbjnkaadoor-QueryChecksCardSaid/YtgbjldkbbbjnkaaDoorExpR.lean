/-
  What Roles, Ops and expect of the reference return.
-/
import Derived.Test.YtgbjldkbbbjnkaaDoorWordR
namespace Go.Proofs.YtgbjldkbbbjnkaaDoor
open Go.RowKit Go.PlainAid

def str (l : List UInt8) : ByteArray := ⟨l.toArray⟩
theorem str_list (l : List UInt8) : (str l).data.toList = l := by simp [str]
theorem str_len (l : List UInt8) : (str l).size = l.length := by rw [← size_list, str_list]
theorem str_of (s : ByteArray) : str s.data.toList = s := by simp [str]
/-- Strings as values. -/
def SV (l : List (List UInt8)) : List Value := l.map fun x => .string (str x)
def Strs (w : World) (B : Nat) (A : Option Addr) (l : List (List UInt8)) : Prop := Reads w B 1 A l.length (SV l)
theorem Strs.at_ {w : World} {B : Nat} {A : Option Addr} {l : List (List UInt8)} (h : Strs w B A l) {k : Nat} {p : List UInt8} (hk : l[k]? = some p) : ∃ ad, A = some ad ∧ ad.block < B ∧ w.cell? (ad.add k) = some (.string (str p)) := by
  have hlt := (List.getElem?_eq_some_iff.1 hk).1
  obtain ⟨ad, u, ha, hb, hx, hc⟩ := Reads.at_ h hlt
  unfold SV at hx
  rw [List.getElem?_map, hk] at hx
  simp at hx
  subst hx
  exact ⟨ad, ha, hb, hc⟩
theorem Strs.step {w w' : World} {A : Option Addr} {l : List (List UInt8)} (h : Strs w w.heap.size A l) (hb : Below w.heap.size w w') : Strs w' w'.heap.size A l := (Reads.below h hb).more hb.size
theorem SV_len (l : List (List UInt8)) : (SV l).length = l.length := by simp [SV]
theorem SV_one (l : List (List UInt8)) : ∀ u ∈ SV l, u.oneCell' = true := by
  intro u hu
  simp only [SV, List.mem_map] at hu
  obtain ⟨p, _, rfl⟩ := hu
  rfl
/-- A new row of strings. -/
def newS (w : World) (l : List (List UInt8)) : World := w.alloc (.cells (SV l).toArray 9)
theorem newS_below (w : World) (l : List (List UInt8)) : Below w.heap.size w (newS w l) := below_one w _
theorem newS_size (w : World) (l : List (List UInt8)) : (newS w l).heap.size = w.heap.size + 1 := by simp [newS]
theorem newS_strs (w : World) (l : List (List UInt8)) : Strs (newS w l) (newS w l).heap.size (some ⟨w.heap.size, 0, none⟩) l := by
  refine ⟨by rw [SV_len]; omega, fun _ => ⟨_, rfl, by rw [newS_size]; exact Nat.lt_succ_self _, fun j u hu => ?_⟩⟩
  have hj := lt_get hu
  have e : (⟨w.heap.size, 0, none⟩ : Addr).add j = ⟨w.heap.size, j, none⟩ := by unfold Addr.add; split <;> simp_all
  rw [e, newS]
  simp [World.cell?_alloc_new]
  exact hu
theorem newS_own (w : World) (l : List (List UInt8)) (hl : l.length ≤ maxLen) : (newS w l).ownsRow w.heap.size 9 1 (.slice (some ⟨w.heap.size, 0, none⟩) l.length l.length) l.length (SV l) :=
  ⟨by rw [SV_len]; omega, .inr ⟨w.heap.size, l.length, (SV l).toArray, rfl, Nat.le_refl _, heap_alloc_new w _, Nat.le_refl _, hl, by simp [SV], by rw [List.take_of_length_le (by simp [SV])]⟩⟩
theorem cat_str (a b : List UInt8) : (⟨a.toArray⟩ : ByteArray) ++ ⟨b.toArray⟩ = str (a ++ b) := by
  apply ByteArray.ext
  simp [str]
theorem roles42_colon (w : World) : Calls Tryd.prog 42 #[.string { data := #[58] }] w fun e w' => e = .returned (.slice (some ⟨w.heap.size, 0, none⟩) 5 5) ∧ w' = newS w (Pl.tops.take 5) := by
  go_enter Tryd.func42, Tryd.ntmps42
  go_wp2_with fail
  go_ret
  exact ⟨rfl, by unfold newS; congr 1⟩
theorem roles42_blank (w : World) : Calls Tryd.prog 42 #[.string { data := #[32] }] w fun e w' => e = .returned (.slice (some ⟨w.heap.size, 0, none⟩) 5 5) ∧ w' = newS w Pl.rolesL := by
  go_enter Tryd.func42, Tryd.ntmps42
  go_wp2_with fail
  go_ret
  exact ⟨rfl, by unfold newS; congr 1⟩
theorem ops44 (w : World) : Calls Tryd.prog 44 #[] w fun e w' => e = .returned (.slice (some ⟨w.heap.size, 0, none⟩) 6 6) ∧ w' = newS w Pl.opsL := by
  go_enter Tryd.func44, Tryd.ntmps44
  go_wp2_with fail
  go_ret
  exact ⟨rfl, rfl⟩
theorem lcp_go : ∀ {v r : List UInt8} {n : Nat} {c : UInt8}, n ≤ Pl.lcp v r → v[n]? = some c → r[n]? = some c → n + 1 ≤ Pl.lcp v r
  | [], _, n, c, _, h, _ => by simp at h
  | _ :: _, [], n, c, _, _, h => by simp at h
  | a :: v, b :: r, 0, c, _, h1, h2 => by
    simp at h1 h2
    subst h1 h2
    rw [Pl.lcp, if_pos rfl]
    omega
  | a :: v, b :: r, n + 1, c, h, h1, h2 => by
    rw [Pl.lcp] at h ⊢
    by_cases e : a = b
    · rw [if_pos e] at h ⊢
      have := lcp_go (v := v) (r := r) (n := n) (by omega) (by simpa using h1) (by simpa using h2)
      omega
    · rw [if_neg e] at h
      omega
theorem lcp_get : ∀ {v r : List UInt8} {n : Nat}, n < Pl.lcp v r → ∃ c, v[n]? = some c ∧ r[n]? = some c
  | [], _, n, h => by simp [Pl.lcp] at h
  | _ :: _, [], n, h => by simp [Pl.lcp] at h
  | a :: v, b :: r, n, h => by
    rw [Pl.lcp] at h
    by_cases e : a = b
    · rw [if_pos e] at h
      match n, h with
      | 0, _ => exact ⟨a, by simp, by simp [e]⟩
      | n + 1, h =>
        obtain ⟨c, h1, h2⟩ := lcp_get (v := v) (r := r) (n := n) (by omega)
        exact ⟨c, by simpa using h1, by simpa using h2⟩
    · rw [if_neg e] at h
      omega
section
variable {s : ByteArray} {k n : Nat} {v : List UInt8}
theorem rest_get (h : k + n < s.size) : (rest s k)[n]? = some s[k + n] := by
  unfold rest
  rw [List.getElem?_drop, List.getElem?_eq_getElem (by rw [size_list]; exact h)]
  rfl
theorem str_get (h : n < v.length) : v[n]? = some ((str v)[n]'(by rw [str_len]; exact h)) := by
  rw [List.getElem?_eq_getElem h]
  rfl
theorem lcp_next (h : n ≤ Pl.lcp v (rest s k)) (h1 : n < v.length) (h2 : k + n < s.size) (h3 : bt s (k + n) = bt (str v) n) : n + 1 ≤ Pl.lcp v (rest s k) := by
  have h1' : n < (str v).size := by rw [str_len]; exact h1
  rw [bt_of s (k + n) h2, bt_of (str v) n h1'] at h3
  refine lcp_go h (str_get h1) ?_
  rw [rest_get h2]
  congr 1
  exact UInt8.toNat_inj.1 (by omega)
theorem lcp_done (h : n ≤ Pl.lcp v (rest s k)) (h1 : v.length ≤ n ∨ s.size ≤ k + n ∨ (n < v.length ∧ k + n < s.size ∧ bt s (k + n) ≠ bt (str v) n)) : Pl.lcp v (rest s k) = n := by
  have hl := Pl.lcp_le v (rest s k)
  rw [rest_len] at hl
  rcases h1 with h1 | h1 | ⟨h1, h2, h3⟩
  · omega
  · omega
  · rcases Nat.lt_or_ge n (Pl.lcp v (rest s k)) with hc | hc
    · obtain ⟨c, g1, g2⟩ := lcp_get hc
      rw [str_get h1] at g1
      rw [rest_get h2] at g2
      have h1' : n < (str v).size := by rw [str_len]; exact h1
      refine (h3 ?_).elim
      rw [bt_of s (k + n) h2, bt_of (str v) n h1']
      have e1 := Option.some.inj g1
      have e2 := Option.some.inj g2
      rw [e1, e2]
    · omega
end
/-- What expect hands back. -/
def exA : Pl.Rd Nat → Int
  | .ok i _ => (i : Int)
  | .bad _ => -1
def ExOut (l : List (List UInt8)) (s : ByteArray) (k : Nat) (w : World) (e : Ending) (w' : World) : Prop :=
  e = .returned (.tuple #[.int .i64 (exA (Pl.ER l (rest s k))), .int .i64 ((k + (Pl.ER l (rest s k)).pos : Nat) : Int)]) ∧ Below w.heap.size w w'
/-- The words before i are not there. -/
def ExI (l : List (List UInt8)) (s : ByteArray) (k i far : Nat) : Prop := Pl.ex l (rest s k) = Pl.exq (l.drop i) (rest s k) i far
section
variable {l : List (List UInt8)} {s : ByteArray} {k i far n : Nat} {v : List UInt8}
theorem ExI.hit (h : ExI l s k i far) (hv : l[i]? = some v) (hn : Pl.lcp v (rest s k) = n) (he : v.length = n) : Pl.ER l (rest s k) = .ok i n := by
  obtain ⟨hi, rfl⟩ := List.getElem?_eq_some_iff.1 hv
  unfold ExI at h
  rw [List.drop_eq_getElem_cons hi, Pl.exq, if_pos (by omega)] at h
  rw [Pl.ER, h]
  simp only
  rw [he]
theorem ExI.next (h : ExI l s k i far) (hv : l[i]? = some v) (hn : Pl.lcp v (rest s k) = n) (he : v.length ≠ n) : ExI l s k (i + 1) (max far n) := by
  obtain ⟨hi, rfl⟩ := List.getElem?_eq_some_iff.1 hv
  unfold ExI at h ⊢
  rw [h, List.drop_eq_getElem_cons hi, Pl.exq, if_neg (by omega), hn]
theorem ExI.miss (h : ExI l s k i far) (hi : l.length ≤ i) : Pl.ER l (rest s k) = .bad far := by
  unfold ExI at h
  rw [List.drop_of_length_le hi, Pl.exq] at h
  rw [Pl.ER, h]
end
theorem ex_out {l : List (List UInt8)} {s : ByteArray} {k : Nat} {w w' : World} {a b : Int} {x : Pl.Rd Nat} (he : Pl.ER l (rest s k) = x) (ha : a = exA x) (hb : b = ((k + x.pos : Nat) : Int)) (hw : Below w.heap.size w w') : ExOut l s k w (.returned (.tuple #[.int .i64 a, .int .i64 b])) w' := by
  subst he ha hb
  exact ⟨rfl, hw⟩
theorem max_if2 (k far n : Nat) : Value.int .i64 (if far < n then (k : Int) + (n : Int) else (k : Int) + (far : Int)) = .int .i64 ((k + max far n : Nat) : Int) := by
  congr 1
  split <;> omega
set_option maxHeartbeats 6400000 in
set_option maxRecDepth 100000 in
theorem expect45 (l : List (List UInt8)) (s : ByteArray) (k : Nat) (A : Option Addr) (cap : Nat) (w : World) (hk : k ≤ s.size) (hs : s.size ≤ 4194304) (hl : l.length ≤ 100) (hv : ∀ v ∈ l, v.length ≤ 100) (hS : Strs w w.heap.size A l) :
    Calls Tryd.prog 45 #[.string s, .int .i64 k, .slice A l.length cap] w (ExOut l s k w) := by
  have hbt := get_bt s
  have i0 : (0 : Int) ≤ (k : Int) := by omega
  have HV := Lib.hid hv
  have HS := Lib.hid hS
  clear hv hS
  go_enter Tryd.func45, Tryd.ntmps45
  go_wp2_with fail
  go_loopw [8, 14] (fun f i wr => ∃ (j far : Nat), j ≤ l.length ∧ i = .int .i64 j ∧ f = .int .i64 ((k + far : Nat) : Int) ∧ far ≤ 100 ∧ ExI l s k j far ∧ Below w.heap.size w wr) (fun _ i _ => l.length - (intOf i).toNat)
  case atStart => exact ⟨0, 0, Nat.zero_le _, rfl, rfl, by omega, rfl, Below.refl _ _⟩
  case round =>
    obtain ⟨j, far, hj, rfl, rfl, hfar, hI, hb⟩ := hrel
    have HI := Lib.hid hI
    clear hI
    by_cases hlt : j < l.length
    · obtain ⟨v, hv⟩ := get_lt hlt
      have hvl := HV.out v (List.mem_of_getElem? hv)
      have hS2 := HS.out.step hb
      obtain ⟨ad, rfl, hab, hc⟩ := hS2.at_ hv
      have HVV := Lib.hid hv
      have HS2 := Lib.hid hS2
      have HAB := Lib.hid hab
      clear hv hS2 hab
      obtain ⟨wo, rfl⟩ : ∃ wo : World, wo = wr := ⟨_, rfl⟩
      have q0 : (0 : Int) ≤ (j : Int) := by omega
      have q1 : (j : Int) < (l.length : Int) := by omega
      have hbt2 := get_bt (str v)
      have hsz : (str v).size = v.length := str_len v
      go_wp2_with fail
      go_loopw [10] (fun i w2 => ∃ n : Nat, n ≤ Pl.lcp v (rest s k) ∧ i = .int .i64 n ∧ Below wo.heap.size wo w2) (fun i _ => v.length - (intOf i).toNat)
      case atStart => exact ⟨0, Nat.zero_le _, rfl, Below.refl _ _⟩
      case round =>
        obtain ⟨n, hn, rfl, hb2⟩ := hrel
        have hn2 := (Pl.lcp_le v (rest s k))
        rw [rest_len] at hn2
        have HN := Lib.hid hn
        have HN2 := Lib.hid hn2
        have hnv : n ≤ v.length := by omega
        have hkn : k + n ≤ s.size := by omega
        clear hn hn2
        have hc2 : wr.cell? (ad.add j) = some (.string (str v)) := (hb2.cell (p := ad.add j) (by rw [block_of_add]; exact HAB.out)).trans hc
        have r0 : (0 : Int) ≤ (n : Int) := by omega
        have r1 : ((k : Int) + (n : Int)).toNat = k + n := by omega
        have r2 : IntKind.i64.wrap ((k : Int) + (n : Int)) = (k : Int) + (n : Int) := wrap_in (by omega)
        have r3 : (0 : Int) ≤ (k : Int) + (n : Int) := by omega
        have hbw := hb.trans (hb2.mono hb.size)
        by_cases c1 : n < v.length
        · by_cases c2 : k + n < s.size
          · cases c3 : (bt s (k + n) == bt (str v) n)
            · have hd := Lib.hid (lcp_done HN.out (.inr (.inr ⟨c1, c2, by simpa using c3⟩)))
              have hx := Lib.hid (HI.out.next HVV.out hd.out (by omega))
              have d1 : (n : Int) < (v.length : Int) := by omega
              have d2 : ((n : Int) == (v.length : Int)) = false := by simp; omega
              have d3 : IntKind.i64.wrap ((k : Int) + (far : Int)) = (k : Int) + (far : Int) := wrap_in (by omega)
              have c4 : (k : Int) + (n : Int) < (s.size : Int) := by omega
              go_wp2_with fail
              go_quiet (fail)
              go_wp2_with fail
              go_roundw
              case rel => exact ⟨j + 1, max far n, by omega, by go_num, by exact max_if2 _ _ _, by omega, hx.out, hb.trans ((below_drewN hb2 _).mono hb.size)⟩
              case measure => simp [intOf]; omega
            · have hd := Lib.hid (lcp_next HN.out c1 c2 (by simpa using c3))
              have d1 : (n : Int) < (v.length : Int) := by omega
              have c4 : (k : Int) + (n : Int) < (s.size : Int) := by omega
              go_wp2_with fail
              go_quiet (fail)
              go_wp2_with fail
              go_roundw
              case rel => exact ⟨n + 1, hd.out, by go_num, below_drewN hb2 _⟩
              case measure => simp [intOf]; omega
          · have hd := Lib.hid (lcp_done HN.out (.inr (.inl (by omega))))
            have hx := Lib.hid (HI.out.next HVV.out hd.out (by omega))
            have d1 : (n : Int) < (v.length : Int) := by omega
            have d2 : ((n : Int) == (v.length : Int)) = false := by simp; omega
            have d3 : IntKind.i64.wrap ((k : Int) + (far : Int)) = (k : Int) + (far : Int) := wrap_in (by omega)
            have c4 : decide ((k : Int) + (n : Int) < (s.size : Int)) = false := by simp; omega
            go_wp2_with fail
            go_quiet (fail)
            go_wp2_with fail
            go_roundw
            case rel => exact ⟨j + 1, max far n, by omega, by go_num, by exact max_if2 _ _ _, by omega, hx.out, hb.trans ((below_drewN hb2 _).mono hb.size)⟩
            case measure => simp [intOf]; omega
        · obtain rfl : n = v.length := by omega
          have hd := Lib.hid (lcp_done HN.out (.inl (Nat.le_refl _)))
          have hh := Lib.hid (HI.out.hit HVV.out hd.out rfl)
          have t0 : decide (v.length < v.length) = false := by simp
          go_wp2_with fail
          go_quiet (fail)
          go_wp2_with fail
          go_ret2
          exact ex_out hh.out rfl rfl (hb.trans ((below_drewN hb2 _).mono hb.size))
    · obtain rfl : l.length = j := by omega
      have hr := Lib.hid (HI.out.miss (Nat.le_refl _))
      have i2 : ¬ ((l.length : Int) < (l.length : Int)) := by omega
      go_wp2_with fail
      go_ret2
      exact ex_out hr.out rfl rfl hb
end Go.Proofs.YtgbjldkbbbjnkaaDoor
