/-
  Queries and their texts: plain mathematics, no program in sight.
-/
import Derived.Lib.Strings
namespace Go.Proofs.YtgbjldkbbbjnkaaDoor.Pl

/-- A query. -/
inductive Qt where
  | mk (op role : Int) (text : ByteArray) (kids : List Qt)
namespace Qt
def op : Qt → Int | .mk o _ _ _ => o
def role : Qt → Int | .mk _ r _ _ => r
def text : Qt → ByteArray | .mk _ _ t _ => t
def kids : Qt → List Qt | .mk _ _ _ k => k
end Qt
mutual
/-- The number of nodes. -/
def sz : Qt → Nat
  | .mk _ _ _ ks => 1 + szs ks
def szs : List Qt → Nat
  | [] => 0
  | k :: ks => sz k + szs ks
end
mutual
/-- The number of levels. -/
def dp : Qt → Nat
  | .mk _ _ _ ks => dps ks + 1
def dps : List Qt → Nat
  | [] => 0
  | k :: ks => max (dp k) (dps ks)
end
mutual
/-- All patterns have at most 300 bytes. -/
def short : Qt → Bool
  | .mk _ _ t ks => shorts ks && decide (t.size ≤ 300)
def shorts : List Qt → Bool
  | [] => true
  | k :: ks => short k && shorts ks
end
theorem sz_pos (q : Qt) : 1 ≤ sz q := by
  cases q
  rw [sz]
  omega
theorem szs_mem {k : Qt} : ∀ {ks : List Qt}, k ∈ ks → sz k ≤ szs ks
  | [], h => by simp at h
  | x :: ks, h => by
    rw [szs]
    rcases List.mem_cons.1 h with rfl | h
    · omega
    · have := szs_mem h
      omega
theorem sz_kid {o r : Int} {t : ByteArray} {ks : List Qt} {k : Qt} (h : k ∈ ks) : sz k < sz (.mk o r t ks) := by
  rw [sz]
  have := szs_mem h
  omega
theorem szs_append (xs ys : List Qt) : szs (xs ++ ys) = szs xs + szs ys := by
  induction xs with
  | nil => simp [szs]
  | cons x xs ih => rw [List.cons_append, szs, szs, ih]; omega
theorem szs_take {ks : List Qt} {i : Nat} {k : Qt} (h : ks[i]? = some k) : szs (ks.take (i + 1)) = szs (ks.take i) + sz k := by
  obtain ⟨hi, rfl⟩ := List.getElem?_eq_some_iff.1 h
  rw [List.take_succ_eq_append_getElem hi, szs_append]
  simp [szs]
theorem szs_le (ks : List Qt) (i : Nat) : szs (ks.take i) ≤ szs ks := by
  have h := szs_append (ks.take i) (ks.drop i)
  rw [List.take_append_drop] at h
  omega
theorem len_szs : ∀ ks : List Qt, ks.length ≤ szs ks
  | [] => by simp [szs]
  | k :: ks => by
    rw [szs, List.length_cons]
    have := sz_pos k
    have := len_szs ks
    omega
theorem dps_append (xs ys : List Qt) : dps (xs ++ ys) = max (dps xs) (dps ys) := by
  induction xs with
  | nil => simp [dps]
  | cons x xs ih => rw [List.cons_append, dps, dps, ih]; omega
theorem dps_take {ks : List Qt} {i : Nat} {k : Qt} (h : ks[i]? = some k) : dps (ks.take (i + 1)) = max (dps (ks.take i)) (dp k) := by
  obtain ⟨hi, rfl⟩ := List.getElem?_eq_some_iff.1 h
  rw [List.take_succ_eq_append_getElem hi, dps_append]
  simp [dps]
theorem shorts_append (xs ys : List Qt) : shorts (xs ++ ys) = (shorts xs && shorts ys) := by
  induction xs with
  | nil => simp [shorts]
  | cons x xs ih => rw [List.cons_append, shorts, shorts, ih, Bool.and_assoc]
theorem shorts_take {ks : List Qt} {i : Nat} {k : Qt} (h : ks[i]? = some k) : shorts (ks.take (i + 1)) = (shorts (ks.take i) && short k) := by
  obtain ⟨hi, rfl⟩ := List.getElem?_eq_some_iff.1 h
  rw [List.take_succ_eq_append_getElem hi, shorts_append]
  simp [shorts]
theorem shorts_no : ∀ {ks : List Qt} {i : Nat} {k : Qt}, ks[i]? = some k → short k = false → shorts ks = false
  | [], i, k, h, _ => by simp at h
  | x :: ks, 0, k, h, hk => by
    simp at h
    subst h
    rw [shorts, hk, Bool.false_and]
  | x :: ks, i + 1, k, h, hk => by
    rw [shorts, shorts_no (by simpa using h) hk, Bool.and_false]
mutual
theorem dp_sz : ∀ q : Qt, dp q ≤ sz q
  | .mk _ _ _ ks => by
    rw [dp, sz]
    have := dps_sz ks
    omega
theorem dps_sz : ∀ ks : List Qt, dps ks ≤ szs ks
  | [] => by simp [dps, szs]
  | k :: ks => by
    rw [dps, szs]
    have := dp_sz k
    have := dps_sz ks
    omega
end
/-! Errors. -/
def kidsN (op : Int) : Nat := if op = 0 then 0 else if op = 3 then 1 else 2
def roleOk (op role : Int) : Bool := if op = 0 ∨ op = 3 then decide (1 ≤ role ∧ role ≤ 5) else decide (role = 0)
mutual
/-- The error of a node or of one below it; pe: the error of a pattern. -/
def err (pe : ByteArray → Int) : Qt → Int
  | .mk op role t ks =>
    if op < 0 ∨ 6 < op ∨ ks.length ≠ kidsN op then 28
    else if roleOk op role = false then 2
    else if op = 0 then pe t
    else if t.size ≠ 0 then 1
    else errs pe ks
def errs (pe : ByteArray → Int) : List Qt → Int
  | [] => 0
  | k :: ks => if err pe k ≠ 0 then err pe k else errs pe ks
end
/-- What Check answers. -/
def chk (pe : ByteArray → Int) (q : Qt) : Int := if 60 < sz q ∨ 12 < dp q then 11 else err pe q
theorem errs_take_zero {pe : ByteArray → Int} : ∀ {ks : List Qt}, (∀ k ∈ ks, err pe k = 0) → errs pe ks = 0
  | [], _ => by simp [errs]
  | k :: ks, h => by
    rw [errs, h k (List.mem_cons_self ..)]
    simp only [ne_eq, not_true_eq_false, if_false]
    exact errs_take_zero fun x hx => h x (List.mem_cons_of_mem _ hx)
theorem errs_first {pe : ByteArray → Int} : ∀ {ks : List Qt} {i : Nat} {k : Qt}, ks[i]? = some k → (∀ j x, j < i → ks[j]? = some x → err pe x = 0) → err pe k ≠ 0 → errs pe ks = err pe k
  | [], i, k, h, _, _ => by simp at h
  | x :: ks, 0, k, h, _, hk => by
    simp at h
    subst h
    rw [errs, if_pos hk]
  | x :: ks, i + 1, k, h, hall, hk => by
    rw [errs, hall 0 x (by omega) rfl]
    simp only [ne_eq, not_true_eq_false, if_false]
    exact errs_first (by simpa using h) (fun j y hj hy => hall (j + 1) y (by omega) (by simpa using hy)) hk
end Go.Proofs.YtgbjldkbbbjnkaaDoor.Pl
