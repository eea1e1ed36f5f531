/-
  The calendar from 1900 to 2199 in plain Lean: leap years, months, the number of a day, digits, texts; no program in sight.
-/
import Derived.KernelRfl
namespace Go.Proofs.YtjdfdkanojjebaaDoor.Dt

/-- The Gregorian rule, with Go's remainder. -/
def leap (y : Int) : Bool := (Int.tmod y 4 == 0 && Int.tmod y 100 != 0) || Int.tmod y 400 == 0
/-- The days of a month. -/
def dim (y m : Int) : Int := if m = 2 then (if leap y = true then 29 else 28) else if m = 4 ∨ m = 6 ∨ m = 9 ∨ m = 11 then 30 else 31
/-- The days of a year. -/
def whole (y : Int) : Int := if leap y = true then 366 else 365
/-- The days of the first k months. -/
def cum (y : Int) : Nat → Int
  | 0 => 0
  | k + 1 => cum y k + dim y ((k : Int) + 1)
/-- The days of the first k years from 1900 on. -/
def yrs : Nat → Int
  | 0 => 0
  | k + 1 => yrs k + whole (1900 + (k : Int))
/-- A date that is there. -/
def Valid (y m d : Int) : Prop := 1900 ≤ y ∧ y ≤ 2199 ∧ 1 ≤ m ∧ m ≤ 12 ∧ 1 ≤ d ∧ d ≤ dim y m
/-- The number of a date. -/
def num (y m d : Int) : Int := yrs (y - 1900).toNat + cum y (m - 1).toNat + d

theorem dim_bd (y m : Int) : 28 ≤ dim y m ∧ dim y m ≤ 31 := by
  unfold dim; split
  · split <;> omega
  · split <;> omega
theorem whole_bd (y : Int) : 365 ≤ whole y ∧ whole y ≤ 366 := by unfold whole; split <;> omega
theorem cum_succ (y : Int) (k : Nat) : cum y (k + 1) = cum y k + dim y ((k : Int) + 1) := rfl
theorem yrs_succ (k : Nat) : yrs (k + 1) = yrs k + whole (1900 + (k : Int)) := rfl
theorem cum_all (y : Int) : cum y 12 = whole y := by
  simp only [cum, dim, whole]
  cases leap y <;> simp
theorem cum_mono (y : Int) {a b : Nat} (h : a ≤ b) : cum y a ≤ cum y b := by
  induction h with
  | refl => exact Int.le_refl _
  | step _ ih => rename_i n _; rw [cum_succ]; have := dim_bd y ((n : Int) + 1); omega
theorem yrs_mono {a b : Nat} (h : a ≤ b) : yrs a ≤ yrs b := by
  induction h with
  | refl => exact Int.le_refl _
  | step _ ih => rename_i n _; rw [yrs_succ]; have := whole_bd (1900 + (n : Int)); omega
theorem cum_bd (y : Int) (k : Nat) (h : k ≤ 12) : 0 ≤ cum y k ∧ cum y k ≤ whole y := by
  have h0 := cum_mono y (Nat.zero_le k)
  have h1 := cum_mono y h
  rw [cum_all] at h1
  exact ⟨h0, h1⟩
theorem yrs_all : yrs 300 = 109573 := by decide +kernel
theorem yrs_bd (k : Nat) (h : k ≤ 300) : 0 ≤ yrs k ∧ yrs k ≤ 109573 := by
  have h0 := yrs_mono (Nat.zero_le k)
  have h1 := yrs_mono h
  rw [yrs_all] at h1
  exact ⟨h0, h1⟩

/-- A month's days end before the next month's first. -/
theorem cum_dim (y m : Int) (h : 1 ≤ m) : cum y (m - 1).toNat + dim y m = cum y m.toNat := by
  obtain ⟨k, rfl⟩ : ∃ k : Nat, m = (k : Int) + 1 := ⟨(m - 1).toNat, by omega⟩
  have e1 : ((k : Int) + 1 - 1).toNat = k := by omega
  have e2 : ((k : Int) + 1).toNat = k + 1 := by omega
  rw [e1, e2]; rfl
theorem yrs_whole (y : Int) (h : 1900 ≤ y) : yrs (y - 1900).toNat + whole y = yrs (y + 1 - 1900).toNat := by
  obtain ⟨k, rfl⟩ : ∃ k : Nat, y = 1900 + (k : Int) := ⟨(y - 1900).toNat, by omega⟩
  have e1 : (1900 + (k : Int) - 1900).toNat = k := by omega
  have e2 : (1900 + (k : Int) + 1 - 1900).toNat = k + 1 := by omega
  rw [e1, e2]; rfl

theorem num_bd {y m d : Int} (h : Valid y m d) : 1 ≤ num y m d ∧ num y m d ≤ 109573 := by
  obtain ⟨h1, h2, h3, h4, h5, h6⟩ := h
  have a := cum_dim y m h3
  have b := cum_bd y m.toNat (by omega)
  have b' := cum_bd y (m - 1).toNat (by omega)
  have c := yrs_whole y h1
  have e := yrs_bd (y + 1 - 1900).toNat (by omega)
  have e' := yrs_bd (y - 1900).toNat (by omega)
  unfold num
  omega

/-- An earlier year gives a smaller number. -/
theorem num_year {y m d y' m' d' : Int} (h : Valid y m d) (h' : Valid y' m' d') (hy : y < y') : num y m d < num y' m' d' := by
  obtain ⟨h1, h2, h3, h4, h5, h6⟩ := h
  obtain ⟨k1, k2, k3, k4, k5, k6⟩ := h'
  have a := cum_dim y m h3
  have b := cum_bd y m.toNat (by omega)
  have b' := cum_bd y' (m' - 1).toNat (by omega)
  have c := yrs_whole y h1
  have e : yrs (y + 1 - 1900).toNat ≤ yrs (y' - 1900).toNat := yrs_mono (by omega)
  unfold num
  omega
theorem num_month {y m d m' d' : Int} (h : Valid y m d) (h' : Valid y m' d') (hm : m < m') : num y m d < num y m' d' := by
  obtain ⟨h1, h2, h3, h4, h5, h6⟩ := h
  obtain ⟨k1, k2, k3, k4, k5, k6⟩ := h'
  have a := cum_dim y m h3
  have e : cum y m.toNat ≤ cum y (m' - 1).toNat := cum_mono y (by omega)
  unfold num
  omega
/-- The order of the numbers is that of the dates. -/
theorem num_lt {y m d y' m' d' : Int} (h : Valid y m d) (h' : Valid y' m' d') : num y m d < num y' m' d' ↔ y < y' ∨ (y = y' ∧ (m < m' ∨ (m = m' ∧ d < d'))) := by
  constructor
  · intro hl
    by_cases a : y < y'
    · exact .inl a
    · by_cases b : y' < y
      · have := num_year h' h b; omega
      · obtain rfl : y = y' := by omega
        refine .inr ⟨rfl, ?_⟩
        by_cases c : m < m'
        · exact .inl c
        · by_cases e : m' < m
          · have := num_month h' h e; omega
          · obtain rfl : m = m' := by omega
            refine .inr ⟨rfl, ?_⟩
            unfold num at hl; omega
  · rintro (a | ⟨rfl, b | ⟨rfl, c⟩⟩)
    · exact num_year h h' a
    · exact num_month h h' b
    · unfold num; omega
theorem num_inj {y m d y' m' d' : Int} (h : Valid y m d) (h' : Valid y' m' d') (e : num y m d = num y' m' d') : y = y' ∧ m = m' ∧ d = d' := by
  have a := num_lt h h'
  have b := num_lt h' h
  have a' : ¬ (y < y' ∨ (y = y' ∧ (m < m' ∨ (m = m' ∧ d < d')))) := fun q => by have := a.2 q; omega
  have b' : ¬ (y' < y ∨ (y' = y ∧ (m' < m ∨ (m' = m ∧ d' < d)))) := fun q => by have := b.2 q; omega
  omega


/-- A number lies in one of the steps of a climbing row. -/
theorem step_of (f : Nat → Int) (n : Int) : ∀ k, f 0 < n → n ≤ f k → ∃ j, j < k ∧ f j < n ∧ n ≤ f (j + 1)
  | 0, h0, h1 => by omega
  | k + 1, h0, h1 => by
    by_cases h : n ≤ f k
    · obtain ⟨j, hj, h2⟩ := step_of f n k h0 h
      exact ⟨j, by omega, h2⟩
    · exact ⟨k, by omega, by omega, h1⟩
/-- Every day has a date. -/
theorem date_of {n : Int} (h1 : 1 ≤ n) (h2 : n ≤ 109573) : ∃ y m d : Int, Valid y m d ∧ num y m d = n := by
  obtain ⟨k, hk, a1, a2⟩ := step_of yrs n 300 (by show (0 : Int) < n; omega) (by rw [yrs_all]; exact h2)
  rw [yrs_succ] at a2
  obtain ⟨j, hj, b1, b2⟩ := step_of (cum (1900 + (k : Int))) (n - yrs k) 12 (by show (0 : Int) < _; omega) (by rw [cum_all]; omega)
  rw [cum_succ] at b2
  refine ⟨1900 + (k : Int), (j : Int) + 1, n - yrs k - cum (1900 + (k : Int)) j, ⟨by omega, by omega, by omega, by omega, by omega, by omega⟩, ?_⟩
  unfold num
  have e1 : (1900 + (k : Int) - 1900).toNat = k := by omega
  have e2 : ((j : Int) + 1 - 1).toNat = j := by omega
  rw [e1, e2]; omega

end Go.Proofs.YtjdfdkanojjebaaDoor.Dt
