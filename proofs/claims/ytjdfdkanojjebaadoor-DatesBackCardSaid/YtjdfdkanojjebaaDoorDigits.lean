/-
  Decimal digits and the texts of dates in plain Lean: what digits write, what a number reads, and that the order of texts is that of dates; no program in sight.
-/
import Derived.Test.YtjdfdkanojjebaaDoorPlain
import GoSem.Op.String
namespace Go.Proofs.YtjdfdkanojjebaaDoor.Dt

/-- The last digit of a number. -/
def dig (n : Int) : UInt8 := UInt8.ofNat (48 + (n % 10).toNat)
/-- The last k digits of a number. -/
def digs (n : Int) : Nat → List UInt8
  | 0 => []
  | k + 1 => digs (n / 10) k ++ [dig n]
def isDig (c : UInt8) : Bool := decide (48 ≤ c.toNat) && decide (c.toNat ≤ 57)
def val (l : List UInt8) : Int := l.foldl (fun a c => a * 10 + ((c.toNat : Int) - 48)) 0

theorem snocInd {α : Type} {P : List α → Prop} (h0 : P []) (h1 : ∀ l c, P l → P (l ++ [c])) : ∀ l, P l := by
  intro l
  have h : ∀ r : List α, P r.reverse := by
    intro r
    induction r with
    | nil => exact h0
    | cons c r ih => rw [List.reverse_cons]; exact h1 _ _ ih
  have := h l.reverse
  rwa [List.reverse_reverse] at this

theorem mod10 (n : Int) : 0 ≤ n % 10 ∧ n % 10 < 10 := ⟨Int.emod_nonneg n (by decide), Int.emod_lt_of_pos n (by decide)⟩
theorem dig_toNat (n : Int) : (dig n).toNat = 48 + (n % 10).toNat := by
  unfold dig
  rw [UInt8.toNat_ofNat']
  have := mod10 n
  omega
theorem dig_isDig (n : Int) : isDig (dig n) = true := by
  unfold isDig
  rw [dig_toNat]
  have := mod10 n
  simp; omega
theorem digs_length (k : Nat) : ∀ n, (digs n k).length = k := by
  induction k with
  | zero => intro n; rfl
  | succ k ih => intro n; simp [digs, ih]
theorem digs_all (k : Nat) : ∀ n, (digs n k).all isDig = true := by
  induction k with
  | zero => intro n; rfl
  | succ k ih => intro n; rw [digs, List.all_append, ih]; simp [dig_isDig]
theorem val_snoc (l : List UInt8) (c : UInt8) : val (l ++ [c]) = val l * 10 + ((c.toNat : Int) - 48) := by
  simp [val, List.foldl_append]
theorem val_digs (k : Nat) : ∀ n : Int, 0 ≤ n → n < 10 ^ k → val (digs n k) = n := by
  induction k with
  | zero => intro n h0 h1; simp [digs, val] at *; omega
  | succ k ih =>
    intro n h0 h1
    have hp : (10 : Int) ^ (k + 1) = 10 ^ k * 10 := Int.pow_succ _ _
    rw [digs, val_snoc, ih (n / 10) (by omega) (by rw [hp] at h1; omega), dig_toNat]
    have := mod10 n
    omega
theorem all_snoc {l : List UInt8} {c : UInt8} (h : (l ++ [c]).all isDig = true) : l.all isDig = true ∧ 48 ≤ c.toNat ∧ c.toNat ≤ 57 := by
  rw [List.all_append, Bool.and_eq_true] at h
  obtain ⟨h1, h2⟩ := h
  simp only [List.all_cons, List.all_nil, Bool.and_true, isDig, Bool.and_eq_true, decide_eq_true_eq] at h2
  exact ⟨h1, h2⟩
theorem val_bd : ∀ l : List UInt8, l.all isDig = true → 0 ≤ val l ∧ val l < 10 ^ l.length := by
  refine snocInd (fun _ => by simp [val]) ?_
  intro l c ih h
  obtain ⟨h1, h2, h3⟩ := all_snoc h
  have := ih h1
  rw [val_snoc, List.length_append, List.length_singleton, Int.pow_succ]
  omega
theorem digs_val : ∀ l : List UInt8, l.all isDig = true → digs (val l) l.length = l := by
  refine snocInd (fun _ => rfl) ?_
  intro l c ih h
  obtain ⟨h1, h2, h3⟩ := all_snoc h
  have hb := val_bd l h1
  rw [val_snoc, List.length_append, List.length_singleton, digs]
  have e1 : (val l * 10 + ((c.toNat : Int) - 48)) / 10 = val l := by omega
  have e2 : dig (val l * 10 + ((c.toNat : Int) - 48)) = c := by
    apply UInt8.toNat_inj.1
    rw [dig_toNat]; omega
  rw [e1, e2, ih h1]

/-- Digits from the front. -/
theorem val_cons (c : UInt8) : ∀ l : List UInt8, val (c :: l) = ((c.toNat : Int) - 48) * 10 ^ l.length + val l := by
  refine snocInd (by simp [val]) ?_
  intro l d ih
  rw [← List.cons_append, val_snoc, val_snoc, ih, List.length_append, List.length_singleton, Int.pow_succ, Int.add_mul, Int.mul_assoc]
  omega
/-- Of digits of one length the order of the texts is that of the numbers. -/
theorem less_val : ∀ (a b : List UInt8), a.length = b.length → a.all isDig = true → b.all isDig = true → Op.bytesLess a b = decide (val a < val b)
  | [], [], _, _, _ => by simp [Op.bytesLess]
  | [], _ :: _, h, _, _ => by simp at h
  | _ :: _, [], h, _, _ => by simp at h
  | c :: a, d :: b, h, ha, hb => by
    have hl : a.length = b.length := by simpa using h
    simp only [List.all_cons, Bool.and_eq_true] at ha hb
    have ih := less_val a b hl ha.2 hb.2
    have ba := val_bd a ha.2
    have bb := val_bd b hb.2
    rw [Op.bytesLess, ih, val_cons, val_cons, ← hl]
    rw [← hl] at bb
    generalize (10 : Int) ^ a.length = p at *
    have hc : c < d ↔ c.toNat < d.toNat := UInt8.lt_iff_toNat_lt
    have he : c = d ↔ c.toNat = d.toNat := UInt8.toNat_inj.symm
    rw [Bool.eq_iff_iff]
    simp only [Bool.or_eq_true, Bool.and_eq_true, decide_eq_true_eq, beq_iff_eq, hc, he]
    rcases Nat.lt_trichotomy c.toNat d.toNat with hlt | heq | hgt
    · have e : ((d.toNat : Int) - 48) * p = ((c.toNat : Int) - 48) * p + ((d.toNat : Int) - c.toNat) * p := by rw [← Int.add_mul]; congr 1; omega
      have e2 : 1 * p ≤ ((d.toNat : Int) - c.toNat) * p := Int.mul_le_mul_of_nonneg_right (by omega) (by omega)
      constructor
      · intro _; omega
      · intro _; exact .inl hlt
    · rw [heq]
      constructor
      · rintro (h1 | ⟨_, h2⟩) <;> omega
      · intro h2; exact .inr ⟨rfl, by omega⟩
    · have e : ((c.toNat : Int) - 48) * p = ((d.toNat : Int) - 48) * p + ((c.toNat : Int) - d.toNat) * p := by rw [← Int.add_mul]; congr 1; omega
      have e2 : 1 * p ≤ ((c.toNat : Int) - d.toNat) * p := Int.mul_le_mul_of_nonneg_right (by omega) (by omega)
      constructor
      · rintro (h1 | ⟨h1, h2⟩) <;> omega
      · intro h2; omega
/-- Beginnings of one length decide. -/
theorem less_append : ∀ (a b x y : List UInt8), a.length = b.length → Op.bytesLess (a ++ x) (b ++ y) = (Op.bytesLess a b || (a == b && Op.bytesLess x y))
  | [], [], x, y, _ => by simp [Op.bytesLess]
  | [], _ :: _, _, _, h => by simp at h
  | _ :: _, [], _, _, h => by simp at h
  | c :: a, d :: b, x, y, h => by
    have ih := less_append a b x y (by simpa using h)
    rw [List.cons_append, List.cons_append, Op.bytesLess, Op.bytesLess, ih]
    by_cases e : c = d
    · subst e
      rcases Bool.eq_false_or_eq_true (a == b) with h1 | h1 <;> simp [h1, List.cons_beq_cons]
    · have e1 : (c == d) = false := by simpa using e
      simp [e1, List.cons_beq_cons]

/-- The text of a date. -/
def txt (y m d : Int) : List UInt8 := digs y 4 ++ (45 :: (digs m 2 ++ (45 :: digs d 2)))
theorem txt_length (y m d : Int) : (txt y m d).length = 10 := by simp [txt, digs_length]

theorem digs_inj {k : Nat} {a b : Int} (ha : 0 ≤ a) (ha' : a < 10 ^ k) (hb : 0 ≤ b) (hb' : b < 10 ^ k) (h : digs a k = digs b k) : a = b := by
  rw [← val_digs k a ha ha', ← val_digs k b hb hb', h]
theorem less_digs {k : Nat} {a b : Int} (ha : 0 ≤ a) (ha' : a < 10 ^ k) (hb : 0 ≤ b) (hb' : b < 10 ^ k) : Op.bytesLess (digs a k) (digs b k) = decide (a < b) := by
  rw [less_val _ _ (by simp [digs_length]) (digs_all _ _) (digs_all _ _), val_digs k a ha ha', val_digs k b hb hb']
theorem beq_digs {k : Nat} {a b : Int} (ha : 0 ≤ a) (ha' : a < 10 ^ k) (hb : 0 ≤ b) (hb' : b < 10 ^ k) : (digs a k == digs b k) = decide (a = b) := by
  rw [Bool.eq_iff_iff]
  simp only [beq_iff_eq, decide_eq_true_eq]
  exact ⟨digs_inj ha ha' hb hb', fun h => by rw [h]⟩
theorem valid_small {y m d : Int} (h : Valid y m d) : 0 ≤ y ∧ y < 10 ^ 4 ∧ 0 ≤ m ∧ m < 10 ^ 2 ∧ 0 ≤ d ∧ d < 10 ^ 2 := by
  obtain ⟨h1, h2, h3, h4, h5, h6⟩ := h
  have := dim_bd y m
  exact ⟨by omega, by omega, by omega, by omega, by omega, by omega⟩
theorem txt_less {y m d y' m' d' : Int} (h : Valid y m d) (h' : Valid y' m' d') : Op.bytesLess (txt y m d) (txt y' m' d') = decide (num y m d < num y' m' d') := by
  obtain ⟨a1, a2, a3, a4, a5, a6⟩ := valid_small h
  obtain ⟨b1, b2, b3, b4, b5, b6⟩ := valid_small h'
  have hn := num_lt h h'
  unfold txt
  rw [less_append _ _ _ _ (by simp [digs_length]), less_digs a1 a2 b1 b2, beq_digs a1 a2 b1 b2, Op.bytesLess,
    less_append _ _ _ _ (by simp [digs_length]), less_digs a3 a4 b3 b4, beq_digs a3 a4 b3 b4, Op.bytesLess, less_digs a5 a6 b5 b6]
  rw [Bool.eq_iff_iff, decide_eq_true_eq, hn]
  simp
theorem txt_inj {y m d y' m' d' : Int} (h : Valid y m d) (h' : Valid y' m' d') (e : txt y m d = txt y' m' d') : num y m d = num y' m' d' := by
  have a := txt_less h h'
  have b := txt_less h' h
  rw [e] at a b
  have c := txt_less h' h'
  rw [c] at a b
  simp at a b
  omega
theorem txt_beq {y m d y' m' d' : Int} (h : Valid y m d) (h' : Valid y' m' d') : (txt y m d == txt y' m' d') = decide (num y m d = num y' m' d') := by
  rw [Bool.eq_iff_iff]
  simp only [beq_iff_eq, decide_eq_true_eq]
  refine ⟨txt_inj h h', fun e => ?_⟩
  obtain ⟨rfl, rfl, rfl⟩ := num_inj h h' e
  rfl
end Go.Proofs.YtjdfdkanojjebaaDoor.Dt
