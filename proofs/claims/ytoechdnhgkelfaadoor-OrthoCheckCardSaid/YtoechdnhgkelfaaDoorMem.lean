/-
  Slices that read as lists, nil let in, and appends onto a row of the call's own: the kit's lemmas to copy (its page on words for memory); orthographies and inventories in memory.
-/
import Derived.Test.YtoechdnhgkelfaaDoorChecked
import Derived.WalkKit
import Derived.WalkSpells
import Derived.WalkLawsBesides
import Derived.Deep.QuietTactic
import Derived.BigQuiet
import Derived.Handy
import Derived.Lib.Hide
import Derived.StillTailTactics
import Derived.Laws.BytesArg
import Derived.PlainAid
import Derived.Deep.AppendLies
import Derived.Deep.RegionLaw
import Derived.Laws.IdiomStrings
import Derived.Below
import Derived.Laws.OwnMore
import Derived.Deep.Draws
import Derived.Maps.AppendAt
import Derived.RegionTactic
import Derived.OwnWalk
namespace Go.Proofs.YtoechdnhgkelfaaDoor
open Go.RowKit Go.PlainAid

theorem block_of_add (a : Addr) (n : Nat) : (a.add n).block = a.block := by unfold Addr.add; split <;> rfl
theorem add_of_add (a : Addr) (i j : Nat) : (a.add i).add j = a.add (i + j) := by
  unfold Addr.add
  by_cases hi : i = 0 <;> by_cases hj : j = 0 <;> simp [hi, hj, Nat.add_assoc]

def Reads (w : World) (B size : Nat) (A : Option Addr) (n : Nat) (xs : List Value) : Prop :=
  xs.length = n * size ∧ (0 < n → ∃ ad, A = some ad ∧ ad.block < B ∧ ∀ j u, xs[j]? = some u → w.cell? (ad.add j) = some u)

section
variable {w w' : World} {B B' size n : Nat} {A : Option Addr} {xs : List Value}
theorem Reads.none_ : Reads w B size A 0 [] := ⟨by simp, fun h => absurd h (by omega)⟩
theorem Reads.at_ {k : Nat} (h : Reads w B 1 A n xs) (hk : k < n) : ∃ ad u, A = some ad ∧ ad.block < B ∧ xs[k]? = some u ∧ w.cell? (ad.add k) = some u := by
  obtain ⟨ad, e, hb, hc⟩ := h.2 (by omega)
  have hl : k < xs.length := by have := h.1; omega
  exact ⟨ad, xs[k], e, hb, List.getElem?_eq_getElem hl, hc k _ (List.getElem?_eq_getElem hl)⟩
theorem Reads.keep (h : Reads w B size A n xs) (hk : ∀ p : Addr, p.block < B → w'.cell? p = w.cell? p) : Reads w' B size A n xs :=
  ⟨h.1, fun hn => by
    obtain ⟨ad, e, hb, hc⟩ := h.2 hn
    exact ⟨ad, e, hb, fun j u hu => (hk _ (by rw [block_of_add]; exact hb)).trans (hc j u hu)⟩⟩
theorem Reads.more (h : Reads w B size A n xs) (hB : B ≤ B') : Reads w B' size A n xs :=
  ⟨h.1, fun hn => by
    obtain ⟨ad, e, hb, hc⟩ := h.2 hn
    exact ⟨ad, e, by omega, hc⟩⟩
theorem Reads.below (h : Reads w B size A n xs) (hb : Below B w w') : Reads w' B size A n xs := h.keep fun _ hp => hb.cell hp
theorem Reads.drew (h : Reads w B size A n xs) : Reads w.drew B size A n xs := h
theorem Reads.drewN (h : Reads w B size A n xs) (k : Nat) : Reads (w.drewN k) B size A n xs := h
theorem Reads.alloc (h : Reads w B size A n xs) (hB : B ≤ w.heap.size) (o : Obj) : Reads (w.alloc o) B size A n xs := h.keep fun p hp => World.cell?_alloc_lt w o p (by omega)
theorem Reads.setCell (h : Reads w B size A n xs) {p : Addr} (hB : B ≤ p.block) (u : Value) : Reads (w.setCell p u) B size A n xs :=
  h.keep fun q hq => World.cell?_setCell_other w p q u (fun e => by subst e; omega)
theorem Reads.grown (h : Reads w B size A n xs) {row : Option Nat} (hg : w.grownBy w' row) (hB : B ≤ w.heap.size) (hr : ∀ g, row = some g → B ≤ g) : Reads w' B size A n xs :=
  h.keep fun p hp => World.cell?_of_block (hg.block p.block (by omega) (fun e => by have := hr _ e.symm; omega))
theorem Reads.cut (h : Reads w B size A n xs) {k cap : Nat} (hk : k ≤ n) (hc : n ≤ cap) :
    Reads w B size (if cap = k then A else A.map (·.add (k * size))) (n - k) (xs.drop (k * size)) := by
  refine ⟨by rw [List.length_drop, h.1, Nat.sub_mul], fun hn => ?_⟩
  obtain ⟨ad, rfl, hb, hcell⟩ := h.2 (by omega)
  rw [if_neg (by omega)]
  refine ⟨ad.add (k * size), rfl, by rw [block_of_add]; exact hb, fun j u hu => ?_⟩
  rw [add_of_add]
  exact hcell _ u (by rw [← hu, List.getElem?_drop])
theorem Reads.of_own {base : Nat} {e : TypeId} {c : Nat} (h : w.ownsRow base e size (.slice A n c) n xs) : Reads w w.heap.size size A n xs := by
  refine ⟨h.1, fun hn => ?_⟩
  obtain ⟨g, cap, hv, _, hlt⟩ := h.form hn
  have hA : A = some ⟨g, 0, none⟩ := by injection hv
  subst hA
  exact ⟨_, rfl, hlt, h.cells (g := g) rfl⟩
end

section
variable {P : Program} (w : World)

theorem run_append_of_nil (base : Nat) (t ty e : TypeId) (i : TypeInfo) (size : Nat) (ht : P.underlying t = some (.slice e)) (hi : P.info? e = some i)
    (v : Value) (n : Nat) (xs : List Value) (hown : w.ownsRow base e size v n xs) (c : Nat) : (Builtin.append_ #[t, t] ty #[v, .slice none 0 c]).run P w = .ok v w := by
  rcases hown.2 with ⟨rfl, rfl⟩ | ⟨g, cap, cur, rfl, _, _, hnc, _⟩
  · simp [Builtin.append_, run_underlying ht, sizeOf, typeInfo, hi, Builtin.lenOf, Builtin.firstCells]
  · simp [Builtin.append_, run_underlying ht, sizeOf, typeInfo, hi, Builtin.lenOf, Builtin.firstCells, hnc, storeCells]

theorem run_append_any (base : Nat) (t ty e : TypeId) (i : TypeInfo) (z : Value) (size bytes : Nat) (ht : P.underlying t = some (.slice e)) (hi : P.info? e = some i) (hz : i.zero = some z)
    (hsize : i.size = size) (hby : i.bytes = bytes) (hzs : z.cells.size = size) (hsz : 0 < size)
    (v : Value) (n : Nat) (xs : List Value) (hown : w.ownsRow base e size v n xs)
    (B : Nat) (A : Option Addr) (m c : Nat) (news : List Value) (hr : Reads w B size A m news) (h1 : ∀ u ∈ news, u.oneCell' = true)
    (h63 : n + m ≤ maxLen) (hbytes : (n + m) * bytes ≤ 140737488355328) (hbase : base ≤ w.heap.size) :
    ∃ v' w', (Builtin.append_ #[t, t] ty #[v, .slice A m c]).run P w = .ok v' w' ∧ w'.ownsRow base e size v' (n + m) (xs ++ news) ∧ w.grownBy w' v.ownBlock ∧
      (v'.ownBlock = v.ownBlock ∨ v'.ownBlock = some w.heap.size) := by
  rcases A with _ | ad
  · have hm : m = 0 := by
      rcases Nat.eq_zero_or_pos m with h0 | h0
      · exact h0
      · obtain ⟨ad, h, _⟩ := hr.2 h0
        cases h
    subst hm
    have hn : news = [] := List.eq_nil_of_length_eq_zero (by simpa using hr.1)
    subst hn
    exact ⟨v, w, run_append_of_nil w base t ty e i size ht hi v n xs hown c, by simpa using hown, World.grownBy.refl w _, .inl rfl⟩
  · have hcells : ∀ j u, news[j]? = some u → w.cell? (ad.add j) = some u := by
      intro j u hu
      rcases Nat.eq_zero_or_pos m with h0 | h0
      · subst h0
        have hn : news = [] := List.eq_nil_of_length_eq_zero (by simpa using hr.1)
        subst hn
        simp at hu
      · obtain ⟨ad', h, _, hc⟩ := hr.2 h0
        injection h with h
        subst h
        exact hc j u hu
    obtain ⟨v', w', hrun, h2, h3, _, h5⟩ := run_append_own_at (P := P) w base t ty e i z size bytes ht hi hz hsize hby hzs hsz v n xs hown ad m c news hr.1 hcells h1 h63 hbytes hbase
    exact ⟨v', w', hrun, h2, h3, h5⟩

theorem wp_append_any {o : Oper} {a : Act} {K : Act → World → Prop} {Q : Exit → Act → World → Prop} (s x : Operand) (t : TypeId)
    (ho : o.op = .call { callee := .builtin .append, args := #[s, x], argTypes := #[t, t] })
    (base : Nat) (e : TypeId) (i : TypeInfo) (z : Value) (size bytes : Nat) (ht : P.underlying t = some (.slice e)) (hi : P.info? e = some i) (hz : i.zero = some z)
    (hsize : i.size = size) (hby : i.bytes = bytes) (hzs : z.cells.size = size) (hsz : 0 < size)
    (v : Value) (n : Nat) (xs : List Value) (hs : a.eval s = v) (hown : w.ownsRow base e size v n xs)
    (B : Nat) (A : Option Addr) (m c : Nat) (news : List Value) (hx : a.eval x = .slice A m c) (hr : Reads w B size A m news) (h1 : ∀ u ∈ news, u.oneCell' = true)
    (h63 : n + m ≤ maxLen) (hbytes : (n + m) * bytes ≤ 140737488355328) (hbase : base ≤ w.heap.size)
    (h : ∀ v' w', w'.ownsRow base e size v' (n + m) (xs ++ news) → w.grownBy w' v.ownBlock → (v'.ownBlock = v.ownBlock ∨ v'.ownBlock = some w.heap.size) → K (a.put o.dst v') w') : o.wp P a w K Q := by
  obtain ⟨v', w', hrun, h2, h3, h4⟩ := run_append_any (P := P) w base t o.type e i z size bytes ht hi hz hsize hby hzs hsz v n xs hown B A m c news hr h1 h63 hbytes hbase
  unfold Oper.wp execOp
  simp only [ho, resolve, invoke, builtin, Sem.run_bind, Sem.run_pure, Result.andThen_ok, List.map_toArray, List.map_cons, List.map_nil, hs, hx, hrun]
  exact h v' w' h2 h3 h4

theorem wpList_append_any {ops : Array Oper} {rest : List Oper} {o : Oper} {a : Act} {Q : Exit → Act → World → Prop} (hgd : o.guard = none) (s x : Operand) (t : TypeId)
    (ho : o.op = .call { callee := .builtin .append, args := #[s, x], argTypes := #[t, t] })
    (base : Nat) (e : TypeId) (i : TypeInfo) (z : Value) (size bytes : Nat) (ht : P.underlying t = some (.slice e)) (hi : P.info? e = some i) (hz : i.zero = some z)
    (hsize : i.size = size) (hby : i.bytes = bytes) (hzs : z.cells.size = size) (hsz : 0 < size)
    (v : Value) (n : Nat) (xs : List Value) (hs : a.eval s = v) (hown : w.ownsRow base e size v n xs)
    (B : Nat) (A : Option Addr) (m c : Nat) (news : List Value) (hx : a.eval x = .slice A m c) (hr : Reads w B size A m news) (h1 : ∀ u ∈ news, u.oneCell' = true)
    (h63 : n + m ≤ maxLen) (hbytes : (n + m) * bytes ≤ 140737488355328) (hbase : base ≤ w.heap.size)
    (h : ∀ v' w', w'.ownsRow base e size v' (n + m) (xs ++ news) → w.grownBy w' v.ownBlock → (v'.ownBlock = v.ownBlock ∨ v'.ownBlock = some w.heap.size) → wpList P ops Q rest (a.put o.dst v') w') : wpList P ops Q (o :: rest) a w :=
  wpList_plain hgd fun _ hK => wp_append_any w s x t ho base e i z size bytes ht hi hz hsize hby hzs hsz v n xs hs hown B A m c news hx hr h1 h63 hbytes hbase fun v' w' h2 h3 h4 => hK _ _ (h v' w' h2 h3 h4)

theorem step_append_any {ops : Array Oper} {o : Oper} {a : Act} {K : Act → World → Prop} {Q : Exit → Act → World → Prop} {E : Prop} (hgd : o.guard = none) (s x : Operand) (t : TypeId)
    (ho : o.op = .call { callee := .builtin .append, args := #[s, x], argTypes := #[t, t] })
    (base : Nat) (e : TypeId) (i : TypeInfo) (z : Value) (size bytes : Nat) (ht : P.underlying t = some (.slice e)) (hi : P.info? e = some i) (hz : i.zero = some z)
    (hsize : i.size = size) (hby : i.bytes = bytes) (hzs : z.cells.size = size) (hsz : 0 < size)
    (v : Value) (n : Nat) (xs : List Value) (hs : a.eval s = v) (hown : w.ownsRow base e size v n xs)
    (B : Nat) (A : Option Addr) (m c : Nat) (news : List Value) (hx : a.eval x = .slice A m c) (hr : Reads w B size A m news) (h1 : ∀ u ∈ news, u.oneCell' = true)
    (h63 : n + m ≤ maxLen) (hbytes : (n + m) * bytes ≤ 140737488355328) (hbase : base ≤ w.heap.size)
    (h : ∀ v' w', w'.ownsRow base e size v' (n + m) (xs ++ news) → w.grownBy w' v.ownBlock → (v'.ownBlock = v.ownBlock ∨ v'.ownBlock = some w.heap.size) → K (a.put o.dst v') w') :
    if Region.wanted o (yielded ops a.tmps) = true then Oper.wp P o a w K Q else E := by
  have hw : Region.wanted o (yielded ops a.tmps) = true := by simp [Region.wanted, hgd]
  rw [if_pos hw]
  exact wp_append_any w s x t ho base e i z size bytes ht hi hz hsize hby hzs hsz v n xs hs hown B A m c news hx hr h1 h63 hbytes hbase h
end

theorem take_one {α : Type} {xs : List α} {k : Nat} {p : α} (h : xs[k]? = some p) : xs.take (k + 1) = xs.take k ++ [p] := by
  obtain ⟨hk, rfl⟩ := List.getElem?_eq_some_iff.1 h
  exact List.take_succ_eq_append_getElem hk
theorem only_of_below {a w : World} (h : Below a.heap.size a w) (row : Option Nat) : a.grownBy w row := ⟨h.os, h.tape, h.output, h.size, fun i hi _ => h.block i hi⟩
theorem own_below {w w' : World} {base : Nat} {e : TypeId} {size : Nat} {v : Value} {n : Nat} {xs : List Value} (h : w.ownsRow base e size v n xs) (hb : Below w.heap.size w w') : w'.ownsRow base e size v n xs := by
  rcases Option.eq_none_or_eq_some v.ownBlock with hn | ⟨g, hg⟩
  · exact h.kept (only_of_below hb none) (.inl hn)
  · exact h.kept (only_of_below hb none) (.inr (by rw [hg]; simp))
theorem own_base {w : World} {base base' : Nat} {e : TypeId} {size : Nat} {v : Value} {n : Nat} {xs : List Value} (h : w.ownsRow base e size v n xs) (hb : base' ≤ base) : w.ownsRow base' e size v n xs := by
  obtain ⟨h1, h2⟩ := h
  refine ⟨h1, ?_⟩
  rcases h2 with h2 | ⟨g, cap, cur, hv, hg, r⟩
  · exact .inl h2
  · exact .inr ⟨g, cap, cur, hv, by omega, r⟩
theorem size_list (s : ByteArray) : s.data.toList.length = s.size := by rw [Array.length_toList]; rfl
theorem str_data (p : List UInt8) : (⟨p.toArray⟩ : ByteArray).data.toList = p := by simp
theorem str_size (p : List UInt8) : (⟨p.toArray⟩ : ByteArray).size = p.length := by
  show p.toArray.size = _
  simp
theorem ret_bool {a b : Bool} (h : a = b) : Ending.returned (.bool a) = .returned (.bool b) := by rw [h]
theorem ret_int {k : IntKind} {a b : Int} (h : a = b) : Ending.returned (.int k a) = .returned (.int k b) := by rw [h]

/-! Numbers, strings, units, letters and segments in memory. -/
def I (n : Int) : Value := .int .i64 n
def IS (l : List Int) : List Value := l.map I
theorem IS_length (xs : List Int) : (IS xs).length = xs.length := by simp [IS]
theorem IS_at {xs : List Int} {k : Nat} {u : Value} (h : (IS xs)[k]? = some u) : ∃ p, xs[k]? = some p ∧ u = .int .i64 p := by
  unfold IS at h
  rw [List.getElem?_map, Option.map_eq_some_iff] at h
  obtain ⟨p, hp, rfl⟩ := h
  exact ⟨p, hp, rfl⟩
theorem IS_one (xs : List Int) : ∀ u ∈ IS xs, u.oneCell' = true := by
  intro u hu
  simp only [IS, List.mem_map] at hu
  obtain ⟨p, _, rfl⟩ := hu
  rfl
theorem IS_append (xs ys : List Int) : IS (xs ++ ys) = IS xs ++ IS ys := by simp [IS]
theorem IS_snoc (xs : List Int) (p : Int) : IS (xs ++ [p]) = IS xs ++ [.int .i64 p] := by simp [IS, I]
/-- A slice of numbers. -/
def Ints (w : World) (B : Nat) (A : Option Addr) (l : List Int) : Prop := Reads w B 1 A l.length (IS l)
theorem Ints.at_ {w : World} {B : Nat} {A : Option Addr} {l : List Int} (h : Ints w B A l) {k : Nat} {p : Int} (hk : l[k]? = some p) : ∃ ad, A = some ad ∧ ad.block < B ∧ w.cell? (ad.add k) = some (.int .i64 p) := by
  have hlt := (List.getElem?_eq_some_iff.1 hk).1
  obtain ⟨ad, u, ha, hb, hx, hc⟩ := Reads.at_ h hlt
  obtain ⟨q, hq, rfl⟩ := IS_at hx
  rw [hk] at hq
  cases hq
  exact ⟨ad, ha, hb, hc⟩
abbrev U := ByteArray × List Int
/-- A slice of units. -/
def UAt (w : World) (B : Nat) (A : Option Addr) (us : List U) : Prop :=
  ∀ j u, us[j]? = some u → ∃ ad Aj cj, A = some ad ∧ ad.block < B ∧ w.cell? (ad.add (j * 2)) = some (.string u.1) ∧ w.cell? ⟨(ad.add (j * 2)).block, (ad.add (j * 2)).off + 1, none⟩ = some (.slice Aj u.2.length cj) ∧ Ints w B Aj u.2
/-- A slice of strings. -/
def StrsAt (w : World) (B : Nat) (A : Option Addr) (l : List ByteArray) : Prop :=
  ∀ j s, l[j]? = some s → ∃ ad, A = some ad ∧ ad.block < B ∧ w.cell? (ad.add j) = some (.string s)
/-- A slice of slices of strings. -/
def LAt (w : World) (B : Nat) (A : Option Addr) (ls : List (List ByteArray)) : Prop :=
  ∀ j l, ls[j]? = some l → ∃ ad Aj cj, A = some ad ∧ ad.block < B ∧ w.cell? (ad.add j) = some (.slice Aj l.length cj) ∧ StrsAt w B Aj l
/-- A slice of segments. -/
def PAt (w : World) (B : Nat) (A : Option Addr) (ps : List (ByteArray × Int)) : Prop :=
  ∀ j p, ps[j]? = some p → ∃ ad, A = some ad ∧ ad.block < B ∧ w.cell? (ad.add (j * 2)) = some (.string p.1) ∧ w.cell? ⟨(ad.add (j * 2)).block, (ad.add (j * 2)).off + 1, none⟩ = some (.int .i64 p.2)
section
variable {w w' : World} {B B' : Nat} {A : Option Addr}
theorem Ints.keep {l : List Int} (h : Ints w B A l) (hk : ∀ p : Addr, p.block < B → w'.cell? p = w.cell? p) : Ints w' B A l := Reads.keep h hk
theorem UAt.keep {us : List U} (h : UAt w B A us) (hk : ∀ p : Addr, p.block < B → w'.cell? p = w.cell? p) : UAt w' B A us := fun j u hu => by
  obtain ⟨ad, Aj, cj, ha, hb, h1, h2, h3⟩ := h j u hu
  exact ⟨ad, Aj, cj, ha, hb, (hk _ (by rw [block_of_add]; exact hb)).trans h1, (hk _ (by show (ad.add (j * 2)).block < _; rw [block_of_add]; exact hb)).trans h2, h3.keep hk⟩
theorem StrsAt.keep {us : List ByteArray} (h : StrsAt w B A us) (hk : ∀ p : Addr, p.block < B → w'.cell? p = w.cell? p) : StrsAt w' B A us := fun j u hu => by
  obtain ⟨ad, ha, hb, h1⟩ := h j u hu
  exact ⟨ad, ha, hb, (hk _ (by rw [block_of_add]; exact hb)).trans h1⟩
theorem LAt.keep {us : List (List ByteArray)} (h : LAt w B A us) (hk : ∀ p : Addr, p.block < B → w'.cell? p = w.cell? p) : LAt w' B A us := fun j u hu => by
  obtain ⟨ad, Aj, cj, ha, hb, h1, h3⟩ := h j u hu
  exact ⟨ad, Aj, cj, ha, hb, (hk _ (by rw [block_of_add]; exact hb)).trans h1, h3.keep hk⟩
theorem PAt.keep {us : List (ByteArray × Int)} (h : PAt w B A us) (hk : ∀ p : Addr, p.block < B → w'.cell? p = w.cell? p) : PAt w' B A us := fun j u hu => by
  obtain ⟨ad, ha, hb, h1, h2⟩ := h j u hu
  exact ⟨ad, ha, hb, (hk _ (by rw [block_of_add]; exact hb)).trans h1, (hk _ (by show (ad.add (j * 2)).block < _; rw [block_of_add]; exact hb)).trans h2⟩
theorem Ints.more {l : List Int} (h : Ints w B A l) (hB : B ≤ B') : Ints w B' A l := Reads.more h hB
theorem UAt.more {us : List U} (h : UAt w B A us) (hB : B ≤ B') : UAt w B' A us := fun j u hu => by
  obtain ⟨ad, Aj, cj, ha, hb, h1, h2, h3⟩ := h j u hu
  exact ⟨ad, Aj, cj, ha, by omega, h1, h2, h3.more hB⟩
theorem StrsAt.more {us : List ByteArray} (h : StrsAt w B A us) (hB : B ≤ B') : StrsAt w B' A us := fun j u hu => by
  obtain ⟨ad, ha, hb, h1⟩ := h j u hu
  exact ⟨ad, ha, by omega, h1⟩
theorem LAt.more {us : List (List ByteArray)} (h : LAt w B A us) (hB : B ≤ B') : LAt w B' A us := fun j u hu => by
  obtain ⟨ad, Aj, cj, ha, hb, h1, h3⟩ := h j u hu
  exact ⟨ad, Aj, cj, ha, by omega, h1, h3.more hB⟩
theorem PAt.more {us : List (ByteArray × Int)} (h : PAt w B A us) (hB : B ≤ B') : PAt w B' A us := fun j u hu => by
  obtain ⟨ad, ha, hb, h1, h2⟩ := h j u hu
  exact ⟨ad, ha, by omega, h1, h2⟩
end
/-- An orthography as a value. -/
def OV (name : ByteArray) (A : Option Addr) (n cap : Nat) (C : Option Addr) (m cap2 : Nat) : Value := .agg #[.string name, .slice A n cap, .slice C m cap2]
/-- What an orthography holds. -/
structure Ort where
  name : ByteArray
  us : List U
  ls : List (List ByteArray)
/-- A value that reads as an orthography. -/
def OAt (w : World) (B : Nat) (o : Ort) (v : Value) : Prop := ∃ A cap C cap2, v = .agg #[.string o.name, .slice A o.us.length cap, .slice C o.ls.length cap2] ∧ UAt w B A o.us ∧ LAt w B C o.ls
theorem OAt.keep {w w' : World} {B : Nat} {o : Ort} {v : Value} (h : OAt w B o v) (hk : ∀ p : Addr, p.block < B → w'.cell? p = w.cell? p) : OAt w' B o v := by
  obtain ⟨A, cap, C, cap2, hv, h1, h2⟩ := h
  exact ⟨A, cap, C, cap2, hv, h1.keep hk, h2.keep hk⟩
theorem OAt.more {w : World} {B B' : Nat} {o : Ort} {v : Value} (h : OAt w B o v) (hB : B ≤ B') : OAt w B' o v := by
  obtain ⟨A, cap, C, cap2, hv, h1, h2⟩ := h
  exact ⟨A, cap, C, cap2, hv, h1.more hB, h2.more hB⟩
theorem OAt.below {w w' : World} {o : Ort} {v : Value} (h : OAt w w.heap.size o v) (hb : Below w.heap.size w w') : OAt w' w'.heap.size o v := (h.keep fun _ hp => hb.cell hp).more hb.size
/-- A value that reads as an inventory. -/
def VAt (w : World) (B : Nat) (ps : List (ByteArray × Int)) (v : Value) : Prop := ∃ A cap, v = .agg #[.slice A ps.length cap] ∧ PAt w B A ps
theorem VAt.keep {w w' : World} {B : Nat} {o : List (ByteArray × Int)} {v : Value} (h : VAt w B o v) (hk : ∀ p : Addr, p.block < B → w'.cell? p = w.cell? p) : VAt w' B o v := by
  obtain ⟨A, cap, hv, h1⟩ := h
  exact ⟨A, cap, hv, h1.keep hk⟩
theorem VAt.more {w : World} {B B' : Nat} {o : List (ByteArray × Int)} {v : Value} (h : VAt w B o v) (hB : B ≤ B') : VAt w B' o v := by
  obtain ⟨A, cap, hv, h1⟩ := h
  exact ⟨A, cap, hv, h1.more hB⟩
theorem VAt.below {w w' : World} {o : List (ByteArray × Int)} {v : Value} (h : VAt w w.heap.size o v) (hb : Below w.heap.size w w') : VAt w' w'.heap.size o v := (h.keep fun _ hp => hb.cell hp).more hb.size

end Go.Proofs.YtoechdnhgkelfaaDoor
