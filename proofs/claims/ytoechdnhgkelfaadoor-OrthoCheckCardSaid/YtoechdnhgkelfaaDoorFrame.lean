/-
  What all rows of this seat share: the arguments opened, the tables that the row lists, a world for the witness, and the row's last step behind a call that has only made memory.
-/
import Derived.Test.YtoechdnhgkelfaaDoorRight
import Derived.Test.YtoechdnhgkelfaaDoorCards
import Derived.Test.YtoechdnhgkelfaaDoorTie
import Derived.ProofKit
import Derived.OpenShut
import Derived.SliceStrings
import Derived.ChangeSlices
import Derived.Deep.Slices
import Derived.Deep.Fields
import Derived.Carry
import Derived.Deep.DeepHandedRow
import Derived.Lib.LaidTab
import Derived.Lib.LaidU8T
import Derived.Lib.SmallJoins
import Derived.PinnedBridge
import Derived.ChangeSame
namespace Go.Proofs.YtoechdnhgkelfaaDoor
open Go.ChangeShapes Go.WideShapes Go.ChangeAt Go.RowKit Go.Deep
open Go.ChangeMaps (open_string shut_string)

theorem own : ownKnob Tryd.prog.godebug = none := by kernel_rfl
theorem laidOut : laidOutB Tryd.prog = true := by kernel_rfl

section
variable {H : Type} {enc : TypeId × Value → H} {P : Program}
/-- All arguments read as they did, where memory was only made. -/
theorem trodAll_below (hl : laidOutB P = true) {W W' : World} (hb : Below W.heap.size W W') : ∀ (ts : List TypeId) (vs : List Value) (ds : List (DataW H)) (ps : List MemPlace),
    (∀ t ∈ ts, P.readableRec t = true ∧ t < P.types.size) → DataW.TrodAll enc P W 0 (fun _ => true) true ts vs ds ps → (∀ x ∈ ps, x.block < W.heap.size) →
    DataW.TrodAll enc P W' 0 (fun b => decide (b < W.heap.size)) true ts vs ds ps
  | [], vs, ds, ps, _, h, _ => by
    obtain ⟨rfl, rfl, rfl⟩ := trodAll_nil h
    exact trodAll_mk0
  | t :: ts, vs, ds, ps, ht, h, hlt => by
    obtain ⟨v0, vs0, d0, ds0, p0, q0, rfl, rfl, rfl, h0, r0⟩ := trodAll_cons h
    refine trodAll_cons_mk (Below.trod hl (ht t (List.mem_cons_self ..)).1 (ht t (List.mem_cons_self ..)).2 h0 hb (fun x hx => hlt x (List.mem_append_left _ hx))) ?_
    exact trodAll_below hl hb ts vs0 ds0 q0 (fun u hu => ht u (List.mem_cons_of_mem _ hu)) r0 (fun x hx => hlt x (List.mem_append_right _ hx))
/-- The row's last step behind a call that has only made memory: the result is shut, all arguments read as they did. -/
theorem post_of_all (hl : laidOutB P = true) {f : Func} {s : ChangeSpec} {apart fresh handsOn : Bool} {W W' : World} {args : Array Value} {v : Value} {ds : List (DataW H)} {before pa : List MemPlace}
    (hts : ∀ t ∈ f.params.toList, P.readableRec t = true ∧ t < P.types.size)
    (hW : DataW.Whole enc P f.params.toList s.vars apart W args.toList ds [] before)
    (hA : DataW.TrodAll enc P W 0 (fun _ => true) true f.params.toList args.toList ds pa)
    (hbe : before = pa ++ [])
    (hres : ∀ b : Nat, DataW.TrodAll enc P W' b (fun _ => false) handsOn f.resultTypes.toList (v.resultList f.resultTypes.size) (s.fn H (ds ++ [])).results [])
    (hargs : (s.fn H (ds ++ [])).args = ds) (hv : s.vars = []) (hvars : (s.fn H (ds ++ [])).vars = []) (hb : Below W.heap.size W W') :
    s.post enc P f apart fresh handsOn false W args v W' := by
  have hlt : ∀ p ∈ before, p.block < W.heap.size := fun p hp => hW.lt p hp
  have hlt' : ∀ p ∈ pa, p.block < W.heap.size := fun p hp => hlt p (by rw [hbe]; exact List.mem_append_left _ hp)
  refine ⟨ds, [], before, [], pa, [], hW, hres _, ?_, ?_, World.keptBut_mono (fun p hp => ⟨hp, ?_⟩) (hb.frame (· ∈ before)), fun h => by cases h⟩
  · rw [hargs]; exact trodAll_below hl hb _ _ _ _ hts hA hlt'
  · rw [hvars, hv]; rfl
  · rw [hbe, List.append_nil] at hp; exact Or.inr (Or.inl hp)
end
theorem okTypes {ts : List TypeId} (h : ∀ t ∈ ts, t = 24 ∨ t = 28 ∨ t = 9 ∨ t = 34) : ∀ t ∈ ts, Tryd.prog.readableRec t = true ∧ t < Tryd.prog.types.size := fun t ht => by
  rcases h t ht with rfl | rfl | rfl | rfl
  · exact ⟨by kernel_rfl, of_decide_eq_true (by kernel_rfl)⟩
  · exact ⟨by kernel_rfl, of_decide_eq_true (by kernel_rfl)⟩
  · exact ⟨by kernel_rfl, of_decide_eq_true (by kernel_rfl)⟩
  · exact ⟨by kernel_rfl, of_decide_eq_true (by kernel_rfl)⟩
/-- The tables, off the row's list. -/
theorem tabs {W : World} (h : laidMetH Tryd.prog Rows.orthoReadsRow.laid W) : Lib.Utf8Tabs 0 1 W :=
  utf8Tabs_of_readsT (U8Types.of196 Tryd.lays196) ⟨by kernel_rfl, by kernel_rfl, by kernel_rfl, by kernel_rfl, by kernel_rfl, by kernel_rfl, by kernel_rfl⟩
    (Pinned.utf8First_eq ▸ Lib.laidMet.reads (show laidMet Tryd.prog Rows.orthoReadsRow.laid W from h) (.tail _ (.head _)))
    (Lib.laidMet.reads (show laidMet Tryd.prog Rows.orthoReadsRow.laid W from h) (.head _))

section
variable {H : Type} {enc : TypeId × Value → H} {P : Program} {w : World} {base : Nat} {spare : Nat → Bool} {held : Bool}
theorem open_slice_fields {t e : TypeId} {fs : Array Field} {fuel : Nat} {cs : List Value} {x : DataW H × List MemPlace} (ht : P.underlying t = some (.slice e)) (he : P.underlying e = some (.struct fs))
    (hone : oneCellFields P fs = true) (hC : P.cellsOf e = fs.size) (h : DataW.trod enc P w base spare held fuel t cs = some x) :
    (cs = [.slice none 0 0] ∧ x = (.nil, [])) ∨
    ∃ (a : Addr) (len cap m : Nat) (D : Nat → DataW H) (Pl : Nat → List MemPlace), cs = [.slice (some a) len cap] ∧ base ≤ a.block ∧ len ≤ cap ∧ cap ≤ maxLen ∧ m = (if spare a.block then cap else len) ∧
      x = (.slice ((List.range len).map D) ((List.range (m - len)).map fun j => D (len + j)), MemPlace.row a (m * fs.size) ++ (List.range m).flatMap Pl) ∧
      ∀ i, i < m → ∃ (ys : List (DataW H × List MemPlace)) (n : Nat), D i = .agg (ys.map (·.1)) ∧ Pl i = ys.flatMap (·.2) ∧ ys.length = fs.size ∧
        ∀ (j : Nat) (f : Field), fs[j]? = some f → ∃ (v : Value) (y : DataW H × List MemPlace), w.cell? (a.add (i * fs.size + j)) = some v ∧ ys[j]? = some y ∧ DataW.trod enc P w base spare held n f.type [v] = some y := by
  rcases open_slice ht h with h0 | ⟨a, len, cap, m, n, D, Pl, hcs, hb, hl, hm, hmm, hx, hi⟩
  · exact .inl h0
  · refine .inr ⟨a, len, cap, m, D, Pl, hcs, hb, hl, hm, hmm, by rw [hC] at hx; exact hx, fun i him => ?_⟩
    obtain ⟨cs', hc, ht'⟩ := hi i him
    rw [hC] at hc
    obtain ⟨ys, n', hn', hy, hlen, hyl, hf⟩ := DataW.trod_struct he ht'
    obtain ⟨_, hcl, hat⟩ := World.cells?_some hc
    simp only [Prod.mk.injEq] at hy
    refine ⟨ys, n', hy.1, hy.2, hyl, fun j f hj => ?_⟩
    obtain ⟨ho, hk⟩ := hone_of hone j f hj
    have hjl : j < fs.size := (Array.getElem?_eq_some_iff.1 hj).1
    have hcell := hat j hjl
    have hv : cs'[j]? = some (cs'[j]'(by omega)) := List.getElem?_eq_getElem (by omega)
    have h1 := hf j f hj
    rw [ho, hk] at h1
    have hone' : (cs'.drop j).take 1 = [cs'[j]'(by omega)] := by
      rw [List.drop_eq_getElem_cons (by omega)]
      rfl
    rw [hone'] at h1
    have hys : ys[j]? = some (ys[j]'(by omega)) := List.getElem?_eq_getElem (by omega)
    refine ⟨_, _, ?_, hys, h1.trans hys⟩
    rw [← Go.Deep.add_add, hcell, hv]
end
/-! The arguments. -/
theorem list_of {α : Type} {n : Nat} {p : Nat → α → Prop} (h : ∀ i, i < n → ∃ x, p i x) : ∃ l : List α, l.length = n ∧ ∀ i x, l[i]? = some x → p i x := by
  induction n with
  | zero => exact ⟨[], rfl, fun i x hx => by simp at hx⟩
  | succ n ih =>
    obtain ⟨l, hl, hp⟩ := ih fun i hi => h i (by omega)
    obtain ⟨x, hx⟩ := h n (by omega)
    refine ⟨l ++ [x], by simp [hl], fun i y hy => ?_⟩
    rcases Nat.lt_or_ge i l.length with hi | hi
    · rw [List.getElem?_append_left hi] at hy; exact hp i y hy
    · rw [List.getElem?_append_right hi] at hy
      have h0 : i - l.length = 0 := by have := (List.getElem?_eq_some_iff.1 hy).1; simpa using this
      rw [h0] at hy
      simp at hy
      subst hy
      have : i = n := by omega
      subst this
      exact hx
theorem block_lt {W : World} {a : Addr} {k : Nat} {v : Value} (hc : W.cell? (a.add k) = some v) : a.block < W.heap.size := by
  rcases Nat.lt_or_ge a.block W.heap.size with h | h
  · exact h
  · exfalso
    have hblk : (a.add k).block = a.block := block_of_add a k
    have hnone : W.heap[(a.add k).block]? = none := by rw [hblk]; exact Array.getElem?_eq_none h
    unfold World.cell? at hc
    rw [hnone] at hc
    cases hc
theorem add_next (a : Addr) (k : Nat) : a.add (k + 1) = ⟨(a.add k).block, (a.add k).off + 1, none⟩ := by
  unfold Addr.add
  by_cases hk : k = 0 <;> simp [hk, Nat.add_assoc]
section
variable {H : Type} {enc : TypeId × Value → H} {W : World} {fuel : Nat} {cs : List Value} {x : DataW H × List MemPlace}
noncomputable abbrev Tr (enc : TypeId × Value → H) (W : World) (fuel : Nat) (t : TypeId) (cs : List Value) : Option (DataW H × List MemPlace) := DataW.trod enc Tryd.prog W 0 (fun _ => true) true fuel t cs
/-- A list of segments' numbers. -/
theorem open_i (h : Tr enc W fuel 34 cs = some x) : ∃ A l cap, cs = [.slice A (l : List Int).length cap] ∧ l.length ≤ cap ∧ cap ≤ maxLen ∧ Ints W W.heap.size A l := by
  rcases open_ints Tryd.underlying34 Tryd.underlying3 (by kernel_rfl) h with ⟨rfl, _⟩ | ⟨a, len, cap, zs, rfl, _, hl, hm, hz, _, hcell, _⟩
  · exact ⟨none, [], 0, rfl, by simp, by simp, by refine ⟨by simp [IS], fun h => ?_⟩; simp at h⟩
  · have hz' : zs.length = cap := by simpa using hz
    have hlen : (zs.take len).length = len := by rw [List.length_take]; omega
    refine ⟨some a, zs.take len, cap, by rw [hlen], by omega, hm, by rw [IS_length, Nat.mul_one], fun hn => ⟨a, rfl, ?_, fun j u hu => ?_⟩⟩
    · rw [hlen] at hn
      exact block_lt (hcell 0 (by omega))
    · obtain ⟨q, hq, rfl⟩ := IS_at hu
      have hj : j < len := by have := (List.getElem?_eq_some_iff.1 hq).1; omega
      rw [hcell j (by omega)]
      rw [List.getElem?_take, if_pos hj] at hq
      simp [hq]
/-- A list of strings. -/
theorem open_s (h : Tr enc W fuel 55 cs = some x) : ∃ A l cap, cs = [.slice A (l : List ByteArray).length cap] ∧ StrsAt W W.heap.size A l := by
  rcases open_strings Tryd.underlying55 Tryd.underlying9 (by kernel_rfl) h with ⟨rfl, _⟩ | ⟨a, len, cap, ss, rfl, _, hl, hm, hz, _, hcell, _⟩
  · exact ⟨none, [], 0, rfl, fun j s hs => by simp at hs⟩
  · have hz' : ss.length = cap := by simpa using hz
    have hlen : (ss.take len).length = len := by rw [List.length_take]; omega
    refine ⟨some a, ss.take len, cap, by rw [hlen], fun j s hs => ?_⟩
    have hj : j < len := by have := (List.getElem?_eq_some_iff.1 hs).1; omega
    have hc := hcell j (by omega)
    rw [List.getElem?_take, if_pos hj] at hs
    exact ⟨a, rfl, block_lt hc, by rw [hc]; simp [hs]⟩
/-- The letters. -/
theorem open_l (h : Tr enc W fuel 26 cs = some x) : ∃ A l cap, cs = [.slice A (l : List (List ByteArray)).length cap] ∧ LAt W W.heap.size A l := by
  rcases open_slice1 Tryd.underlying26 (by kernel_rfl) h with ⟨rfl, _⟩ | ⟨a, len, cap, m, n, V, D, Pl, rfl, _, hl, hm, hz, _, hi⟩
  · exact ⟨none, [], 0, rfl, fun j s hs => by simp at hs⟩
  · have hz' : m = cap := by simpa using hz
    obtain ⟨l, hlen, hp⟩ := list_of (n := len) (p := fun i (l : List ByteArray) => ∃ Aj cj, W.cell? (a.add i) = some (.slice Aj l.length cj) ∧ StrsAt W W.heap.size Aj l) fun i hi' => by
      obtain ⟨h1, h2⟩ := hi i (by omega)
      obtain ⟨Aj, l, cj, he, hs⟩ := open_s h2
      rw [List.singleton_inj.1 he] at h1
      exact ⟨l, Aj, cj, h1, hs⟩
    refine ⟨some a, l, cap, by rw [hlen], fun j s hs => ?_⟩
    obtain ⟨Aj, cj, h1, h2⟩ := hp j s hs
    exact ⟨a, Aj, cj, rfl, block_lt h1, h1, h2⟩
/-- The segments. -/
theorem open_p (h : Tr enc W fuel 22 cs = some x) : ∃ A l cap, cs = [.slice A (l : List (ByteArray × Int)).length cap] ∧ PAt W W.heap.size A l := by
  rcases open_slice_fields Tryd.underlying22 Tryd.underlying54 (by kernel_rfl) (by kernel_rfl) h with ⟨rfl, _⟩ | ⟨a, len, cap, m, D, Pl, rfl, _, hl, hm, hz, _, hi⟩
  · exact ⟨none, [], 0, rfl, fun j s hs => by simp at hs⟩
  · have hz' : m = cap := by simpa using hz
    obtain ⟨l, hlen, hp⟩ := list_of (n := len) (p := fun i (p : ByteArray × Int) => W.cell? (a.add (i * 2)) = some (.string p.1) ∧ W.cell? ⟨(a.add (i * 2)).block, (a.add (i * 2)).off + 1, none⟩ = some (.int .i64 p.2)) fun i hi' => by
      obtain ⟨ys, n, _, _, _, hf⟩ := hi i (by omega)
      obtain ⟨v0, y0, hc0, _, ht0⟩ := hf 0 _ rfl
      obtain ⟨v1, y1, hc1, _, ht1⟩ := hf 1 _ rfl
      obtain ⟨s, he, _⟩ := DataW.trod_string Tryd.underlying9 ht0
      obtain ⟨k, he', _⟩ := DataW.trod_int Tryd.underlying3 ht1
      rw [List.singleton_inj.1 he] at hc0
      rw [List.singleton_inj.1 he'] at hc1
      exact ⟨(s, k), hc0, by rw [← add_next]; exact hc1⟩
    refine ⟨some a, l, cap, by rw [hlen], fun j s hs => ?_⟩
    obtain ⟨h1, h2⟩ := hp j s hs
    exact ⟨a, rfl, block_lt h1, h1, h2⟩
/-- The units. -/
theorem open_u (h : Tr enc W fuel 25 cs = some x) : ∃ A l cap, cs = [.slice A (l : List U).length cap] ∧ l.length ≤ cap ∧ UAt W W.heap.size A l := by
  rcases open_slice_fields Tryd.underlying25 Tryd.underlying47 (by kernel_rfl) (by kernel_rfl) h with ⟨rfl, _⟩ | ⟨a, len, cap, m, D, Pl, rfl, _, hl, hm, hz, _, hi⟩
  · exact ⟨none, [], 0, rfl, by simp, fun j s hs => by simp at hs⟩
  · have hz' : m = cap := by simpa using hz
    obtain ⟨l, hlen, hp⟩ := list_of (n := len) (p := fun i (p : U) => ∃ Aj cj, W.cell? (a.add (i * 2)) = some (.string p.1) ∧ W.cell? ⟨(a.add (i * 2)).block, (a.add (i * 2)).off + 1, none⟩ = some (.slice Aj p.2.length cj) ∧ Ints W W.heap.size Aj p.2) fun i hi' => by
      obtain ⟨ys, n, _, _, _, hf⟩ := hi i (by omega)
      obtain ⟨v0, y0, hc0, _, ht0⟩ := hf 0 _ rfl
      obtain ⟨v1, y1, hc1, _, ht1⟩ := hf 1 _ rfl
      obtain ⟨s, he, _⟩ := DataW.trod_string Tryd.underlying9 ht0
      obtain ⟨Aj, k, cj, he', _, _, hk⟩ := open_i ht1
      rw [List.singleton_inj.1 he] at hc0
      rw [List.singleton_inj.1 he'] at hc1
      exact ⟨(s, k), Aj, cj, hc0, by rw [← add_next]; exact hc1, hk⟩
    refine ⟨some a, l, cap, by rw [hlen], by omega, fun j s hs => ?_⟩
    obtain ⟨Aj, cj, h1, h2, h3⟩ := hp j s hs
    exact ⟨a, Aj, cj, rfl, block_lt h1, h1, h2, h3⟩
end
section
variable {H : Type} {enc : TypeId × Value → H} {W : World} {base : Nat} {v : Value} {d : DataW H} {p : List MemPlace}
/-- An inventory that came in. -/
theorem open_inv (hv : Value.okWide Tryd.prog W .any base 24 v) (h : DataW.Trod enc Tryd.prog W 0 (fun _ => true) true 24 v d p) :
    ∃ A ps cap, v = .agg #[.slice A (ps : List (ByteArray × Int)).length cap] ∧ VAt W W.heap.size ps v := by
  obtain ⟨cs, rfl, hsz⟩ := okWide_struct Tryd.underlying24 hv
  obtain ⟨l⟩ := cs
  match l, hsz.trans (show Tryd.prog.cellsOf 24 = 1 by kernel_rfl) with
  | [c0], _ =>
    obtain ⟨fuel, hf⟩ := h
    obtain ⟨y0, n, _, _, h0⟩ := trod_struct1 Tryd.underlying24 hf
    have hc : Tryd.prog.cellsOf 22 = 1 := by kernel_rfl
    have h0' : Tr enc W n 22 [c0] = some y0 := by simpa [Value.cells, hc] using h0
    obtain ⟨A, ps, cap, he, hp⟩ := open_p h0'
    obtain rfl := List.singleton_inj.1 he
    exact ⟨A, ps, cap, rfl, A, cap, rfl, hp⟩
/-- An orthography that came in. -/
theorem open_ort (hv : Value.okWide Tryd.prog W .any base 28 v) (h : DataW.Trod enc Tryd.prog W 0 (fun _ => true) true 28 v d p) :
    ∃ (o : Ort) (AU : Option Addr) (capU : Nat) (AL : Option Addr) (capL : Nat), v = .agg #[.string o.name, .slice AU o.us.length capU, .slice AL o.ls.length capL] ∧ o.us.length ≤ capU ∧ OAt W W.heap.size o v := by
  obtain ⟨v0, v1, v2, y0, y1, y2, n, rfl, _, _, h0, h1, h2⟩ := Go.Joins.open_agg3 Tryd.underlying28 (by kernel_rfl) (by kernel_rfl) hv h
  obtain ⟨s, he, _⟩ := DataW.trod_string Tryd.underlying9 h0
  obtain ⟨A, us, cap, he1, hc, hu⟩ := open_u h1
  obtain ⟨B, ls, cap2, he2, hl⟩ := open_l h2
  obtain rfl := List.singleton_inj.1 he
  obtain rfl := List.singleton_inj.1 he1
  obtain rfl := List.singleton_inj.1 he2
  exact ⟨⟨s, us, ls⟩, A, cap, B, cap2, rfl, hc, A, cap, B, cap2, rfl, hu, hl⟩
/-- A string. -/
theorem open_str (hv : Value.okWide Tryd.prog W .any base 9 v) (h : DataW.Trod enc Tryd.prog W 0 (fun _ => true) true 9 v d p) : ∃ s : ByteArray, v = .string s ∧ s.size ≤ 9223372036854775807 := by
  obtain ⟨s, rfl, _, _, hs⟩ := open_string Tryd.underlying9 hv h
  exact ⟨s, rfl, hs⟩
/-- A word. -/
theorem open_word (hv : Value.okWide Tryd.prog W .any base 34 v) (h : DataW.Trod enc Tryd.prog W 0 (fun _ => true) true 34 v d p) : ∃ A l cap, v = .slice A (l : List Int).length cap ∧ l.length ≤ cap ∧ cap ≤ 9223372036854775807 ∧ Ints W W.heap.size A l := by
  obtain ⟨a0, len, cap, rfl⟩ := okWide_slice Tryd.underlying34 hv
  obtain ⟨fuel, hf⟩ := h
  obtain ⟨A, l, c, he, h1, h2, h3⟩ := open_i hf
  exact ⟨A, l, c, by simpa [Value.cells] using he, h1, h2, h3⟩
end
/-- A world for the witness: the settled one, the listed tables holding what their initialisers lay. -/
noncomputable def laidWorld (os : Os) : World :=
  { World.holding Tryd.prog os ⟨#[], #[], []⟩ with heap := (((World.holding Tryd.prog os ⟨#[], #[], []⟩).heap.modify 0 (fun o => match o with
      | .cells _ t frozen => .cells (Go.Pinned.utf8FirstZ.map fun (n : Nat) => Value.int .u8 (n : Int)).toArray t frozen
      | o => o)).modify 1 (fun o => match o with
      | .cells _ t frozen => .cells (List.map (fun n => Value.int .u8 n) [128, 191, 160, 191, 128, 159, 144, 191, 128, 143, 0, 0, 0, 0, 0, 0, 0, 0, 0, 0, 0, 0, 0, 0, 0, 0, 0, 0, 0, 0, 0, 0]).toArray t frozen
      | o => o)) }
end Go.Proofs.YtoechdnhgkelfaaDoor
