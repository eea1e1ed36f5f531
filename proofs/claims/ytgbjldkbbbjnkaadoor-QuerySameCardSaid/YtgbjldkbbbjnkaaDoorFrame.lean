/-
  What all rows of this seat share: the arguments opened, the tables that the row lists, a world for the witness, and the row's last step behind a call that has only made memory.
-/
import Derived.Test.YtgbjldkbbbjnkaaDoorLaws
import Derived.Test.YtgbjldkbbbjnkaaDoorCards
import Derived.Test.YtgbjldkbbbjnkaaDoorTie
import Derived.ProofKit
import Derived.OpenShut
import Derived.SliceStrings
import Derived.ChangeSlices
import Derived.Deep.Slices
import Derived.Deep.Fields
import Derived.Carry
import Derived.Deep.DeepHandedRow
import Derived.Lib.LaidTab
import Derived.Lib.LaidU8T
import Derived.Lib.SmallJoins
import Derived.PinnedBridge
import Derived.ChangeSame
namespace Go.Proofs.YtgbjldkbbbjnkaaDoor
open Go.ChangeShapes Go.WideShapes Go.ChangeAt Go.RowKit Go.Deep Pl
open Go.ChangeMaps (open_string shut_string)

theorem own : ownKnob Tryd.prog.godebug = none := by kernel_rfl
theorem laidOut : laidOutB Tryd.prog = true := by kernel_rfl

section
variable {H : Type} {enc : TypeId × Value → H} {P : Program}
/-- All arguments read as they did, where memory was only made. -/
theorem trodAll_below (hl : laidOutB P = true) {W W' : World} (hb : Below W.heap.size W W') : ∀ (ts : List TypeId) (vs : List Value) (ds : List (DataW H)) (ps : List MemPlace),
    (∀ t ∈ ts, P.readableRec t = true ∧ t < P.types.size) → DataW.TrodAll enc P W 0 (fun _ => true) true ts vs ds ps → (∀ x ∈ ps, x.block < W.heap.size) →
    DataW.TrodAll enc P W' 0 (fun b => decide (b < W.heap.size)) true ts vs ds ps
  | [], vs, ds, ps, _, h, _ => by
    obtain ⟨rfl, rfl, rfl⟩ := trodAll_nil h
    exact trodAll_mk0
  | t :: ts, vs, ds, ps, ht, h, hlt => by
    obtain ⟨v0, vs0, d0, ds0, p0, q0, rfl, rfl, rfl, h0, r0⟩ := trodAll_cons h
    refine trodAll_cons_mk (Below.trod hl (ht t (List.mem_cons_self ..)).1 (ht t (List.mem_cons_self ..)).2 h0 hb (fun x hx => hlt x (List.mem_append_left _ hx))) ?_
    exact trodAll_below hl hb ts vs0 ds0 q0 (fun u hu => ht u (List.mem_cons_of_mem _ hu)) r0 (fun x hx => hlt x (List.mem_append_right _ hx))
/-- The row's last step behind a call that has only made memory: the result is shut, all arguments read as they did. -/
theorem post_of_all (hl : laidOutB P = true) {f : Func} {s : ChangeSpec} {apart fresh handsOn : Bool} {W W' : World} {args : Array Value} {v : Value} {ds : List (DataW H)} {before pa : List MemPlace}
    (hts : ∀ t ∈ f.params.toList, P.readableRec t = true ∧ t < P.types.size)
    (hW : DataW.Whole enc P f.params.toList s.vars apart W args.toList ds [] before)
    (hA : DataW.TrodAll enc P W 0 (fun _ => true) true f.params.toList args.toList ds pa)
    (hbe : before = pa ++ [])
    (hres : ∀ b : Nat, DataW.TrodAll enc P W' b (fun _ => false) handsOn f.resultTypes.toList (v.resultList f.resultTypes.size) (s.fn H (ds ++ [])).results [])
    (hargs : (s.fn H (ds ++ [])).args = ds) (hv : s.vars = []) (hvars : (s.fn H (ds ++ [])).vars = []) (hb : Below W.heap.size W W') :
    s.post enc P f apart fresh handsOn false W args v W' := by
  have hlt : ∀ p ∈ before, p.block < W.heap.size := fun p hp => hW.lt p hp
  have hlt' : ∀ p ∈ pa, p.block < W.heap.size := fun p hp => hlt p (by rw [hbe]; exact List.mem_append_left _ hp)
  refine ⟨ds, [], before, [], pa, [], hW, hres _, ?_, ?_, World.keptBut_mono (fun p hp => ⟨hp, ?_⟩) (hb.frame (· ∈ before)), fun h => by cases h⟩
  · rw [hargs]; exact trodAll_below hl hb _ _ _ _ hts hA hlt'
  · rw [hvars, hv]; rfl
  · rw [hbe, List.append_nil] at hp; exact Or.inr (Or.inl hp)
end
theorem okTypes {ts : List TypeId} (h : ∀ t ∈ ts, t = 25 ∨ t = 9 ∨ t = 5 ∨ t = 40) : ∀ t ∈ ts, Tryd.prog.readableRec t = true ∧ t < Tryd.prog.types.size := fun t ht => by
  rcases h t ht with rfl | rfl | rfl | rfl
  · exact ⟨by kernel_rfl, of_decide_eq_true (by kernel_rfl)⟩
  · exact ⟨by kernel_rfl, of_decide_eq_true (by kernel_rfl)⟩
  · exact ⟨by kernel_rfl, of_decide_eq_true (by kernel_rfl)⟩
  · exact ⟨by kernel_rfl, of_decide_eq_true (by kernel_rfl)⟩

/-! The tables. -/
theorem maxLenShaped : ∀ w : World, w.ShapedOpen Tryd.prog → ∃ m, w.cell? ⟨4, 0, none⟩ = some (.int .i64 m) := fun w h =>
  Go.Proofs.cell_of_shapedOpen_int (zero := #[.int .i64 0]) (t := 3) h (of_decide_eq_true (by kernel_rfl)) (by kernel_rfl) rfl (by kernel_rfl) (by kernel_rfl) Tryd.underlying3
/-- An array of strings that reads as a table holds its strings. -/
theorem cells_of_strs {H : Type} {enc : TypeId × Value → H} {P : Program} {w : World} {base : Nat} {sp : Nat → Bool} {held : Bool} {fuel : Nat} {t e : TypeId} {n : Nat} {cs : List Value} {l : List (List UInt8)} {p : List MemPlace}
    (ht : P.underlying t = some (.array n e)) (he : P.underlying e = some .string) (hce : P.cellsOf e = 1)
    (h : DataW.trod enc P w base sp held fuel t cs = some (.agg (l.map fun s => (DataW.lit (Lit.string s) : DataW H)), p)) : ∀ (i : Nat) (s : List UInt8), l[i]? = some s → cs[i]? = some (.string (str s)) := by
  obtain ⟨xs, m, _, hx, hl, hxl, hat⟩ := DataW.trod_array ht h
  simp only [Prod.mk.injEq, DataW.agg.injEq] at hx
  intro i s hs
  have hln : l.length = n := by
    have := congrArg List.length hx.1
    simp at this
    omega
  have hi : i < n := by have := (List.getElem?_eq_some_iff.1 hs).1; omega
  have h1 := hat i hi
  rw [hce, Nat.mul_one] at h1
  obtain ⟨y, hy⟩ : ∃ y, xs[i]? = some y := ⟨_, List.getElem?_eq_getElem (by omega)⟩
  rw [hy] at h1
  obtain ⟨b, hb, hyb, _⟩ := DataW.trod_string he h1
  have h2 : (xs.map (·.1))[i]? = some (DataW.lit (.string s) : DataW H) := by rw [← hx.1, List.getElem?_map, hs]; rfl
  rw [List.getElem?_map, hy, hyb] at h2
  simp only [Option.map_some, Option.some.injEq, DataW.lit.injEq, Lit.string.injEq] at h2
  have h3 : cs[i]? = some (.string b) := by
    have := congrArg (·[0]?) hb
    simpa [List.getElem?_take, List.getElem?_drop] using this
  rw [h3, ← h2, str_of]
theorem table_cells {W : World} {nm : String} {g t n : Nat} {l : List (List UInt8)} (hg : Tryd.prog.globalNamed nm = some g) (hty : (Tryd.prog.globals[g]?).map (·.type) = some t) (ht : Tryd.prog.underlying t = some (.array n 9))
    (h : Lib.VarReads Tryd.prog W nm (.agg (l.map fun s => (DataW.lit (Lit.string s) : DataW Unit)))) : ∀ (i : Nat) (s : List UInt8), l[i]? = some s → W.cell? ⟨g, i, none⟩ = some (.string (str s)) := by
  obtain ⟨g', t', cs, fuel, p, h1, h2, h3, h4⟩ := h
  obtain rfl := Option.some.inj (hg.symm.trans h1)
  obtain rfl := Option.some.inj (hty.symm.trans h2)
  intro i s hs
  rw [World.var?_cell h1 h3 i]
  have := cells_of_strs ht Tryd.underlying9 (by kernel_rfl) h4 i s hs
  simpa using this
/-- The tables, off the row's list. -/
theorem tabs {W : World} (h : laidMetH Tryd.prog Rows.queryParsesRow.laid W) (hsh : W.ShapedOpen Tryd.prog) : Tab W := by
  have hl : laidMet Tryd.prog Rows.queryParsesRow.laid W := h
  obtain ⟨m, hm⟩ := maxLenShaped W hsh
  refine ⟨World.block_lt_of_cell? _ _ hm, ?_, ?_, ?_, ⟨m, hm⟩⟩
  · exact table_cells (l := rolesN) (t := 62) (n := 5) (by kernel_rfl) (by kernel_rfl) Tryd.underlying62 (Lib.laidMet.reads hl (.tail _ (.head _)))
  · exact table_cells (l := pairsN) (t := 79) (n := 7) (by kernel_rfl) (by kernel_rfl) Tryd.underlying79 (Lib.laidMet.reads hl (.tail _ (.tail _ (.head _))))
  · exact utf8Tabs_of_readsT (U8Types.of196 Tryd.lays196v) ⟨by kernel_rfl, by kernel_rfl, by kernel_rfl, by kernel_rfl, by kernel_rfl, by kernel_rfl, by kernel_rfl⟩
      (Pinned.utf8First_eq ▸ Lib.laidMet.reads hl (.tail _ (.tail _ (.tail _ (.head _))))) (Lib.laidMet.reads hl (.head _))

/-! The arguments. -/
theorem list_of {α : Type} {n : Nat} {p : Nat → α → Prop} (h : ∀ i, i < n → ∃ x, p i x) : ∃ l : List α, l.length = n ∧ ∀ i x, l[i]? = some x → p i x := by
  induction n with
  | zero => exact ⟨[], rfl, fun i x hx => by simp at hx⟩
  | succ n ih =>
    obtain ⟨l, hl, hp⟩ := ih fun i hi => h i (by omega)
    obtain ⟨x, hx⟩ := h n (by omega)
    refine ⟨l ++ [x], by simp [hl], fun i y hy => ?_⟩
    rcases Nat.lt_or_ge i l.length with hi | hi
    · rw [List.getElem?_append_left hi] at hy; exact hp i y hy
    · rw [List.getElem?_append_right hi] at hy
      have h0 : i - l.length = 0 := by have := (List.getElem?_eq_some_iff.1 hy).1; simpa using this
      rw [h0] at hy
      simp at hy
      subst hy
      have : i = n := by omega
      subst this
      exact hx
theorem block_lt {W : World} {a : Addr} {k : Nat} {v : Value} (hc : W.cell? (a.add k) = some v) : a.block < W.heap.size := by
  rcases Nat.lt_or_ge a.block W.heap.size with h | h
  · exact h
  · exfalso
    have hblk : (a.add k).block = a.block := block_of_add a k
    have hnone : W.heap[(a.add k).block]? = none := by rw [hblk]; exact Array.getElem?_eq_none h
    unfold World.cell? at hc
    rw [hnone] at hc
    cases hc
theorem add_pos (a : Addr) {j : Nat} (h : 0 < j) : a.add j = ⟨a.block, a.off + j, none⟩ := by unfold Addr.add; rw [if_neg (by omega)]
theorem bulk_take {H : Type} {D : Nat → DataW H} : ∀ (n : Nat) (ks : List Qt), ks.length = n → (∀ i k, ks[i]? = some k → sz k ≤ Rows.uptoBulk (D i)) → szs ks ≤ Rows.uptoBulkAll ((List.range n).map D) := by
  intro n
  induction n with
  | zero =>
    intro ks hl _
    rw [List.length_eq_zero_iff.1 hl, szs]
    exact Nat.zero_le _
  | succ n ih =>
    intro ks hl h
    have happ : ∀ (xs ys : List (DataW H)), Rows.uptoBulkAll (xs ++ ys) = Rows.uptoBulkAll xs + Rows.uptoBulkAll ys := fun xs ys => by
      induction xs with
      | nil => rw [List.nil_append, Rows.uptoBulkAll, Nat.zero_add]
      | cons x xs ih2 => rw [List.cons_append, Rows.uptoBulkAll, Rows.uptoBulkAll, ih2]; omega
    obtain ⟨k, hk⟩ := get_lt (l := ks) (k := n) (by omega)
    have h1 := szs_take hk
    rw [List.take_of_length_le (by omega)] at h1
    have h2 := ih (ks.take n) (by rw [List.length_take]; omega) fun i k hk => h i k (by
      rw [List.getElem?_take] at hk
      split at hk
      · exact hk
      · cases hk)
    have h3 := h n k hk
    rw [List.range_succ, List.map_append, happ, List.map_singleton, Rows.uptoBulkAll, Rows.uptoBulkAll]
    omega
section
variable {H : Type} {enc : TypeId × Value → H} {W : World}
noncomputable abbrev Tr (enc : TypeId × Value → H) (W : World) (fuel : Nat) (t : TypeId) (cs : List Value) : Option (DataW H × List MemPlace) := DataW.trod enc Tryd.prog W 0 (fun _ => true) true fuel t cs
theorem bulk_mem {H : Type} {D : Nat → DataW H} {n i : Nat} (hi : i < n) : Rows.uptoBulk (D i) ≤ Rows.uptoBulkAll ((List.range n).map D) := by
  have key : ∀ (l : List (DataW H)) (x : DataW H), x ∈ l → Rows.uptoBulk x ≤ Rows.uptoBulkAll l := fun l => by
    induction l with
    | nil => intro x h; simp at h
    | cons y l ih =>
      intro x h
      rw [Rows.uptoBulkAll]
      rcases List.mem_cons.1 h with rfl | h
      · omega
      · have := ih x h; omega
  exact key _ _ (List.mem_map.2 ⟨i, by simpa using hi, rfl⟩)
set_option maxRecDepth 100000 in
/-- The cells of a query. -/
theorem open_q : ∀ (N fuel : Nat) (cs : List Value) (d : DataW H) (p : List MemPlace), Tr enc W fuel 25 cs = some (d, p) → Rows.uptoBulk d ≤ N →
    ∃ q : Qt, cs.length = 4 ∧ QAt W W.heap.size q (.agg cs.toArray) ∧ sz q ≤ Rows.uptoBulk d := by
  intro N
  induction N with
  | zero =>
    intro fuel cs d p h hN
    obtain ⟨ys, n', _, hy, _, _, _⟩ := DataW.trod_struct Tryd.underlying25 h
    simp only [Prod.mk.injEq] at hy
    rw [hy.1, Rows.uptoBulk] at hN
    omega
  | succ N ih =>
    intro fuel cs d p h hN
    obtain ⟨ys, n', _, hy, hlen, hyl, hf⟩ := DataW.trod_struct Tryd.underlying25 h
    simp only [Prod.mk.injEq] at hy
    have hc4 : cs.length = 4 := by rw [hlen]; kernel_rfl
    have hone : oneCellFields Tryd.prog (match Tryd.prog.underlying 25 with | some (.struct fs) => fs | _ => #[]) = true := by kernel_rfl
    match cs, hc4, ys, hyl with
    | [c0, c1, c2, c3], _, [y0, y1, y2, y3], _ =>
      have h0 : Tr enc W n' 3 [c0] = some y0 := hf 0 _ rfl
      have h1 : Tr enc W n' 3 [c1] = some y1 := hf 1 _ rfl
      have h2 : Tr enc W n' 9 [c2] = some y2 := hf 2 _ rfl
      have h3 : Tr enc W n' 23 [c3] = some y3 := hf 3 _ rfl
      obtain ⟨o, eo, _⟩ := DataW.trod_int Tryd.underlying3 h0
      obtain ⟨r, er, _⟩ := DataW.trod_int Tryd.underlying3 h1
      obtain ⟨t, et, _⟩ := DataW.trod_string Tryd.underlying9 h2
      obtain rfl := List.singleton_inj.1 eo
      obtain rfl := List.singleton_inj.1 er
      obtain rfl := List.singleton_inj.1 et
      have hd : Rows.uptoBulk d = Rows.uptoBulk y0.1 + (Rows.uptoBulk y1.1 + (Rows.uptoBulk y2.1 + (Rows.uptoBulk y3.1 + 0))) + 1 := by
        rw [hy.1, Rows.uptoBulk]
        simp only [List.map_cons, List.map_nil, Rows.uptoBulkAll]
      rcases open_slice Tryd.underlying23 h3 with ⟨es, _⟩ | ⟨a, len, cap, m, n, D, Pl, es, _, hl, _, hm, hx, hi⟩
      · obtain rfl := List.singleton_inj.1 es
        refine ⟨.mk o r t [], rfl, ?_, ?_⟩
        · exact (QN.leaf (lo := 0) 0).at_
        · rw [sz, szs]; omega
      · obtain rfl := List.singleton_inj.1 es
        have hmc : m = cap := by simpa using hm
        have hb3 : Rows.uptoBulk y3.1 = Rows.uptoBulkAll ((List.range len).map D) + Rows.uptoBulkAll ((List.range (m - len)).map fun j => D (len + j)) + 1 := by rw [hx, Rows.uptoBulk]
        have h4 : Tryd.prog.cellsOf 25 = 4 := by kernel_rfl
        obtain ⟨ks, hkl, hks⟩ := list_of (n := len) (p := fun i (k : Qt) => ∃ cs' : List Value, (∀ j, j < 4 → W.cell? ((a.add (i * 4)).add j) = cs'[j]?) ∧ cs'.length = 4 ∧ QAt W W.heap.size k (.agg cs'.toArray) ∧ sz k ≤ Rows.uptoBulk (D i)) fun i hi' => by
          obtain ⟨cs', h5, h6⟩ := hi i (by omega)
          rw [h4] at h5
          have hbi := bulk_mem (D := D) hi'
          obtain ⟨k, h7, h8, h9⟩ := ih n cs' (D i) (Pl i) h6 (by omega)
          exact ⟨k, cs', (World.cells?_some h5).2.2, h7, h8, h9⟩
        have hsz := bulk_take (D := D) len ks hkl fun i k hk => by
          obtain ⟨_, _, _, _, h9⟩ := hks i k hk
          exact h9
        refine ⟨.mk o r t ks, rfl, ?_, by rw [sz]; omega⟩
        have hcs : ∀ i k, ks[i]? = some k → ∃ v, KC W W.heap.size (some a) i v ∧ QAt W W.heap.size k v := fun i k hk => by
          obtain ⟨cs', h5, h6, h7, _⟩ := hks i k hk
          match cs', h6 with
          | [e0, e1, e2, e3], _ =>
            have g0 : W.cell? (a.add (i * 4)) = some e0 := h5 0 (by omega)
            have g1 := h5 1 (by omega)
            have g2 := h5 2 (by omega)
            have g3 := h5 3 (by omega)
            rw [add_pos _ (by omega)] at g1 g2 g3
            exact ⟨_, ⟨a, e0, e1, e2, e3, rfl, block_lt g0, rfl, g0, g1, g2, g3⟩, h7⟩
        have hV : ∀ i, ∃ v, ∀ k, ks[i]? = some k → KC W W.heap.size (some a) i v ∧ QAt W W.heap.size k v := fun i => by
          rcases Nat.lt_or_ge i ks.length with hlt | hge
          · obtain ⟨k, hk⟩ := get_lt hlt
            obtain ⟨v, hv⟩ := hcs i k hk
            exact ⟨v, fun k' hk' => by rw [hk] at hk'; cases hk'; exact hv⟩
          · exact ⟨.nilIface, fun k' hk' => by have := lt_get hk'; omega⟩
        have hQ := QAt.mk (w := W) (B := W.heap.size) o r t ks (some a) cap (fun i => Classical.choose (hV i)) (fun i k hk => (Classical.choose_spec (hV i) k hk).1) (fun i k hk => (Classical.choose_spec (hV i) k hk).2)
        rw [hkl] at hQ
        exact hQ
end
section
variable {H : Type} {enc : TypeId × Value → H} {W : World} {base : Nat} {v : Value} {d : DataW H} {p : List MemPlace}
set_option maxRecDepth 100000 in
/-- A query that came in. -/
theorem open_query (hv : Value.okWide Tryd.prog W .any base 25 v) (h : DataW.Trod enc Tryd.prog W 0 (fun _ => true) true 25 v d p) : ∃ q : Qt, QAt W W.heap.size q v ∧ sz q ≤ Rows.uptoBulk d := by
  obtain ⟨cs, rfl, hsz⟩ := okWide_struct Tryd.underlying25 hv
  obtain ⟨l⟩ := cs
  obtain ⟨fuel, hf⟩ := h
  obtain ⟨q, _, h2, h3⟩ := open_q _ fuel l d p (by simpa [Value.cells] using hf) (Nat.le_refl _)
  exact ⟨q, h2, h3⟩
set_option maxRecDepth 100000 in
/-- A string. -/
theorem open_str (hv : Value.okWide Tryd.prog W .any base 9 v) (h : DataW.Trod enc Tryd.prog W 0 (fun _ => true) true 9 v d p) : ∃ s : ByteArray, v = .string s ∧ s.size ≤ 9223372036854775807 := by
  obtain ⟨s, rfl, _, _, hs⟩ := open_string Tryd.underlying9 hv h
  exact ⟨s, rfl, hs⟩
end
theorem bound {H : Type} {l : List (DataW H)} (hk : Rows.uptoSmall H l = true) : Rows.uptoBulkAll l ≤ 1048576 := of_decide_eq_true hk
/-- A world for the witness: the settled one, the listed tables holding what their initialisers lay. -/
noncomputable def laidWorld (os : Os) : World :=
  { World.holding Tryd.prog os ⟨#[], #[], []⟩ with heap := (((((World.holding Tryd.prog os ⟨#[], #[], []⟩).heap.modify 0 (fun o => match o with
      | .cells _ t frozen => .cells (rolesN.map fun s => Value.string (str s)).toArray t frozen
      | o => o)).modify 1 (fun o => match o with
      | .cells _ t frozen => .cells (pairsN.map fun s => Value.string (str s)).toArray t frozen
      | o => o)).modify 2 (fun o => match o with
      | .cells _ t frozen => .cells (Go.Pinned.utf8FirstZ.map fun (n : Nat) => Value.int .u8 (n : Int)).toArray t frozen
      | o => o)).modify 3 (fun o => match o with
      | .cells _ t frozen => .cells (List.map (fun n => Value.int .u8 n) [128, 191, 160, 191, 128, 159, 144, 191, 128, 143, 0, 0, 0, 0, 0, 0, 0, 0, 0, 0, 0, 0, 0, 0, 0, 0, 0, 0, 0, 0, 0, 0]).toArray t frozen
      | o => o)) }
end Go.Proofs.YtgbjldkbbbjnkaaDoor
