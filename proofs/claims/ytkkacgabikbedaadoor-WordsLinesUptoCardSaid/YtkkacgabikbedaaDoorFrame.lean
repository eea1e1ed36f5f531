/-
  What all rows of this seat share: the arguments opened, the bound drawn, the library's variable, a world for the witness, and the row's last step behind a call that has only made memory.
-/
import Derived.Test.YtkkacgabikbedaaDoorLaws2
import Derived.Test.YtkkacgabikbedaaDoorCards
import Derived.Test.YtkkacgabikbedaaDoorTie
import Derived.ProofKit
import Derived.OpenShut
import Derived.SliceStrings
import Derived.Carry
import Derived.Deep.DeepHandedRow
import Derived.Lib.LaidTab
import Derived.ChangeSame
namespace Go.Proofs.YtkkacgabikbedaaDoor
open Go.ChangeShapes Go.WideShapes Go.ChangeAt Go.RowKit
open Go.ChangeMaps (open_string shut_string)

theorem own : ownKnob Tryd.prog.godebug = none := by kernel_rfl
theorem laidOut : laidOutB Tryd.prog = true := by kernel_rfl
theorem mx_of {W : World} (h : W.ShapedOpen Tryd.prog) : Mx W := Tryd.maxLenShaped W h

section
variable {H : Type} {enc : TypeId × Value → H} {P : Program}
/-- All arguments read as they did, where memory was only made. -/
theorem trodAll_below (hl : laidOutB P = true) {W W' : World} (hb : Below W.heap.size W W') : ∀ (ts : List TypeId) (vs : List Value) (ds : List (DataW H)) (ps : List MemPlace),
    (∀ t ∈ ts, P.readableRec t = true ∧ t < P.types.size) → DataW.TrodAll enc P W 0 (fun _ => true) true ts vs ds ps → (∀ x ∈ ps, x.block < W.heap.size) →
    DataW.TrodAll enc P W' 0 (fun b => decide (b < W.heap.size)) true ts vs ds ps
  | [], vs, ds, ps, _, h, _ => by
    obtain ⟨rfl, rfl, rfl⟩ := trodAll_nil h
    exact trodAll_mk0
  | t :: ts, vs, ds, ps, ht, h, hlt => by
    obtain ⟨v0, vs0, d0, ds0, p0, q0, rfl, rfl, rfl, h0, r0⟩ := trodAll_cons h
    refine trodAll_cons_mk (Below.trod hl (ht t (List.mem_cons_self ..)).1 (ht t (List.mem_cons_self ..)).2 h0 hb (fun x hx => hlt x (List.mem_append_left _ hx))) ?_
    exact trodAll_below hl hb ts vs0 ds0 q0 (fun u hu => ht u (List.mem_cons_of_mem _ hu)) r0 (fun x hx => hlt x (List.mem_append_right _ hx))
/-- The row's last step behind a call that has only made memory: the result is shut, all arguments read as they did. -/
theorem post_of_all (hl : laidOutB P = true) {f : Func} {s : ChangeSpec} {apart fresh handsOn : Bool} {W W' : World} {args : Array Value} {v : Value} {ds : List (DataW H)} {before pa : List MemPlace}
    (hts : ∀ t ∈ f.params.toList, P.readableRec t = true ∧ t < P.types.size)
    (hW : DataW.Whole enc P f.params.toList s.vars apart W args.toList ds [] before)
    (hA : DataW.TrodAll enc P W 0 (fun _ => true) true f.params.toList args.toList ds pa)
    (hbe : before = pa ++ [])
    (hres : ∀ b : Nat, DataW.TrodAll enc P W' b (fun _ => false) handsOn f.resultTypes.toList (v.resultList f.resultTypes.size) (s.fn H (ds ++ [])).results [])
    (hargs : (s.fn H (ds ++ [])).args = ds) (hv : s.vars = []) (hvars : (s.fn H (ds ++ [])).vars = []) (hb : Below W.heap.size W W') :
    s.post enc P f apart fresh handsOn false W args v W' := by
  have hlt : ∀ p ∈ before, p.block < W.heap.size := fun p hp => hW.lt p hp
  have hlt' : ∀ p ∈ pa, p.block < W.heap.size := fun p hp => hlt p (by rw [hbe]; exact List.mem_append_left _ hp)
  refine ⟨ds, [], before, [], pa, [], hW, hres _, ?_, ?_, World.keptBut_mono (fun p hp => ⟨hp, ?_⟩) (hb.frame (· ∈ before)), fun h => by cases h⟩
  · rw [hargs]; exact trodAll_below hl hb _ _ _ _ hts hA hlt'
  · rw [hvars, hv]; rfl
  · rw [hbe, List.append_nil] at hp; exact Or.inr (Or.inl hp)
end
theorem okTypes {ts : List TypeId} (h : ∀ t ∈ ts, t = 9 ∨ t = 28) : ∀ t ∈ ts, Tryd.prog.readableRec t = true ∧ t < Tryd.prog.types.size := fun t ht => by
  rcases h t ht with rfl | rfl
  · exact ⟨by kernel_rfl, of_decide_eq_true (by kernel_rfl)⟩
  · exact ⟨by kernel_rfl, of_decide_eq_true (by kernel_rfl)⟩

/-! The bound. -/
theorem bulk_all {H : Type} (ss : List ByteArray) : Rows.uptoBulkAll (ss.map fun s => (DataW.lit (H := H) (.string s.data.toList))) = tot (ss.map (·.data.toList)) := by
  induction ss with
  | nil => rfl
  | cons s ss ih => simp only [List.map_cons, Rows.uptoBulkAll, Rows.uptoBulk, tot, List.sum_cons] at *; omega
/-- A string that came in. -/
theorem open_str {H : Type} {enc : TypeId × Value → H} {W : World} {base : Nat} {v : Value} {d : DataW H} {p : List MemPlace} (hv : Value.okWide Tryd.prog W .any base 9 v) (h : DataW.Trod enc Tryd.prog W 0 (fun _ => true) true 9 v d p) :
    ∃ l : List UInt8, v = .string ⟨l.toArray⟩ ∧ l.length + 1 ≤ Rows.uptoBulk d := by
  obtain ⟨s, rfl, rfl, rfl, _⟩ := open_string Tryd.underlying9 hv h
  refine ⟨s.data.toList, by simp, ?_⟩
  simp [Rows.uptoBulk]
/-- A list of strings that came in. -/
theorem open_strs {H : Type} {enc : TypeId × Value → H} {W : World} {base : Nat} {v : Value} {d : DataW H} {p : List MemPlace} (hv : Value.okWide Tryd.prog W .any base 28 v) (h : DataW.Trod enc Tryd.prog W 0 (fun _ => true) true 28 v d p) :
    ∃ (A : Option Addr) (cap : Nat) (xs : List (List UInt8)), v = .slice A xs.length cap ∧ Reads W W.heap.size 1 A xs.length (SS xs) ∧ tot xs + 1 ≤ Rows.uptoBulk d := by
  obtain ⟨a0, len, cap, rfl⟩ := okWide_slice Tryd.underlying28 hv
  obtain ⟨fuel, hf⟩ := h
  rcases open_strings Tryd.underlying28 Tryd.underlying9 (by kernel_rfl) hf with ⟨hcs, hx⟩ | ⟨a, len', cap', ss, hcs, hba, hl, hm, hz, hx, hcell, hws⟩
  · simp [Value.cells] at hcs
    obtain ⟨rfl, rfl, rfl⟩ := hcs
    simp only [Prod.mk.injEq] at hx
    obtain ⟨rfl, rfl⟩ := hx
    exact ⟨none, 0, [], rfl, Reads.none_, by simp [tot, Rows.uptoBulk]⟩
  · simp [Value.cells] at hcs
    obtain ⟨rfl, rfl, rfl⟩ := hcs
    simp only [Prod.mk.injEq] at hx
    obtain ⟨rfl, rfl⟩ := hx
    have hz' : ss.length = cap := by simpa using hz
    have hlen : ((ss.take len).map (·.data.toList)).length = len := by rw [List.length_map, List.length_take]; omega
    refine ⟨some a, cap, (ss.take len).map (·.data.toList), by rw [hlen], ⟨by rw [SS_length]; omega, fun hn => ⟨a, rfl, ?_, fun j u hu => ?_⟩⟩, ?_⟩
    · rw [hlen] at hn
      have hc := hcell 0 (by omega)
      rcases Nat.lt_or_ge a.block W.heap.size with h | h
      · exact h
      · exfalso
        have hblk : (a.add 0).block = a.block := block_of_add a 0
        have hnone : W.heap[(a.add 0).block]? = none := by rw [hblk]; exact Array.getElem?_eq_none h
        unfold World.cell? at hc
        rw [hnone] at hc
        cases hc
    · obtain ⟨q, hq, rfl⟩ := SS_at hu
      have hj : j < len := by have := (List.getElem?_eq_some_iff.1 hq).1; omega
      rw [hcell j (by omega)]
      rw [List.getElem?_map, List.getElem?_take, if_pos hj, Option.map_eq_some_iff] at hq
      obtain ⟨s, hs, rfl⟩ := hq
      simp [hs]
    · have h1 := bulk_all (H := H) (ss.take len)
      have h2 := bulk_all (H := H) (ss.drop len)
      show _ ≤ Rows.uptoBulk (DataW.slice (ss.take len |>.map fun s => DataW.lit (.string s.data.toList)) _)
      simp only [Rows.uptoBulk]
      omega
theorem bound {H : Type} {l : List (DataW H)} (hk : Rows.uptoSmall H l = true) : Rows.uptoBulkAll l ≤ 1048576 := of_decide_eq_true hk

/-- A world for the witness: the settled one, the listed tables holding what their initialisers lay. -/
noncomputable def laidWorld (os : Os) : World :=
  { World.holding Tryd.prog os ⟨#[], #[], []⟩ with heap := (((World.holding Tryd.prog os ⟨#[], #[], []⟩).heap.modify 1 (fun o => match o with
      | .cells _ t frozen => .cells (Go.Pinned.utf8FirstZ.map fun (n : Nat) => Value.int .u8 (n : Int)).toArray t frozen
      | o => o)).modify 2 (fun o => match o with
      | .cells _ t frozen => .cells (List.map (fun n => Value.int .u8 n) [128, 191, 160, 191, 128, 159, 144, 191, 128, 143, 0, 0, 0, 0, 0, 0, 0, 0, 0, 0, 0, 0, 0, 0, 0, 0, 0, 0, 0, 0, 0, 0]).toArray t frozen
      | o => o)) }
theorem g1 : Tryd.prog.globalNamed "unicode/utf8.first" = some 1 := by kernel_rfl
theorem g2 : Tryd.prog.globalNamed "unicode/utf8.acceptRanges" = some 2 := by kernel_rfl
end Go.Proofs.YtkkacgabikbedaaDoor
