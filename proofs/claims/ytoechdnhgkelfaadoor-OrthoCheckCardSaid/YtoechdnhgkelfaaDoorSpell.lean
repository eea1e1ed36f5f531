/-
  What Spell of the program returns.
-/
import Derived.Test.YtoechdnhgkelfaaDoorStarts
import Derived.Test.YtoechdnhgkelfaaDoorShelf
namespace Go.Proofs.YtoechdnhgkelfaaDoor
open Go.RowKit Go.PlainAid Pl
/-- The Graphs of units. -/
def grs (us : List U) (l : List Nat) : List UInt8 := l.flatMap (gr us)
theorem grs_snoc (us : List U) (l : List Nat) (i : Nat) : grs us (l ++ [i]) = grs us l ++ gr us i := by simp [grs]
theorem gr_len {us : List U} (hg : Good us) (i : Nat) : (gr us i).length ≤ 100 := by
  unfold gr
  cases h : us[i]? with
  | none => simp
  | some u => have := hg.g2 u (List.mem_of_getElem? h); simpa [size_list] using this
theorem grs_len {us : List U} (hg : Good us) (l : List Nat) : (grs us l).length ≤ 100 * l.length := by
  unfold grs
  induction l with
  | nil => simp
  | cons i l ih =>
    rw [List.flatMap_cons, List.length_append, List.length_cons]
    have := gr_len hg i
    omega
theorem ds_count {us : List U} (hg : Good us) {s : List Int} {l : List Nat} {a : Nat} (h : Dv us.length (sg us) s l a) : l.length ≤ a := by
  induction h with
  | nil => simp
  | @snoc l b i _ _ hb ih =>
    obtain ⟨u, hu⟩ := get_lt hb.lt
    have h1 := hg.s1 u (List.mem_of_getElem? hu)
    rw [sg_at hu]
    simp
    omega
/-- What Spell says. -/
def SpP (us : List U) (r : List Int) (t : List UInt8) (p q : Int) : Prop :=
  (r = [] ∧ t = [] ∧ p = 0 ∧ q = 4) ∨ (24 < r.length ∧ t = [] ∧ p = 0 ∧ q = 5) ∨ (r ≠ [] ∧ r.length ≤ 24 ∧ ∃ (l : List Nat) (a : Nat), Done us.length (sg us) r l a ∧
    ((a < r.length ∧ t = [] ∧ p = a ∧ q = 20) ∨ (a = r.length ∧ t = grs us l ∧ p = 0 ∧ q = 0)))
theorem SpP.unique {us : List U} {r : List Int} {o o' : List UInt8} {p p' q q' : Int} (h : SpP us r o p q) (h' : SpP us r o' p' q') : o = o' ∧ p = p' ∧ q = q' := by
  rcases h with ⟨hs, rfl, rfl, rfl⟩ | ⟨hs, rfl, rfl, rfl⟩ | ⟨hs, hs2, l, a, hd, h⟩
  · rcases h' with ⟨_, rfl, rfl, rfl⟩ | ⟨hn, _⟩ | ⟨hn, _⟩
    · exact ⟨rfl, rfl, rfl⟩
    · rw [hs] at hn; simp at hn
    · exact absurd hs hn
  · rcases h' with ⟨hn, _⟩ | ⟨hn, rfl, rfl, rfl⟩ | ⟨hn, hn2, _⟩
    · rw [hn] at hs; simp at hs
    · exact ⟨rfl, rfl, rfl⟩
    · omega
  · rcases h' with ⟨hn, _⟩ | ⟨hn, _⟩ | ⟨_, _, l', a', hd', h'⟩
    · exact absurd hn hs
    · omega
    · obtain ⟨rfl, rfl⟩ := hd.unique hd'
      rcases h with ⟨h1, rfl, rfl, rfl⟩ | ⟨h1, rfl, rfl, rfl⟩ <;> rcases h' with ⟨h1', rfl, rfl, rfl⟩ | ⟨h1', rfl, rfl, rfl⟩ <;> first | exact ⟨rfl, rfl, rfl⟩ | omega
theorem SpP.len {us : List U} (hg : Good us) {r : List Int} {t : List UInt8} {p q : Int} (h : SpP us r t p q) : t.length ≤ 2400 := by
  rcases h with ⟨_, rfl, _⟩ | ⟨_, rfl, _⟩ | ⟨_, h24, l, a, hd, ⟨_, rfl, _⟩ | ⟨ha, rfl, _⟩⟩
  · simp
  · simp
  · simp
  · have := grs_len hg l
    have := ds_count hg hd.1
    omega
def SpellOut (us : List U) (r : List Int) (w : World) (e : Ending) (w' : World) : Prop :=
  ∃ (t : List UInt8) (p q : Int), e = .returned (.tuple #[.string ⟨t.toArray⟩, .int .i64 p, .int .i64 q]) ∧ SpP us r t p q ∧ Below w.heap.size w w'
theorem bld_below {T e : TypeId} {B b : Nat} {bs : List Value} {w w' : World} (h : Lib.IsBuilderF T e B b bs w) (hb : Below w.heap.size w w') : Lib.IsBuilderF T e B b bs w' := by
  have key : ∀ p, Lib.BuilderAtF T e B b p bs w → Lib.BuilderAtF T e B b p bs w' := by
    rintro p ⟨hB, v, hbl, hown, hne⟩
    have hlt : ∀ {i : Nat} {o : Obj}, w.heap[i]? = some o → w'.heap[i]? = some o := fun {i o} hi => (hb.block i (Array.getElem?_eq_some_iff.1 hi).1).trans hi
    refine ⟨hB, v, hlt hbl, ⟨hown.1, ?_⟩, hne⟩
    rcases hown.2 with hn | ⟨g, cap, cur, fz, hv, hbg, hg, rest⟩
    · exact .inl hn
    · exact .inr ⟨g, cap, cur, fz, hv, hbg, hlt hg, rest⟩
  exact h.elim (fun x => .inl (key _ x)) (fun x => .inr (key _ x))
theorem Ints.cut {w : World} {B : Nat} {ad : Addr} {l : List Int} (h : Ints w B (some ad) l) (k : Nat) (hk : k < l.length) : Ints w B (some (ad.add k)) (l.drop k) := by
  refine ⟨by simp [IS], fun hn => ?_⟩
  obtain ⟨ad', e, hb, hc⟩ := h.2 (by omega)
  cases e
  refine ⟨_, rfl, by rw [block_of_add]; exact hb, fun j u hu => ?_⟩
  rw [add_of_add]
  refine hc _ u ?_
  simp only [IS, List.getElem?_map, List.getElem?_drop] at hu ⊢
  exact hu
theorem spell_empty21 (vo : Value) (o : Ort) (A : Option Addr) (cap : Nat) (w : World) (ho : OAt w w.heap.size o vo) : Calls Tryd.prog 21 #[vo, .slice A ([] : List Int).length cap] w (SpellOut o.us [] w) := by
  obtain ⟨AU, capU, AL, capL, rfl, hU, hL⟩ := ho
  go_enter Tryd.func21, Tryd.ntmps21
  go_wp2_with fail
  go_ret3
  exact ⟨[], 0, 4, rfl, .inl ⟨rfl, rfl, rfl, rfl⟩, below_one _ _⟩
theorem spell_long21 (vo : Value) (o : Ort) (A : Option Addr) (cap : Nat) (r : List Int) (w : World) (ho : OAt w w.heap.size o vo) (h : 24 < r.length) (h2 : r.length ≤ 1000) : Calls Tryd.prog 21 #[vo, .slice A r.length cap] w (SpellOut o.us r w) := by
  obtain ⟨AU, capU, AL, capL, rfl, hU, hL⟩ := ho
  have h0 : ((r.length : Int) == 0) = false := by rw [beq_eq_false_iff_ne]; omega
  have h1 : (24 : Int) < (r.length : Int) := by omega
  go_enter Tryd.func21, Tryd.ntmps21
  go_wp2_with fail
  go_ret3
  exact ⟨[], 0, 5, rfl, .inr (.inl ⟨h, rfl, rfl, rfl⟩), below_one _ _⟩
set_option maxHeartbeats 3200000 in
set_option maxRecDepth 100000 in
theorem spell_some21 (o : Ort) (vo : Value) (ar : Addr) (cap : Nat) (r : List Int) (w : World) (ho : OAt w w.heap.size o vo) (hr : Ints w w.heap.size (some ar) r) (hcap : r.length ≤ cap) (h0 : 0 < r.length) (h24 : r.length ≤ 24) (hg : Good o.us) :
    Calls Tryd.prog 21 #[vo, .slice (some ar) r.length cap] w (SpellOut o.us r w) := by
  have NE := Lib.hid (show r ≠ [] from fun e => by rw [e] at h0; simp at h0)
  have HO := Lib.hid ho
  obtain ⟨AU, capU, AL, capL, rfl, hU, hL⟩ := ho
  obtain ⟨d0, d1, d2⟩ := box_o w o.name (.slice AU o.us.length capU) (.slice AL o.ls.length capL) 28
  have hbw := below_one w (.cells #[.string o.name, .slice AU o.us.length capU, .slice AL o.ls.length capL] 28)
  have hz := size_one w (.cells #[.string o.name, .slice AU o.us.length capU, .slice AL o.ls.length capL] 28)
  obtain ⟨w2, hw2⟩ : ∃ w2, w.alloc (.cells #[.string o.name, .slice AU o.us.length capU, .slice AL o.ls.length capL] 28) = w2 := ⟨_, rfl⟩
  rw [hw2] at d0 d1 d2 hbw hz
  have hU2 := Lib.hid (hU.keep fun _ hp => hbw.cell hp)
  have HR2 := Lib.hid (hr.keep fun _ hp => hbw.cell hp)
  have HW2 := Lib.hid hw2
  have HZ := Lib.hid hz
  have D0 := Lib.hid d0
  have D1 := Lib.hid d1
  have D2 := Lib.hid d2
  clear hU hL hw2 d0 d1 d2 hz hr
  have HG := Lib.hid hg
  have hn : o.us.length ≤ 120 := hg.n
  clear hg
  have hn0 : ((r.length : Int) == 0) = false := by rw [beq_eq_false_iff_ne]; omega
  have hn1 : ¬ (24 : Int) < (r.length : Int) := by omega
  have hgl := grs_len HG.out
  go_enter Tryd.func21, Tryd.ntmps21
  go_wp2_with fail
  rw [HW2.out]
  have HF := Lib.hid (Lib.IsBuilderF.of (Lib.fresh_isBuilder 65 5 w2))
  have hbf := below_one w2 (.cells #[.pointer none, .slice none 0 0] 65)
  rw [← HZ.out]
  go_loopw [8] (fun i wr => ∃ (l : List Nat) (a : Nat), i = .int .i64 a ∧ Dv o.us.length (sg o.us) r l a ∧ Lib.IsBuilderF 65 5 w2.heap.size w2.heap.size (Lib.byteCells (grs o.us l)) wr ∧ Below w2.heap.size w2 wr) (fun i _ => r.length - (intOf i).toNat)
  case atStart => exact ⟨[], 0, rfl, .nil, HF.out, hbf⟩
  case round =>
    obtain ⟨l, a, rfl, hst, hI, hb⟩ := hrel
    have HI := Lib.hid hI
    have HST := Lib.hid hst
    have hc := ds_count HG.out hst
    have hal := hst.le
    have hgll := hgl l
    clear hI hst
    have hz2 : w2.heap.size = w.heap.size + 1 := HZ.out
    have hsz : w.heap.size + 1 ≤ wr.heap.size := by have := hb.size; omega
    have hb1 : Below (w.heap.size + 1) w2 wr := hb.mono (by omega)
    have hbw2 : Below w.heap.size w wr := hbw.trans (hb.mono (by omega))
    have hsz2 : w2.heap.size ≤ wr.heap.size := hb.size
    clear hz2
    by_cases hlt : a < r.length
    · have e0 := (hb1.cell (p := ⟨w.heap.size, 0, none⟩) (by simp)).trans D0.out
      have e1 := (hb1.cell (p := ⟨w.heap.size, 1, none⟩) (by simp)).trans D1.out
      have e2 := (hb1.cell (p := ⟨w.heap.size, 2, none⟩) (by simp)).trans D2.out
      have q0 : (0 : Int) ≤ (a : Int) := by omega
      have q1 : (a : Int) ≤ (r.length : Int) := by omega
      have hca : ¬ cap = a := by omega
      have HOr := Lib.hid (HO.out.below hbw2)
      have hk2 : ∀ p : Addr, p.block < w.heap.size → wr.cell? p = w2.cell? p := fun p hp => hb1.cell (p := p) (by omega)
      have HRr := Lib.hid (((HR2.out.keep hk2).more (show w.heap.size ≤ wr.heap.size by omega)).cut a hlt)
      clear hk2
      go_wp2_with fail
      go_still_tail 4, (by kernel_rfl)
      have hb2 := hb.drew
      have HI2 := Lib.hid (show Lib.IsBuilderF 65 5 w2.heap.size w2.heap.size (Lib.byteCells (grs o.us l)) wr.drew from HI.out)
      have HOr2 := Lib.hid (show OAt wr.drew wr.drew.heap.size o _ from HOr.out)
      have HRr2 := Lib.hid (show Ints wr.drew wr.drew.heap.size _ _ from HRr.out)
      have hsz3 : w2.heap.size ≤ wr.drew.heap.size := hsz2
      change wpList _ _ _ _ _ wr.drew
      generalize wr.drew = wx at HI2 hb2 HOr2 HRr2 hsz3 ⊢
      clear HI hb e0 e1 e2 hbw2 hsz HOr HRr hsz2 hb1
      have HCu := Lib.hid (unit38 o _ _ (cap - a) (r.drop a) wx HOr2.out HRr2.out (by rw [List.length_drop]; omega) (by rw [List.length_drop]; omega) HG.out)
      rw [List.length_drop] at HCu
      go_wp2_with fail
      refine HCu.out.mono ?_
      rintro e w3 ⟨v, rfl, hlb, hb3⟩
      have hb3' := hb2.trans (hb3.mono hsz3)
      have HI3' := Lib.hid (bld_below HI2.out hb3)
      have hsz4 : w2.heap.size ≤ w3.heap.size := Nat.le_trans hsz3 hb3.size
      clear hb3 hb2 HI2 hsz3 HOr2 HRr2 HCu
      rcases hlb with ⟨rfl, hnob⟩ | ⟨j, rfl, hbest⟩
      · have HN := Lib.hid hnob
        clear hnob
        go_wp2_with fail
        go_ret3
        exact ⟨[], a, 20, rfl, .inr (.inr ⟨NE.out, h24, l, a, ⟨HST.out, .inr HN.out⟩, .inl ⟨hlt, rfl, rfl, rfl⟩⟩), hbw.trans (hb3'.mono hbw.size)⟩
      · have HB := Lib.hid hbest
        clear hbest
        obtain ⟨u, hu⟩ := get_lt HB.out.lt
        have g2 := HG.out.g2 u (List.mem_of_getElem? hu)
        have s1 := HG.out.s1 u (List.mem_of_getElem? hu)
        have s2 := HG.out.s2 u (List.mem_of_getElem? hu)
        have GU := Lib.hid (gr_at hu)
        have SU := Lib.hid (sg_at hu)
        have hjn : j < o.us.length := HB.out.lt
        have hle := HB.out.len
        rw [SU.out, List.length_drop] at hle
        have hz2 : w2.heap.size = w.heap.size + 1 := HZ.out
        have e1 := ((hb3'.mono (show w.heap.size + 1 ≤ _ by omega)).cell (p := ⟨w.heap.size, 1, none⟩) (by simp)).trans D1.out
        obtain ⟨ad, Aj, cj, had, hblk, c1, c2, _⟩ := hU2.out j u hu
        subst had
        have c1' := (hb3'.cell (p := ad.add (j * 2)) (by rw [block_of_add]; omega)).trans c1
        clear hz2
        go_wp2_with fail
        refine (Tryd.Builder_WriteString_k _ _ _ u.1 _ HI3'.out ?_ hsz4).mono ?_
        · rw [Lib.byteCells_length]; omega
        rintro e w4 ⟨rfl, h4, hb4, _⟩
        have H4 := Lib.hid h4
        clear h4 e1 c1'
        have hb4' := hb3'.trans hb4
        clear hb4
        have hz2 : w2.heap.size = w.heap.size + 1 := HZ.out
        have e1 := ((hb4'.mono (show w.heap.size + 1 ≤ _ by omega)).cell (p := ⟨w.heap.size, 1, none⟩) (by simp)).trans D1.out
        have c2' := (hb4'.cell (p := ⟨(ad.add (j * 2)).block, (ad.add (j * 2)).off + 1, none⟩) (by show (ad.add (j * 2)).block < _; rw [block_of_add]; omega)).trans c2
        clear hz2 hu c1 c2
        go_wp2_with fail
        go_roundw
        case rel =>
          refine ⟨l ++ [j], a + u.2.length, by go_num, ?_, ?_, hb4'⟩
          · have := HST.out.snoc hlt HB.out
            rw [SU.out] at this
            exact this
          · rw [grs_snoc, Lib.byteCells_append, GU.out]
            exact .inr H4.out
        case measure => simp [intOf]; omega
    · have ha : a = r.length := by omega
      have HA := Lib.hid ha
      clear ha
      go_wp2_with fail
      refine (Tryd.Builder_String_any_k _ _ _ _ HI.out hsz2).mono ?_
      rintro e w3 ⟨rfl, h3, hb3, hk3⟩
      go_wp2_with fail
      go_ret3
      exact ⟨grs o.us l, 0, 0, rfl, .inr (.inr ⟨NE.out, h24, l, a, ⟨HST.out, .inl (by omega)⟩, .inr ⟨HA.out, rfl, rfl, rfl⟩⟩), hbw.trans ((hb.trans hb3).mono hbw.size)⟩
theorem spell21 (o : Ort) (vo : Value) (A : Option Addr) (cap : Nat) (r : List Int) (w : World) (ho : OAt w w.heap.size o vo) (hr : Ints w w.heap.size A r) (hcap : r.length ≤ cap) (hl : r.length ≤ 1000) (hg : Good o.us) :
    Calls Tryd.prog 21 #[vo, .slice A r.length cap] w (SpellOut o.us r w) := by
  by_cases h24 : 24 < r.length
  · exact spell_long21 vo o A cap r w ho h24 hl
  · rcases Nat.eq_zero_or_pos r.length with h0 | h0
    · obtain rfl : r = [] := List.eq_nil_of_length_eq_zero h0
      exact spell_empty21 vo o A cap w ho
    · obtain ⟨p, hp⟩ := get_lt h0
      obtain ⟨ad, rfl, _⟩ := hr.at_ hp
      exact spell_some21 o vo ad cap r w ho hr hcap h0 (by omega) hg
end Go.Proofs.YtoechdnhgkelfaaDoor
