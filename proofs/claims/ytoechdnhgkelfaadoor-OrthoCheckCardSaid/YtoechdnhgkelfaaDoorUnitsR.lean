/-
  What Units of the reference returns.
-/
import Derived.Test.YtoechdnhgkelfaaDoorLongest
namespace Go.Proofs.YtoechdnhgkelfaaDoor
open Go.RowKit Go.PlainAid Pl
theorem info3 : (Tryd.prog.info? 3).map (fun i => (i.zero, i.size, i.bytes)) = some (some (.int .i64 0), 1, 8) := by kernel_rfl
/-- Indices as numbers. -/
def nz (l : List Nat) : List Int := l.map fun n : Nat => (n : Int)
theorem nz_len (l : List Nat) : (nz l).length = l.length := by simp [nz]
theorem nz_snoc (l : List Nat) (i : Nat) : IS (nz (l ++ [i])) = IS (nz l) ++ [.int .i64 (i : Int)] := by simp [nz, IS, I]
theorem nz_at {l : List Nat} {k : Nat} {i : Nat} (h : l[k]? = some i) : (nz l)[k]? = some (i : Int) := by unfold nz; rw [List.getElem?_map, h]; rfl
/-- What is asked of units: no Graph is empty, and all is small. -/
structure Good (us : List U) : Prop where
  n : us.length ≤ 120
  g1 : ∀ u ∈ us, 1 ≤ u.1.size
  g2 : ∀ u ∈ us, u.1.size ≤ 100
  s1 : ∀ u ∈ us, 1 ≤ u.2.length
  s2 : ∀ u ∈ us, u.2.length ≤ 3
theorem dv_count {us : List U} (hg : Good us) {s : List UInt8} {l : List Nat} {a : Nat} (h : Dv us.length (gr us) s l a) : l.length ≤ a := by
  induction h with
  | nil => simp
  | @snoc l b i _ _ hb ih =>
    obtain ⟨u, hu⟩ := get_lt hb.lt
    have h1 := hg.g1 u (List.mem_of_getElem? hu)
    rw [gr_at hu, size_list]
    simp
    omega
def UnitsOut (us : List U) (s : List UInt8) (w : World) (e : Ending) (w' : World) : Prop :=
  ∃ (v : Value) (l : List Nat) (a : Nat), e = .returned (.tuple #[v, .int .i64 (a : Int)]) ∧ Done us.length (gr us) s l a ∧ w'.ownsRow w.heap.size 3 1 v l.length (IS (nz l)) ∧ Below w.heap.size w w'
theorem cells_one (w : World) (u : Value) (t : TypeId) : ∀ (j : Nat) (x : Value), [u][j]? = some x → (w.alloc (.cells #[u] t)).cell? ((⟨w.heap.size, 0, none⟩ : Addr).add j) = some x := by
  intro j x hx
  match j, hx with
  | 0, hx => simp at hx; subst hx; simp [Addr.add, World.cell?_alloc_new]
  | j + 1, hx => simp at hx
theorem ext_drop {s : ByteArray} (k : Nat) : (s.extract k s.size).data.toList = s.data.toList.drop k := by
  rw [Lib.extract_data, List.take_of_length_le (by rw [List.length_drop, size_list]; omega)]
theorem ext_len {s : ByteArray} {k : Nat} (_h : k ≤ s.size) : (s.extract k s.size).size = s.size - k := by
  rw [← size_list, ext_drop, List.length_drop, size_list]
set_option maxHeartbeats 1600000 in
set_option maxRecDepth 100000 in
theorem units17 (o : Ort) (vo : Value) (s : ByteArray) (w : World) (ho : OAt w w.heap.size o vo) (hs : s.size ≤ 65536) (hg : Good o.us) :
    Calls Tryd.prog 17 #[vo, .string s] w (UnitsOut o.us s.data.toList w) := by
  obtain ⟨i0, hi, hz0, hz1, hz2⟩ := info_parts info3
  have HI3 := Lib.hid hi
  have HZ0 := Lib.hid hz0
  have HZ1 := Lib.hid hz1
  have HZ2 := Lib.hid hz2
  clear hi hz0 hz1 hz2
  have HO := Lib.hid ho
  obtain ⟨AU, capU, AL, capL, rfl, hU, hL⟩ := ho
  obtain ⟨d0, d1, d2⟩ := box_o w o.name (.slice AU o.us.length capU) (.slice AL o.ls.length capL) 28
  have hbw := below_one w (.cells #[.string o.name, .slice AU o.us.length capU, .slice AL o.ls.length capL] 28)
  have hz := size_one w (.cells #[.string o.name, .slice AU o.us.length capU, .slice AL o.ls.length capL] 28)
  obtain ⟨w2, hw2⟩ : ∃ w2, w.alloc (.cells #[.string o.name, .slice AU o.us.length capU, .slice AL o.ls.length capL] 28) = w2 := ⟨_, rfl⟩
  rw [hw2] at d0 d1 d2 hbw hz
  have hU2 := Lib.hid (hU.keep fun _ hp => hbw.cell hp)
  have HW2 := Lib.hid hw2
  have HZ := Lib.hid hz
  have D0 := Lib.hid d0
  have D1 := Lib.hid d1
  have D2 := Lib.hid d2
  clear hU hL hw2 d0 d1 d2 hz
  have HG := Lib.hid hg
  have hn : o.us.length ≤ 120 := hg.n
  clear hg
  go_enter Tryd.func17, Tryd.ntmps17
  go_wp2_with fail
  rw [HW2.out]
  clear HW2
  go_loopw [6, 7] (fun v i wr => ∃ (l : List Nat) (a : Nat), i = .int .i64 a ∧ Dv o.us.length (gr o.us) s.data.toList l a ∧ wr.ownsRow (w.heap.size + 1) 3 1 v l.length (IS (nz l)) ∧ Below (w.heap.size + 1) w2 wr) (fun _ i _ => s.size - (intOf i).toNat)
  case atStart => exact ⟨[], 0, rfl, .nil, World.ownsRow_nil _ _ _ _, Below.refl _ _⟩
  case round =>
    obtain ⟨l, a, rfl, hst, hI, hb⟩ := hrel
    have HI := Lib.hid hI
    have HST := Lib.hid hst
    have ha := hst.le
    rw [size_list] at ha
    have hc := dv_count HG.out hst
    have hsz : w.heap.size + 1 ≤ wr.heap.size := by have := hb.size; have := HZ.out; omega
    have hbw2 : Below w.heap.size w wr := hbw.trans (hb.mono (by omega))
    clear hI hst
    by_cases hlt : a < s.size
    · have e0 := (hb.cell (p := ⟨w.heap.size, 0, none⟩) (by simp)).trans D0.out
      have e1 := (hb.cell (p := ⟨w.heap.size, 1, none⟩) (by simp)).trans D1.out
      have e2 := (hb.cell (p := ⟨w.heap.size, 2, none⟩) (by simp)).trans D2.out
      have q0 : (0 : Int) ≤ (a : Int) := by omega
      have q1 : (a : Int) ≤ (s.size : Int) := by omega
      have HOr := Lib.hid (HO.out.below hbw2)
      go_wp2_with fail
      go_still_tail 4, (by kernel_rfl)
      have hb2 := hb.drew
      have HI2 := Lib.hid (show wr.drew.ownsRow (w.heap.size + 1) 3 1 u6 l.length (IS (nz l)) from HI.out)
      have HOr2 := Lib.hid (show OAt wr.drew wr.drew.heap.size o _ from HOr.out)
      have hsz2 : w.heap.size + 1 ≤ wr.drew.heap.size := hsz
      change wpList _ _ _ _ _ wr.drew
      generalize wr.drew = wx at HI2 hb2 HOr2 hsz2 ⊢
      clear HI hb e0 e1 e2 hbw2 hsz HOr
      go_wp2_with fail
      refine (longest37 o _ (s.extract a s.size) _ HOr2.out (by rw [ext_len (by omega)]; omega) hn HG.out.g2).mono ?_
      rintro e w3 ⟨v, rfl, hlb, hb3⟩
      rw [ext_drop] at hlb
      have hb3' := hb2.trans (hb3.mono hsz2)
      have HI3' := Lib.hid (own_below HI2.out hb3)
      have hsz3 : w.heap.size + 1 ≤ w3.heap.size := Nat.le_trans hsz2 hb3.size
      clear hb3 hb2 HI2 hsz2 HOr2
      rcases hlb with ⟨rfl, hnob⟩ | ⟨j, rfl, hbest⟩
      · have HN := Lib.hid hnob
        clear hnob
        go_wp2_with fail
        go_ret2
        exact ⟨_, l, a, rfl, ⟨HST.out, .inr HN.out⟩, own_base HI3'.out (by omega), hbw.trans (hb3'.mono (by omega))⟩
      · have HB := Lib.hid hbest
        clear hbest
        obtain ⟨u, hu⟩ := get_lt HB.out.lt
        have g1 := HG.out.g1 u (List.mem_of_getElem? hu)
        have g2 := HG.out.g2 u (List.mem_of_getElem? hu)
        have GU := Lib.hid (gr_at hu)
        have hjn : j < o.us.length := HB.out.lt
        have hle := HB.out.len
        rw [GU.out, size_list, List.length_drop, size_list] at hle
        go_wp2_with (at_builtin; refine wpList_append_own _ rfl _ _ 34 rfl (w.heap.size + 1) 3 i0 (.int .i64 0) 1 8 Tryd.underlying34 HI3.out HZ0.out HZ1.out HZ2.out rfl (by decide) _ _ _ rfl (HI3'.out.alloc _) ⟨w3.heap.size, 0, none⟩ 1 1 [.int .i64 (j : Int)] rfl rfl ?c1 ?c2 ?c3 ?c4 ?c5 ?_)
        case c1 => exact cells_one w3 _ 3
        case c2 => intro u hu; simp at hu; subst hu; rfl
        case c3 => unfold maxLen; omega
        case c4 => omega
        case c5 => simp; omega
        intro v' w4 hown' hgrow hnil
        clear hnil
        have HO4 := Lib.hid hown'
        clear hown'
        have hb4 := (hb3'.alloc hsz3 _).grown hgrow (by simp; omega) (fun k hk => (HI3'.out.lt k hk).1)
        clear hgrow hb3'
        have e1 := (hb4.cell (p := ⟨w.heap.size, 1, none⟩) (by simp)).trans D1.out
        obtain ⟨ad, _, _, had, hblk, c1, _, _⟩ := hU2.out j u hu
        subst had
        have c1' := (hb4.cell (p := ad.add (j * 2)) (by rw [block_of_add]; omega)).trans c1
        clear hu c1
        go_wp2_with fail
        go_roundw
        case rel =>
          refine ⟨l ++ [j], a + u.1.size, by go_num, ?_, by rw [nz_snoc]; simpa using HO4.out, hb4⟩
          have := HST.out.snoc (by rw [size_list]; exact hlt) HB.out
          rw [GU.out, size_list] at this
          exact this
        case measure => simp [intOf]; omega
    · go_wp2_with fail
      go_ret2
      exact ⟨_, l, a, rfl, ⟨HST.out, .inl (by rw [size_list]; omega)⟩, own_base HI.out (by omega), hbw2⟩
end Go.Proofs.YtoechdnhgkelfaaDoor
