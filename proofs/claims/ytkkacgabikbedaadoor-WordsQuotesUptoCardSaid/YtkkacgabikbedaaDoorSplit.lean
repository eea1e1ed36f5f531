/-
  What Split and Lines of words return, for strings of at most 4194304 bytes.
-/
import Derived.Test.YtkkacgabikbedaaDoorText
namespace Go.Proofs.YtkkacgabikbedaaDoor
open Go.RowKit Go.PlainAid

/-- The library's own variable holds a number. -/
def Mx (w : World) : Prop := ∃ m : Int, w.cell? ⟨0, 0, none⟩ = some (.int .i64 m)
theorem Mx.lt {w : World} (h : Mx w) : 0 < w.heap.size := by
  obtain ⟨m, hm⟩ := h
  rcases Nat.eq_zero_or_pos w.heap.size with e | e
  · have hn : w.heap[0]? = none := Array.getElem?_eq_none (by omega)
    simp [World.cell?, hn] at hm
  · exact e
theorem Mx.keep {w w' : World} (h : Mx w) (hb : Below w.heap.size w w') : Mx w' := by
  have hl := h.lt
  obtain ⟨m, hm⟩ := h
  exact ⟨m, by rw [hb.cell (p := ⟨0, 0, none⟩) hl]; exact hm⟩
theorem split_lib (s : ByteArray) (c : UInt8) (w : World) (hs : s.size ≤ 4194304) (hm : Mx w) :
    Calls Tryd.prog 37 #[.string s, .string ⟨#[c]⟩] w fun e w' => e = .returned (.slice (some ⟨w.heap.size, 0, none⟩) (Wd.pieces c s.data.toList).length (Wd.pieces c s.data.toList).length) ∧ w' = w.alloc (.cells (SS (Wd.pieces c s.data.toList)).toArray 9) := by
  obtain ⟨m, hm⟩ := hm
  have h := Tryd.strings_Split s ⟨#[c]⟩ m w (by omega) hm (Nat.le_refl 1)
  have hd := Lib.splitB_data ⟨#[c]⟩ 0 (Lib.countB s ⟨#[c]⟩) s
  have hc : Lib.countB s ⟨#[c]⟩ = Lib.count s.data.toList [c] := rfl
  rw [show (⟨#[c]⟩ : ByteArray).data.toList = [c] from rfl, hc, Wd.split_pieces] at hd
  have hn := Lib.splitB_all ⟨#[c]⟩ (Nat.le_refl 1) 0 _ s rfl
  rw [hc] at hn h
  have e1 : Lib.splitB ⟨#[c]⟩ 0 (Lib.count s.data.toList [c]) s = (Wd.pieces c s.data.toList).map (fun p => (⟨p.toArray⟩ : ByteArray)) := by
    rw [← hd, List.map_map]
    have : ((fun p : List UInt8 => (⟨p.toArray⟩ : ByteArray)) ∘ fun x : ByteArray => x.data.toList) = id := by funext x; simp
    rw [this, List.map_id]
  have e2 : Lib.count s.data.toList [c] + 1 = (Wd.pieces c s.data.toList).length := by rw [← hn, e1, List.length_map]
  rw [e1, e2, List.map_map] at h
  exact h
/-- A list of strings, or none, in memory of the call's own. -/
def LstOut (o : Option (List (List UInt8))) (w : World) (e : Ending) (w' : World) : Prop :=
  ∃ v, e = .returned (.tuple #[v, .bool o.isSome]) ∧ w'.ownsRow w.heap.size 9 1 v (o.getD []).length (SS (o.getD [])) ∧ Below w.heap.size w w'
theorem own_base {w : World} {base base' : Nat} {e : TypeId} {size : Nat} {v : Value} {n : Nat} {xs : List Value} (h : w.ownsRow base e size v n xs) (hb : base' ≤ base) : w.ownsRow base' e size v n xs := by
  obtain ⟨h1, h2⟩ := h
  refine ⟨h1, ?_⟩
  rcases h2 with h2 | ⟨g, cap, cur, hv, hg, r⟩
  · exact .inl h2
  · exact .inr ⟨g, cap, cur, hv, by omega, r⟩
theorem reads_lit (w : World) (ps : List (List UInt8)) : Reads (w.alloc (.cells (SS ps).toArray 9)) (w.heap.size + 1) 1 (some ⟨w.heap.size, 0, none⟩) ps.length (SS ps) := by
  refine ⟨by rw [SS_length]; omega, fun _ => ⟨_, rfl, by simp, fun j u hu => ?_⟩⟩
  have ha : (⟨w.heap.size, 0, none⟩ : Addr).add j = ⟨w.heap.size, j, none⟩ := by unfold Addr.add; split <;> simp_all
  rw [ha]
  simp [World.cell?_alloc_new, hu]
theorem unquoteL (p : List UInt8) (w : World) (h : p.length ≤ 4194304) : Calls Tryd.prog 16 #[.string ⟨p.toArray⟩] w fun e w' => e = .returned (.tuple #[.string ⟨(uqS p).toArray⟩, .bool (uqB p)]) ∧ Below w.heap.size w w' := by
  exact unquote16 ⟨p.toArray⟩ w (by rw [str_size]; exact h)
theorem unquoteRL (s : ByteArray) (w : World) (h : s.size ≤ 4194304) : Calls Tryd.prog 17 #[.string s] w fun e w' => e = .returned (.tuple #[.string ⟨(uqS s.data.toList).toArray⟩, .bool (uqB s.data.toList)]) ∧ Below w.heap.size w w' := unquote17 s w h
theorem uqB_true {p : List UInt8} (h : uqB p = true) : Wd.unquote p = some (uqS p) := by
  unfold uqB at h
  unfold uqS
  cases hp : Wd.unquote p with
  | none => rw [hp] at h; cases h
  | some x => rfl
theorem uqB_false {p : List UInt8} (h : uqB p = false) : Wd.unquote p = none := by
  unfold uqB at h
  cases hp : Wd.unquote p with
  | none => rfl
  | some x => rw [hp] at h; cases h
theorem ps_bd (c : UInt8) (l : List UInt8) : tot (Wd.pieces c l) = l.length + 1 := by
  have key : ∀ q : List (List UInt8), q ≠ [] → tot q = (Wd.glue c q).length + 1 := by
    intro q hq
    induction q with
    | nil => exact absurd rfl hq
    | cons p q ih =>
      cases q with
      | nil => simp [tot, Wd.glue]
      | cons a b =>
        rw [Wd.glue_cons _ _ (by simp)]
        have := ih (by simp)
        simp only [tot, List.map_cons, List.sum_cons, List.length_append, List.length_cons] at *
        omega
  obtain ⟨a, b, hab⟩ := Wd.pieces_some c l
  rw [key _ (by rw [hab]; simp), Wd.glue_pieces]
theorem split22_empty (s : ByteArray) (w : World) (h : s.toList.isEmpty = true) : Calls Tryd.prog 22 #[.string s] w (LstOut (Wd.splitL s.data.toList) w) := by
  have e : Wd.splitL s.data.toList = some [] := by rw [empty_iff] at h; unfold Wd.splitL; rw [if_pos h]
  have E := Lib.hid e
  clear e
  go_enter Tryd.func22, Tryd.ntmps22
  go_wp2_with fail
  go_ret2
  rw [E.out]
  exact ⟨_, rfl, World.ownsRow_nil _ _ _ _, Below.refl _ _⟩
set_option maxHeartbeats 1600000 in
theorem split22_some (s : ByteArray) (w : World) (hs : s.size ≤ 4194304) (hm : Mx w) (h : s.toList.isEmpty = false) : Calls Tryd.prog 22 #[.string s] w (LstOut (Wd.splitL s.data.toList) w) := by
  have HS := Lib.hid (split_lib s 32 w hs hm)
  clear hm
  obtain ⟨ps, hps⟩ : ∃ ps, Wd.pieces 32 s.data.toList = ps := ⟨_, rfl⟩
  have E := Lib.hid (show Wd.splitL s.data.toList = Wd.unqs ps by rw [empty_iff] at h; unfold Wd.splitL; rw [h, hps]; rfl)
  have hbd := ps_bd 32 s.data.toList
  rw [hps] at HS hbd
  rw [size_list] at hbd
  have hpl := tot_len ps
  have htot : tot ps ≤ 4194305 := by omega
  clear hbd hps
  obtain ⟨i0, hi, hz0, hz1, hz2⟩ := info_parts info9
  have HI9 := Lib.hid hi
  have HZ0 := Lib.hid hz0
  have HZ1 := Lib.hid hz1
  have HZ2 := Lib.hid hz2
  clear hi hz0 hz1 hz2
  go_enter Tryd.func22, Tryd.ntmps22
  go_wp2_with fail
  refine HS.out.mono ?_
  rintro e w1' ⟨rfl, hw1⟩
  have hb0 : Below w.heap.size w w1' := by rw [hw1]; exact (Below.refl _ _).alloc (Nat.le_refl _) _
  have HR := Lib.hid (show Reads w1' (w.heap.size + 1) 1 (some ⟨w.heap.size, 0, none⟩) ps.length (SS ps) by rw [hw1]; exact reads_lit w ps)
  have hz : w1'.heap.size = w.heap.size + 1 := by rw [hw1]; simp
  have HZ := Lib.hid hz
  clear hw1 hz
  go_wp2_with fail
  go_loopw [4, 14] (fun v i wr => ∃ (k : Nat) (o : List (List UInt8)), k ≤ ps.length ∧ i = .int .i64 k ∧ o.length = k ∧ Wd.unqs (ps.take k) = some o ∧ wr.ownsRow (w.heap.size + 1) 9 1 v k (SS o) ∧ Below (w.heap.size + 1) w1' wr) (fun _ i _ => ps.length - (intOf i).toNat)
  case atStart => exact ⟨0, [], Nat.zero_le _, rfl, rfl, rfl, World.ownsRow_nil _ _ _ _, Below.refl _ _⟩
  case round =>
    obtain ⟨k, o, hk, rfl, hok, hU, hI, hb⟩ := hrel
    have HOK := Lib.hid hok
    have HU := Lib.hid hU
    have HI := Lib.hid hI
    clear hI hU hok
    have hsz : w.heap.size + 1 ≤ wr.heap.size := by have := hb.size; have := HZ.out; omega
    have hbw : Below w.heap.size w wr := hb0.trans (hb.mono (by omega))
    by_cases hlt : k < ps.length
    · obtain ⟨ad, u, had, hbl, hx, hc⟩ := (HR.out.below hb).at_ hlt
      obtain rfl : ad = ⟨w.heap.size, 0, none⟩ := (Option.some.inj had).symm
      obtain ⟨p, hp, rfl⟩ := SS_at hx
      have hpl := tot_mem (List.mem_of_getElem? hp)
      have ha : (⟨w.heap.size, 0, none⟩ : Addr).add k = ⟨w.heap.size, k, none⟩ := by unfold Addr.add; split <;> simp_all
      rw [ha] at hc
      have HP := Lib.hid hp
      clear hx hp had ha
      go_wp2_with fail
      refine (unquoteL p _ (by omega)).mono ?_
      rintro e w2 ⟨rfl, hb2⟩
      have HI2 := Lib.hid (own_below HI.out hb2)
      have hb2' := hb.trans (hb2.mono hsz)
      have hbw2 := hbw.trans (hb2.mono (by omega))
      have hsz2 : w.heap.size + 1 ≤ w2.heap.size := Nat.le_trans hsz hb2.size
      clear hb2
      cases hq : uqB p
      · have hf := uqB_false hq
        have hnone : Wd.unqs ps = none := by
          have hs2 : ps = ps.take k ++ p :: ps.drop (k + 1) := by
            have := List.take_append_drop (k + 1) ps
            rw [take_one HP.out, List.append_assoc] at this
            exact this.symm
          rw [hs2]
          exact Wd.unqs_fail _ hf
        have HN := Lib.hid hnone
        clear hf hnone
        go_wp2_with fail
        go_ret2
        rw [E.out, HN.out]
        exact ⟨_, rfl, World.ownsRow_nil _ _ _ _, hbw2⟩
      · have HQ := Lib.hid (uqB_true hq)
        go_wp2_with (at_builtin; refine wpList_append_own _ rfl _ _ 28 rfl (w.heap.size + 1) 9 i0 (.string ⟨#[]⟩) 1 16 Tryd.underlying28 HI9.out HZ0.out HZ1.out HZ2.out rfl (by decide) _ _ _ rfl (HI2.out.alloc _) ⟨w2.heap.size, 0, none⟩ 1 1 [.string ⟨(uqS p).toArray⟩] rfl rfl ?c1 ?c2 ?c3 ?c4 ?c5 ?_)
        case c1 => exact cells_one w2 _ 9
        case c2 => intro u hu; simp at hu; subst hu; rfl
        case c3 => unfold maxLen; omega
        case c4 => omega
        case c5 => simp; omega
        intro v' w3 hown' hgrow hnil
        clear hnil
        have HO := Lib.hid hown'
        clear hown'
        have hb3 := (hb2'.alloc hsz2 _).grown hgrow (by simp; omega) (fun k hk => (HI2.out.lt k hk).1)
        clear hgrow
        go_wp2_with fail
        go_roundw
        case rel => exact ⟨k + 1, o ++ [uqS p], by omega, by go_num, by have := HOK.out; simp; omega, by rw [take_one HP.out]; exact Wd.unqs_snoc HU.out HQ.out, by rw [SS_snoc]; exact HO.out, hb3⟩
        case measure => simp [intOf]; omega
    · have ht' : ps.take k = ps := List.take_of_length_le (by omega)
      rw [ht'] at HU
      clear ht'
      go_wp2_with fail
      go_ret2
      rw [E.out, HU.out]
      refine ⟨_, rfl, own_base (base := w.heap.size + 1) ?_ (by omega), hbw⟩
      have := HI.out
      rw [← HOK.out] at this
      exact this
theorem split22 (s : ByteArray) (w : World) (hs : s.size ≤ 4194304) (hm : Mx w) : Calls Tryd.prog 22 #[.string s] w (LstOut (Wd.splitL s.data.toList) w) := by
  cases h : s.toList.isEmpty
  · exact split22_some s w hs hm h
  · exact split22_empty s w h
end Go.Proofs.YtkkacgabikbedaaDoor
