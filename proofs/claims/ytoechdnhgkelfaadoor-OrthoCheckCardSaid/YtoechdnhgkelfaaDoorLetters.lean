/-
  What letters of the program returns.
-/
import Derived.Test.YtoechdnhgkelfaaDoorValid
import Derived.Maps.Own
import Derived.Maps.OwnOps
import Derived.Maps.Views
namespace Go.Proofs.YtoechdnhgkelfaaDoor
open Go.RowKit Go.PlainAid
open Go.Maps (Keyed string_keyed)

/-! A look-up in a map of booleans that the call made. -/
theorem plainElem_bool_inv {H : Type} {P : Program} {e : TypeId} {v : Value} {y : DataW H × List MemPlace} (he : P.underlying e = some .bool) (hv : plainElem P e v = some y) : ∃ x, v = .bool x ∧ y = (.lit (.bool x), []) := by
  unfold plainElem at hv
  rw [he] at hv
  cases v <;> simp at hv
  exact ⟨_, rfl, hv.symm⟩
/-- What the look-up gives. -/
def Lk {H : Type} (D : DataW H) (kl : Lit) (v : Value) : Prop := ∃ c : Bool, v = .bool c ∧ D.atKey kl (.lit (.bool false)) = .lit (.bool c)
theorem wpList_lookup_bool {H : Type} {P : Program} (w : World) {ops : Array Oper} {rest : List Oper} {o : Oper} {a : Act} {Q : Exit → Act → World → Prop}
    (hg : o.guard = none) (m x : Operand) (t : TypeId) (hop : o.op = Op.lookup t m x false)
    (k e : TypeId) (K : Keyed P k) (ht : P.underlying t = some (.map k e)) (he : P.underlying e = some .bool) (hz : (zeroValue e).run P w = .ok (.bool false) w) (b n : Nat) (D : DataW H)
    (hm : a.eval m = .map (some b)) (hown : w.ownsMap P k (plainElem P e) b n D) (key : Value) (kl : Lit) (hx : a.eval x = key) (hkey : keyOf P k key = some kl)
    (hK : ∀ v, Lk D kl v → wpList P ops Q rest (a.put o.dst v) w) :
    wpList P ops Q (o :: rest) a w := by
  refine wpList_plain hg fun K' hK' => ?_
  obtain ⟨v, ps, hrun, hv⟩ := hown.lookup K ht hz (plainElem_bool he false) hkey
  obtain ⟨c, rfl, hc⟩ := plainElem_bool_inv he hv
  simp only [Prod.mk.injEq] at hc
  unfold Oper.wp
  simp [execOp, hop, hm, hx, hrun, Result.andThen]
  exact hK' _ _ (hK _ ⟨c, rfl, hc.1⟩)
theorem owns_below {H : Type} {P : Program} {k : TypeId} {R : Value → Option (DataW H × List MemPlace)} {w w' : World} {b n : Nat} {D : DataW H} (h : w.ownsMap P k R b n D) (hb : Below w.heap.size w w') : w'.ownsMap P k R b n D := by
  obtain ⟨es, clock, h1, h2⟩ := h
  exact ⟨es, clock, (hb.block b (Array.getElem?_eq_some_iff.1 h1).1).trans h1, h2⟩
/-! The strings that were met. -/
def keyS (s : ByteArray) : Lit := .string s.data.toList
def seenD (l : List ByteArray) : DataW Unit := l.foldl (fun D s => D.put (keyS s) (.lit (.bool true))) (.map [])
theorem seenD_snoc (l : List ByteArray) (s : ByteArray) : seenD (l ++ [s]) = (seenD l).put (keyS s) (.lit (.bool true)) := by unfold seenD; rw [List.foldl_append]; rfl
theorem keyS_inj {s t : ByteArray} (h : keyS s = keyS t) : s = t := by
  unfold keyS at h
  cases s; cases t
  congr 1
  exact Array.toList_inj.1 (Lit.string.inj h)
theorem seenD_fold (s : ByteArray) : ∀ (l : List ByteArray) (D : DataW Unit), Maps.IsMap D →
    (s ∈ l → (l.foldl (fun D s => D.put (keyS s) (.lit (.bool true))) D).atKey (keyS s) (.lit (.bool false)) = .lit (.bool true)) ∧
    (¬ s ∈ l → (l.foldl (fun D s => D.put (keyS s) (.lit (.bool true))) D).atKey (keyS s) (.lit (.bool false)) = D.atKey (keyS s) (.lit (.bool false)))
  | [], D, _ => ⟨fun h => by simp at h, fun _ => rfl⟩
  | t :: l, D, h => by
    have ih := seenD_fold s l (D.put (keyS t) (.lit (.bool true))) (h.put _ _)
    rw [List.foldl_cons, List.mem_cons]
    by_cases hl : s ∈ l
    · exact ⟨fun _ => ih.1 hl, fun hn => absurd (.inr hl) hn⟩
    · rw [ih.2 hl]
      by_cases e : s = t
      · subst e
        exact ⟨fun _ => Maps.atKey_put_same h (by simp [keyS, WideAt.IsKeyLit]) _ _, fun hn => absurd (.inl rfl) hn⟩
      · rw [Maps.atKey_put_other (fun h => e (keyS_inj h))]
        exact ⟨fun hs => hs.elim (fun h => absurd h e) (fun h => absurd h hl), fun _ => rfl⟩
theorem seenD_at {s : ByteArray} {l : List ByteArray} {c : Bool} (h : (seenD l).atKey (keyS s) (.lit (.bool false)) = .lit (.bool c)) : c = true ↔ s ∈ l := by
  have hf := seenD_fold s l (.map []) Maps.isMap_empty
  by_cases hm : s ∈ l
  · have := (hf.1 hm).symm.trans h
    cases c
    · cases this
    · exact ⟨fun _ => hm, fun _ => rfl⟩
  · have := (hf.2 hm).symm.trans h
    cases c
    · exact ⟨(fun h => nomatch h), fun h => absurd h hm⟩
    · cases this
theorem zero4 (w : World) : (zeroValue 4).run Tryd.prog w = .ok (.bool false) w := by kernel_rfl
/-! The errors. -/
section
variable {Pl : ByteArray → Prop} {ls : List (List ByteArray)} {k k2 : Nat} {l : List ByteArray} {s : ByteArray} {q : Int}
theorem letG_at (h100 : ls.length ≤ 100) (hk : k < ls.length) (hall : ∀ j, j < k → LG Pl ls j 0) (hq : q ≠ 0) (h : LG Pl ls k q) : LetG Pl ls q := .inr ⟨h100, .inr ⟨hq, k, hk, h, hall⟩⟩
theorem lG_at (hl : ls[k]? = some l) (hk2 : k2 < l.length) (hall : ∀ j, j < k2 → WG Pl (ls.take k).flatten l j 0) (hq : q ≠ 0) (h : WG Pl (ls.take k).flatten l k2 q) : LG Pl ls k q :=
  ⟨l, hl, .inr ⟨fun e => by rw [e] at hk2; simp at hk2, .inr ⟨hq, k2, hk2, h, hall⟩⟩⟩
theorem lG_all (hl : ls[k]? = some l) (hne : l ≠ []) (hall : ∀ j, j < l.length → WG Pl (ls.take k).flatten l j 0) : LG Pl ls k 0 := ⟨l, hl, .inr ⟨hne, .inl ⟨rfl, hall⟩⟩⟩
theorem flat_next (hl : ls[k]? = some l) : (ls.take (k + 1)).flatten = (ls.take k).flatten ++ l := by
  obtain ⟨hk, rfl⟩ := List.getElem?_eq_some_iff.1 hl
  rw [List.take_succ_eq_append_getElem hk, List.flatten_append]
  simp
theorem all_next {E : Nat → Prop} (h : ∀ j, j < k → E j) (hk : E k) : ∀ j, j < k + 1 → E j := fun j hj => by
  by_cases e : j = k
  · rw [e]; exact hk
  · exact h j (by omega)
theorem take_one' (hl : l[k2]? = some s) : l.take (k2 + 1) = l.take k2 ++ [s] := by
  obtain ⟨hk, rfl⟩ := List.getElem?_eq_some_iff.1 hl
  exact List.take_succ_eq_append_getElem hk
end
set_option maxHeartbeats 3200000 in
set_option maxRecDepth 100000 in
theorem letters32 (ps : List (ByteArray × Int)) (o : Ort) (vo : Value) (hf : Few ps o) : LetsAt o vo := fun w hT ho => by
  obtain ⟨AU, capU, AL, capL, rfl, hU, hL⟩ := ho
  have hbw := below_one w (.cells #[.string o.name, .slice AU o.us.length capU, .slice AL o.ls.length capL] 28)
  obtain ⟨d0, d1, d2⟩ := box_o w o.name (.slice AU o.us.length capU) (.slice AL o.ls.length capL) 28
  have hz := size_one w (.cells #[.string o.name, .slice AU o.us.length capU, .slice AL o.ls.length capL] 28)
  obtain ⟨w2, hw2⟩ : ∃ w2, w.alloc (.cells #[.string o.name, .slice AU o.us.length capU, .slice AL o.ls.length capL] 28) = w2 := ⟨_, rfl⟩
  rw [hw2] at d0 d1 d2 hbw hz
  have hL2 := Lib.hid (hL.keep fun _ hp => hbw.cell hp)
  have HT := Lib.hid hT
  have HW2 := Lib.hid hw2
  have HZ := Lib.hid hz
  have hll := Lib.hid hf.ll
  have hn : o.ls.length ≤ 120 := hf.l
  clear hU hL hw2 d0 d1 hz hT hf
  obtain ⟨ls, hls⟩ : ∃ ls, o.ls = ls := ⟨_, rfl⟩
  rw [hls] at hL2 HW2 hn d2 hll
  rw [hls]
  clear hls
  have hmm := @run_makeMap Tryd.prog
  have law := Lib.hid (string_keyed Tryd.underlying9)
  by_cases h100 : 100 < ls.length
  · have h100' : (100 : Int) < (ls.length : Int) := by omega
    go_enter Tryd.func32, Tryd.ntmps32
    go_wp2_with fail
    rw [HW2.out]
    go_ret
    exact ⟨11, rfl, .inl ⟨h100, rfl⟩, hbw⟩
  have h100' : ¬ (100 : Int) < (ls.length : Int) := by omega
  have hbm := Lib.hid ((Below.refl (w.heap.size + 1) w2).alloc (by rw [HZ.out]; exact Nat.le_refl _) (.map #[] 0))
  have hom := Lib.hid (World.ownsMap_made w2 Tryd.prog 9 (plainElem (H := Unit) Tryd.prog 4))
  rw [HZ.out] at hom
  go_enter Tryd.func32, Tryd.ntmps32
  go_wp2_with fail
  rw [HW2.out]
  clear HW2
  go_loopw [5, 7, 16, 25] (fun _ _ i _ wr => ∃ k n : Nat, k ≤ ls.length ∧ n ≤ 20 * k ∧ i = .int .i64 k ∧ wr.ownsMap Tryd.prog 9 (plainElem (H := Unit) Tryd.prog 4) (w.heap.size + 1) n (seenD (ls.take k).flatten) ∧ (∀ j, j < k → LG PlQ ls j 0) ∧ Below (w.heap.size + 1) w2 wr) (fun _ _ i _ _ => ls.length - (intOf i).toNat)
  case atStart => exact ⟨0, 0, Nat.zero_le _, Nat.zero_le _, rfl, hom.out, fun j hj => by omega, hbm.out⟩
  case round =>
    obtain ⟨k, n, hk, hnk, rfl, hown, hall, hb⟩ := hrel
    have HOWN := Lib.hid hown
    have HALL := Lib.hid hall
    clear hown hall hmm
    by_cases hlt : k < ls.length
    · obtain ⟨l, hl⟩ := get_lt hlt
      have h20 := (hll.out l (List.mem_of_getElem? hl)).1
      have HSS := Lib.hid (hll.out l (List.mem_of_getElem? hl)).2
      have HLL := Lib.hid hl
      obtain ⟨ad, Aj, cj, rfl, hblk, c1, hstr⟩ := hL2.out k l hl
      have c1' := (hb.cell (p := ad.add k) (by rw [block_of_add]; omega)).trans c1
      have HSTR := Lib.hid hstr
      clear hl c1 hstr
      by_cases h0 : l.length = 0
      · have h0' : ((l.length : Int) == 0) = true := by rw [beq_iff_eq]; omega
        go_wp2_with fail
        go_ret
        exact ⟨4, rfl, letG_at (by omega) hlt HALL.out (by decide) ⟨l, HLL.out, .inl ⟨List.eq_nil_of_length_eq_zero h0, rfl⟩⟩, hbw.trans (hb.mono (by omega))⟩
      have h0' : ((l.length : Int) == 0) = false := by rw [beq_eq_false_iff_ne]; omega
      go_wp2_with fail
      go_loopw [7, 25] (fun _ i wr => ∃ k2 n : Nat, k2 ≤ l.length ∧ n ≤ 20 * k + k2 ∧ i = .int .i64 k2 ∧ wr.ownsMap Tryd.prog 9 (plainElem (H := Unit) Tryd.prog 4) (w.heap.size + 1) n (seenD ((ls.take k).flatten ++ l.take k2)) ∧ (∀ j, j < k2 → WG PlQ (ls.take k).flatten l j 0) ∧ Below (w.heap.size + 1) w2 wr) (fun _ i _ => l.length - (intOf i).toNat)
      case atStart => exact ⟨0, n, Nat.zero_le _, by omega, rfl, by rw [List.take_zero, List.append_nil]; exact HOWN.out, fun j hj => by omega, hb⟩
      case round =>
        obtain ⟨k2, n2, hk2, hnk2, rfl, hown2, hall2, hb2⟩ := hrel
        have HOWN2 := Lib.hid hown2
        have HALL2 := Lib.hid hall2
        clear hown2 hall2 HOWN c1'
        by_cases hlt2 : k2 < l.length
        · obtain ⟨s, hs⟩ := get_lt hlt2
          have hsz := HSS.out s (List.mem_of_getElem? hs)
          obtain ⟨ad2, rfl, hblk2, c2⟩ := HSTR.out k2 s hs
          have c2' := (hb2.cell (p := ad2.add k2) (by rw [block_of_add]; omega)).trans c2
          have HS := Lib.hid hs
          have kb := Lib.hid (hbw.trans (hb2.mono (by omega)))
          clear hs c2
          go_wp2_with fail
          refine (plain30 s _ (by omega) (tabs_below HT.out kb.out)).mono ?_
          rintro e w4 ⟨b, rfl, hpl, hb4⟩
          have HPL := Lib.hid hpl
          have hb4' := hb2.trans (hb4.mono (by have := hb2.size; have := HZ.out; omega))
          have HOWN4 := Lib.hid (owns_below HOWN2.out hb4)
          have hz4 : w.heap.size + 1 ≤ w4.heap.size := by have := hb4'.size; have := HZ.out; omega
          clear hpl hb4 HOWN2
          cases b
          · have hno : ¬ PlQ s := fun h => by have := HPL.out.2 h; cases this
            have HNO := Lib.hid hno
            clear hno
            go_wp2_with fail
            go_ret
            exact ⟨3, rfl, letG_at (by omega) hlt HALL.out (by decide) (lG_at HLL.out hlt2 HALL2.out (by decide) ⟨s, HS.out, .inl ⟨HNO.out, rfl⟩⟩), hbw.trans (hb4'.mono (by omega))⟩
          have HYES := Lib.hid (HPL.out.1 rfl)
          have hkey := Lib.hid (WideMaps.keyOf_string_mk (P := Tryd.prog) Tryd.underlying9 (s := s) (by unfold maxLen; omega))
          clear HPL
          go_wp2_with (at_lookup; refine wpList_lookup_bool _ rfl _ _ 78 rfl 9 4 law.out Tryd.underlying78 Tryd.underlying4 (zero4 _) (w.heap.size + 1) n2 _ rfl HOWN4.out _ _ rfl hkey.out ?_)
          intro vc hlk
          obtain ⟨c, rfl, hat⟩ := hlk
          have HAT := Lib.hid (seenD_at hat)
          clear hat
          cases c
          · have hnm := Lib.hid (show ¬ s ∈ (ls.take k).flatten ++ l.take k2 from fun h => by have := HAT.out.2 h; cases this)
            go_wp2_with (at_mapUpdate; refine wpList_mapUpdate_own _ rfl _ _ _ 78 rfl 9 4 law.out Tryd.underlying78 _ (w.heap.size + 1) n2 _ rfl HOWN4.out (by unfold maxLen; omega) _ _ _ rfl rfl hkey.out _ [] (plainElem_bool Tryd.underlying4 true) ?_)
            intro w5 hown5 hgrow5
            have hb5 := hb4'.grown hgrow5 hz4 (fun j hj => by cases hj; exact Nat.le_refl _)
            have HOWN5 := Lib.hid hown5
            clear hown5 hgrow5
            go_wp2_with fail
            go_roundw
            case rel =>
              refine ⟨k2 + 1, n2 + 1, by omega, by omega, by go_num, ?_, all_next HALL2.out ⟨s, HS.out, .inr (.inr ⟨HYES.out, hnm.out, rfl⟩)⟩, hb5⟩
              rw [take_one' HS.out, ← List.append_assoc, seenD_snoc]
              exact HOWN5.out
            case measure => simp [intOf]; omega
          · have hmm := Lib.hid (HAT.out.1 rfl)
            go_wp2_with fail
            go_ret
            exact ⟨8, rfl, letG_at (by omega) hlt HALL.out (by decide) (lG_at HLL.out hlt2 HALL2.out (by decide) ⟨s, HS.out, .inr (.inl ⟨HYES.out, hmm.out, rfl⟩)⟩), hbw.trans (hb4'.mono (by omega))⟩
        · obtain rfl : l.length = k2 := by omega
          go_wp2_with fail
          go_roundw
          case rel =>
            refine ⟨k + 1, n2, by omega, by omega, by go_num, ?_, all_next HALL.out (lG_all HLL.out (fun e => h0 (by rw [e]; rfl)) HALL2.out), hb2⟩
            have := HOWN2.out
            rw [List.take_length, ← flat_next HLL.out] at this
            exact this
          case measure => simp [intOf]; omega
    · obtain rfl : ls.length = k := by omega
      go_wp2_with fail
      go_ret
      exact ⟨0, rfl, .inr ⟨by omega, .inl ⟨rfl, HALL.out⟩⟩, hbw.trans (hb.mono (by omega))⟩
end Go.Proofs.YtoechdnhgkelfaaDoor
