/-
  What Same of the program returns: it and slices.EqualFunc, one induction.
-/
import Derived.Test.YtgbjldkbbbjnkaaDoorSame
namespace Go.Proofs.YtgbjldkbbbjnkaaDoor
open Go.RowKit Go.PlainAid Pl

/-- Queries behind an address. -/
def Ks (w : World) (A : Option Addr) (ks : List Qt) : Prop := ∀ j k, ks[j]? = some k → ∃ v, KC w w.heap.size A j v ∧ QAt w w.heap.size k v
theorem Ks.step {w w' : World} {A : Option Addr} {ks : List Qt} (h : Ks w A ks) (hb : Below w.heap.size w w') : Ks w' A ks := fun j k hj => by
  obtain ⟨v, h1, h2⟩ := h j k hj
  exact ⟨v, (h1.keep fun p hp => hb.cell (p := p) hp).more hb.size, h2.step hb⟩
theorem Ks.kid {w : World} {A : Option Addr} {ks : List Qt} (h : Ks w A ks) {j : Nat} {o' r' : Int} {t' : ByteArray} {ks' : List Qt} (hj : ks[j]? = some (.mk o' r' t' ks')) :
    ∃ (ad : Addr) (A' : Option Addr) (cap' : Nat), A = some ad ∧ ad.block < w.heap.size ∧ w.cell? (ad.add (j * 4)) = some (.int .i64 o') ∧ w.cell? ⟨(ad.add (j * 4)).block, (ad.add (j * 4)).off + 1, none⟩ = some (.int .i64 r') ∧
      w.cell? ⟨(ad.add (j * 4)).block, (ad.add (j * 4)).off + 2, none⟩ = some (.string t') ∧ w.cell? ⟨(ad.add (j * 4)).block, (ad.add (j * 4)).off + 3, none⟩ = some (.slice A' ks'.length cap') ∧
      QAt w w.heap.size (.mk o' r' t' ks') (.agg #[.int .i64 o', .int .i64 r', .string t', .slice A' ks'.length cap']) := by
  obtain ⟨v, ⟨ad, a, b, c, d, h1, h2, h3, h4, h5, h6, h7⟩, hq⟩ := h j _ hj
  obtain ⟨A', cap', hv, _⟩ := hq.inv
  subst h3
  simp at hv
  obtain ⟨rfl, rfl, rfl, rfl⟩ := hv
  exact ⟨ad, A', cap', h1, h2, h4, h5, h6, h7, hq⟩
noncomputable def listB (a b : List Qt) : Bool := @decide (a = b) (Classical.propDecidable _)
theorem list_no {a b : List Qt} (h : a ≠ b) : listB a b = false := @decide_eq_false _ (Classical.propDecidable _) h
theorem list_yes {a b : List Qt} (h : a = b) : listB a b = true := @decide_eq_true _ (Classical.propDecidable _) h
set_option maxHeartbeats 1600000 in
set_option maxRecDepth 100000 in
theorem equal34 (n : Nat) (ih : ∀ (a b : Qt) (va vb : Value) (w : World), sz a ≤ n → QAt w w.heap.size a va → QAt w w.heap.size b vb → Calls Tryd.prog 25 #[va, vb] w (BoolIs (sameB a b) w))
    (ks ks' : List Qt) (A A' : Option Addr) (cap cap' : Nat) (w : World) (hk : ∀ k ∈ ks, sz k ≤ n) (hlen : ks.length ≤ 4194304) (hA : Ks w A ks) (hB : Ks w A' ks') :
    Calls Tryd.prog 34 #[.slice A ks.length cap, .slice A' ks'.length cap', .func (Fn.func 25) #[] #[]] w (BoolIs (listB ks ks') w) := by
  have IH := Lib.hid ih
  have HK := Lib.hid hk
  have KA := Lib.hid hA
  have KB := Lib.hid hB
  clear ih hk hA hB
  by_cases e3 : ks.length = ks'.length
  case neg =>
    have f := Lib.hid (list_no (a := ks) (b := ks') (fun e => e3 (by rw [e])))
    have g : ((ks.length : Int) != (ks'.length : Int)) = true := by simp; omega
    go_enter Tryd.func34, Tryd.ntmps34
    go_wp2_with fail
    go_ret
    exact ⟨by rw [f.out]; rfl, Below.refl _ _⟩
  have g : ((ks.length : Int) != (ks'.length : Int)) = false := by simp; omega
  have E3 := Lib.hid e3
  clear e3
  go_enter Tryd.func34, Tryd.ntmps34
  go_wp2_with fail
  go_loopw [7, 8, 9, 17] (fun _ _ _ i wr => ∃ k : Nat, k ≤ ks.length ∧ i = .int .i64 k ∧ (∀ j, j < k → ks[j]? = ks'[j]?) ∧ Below w.heap.size w wr) (fun _ _ _ i _ => ks.length - (intOf i).toNat)
  case atStart => exact ⟨0, Nat.zero_le _, rfl, fun j hj => by omega, Below.refl _ _⟩
  case round =>
    obtain ⟨k, hk, rfl, hall, hb⟩ := hrel
    have HALL := Lib.hid hall
    clear hall
    by_cases hlt : k < ks.length
    · obtain ⟨ka, hka⟩ := get_lt hlt
      have hl' : k < ks'.length := by have := E3.out; omega
      obtain ⟨kb, hkb⟩ := get_lt hl'
      have hkm := HK.out ka (List.mem_of_getElem? hka)
      obtain ⟨oa, ra, ta, ksa⟩ := ka
      obtain ⟨ob, rb, tb, ksb⟩ := kb
      obtain ⟨ad, Aa, ca, rfl, xb, x0, x1, x2, x3, hqa⟩ := (KA.out.step hb).kid hka
      obtain ⟨ad', Ab, cb, rfl, yb, y0, y1, y2, y3, hqb⟩ := (KB.out.step hb).kid hkb
      have HKA := Lib.hid hka
      have HKB := Lib.hid hkb
      have B1 := Lib.hid (below_one wr (.cells #[.int .i64 oa, .int .i64 ra, .string ta, .slice Aa ksa.length ca] 25))
      have lift : ∀ p : Addr, p.block < wr.heap.size → (wr.alloc (.cells #[.int .i64 oa, .int .i64 ra, .string ta, .slice Aa ksa.length ca] 25)).cell? p = wr.cell? p := fun p hp => B1.out.cell (p := p) hp
      have z0 := (lift (ad'.add (k * 4)) (by rw [block_of_add]; exact yb)).trans y0
      have z1 := (lift ⟨(ad'.add (k * 4)).block, (ad'.add (k * 4)).off + 1, none⟩ (by show (ad'.add (k * 4)).block < _; rw [block_of_add]; exact yb)).trans y1
      have z2 := (lift ⟨(ad'.add (k * 4)).block, (ad'.add (k * 4)).off + 2, none⟩ (by show (ad'.add (k * 4)).block < _; rw [block_of_add]; exact yb)).trans y2
      have z3 := (lift ⟨(ad'.add (k * 4)).block, (ad'.add (k * 4)).off + 3, none⟩ (by show (ad'.add (k * 4)).block < _; rw [block_of_add]; exact yb)).trans y3
      have B2 := Lib.hid (B1.out.trans ((below_one (wr.alloc (.cells #[.int .i64 oa, .int .i64 ra, .string ta, .slice Aa ksa.length ca] 25)) (.cells #[.int .i64 ob, .int .i64 rb, .string tb, .slice Ab ksb.length cb] 25)).mono B1.out.size))
      have QA := Lib.hid (hqa.step B2.out)
      have QB := Lib.hid (hqb.step B2.out)
      clear hka hkb hqa hqb lift
      go_wp2_with fail
      refine (IH.out _ _ _ _ _ hkm QA.out QB.out).mono ?_
      rintro e w1 ⟨rfl, hb1⟩
      have hb2 := hb.trans ((B2.out.trans (hb1.mono B2.out.size)).mono hb.size)
      cases hs : sameB (.mk oa ra ta ksa) (.mk ob rb tb ksb)
      · have hno := Lib.hid (list_no (a := ks) (b := ks') (fun e => by
          have h1 := HKA.out
          rw [e, HKB.out] at h1
          exact same_false.1 hs (Option.some.inj h1).symm))
        clear hs
        go_wp2_with fail
        go_ret
        exact ⟨by rw [hno.out]; rfl, hb2⟩
      · have hyes := Lib.hid (same_iff.1 hs)
        clear hs
        go_wp2_with fail
        go_roundw
        case rel =>
          refine ⟨k + 1, by omega, by go_num, fun j hj => ?_, hb2⟩
          by_cases e : j = k
          · subst e
            rw [HKA.out, HKB.out, hyes.out]
          · exact HALL.out j (by omega)
        case measure => simp [intOf]; omega
    · obtain rfl : ks.length = k := by omega
      have hy := Lib.hid (list_yes (kids_eq E3.out HALL.out))
      go_wp2_with fail
      go_ret
      exact ⟨by rw [hy.out]; rfl, hb⟩
end Go.Proofs.YtgbjldkbbbjnkaaDoor
