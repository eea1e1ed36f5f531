/-
  What Nodes, Depth and texts return.
-/
import Derived.Test.YtgbjldkbbbjnkaaDoorMem
namespace Go.Proofs.YtgbjldkbbbjnkaaDoor
open Go.RowKit Go.PlainAid Pl

def IntOut (n : Int) (w : World) (e : Ending) (w' : World) : Prop := e = .returned (.int .i64 n) ∧ Below w.heap.size w w'
theorem box4 (w : World) (a b c d : Value) (T : TypeId) : (w.alloc (.cells #[a, b, c, d] T)).cell? ⟨w.heap.size, 0, none⟩ = some a ∧ (w.alloc (.cells #[a, b, c, d] T)).cell? ⟨w.heap.size, 1, none⟩ = some b ∧
    (w.alloc (.cells #[a, b, c, d] T)).cell? ⟨w.heap.size, 2, none⟩ = some c ∧ (w.alloc (.cells #[a, b, c, d] T)).cell? ⟨w.heap.size, 3, none⟩ = some d := by
  refine ⟨?_, ?_, ?_, ?_⟩ <;> simp [World.cell?_alloc_new]
/-- What a function has of a query in a box: the box's cells, and the kids, in every later world. -/
structure Bx (o r : Int) (t : ByteArray) (ks : List Qt) (A : Option Addr) (cap : Nat) (w W : World) : Prop where
  k : Below w.heap.size w W
  c0 : W.cell? ⟨w.heap.size, 0, none⟩ = some (.int .i64 o)
  c1 : W.cell? ⟨w.heap.size, 1, none⟩ = some (.int .i64 r)
  c2 : W.cell? ⟨w.heap.size, 2, none⟩ = some (.string t)
  c3 : W.cell? ⟨w.heap.size, 3, none⟩ = some (.slice A ks.length cap)
  q : ∀ j k, ks[j]? = some k → ∃ v, KC W W.heap.size A j v ∧ QAt W W.heap.size k v
  z : w.heap.size + 1 ≤ W.heap.size
section
variable {o r : Int} {t : ByteArray} {ks : List Qt} {A : Option Addr} {cap : Nat} {w W W' : World}
theorem Bx.next (h : Bx o r t ks A cap w W) (hb : Below W.heap.size W W') : Bx o r t ks A cap w W' := by
  have z := h.z
  refine ⟨h.k.trans (hb.mono h.k.size), (hb.cell (p := ⟨w.heap.size, 0, none⟩) (by show w.heap.size < _; omega)).trans h.c0, (hb.cell (p := ⟨w.heap.size, 1, none⟩) (by show w.heap.size < _; omega)).trans h.c1,
    (hb.cell (p := ⟨w.heap.size, 2, none⟩) (by show w.heap.size < _; omega)).trans h.c2, (hb.cell (p := ⟨w.heap.size, 3, none⟩) (by show w.heap.size < _; omega)).trans h.c3, fun j k hj => ?_, Nat.le_trans z hb.size⟩
  obtain ⟨v, h1, h2⟩ := h.q j k hj
  exact ⟨v, (h1.keep fun p hp => hb.cell (p := p) hp).more hb.size, h2.step hb⟩
theorem Bx.start (h : QAt w w.heap.size (.mk o r t ks) (.agg #[.int .i64 o, .int .i64 r, .string t, .slice A ks.length cap])) : Bx o r t ks A cap w (w.alloc (.cells #[.int .i64 o, .int .i64 r, .string t, .slice A ks.length cap] 25)) := by
  obtain ⟨c0, c1, c2, c3⟩ := box4 w (.int .i64 o) (.int .i64 r) (.string t) (.slice A ks.length cap) 25
  have hb := below_one w (.cells #[.int .i64 o, .int .i64 r, .string t, .slice A ks.length cap] 25)
  refine ⟨hb, c0, c1, c2, c3, fun j k hj => ?_, by rw [size_one]; exact Nat.le_refl _⟩
  obtain ⟨A', cap', he, hq⟩ := h.inv
  simp at he
  obtain ⟨rfl, rfl⟩ := he
  obtain ⟨v, h1, h2⟩ := hq j k hj
  exact ⟨v, (h1.keep fun p hp => hb.cell (p := p) hp).more hb.size, h2.step hb⟩
end
/-- A kid, with its cells. -/
theorem Bx.kid {o r : Int} {t : ByteArray} {ks : List Qt} {A : Option Addr} {cap : Nat} {w W : World} (h : Bx o r t ks A cap w W) {j : Nat} {o' r' : Int} {t' : ByteArray} {ks' : List Qt} (hj : ks[j]? = some (.mk o' r' t' ks')) :
    ∃ (ad : Addr) (A' : Option Addr) (cap' : Nat), A = some ad ∧ W.cell? (ad.add (j * 4)) = some (.int .i64 o') ∧ W.cell? ⟨(ad.add (j * 4)).block, (ad.add (j * 4)).off + 1, none⟩ = some (.int .i64 r') ∧
      W.cell? ⟨(ad.add (j * 4)).block, (ad.add (j * 4)).off + 2, none⟩ = some (.string t') ∧ W.cell? ⟨(ad.add (j * 4)).block, (ad.add (j * 4)).off + 3, none⟩ = some (.slice A' ks'.length cap') ∧
      QAt W W.heap.size (.mk o' r' t' ks') (.agg #[.int .i64 o', .int .i64 r', .string t', .slice A' ks'.length cap']) := by
  obtain ⟨v, ⟨ad, a, b, c, d, h1, h2, h3, h4, h5, h6, h7⟩, hq⟩ := h.q j _ hj
  obtain ⟨A', cap', hv, _⟩ := hq.inv
  subst h3
  simp at hv
  obtain ⟨rfl, rfl, rfl, rfl⟩ := hv
  exact ⟨ad, A', cap', h1, h4, h5, h6, h7, hq⟩
set_option maxHeartbeats 800000 in
set_option maxRecDepth 100000 in
theorem nodes15_ (m : Nat) : ∀ (n : Nat) (q : Qt) (v : Value) (w : World), sz q ≤ n → n ≤ m → m ≤ 4194304 → QAt w w.heap.size q v → Calls Tryd.prog 15 #[v] w (IntOut (sz q) w) := by
  intro n
  induction n with
  | zero => intro q v w h; have := sz_pos q; omega
  | succ n ih =>
    intro q v w hn hm hmm hq
    obtain ⟨o, r, t, ks⟩ := q
    obtain ⟨A, cap, rfl, _⟩ := hq.inv
    have X0 := Lib.hid (Bx.start hq)
    have IH := Lib.hid ih
    have hsz : sz (.mk o r t ks) = 1 + szs ks := by rw [sz]
    rw [hsz] at hn
    rw [hsz]
    clear hq ih hsz
    obtain ⟨W0, hW0⟩ : ∃ W0, w.alloc (.cells #[.int .i64 o, .int .i64 r, .string t, .slice A ks.length cap] 25) = W0 := ⟨_, rfl⟩
    rw [hW0] at X0
    have HW := Lib.hid hW0
    have c3 := X0.out.c3
    clear hW0
    have hlen : ks.length ≤ szs ks := len_szs ks
    go_enter Tryd.func15, Tryd.ntmps15
    go_wp2_with fail
    rw [HW.out]
    clear HW
    go_loopw [3, 5, 9] (fun s _ i wr => ∃ k : Nat, k ≤ ks.length ∧ i = .int .i64 k ∧ s = .int .i64 ((1 + szs (ks.take k) : Nat) : Int) ∧ Below W0.heap.size W0 wr) (fun _ _ i _ => ks.length - (intOf i).toNat)
    case atStart => exact ⟨0, Nat.zero_le _, rfl, by simp [szs], Below.refl _ _⟩
    case round =>
      obtain ⟨k, hk, rfl, rfl, hb⟩ := hrel
      have X1 := Lib.hid (X0.out.next hb)
      have c3' := X1.out.c3
      have hle := szs_le ks k
      by_cases hlt : k < ks.length
      · obtain ⟨kid, hkid⟩ := get_lt hlt
        have HS := Lib.hid (szs_take hkid)
        have hle2 := szs_le ks (k + 1)
        have hkm : sz kid ≤ n := by have := szs_mem (List.mem_of_getElem? hkid); omega
        obtain ⟨o', r', t', ks'⟩ := kid
        obtain ⟨ad, A', cap', rfl, x0, x1, x2, x3, hq'⟩ := X1.out.kid hkid
        obtain ⟨kid, hkd⟩ : ∃ kid, Qt.mk o' r' t' ks' = kid := ⟨_, rfl⟩
        rw [hkd] at hq' HS hkm
        rw [HS.out] at hle2
        have HQ := Lib.hid (hq'.step (below_one wr (.cells #[.int .i64 o', .int .i64 r', .string t', .slice A' ks'.length cap'] 25)))
        have HB1 := Lib.hid (below_one wr (.cells #[.int .i64 o', .int .i64 r', .string t', .slice A' ks'.length cap'] 25))
        clear hkid hq' hkd
        have hwr : IntKind.i64.wrap (((1 + szs (ks.take k) : Nat) : Int) + (sz kid : Int)) = ((1 + szs (ks.take k) : Nat) : Int) + (sz kid : Int) := by rw [Go.PlainAid.i64_is]; exact Go.IntWalk.wrap64_in _ (by omega)
        go_wp2_with fail
        refine (IH.out kid _ _ hkm (by omega) hmm HQ.out).mono ?_
        rintro e w1 ⟨rfl, hb1⟩
        have hb2 := hb.trans ((HB1.out.trans (hb1.mono HB1.out.size)).mono hb.size)
        go_wp2_with fail
        go_roundw
        case rel => exact ⟨k + 1, by omega, by go_num, by rw [HS.out]; congr 1; omega, hb2⟩
        case measure => simp [intOf]; omega
      · obtain rfl : ks.length = k := by omega
        rw [List.take_length]
        go_wp2_with fail
        go_ret
        exact ⟨rfl, X1.out.k⟩
end Go.Proofs.YtgbjldkbbbjnkaaDoor
