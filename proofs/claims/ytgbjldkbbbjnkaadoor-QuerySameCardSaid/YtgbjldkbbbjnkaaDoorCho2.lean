/-
  What choose of the program's parser does.
-/
import Derived.Test.YtgbjldkbbbjnkaaDoorChoP
namespace Go.Proofs.YtgbjldkbbbjnkaaDoor
open Go.RowKit Go.PlainAid Pl

theorem contains50 (nb pb g : Nat) (s : ByteArray) (k n : Nat) (l : List (List UInt8)) (A : Option Addr) (cap : Nat) (w : World) (hk : k ≤ s.size) (hs : s.size ≤ 4194304) (hl : l.length ≤ 100) (hv : ∀ v ∈ l, v.length ≤ 100) (hn : n ≤ 100) (hS : Strs w w.heap.size A l) (hC : CS nb pb g s k n w) :
    Calls Tryd.prog 50 #[.slice A l.length cap, .func (Fn.func 51) #[] #[.pointer (some ⟨nb, 0, none⟩), .pointer (some ⟨pb, 0, none⟩)]] w fun e w' => e = .returned (.bool (decide (0 ≤ fi (fun v => c2 (rest s k) v n) l 0))) ∧ Below w.heap.size w w' := by
  have H := Lib.hid (idx47_51 nb pb g s k n l A cap w hk hs hl hv hn hS hC)
  clear hS hC hv
  obtain ⟨x, hx⟩ : ∃ x, fi (fun v => c2 (rest s k) v n) l 0 = x := ⟨_, rfl⟩
  rw [hx] at H ⊢
  clear hx
  go_enter Tryd.func50, Tryd.ntmps50
  go_wp2_with fail
  refine H.out.mono ?_
  rintro e w' ⟨rfl, hb⟩
  go_wp2_with fail
  go_ret
  exact ⟨rfl, hb⟩
/-- What choose hands back. -/
def ChOut (l : List (List UInt8)) (g : Nat) (s : ByteArray) (k : Nat) (w : World) (e : Ending) (w' : World) : Prop :=
  Onl g w w' ∧ ((∃ i n, ER l (rest s k) = .ok i n ∧ e = .returned (.int .i64 (i : Int)) ∧ PS w' g s (k + n) false) ∨ (∃ n, ER l (rest s k) = .bad n ∧ e = .returned (.int .i64 0) ∧ PS w' g s (k + n) true))
/-- What the rounds know. -/
def RI (l : List (List UInt8)) (r : List UInt8) (n : Nat) : Prop := (∀ v ∈ l, v.length < n → ¬ v <+: r) ∧ (n = 0 ∨ ∃ v ∈ l, n ≤ v.length ∧ v.take n <+: r)
section
variable {l : List (List UInt8)} {r : List UInt8} {n : Nat}
theorem RI.start : RI l r 0 := ⟨fun v _ h => by omega, .inl rfl⟩
theorem c1_iff {v : List UInt8} : c1 r v n = true ↔ v ≠ [] ∧ v.length = n ∧ v <+: r := by simp [c1, and_assoc]
theorem c2_iff {v : List UInt8} : c2 r v n = true ↔ n < v.length ∧ v.take (n + 1) <+: r := by simp [c2]
theorem RI.hit (hp : Pf l) {x : Int} (h : fi (fun v => c1 r v n) l 0 = x) (hx : 0 ≤ x) : ∃ i : Nat, x = (i : Int) ∧ ER l r = .ok i n := by
  rcases fi_is (f := fun v => c1 r v n) l 0 with ⟨h1, _⟩ | ⟨j, v, h1, h2, h3⟩
  · omega
  · obtain ⟨_, h4, h5⟩ := c1_iff.1 h3
    refine ⟨j, by omega, ?_⟩
    rw [ER, round_hit hp h2 h4 h5]
theorem RI.cont (h : RI l r n) (h0 : ∀ v ∈ l, v ≠ []) (h1 : fi (fun v => c1 r v n) l 0 < 0) (h2 : 0 ≤ fi (fun v => c2 r v n) l 0) : RI l r (n + 1) := by
  rcases fi_is (f := fun v => c1 r v n) l 0 with ⟨_, g1⟩ | ⟨j, v, g1, _⟩
  · rcases fi_is (f := fun v => c2 r v n) l 0 with ⟨g2, _⟩ | ⟨j, v, _, g3, g4⟩
    · omega
    · refine ⟨fun u hu hlen hpre => ?_, .inr ⟨v, List.mem_of_getElem? g3, ?_⟩⟩
      · rcases Nat.lt_or_ge u.length n with hl | hl
        · exact h.1 u hu hl hpre
        · have := g1 u hu
          rw [c1_iff.2 ⟨h0 u hu, by omega, hpre⟩] at this
          cases this
      · obtain ⟨g5, g6⟩ := c2_iff.1 g4
        exact ⟨g5, g6⟩
  · omega
theorem RI.miss (h : RI l r n) (h0 : ∀ v ∈ l, v ≠ []) (h1 : fi (fun v => c1 r v n) l 0 < 0) (h2 : fi (fun v => c2 r v n) l 0 < 0) : ER l r = .bad n := by
  rcases fi_is (f := fun v => c1 r v n) l 0 with ⟨_, g1⟩ | ⟨j, v, g1, _⟩
  · rcases fi_is (f := fun v => c2 r v n) l 0 with ⟨_, g2⟩ | ⟨j, v, g2, _⟩
    · rw [ER, round_miss (fun u hu hlen hpre => ?_) (fun u hu hlen hpre => ?_) h.2]
      · rcases Nat.lt_or_ge u.length n with hl | hl
        · exact h.1 u hu hl hpre
        · have := g1 u hu
          rw [c1_iff.2 ⟨h0 u hu, by omega, hpre⟩] at this
          cases this
      · have := g2 u hu
        rw [c2_iff.2 ⟨hlen, hpre⟩] at this
        cases this
    · omega
  · omega
theorem RI.le (h : RI l r n) {m : Nat} (hv : ∀ v ∈ l, v.length ≤ m) : n ≤ m := by
  rcases h.2 with h | ⟨v, h1, h2, _⟩
  · omega
  · exact Nat.le_trans h2 (hv v h1)
end
theorem heap_cell {w : World} {B : Nat} {a : Value} {T : TypeId} (h : w.heap[B]? = some (.cells #[a] T)) : w.cell? ⟨B, 0, none⟩ = some a ∧ w.frozen? ⟨B, 0, none⟩ = false := by
  unfold World.cell? World.frozen?
  simp [h]
theorem one_new (w : World) (a : Value) (T : TypeId) : (w.alloc (.cells #[a] T)).heap[w.heap.size]? = some (.cells #[a] T) := by
  show (w.heap.push _)[w.heap.size]? = _
  simp
theorem two_cells (w : World) (a b : Value) (T U : TypeId) : ((w.alloc (.cells #[a] T)).alloc (.cells #[b] U)).cell? ⟨w.heap.size, 0, none⟩ = some a ∧ ((w.alloc (.cells #[a] T)).alloc (.cells #[b] U)).cell? ⟨w.heap.size + 1, 0, none⟩ = some b ∧ ((w.alloc (.cells #[a] T)).alloc (.cells #[b] U)).frozen? ⟨w.heap.size + 1, 0, none⟩ = false := by
  have h1 := heap_later (one_new w a T) (.cells #[b] U)
  have h2 := one_new (w.alloc (.cells #[a] T)) b U
  rw [size_one] at h2
  exact ⟨(heap_cell h1).1, (heap_cell h2).1, (heap_cell h2).2⟩
theorem Onl.drew {g : Nat} {w w' : World} (h : Onl g w w') : Onl g w w'.drew := ⟨h.os, h.tape, h.output, h.size, h.block⟩
theorem set_set_cell {w : World} {g p : Nat} {u : Value} (x y : Value) (h : w.cell? ⟨p, 0, none⟩ = some u) : ((w.setCell ⟨g, 1, none⟩ x).setCell ⟨g, 2, none⟩ y).cell? ⟨p, 0, none⟩ = some u := by
  rw [World.cell?_setCell_other _ _ _ _ (fun e => by cases e), World.cell?_setCell_other _ _ _ _ (fun e => by cases e)]
  exact h
/-- The state of the rounds. -/
def ChI (l : List (List UInt8)) (pb g : Nat) (s : ByteArray) (k : Nat) (w wr : World) (m : Nat) (p : Value) : Prop :=
  ∃ nb : Nat, p = .pointer (some ⟨nb, 0, none⟩) ∧ nb ≠ g ∧ pb ≠ nb ∧ wr.cell? ⟨pb, 0, none⟩ = some (.pointer (some ⟨g, 0, none⟩)) ∧ wr.frozen? ⟨nb, 0, none⟩ = false ∧
    ((∃ n : Nat, m = 200 - n ∧ wr.cell? ⟨nb, 0, none⟩ = some (.int .i64 (n : Int)) ∧ PS wr g s k false ∧ RI l (rest s k) n ∧ Below w.heap.size w wr) ∨
     (∃ n : Nat, m = 1 ∧ ER l (rest s k) = .bad n ∧ PS wr g s (k + n) true ∧ Onl g w wr))
set_option maxHeartbeats 6400000 in
set_option maxRecDepth 100000 in
theorem choose35 (l : List (List UInt8)) (g : Nat) (s : ByteArray) (k : Nat) (A : Option Addr) (cap : Nat) (w : World) (hk : k ≤ s.size) (hs : s.size ≤ 4194304) (hl : l.length ≤ 100) (hv : ∀ v ∈ l, v.length ≤ 100) (h0 : ∀ v ∈ l, v ≠ []) (hpf : Pf l) (hS : Strs w w.heap.size A l) (hP : PS w g s k false) :
    Calls Tryd.prog 35 #[.pointer (some ⟨g, 0, none⟩), .slice A l.length cap] w (ChOut l g s k w) := by
  have HV := Lib.hid hv
  have H0 := Lib.hid h0
  have HPF := Lib.hid hpf
  have HS := Lib.hid hS
  have HP := Lib.hid hP
  have hg := hP.lt
  clear hv h0 hpf hS hP
  go_enter Tryd.func35, Tryd.ntmps35
  go_wp2_with fail
  go_loopg [5] 200 (fun m p wr => ChI l w.heap.size g s k w wr m p)
  case atStart =>
    have h2 : PS ((w.alloc (.cells #[.pointer (some ⟨g, 0, none⟩)] 43)).alloc (.cells #[.int .i64 0] 3)) g s k false := heap_later (heap_later HP.out _) _
    obtain ⟨e1, e2, e3⟩ := two_cells w (.pointer (some ⟨g, 0, none⟩)) (.int .i64 0) 43 3
    exact ⟨w.heap.size + 1, rfl, by omega, by omega, e1, e3, .inl ⟨0, rfl, e2, h2, RI.start, ((Below.refl _ _).alloc (Nat.le_refl _) _).alloc (by simp) _⟩⟩
  case round =>
    obtain ⟨nb, rfl, hne1, hne2, hcp, hfz, hst⟩ := hrel
    rcases hst with ⟨n, rfl, hcn, hps, hri, hb⟩ | ⟨n, rfl, hbad, hps, ho⟩
    · have hn : n ≤ 100 := hri.le HV.out
      have hS2 := HS.out.step hb
      have HCS := Lib.hid (show CS nb w.heap.size g s k n wr from ⟨hcn, hcp, hps⟩)
      have I1 := Lib.hid (idx47_48 nb w.heap.size g s k n l A cap wr hk hs hl HV.out hn hS2 HCS.out)
      have HRI := Lib.hid hri
      have HST2 := Lib.hid hS2
      obtain ⟨p0, p1, p2⟩ := tri_cells hps
      clear hri hS2 hps hcn
      obtain ⟨x, hx⟩ : ∃ x, fi (fun v => c1 (rest s k) v n) l 0 = x := ⟨_, rfl⟩
      rw [hx] at I1
      have HX := Lib.hid hx
      clear hx
      go_wp2_with fail
      refine I1.out.mono ?_
      rintro e w1 ⟨rfl, hb1⟩
      have HB1 := Lib.hid hb1
      have HCS1 := Lib.hid (HCS.out.below hb1)
      have hbw1 := Lib.hid (hb.trans (hb1.mono hb.size))
      clear hb1 p0 p1 p2 hcp hfz
      have hcp := HCS1.out.cp
      have hcn := HCS1.out.cn
      obtain ⟨p0, p1, p2⟩ := tri_cells HCS1.out.ps
      obtain ⟨f0, f1, f2⟩ := tri_soft HCS1.out.ps
      by_cases hx0 : 0 ≤ x
      · obtain ⟨i, hxi, her⟩ := RI.hit HPF.out HX.out hx0
        have HER := Lib.hid her
        have HXI := Lib.hid hxi
        clear her hxi
        have hkn : IntKind.i64.wrap ((k : Int) + (n : Int)) = (k : Int) + (n : Int) := wrap_in (by omega)
        go_wp2_with fail
        go_still_tail 8, (by kernel_rfl)
        go_wp2_with fail
        go_ret
        exact ⟨((Onl.below hbw1.out).set 1 _).drew, .inl ⟨i, n, HER.out, by rw [HXI.out]; rfl, (HCS1.out.ps).at_ (by omega)⟩⟩
      · have I2 := Lib.hid (contains50 nb w.heap.size g s k n l A cap w1 hk hs hl HV.out hn (HST2.out.step HB1.out) HCS1.out)
        obtain ⟨y, hy⟩ : ∃ y, fi (fun v => c2 (rest s k) v n) l 0 = y := ⟨_, rfl⟩
        rw [hy] at I2
        have HY := Lib.hid hy
        clear hy
        have g1 : IntKind.i64.wrap ((n : Int) + 1) = (n : Int) + 1 := wrap_in (by omega)
        have hkn : IntKind.i64.wrap ((k : Int) + (n : Int)) = (k : Int) + (n : Int) := wrap_in (by omega)
        cases hy0 : decide (0 ≤ y)
        · have hy1 : y < 0 := by simpa using hy0
          have HER := Lib.hid (HRI.out.miss H0.out (by rw [HX.out]; omega) (by rw [HY.out]; exact hy1))
          rw [hy0] at I2
          clear hy0 hy1
          go_wp2_with fail
          refine I2.out.mono ?_
          rintro e w2 ⟨rfl, hb2⟩
          have HCS2 := Lib.hid (HCS1.out.below hb2)
          have hbw2 := Lib.hid (hbw1.out.trans (hb2.mono hbw1.out.size))
          clear hb2 p0 p1 p2 hcp hcn f0 f1 f2
          have hcp := HCS2.out.cp
          have hcn := HCS2.out.cn
          obtain ⟨p0, p1, p2⟩ := tri_cells HCS2.out.ps
          obtain ⟨f0, f1, f2⟩ := tri_soft HCS2.out.ps
          go_wp2_with fail
          go_still_tail 8, (by kernel_rfl)
          go_wp2_with fail
          have hzw := hbw2.out.size
          have hx := set_set_cell (w := w2) (g := g) (.int .i64 ((k : Int) + (n : Int))) (.bool true) hcp
          have hsz : ((w2.setCell ⟨g, 1, none⟩ (.int .i64 ((k : Int) + (n : Int)))).setCell ⟨g, 2, none⟩ (.bool true)).heap.size = w2.heap.size := by simp
          have hps : PS ((w2.setCell ⟨g, 1, none⟩ (.int .i64 ((k : Int) + (n : Int)))).setCell ⟨g, 2, none⟩ (.bool true)) g s (k + n) true := (HCS2.out.ps.at_ (k' := k + n) (by omega)).fail true
          have ho : Onl g w ((w2.setCell ⟨g, 1, none⟩ (.int .i64 ((k : Int) + (n : Int)))).setCell ⟨g, 2, none⟩ (.bool true)) := ((Onl.below hbw2.out).set 1 _).set 2 _
          go_roundg 1
          case measure => omega
          case rel =>
            refine ⟨w2.heap.size, rfl, by omega, by have := World.block_lt_of_cell? _ _ hcp; show w.heap.size ≠ w2.heap.size; exact Nat.ne_of_lt this, ?_, ?_, .inr ⟨n, rfl, HER.out, ?_, (ho.alloc _).drew⟩⟩
            · exact (World.cell?_alloc_lt _ _ _ (by rw [hsz]; exact World.block_lt_of_cell? _ _ hcp)).trans hx
            · have h := (heap_cell (one_new ((w2.setCell ⟨g, 1, none⟩ (.int .i64 ((k : Int) + (n : Int)))).setCell ⟨g, 2, none⟩ (.bool true)) (.int .i64 ((n : Int) + 1)) 3)).2
              rw [hsz] at h
              exact h
            · exact heap_later hps _
        · have hy1 : 0 ≤ y := by simpa using hy0
          have HRN := Lib.hid (HRI.out.cont H0.out (by rw [HX.out]; omega) (by rw [HY.out]; exact hy1))
          have hn1 := HRN.out.le HV.out
          rw [hy0] at I2
          clear hy0 hy1
          go_wp2_with fail
          refine I2.out.mono ?_
          rintro e w2 ⟨rfl, hb2⟩
          have HCS2 := Lib.hid (HCS1.out.below hb2)
          have hbw2 := Lib.hid (hbw1.out.trans (hb2.mono hbw1.out.size))
          clear hb2 p0 p1 p2 hcp hcn f0 f1 f2
          have hcp := HCS2.out.cp
          have hcn := HCS2.out.cn
          obtain ⟨p0, p1, p2⟩ := tri_cells HCS2.out.ps
          obtain ⟨f0, f1, f2⟩ := tri_soft HCS2.out.ps
          go_wp2_with fail
          have hzw := hbw2.out.size
          have hlt2 := World.block_lt_of_cell? _ _ hcp
          have hnew := heap_cell (one_new w2 (.int .i64 ((n : Int) + 1)) 3)
          go_roundg (200 - (n + 1))
          case measure => omega
          case rel => exact ⟨w2.heap.size, rfl, by omega, Nat.ne_of_lt hlt2, (World.cell?_alloc_lt _ _ _ hlt2).trans hcp, hnew.2, .inl ⟨n + 1, rfl, hnew.1, heap_later HCS2.out.ps _, HRN.out, hbw2.out.trans ((below_one _ _).mono hzw)⟩⟩
    · obtain ⟨p0, p1, p2⟩ := tri_cells hps
      have HBAD := Lib.hid hbad
      have HPS := Lib.hid hps
      clear hbad hps
      go_wp2_with fail
      go_ret
      exact ⟨ho, .inr ⟨n, HBAD.out, rfl, HPS.out⟩⟩
end Go.Proofs.YtgbjldkbbbjnkaaDoor
