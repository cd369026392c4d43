/- Contracts of diagram.limited and change. -/
import Derived.Test.YtgenpcokpodhkaaDia2
namespace Go.Proofs.Ytgenpcokpodhkaa
open Go.RowKit Go.Maps

/-- the values for all sets -/
def tableF (L : Nat) (φ : Fun) : List Bool := (List.range (2 ^ L)).map fun i => φ (bits L 0 i)
/-- the diagram of a meaning -/
def diaF (L : Nat) (φ : Fun) : List BN × Nat := canonical L (tableF L φ)
theorem tableF_tab {L : Nat} {ns : List BN} {k : Nat} : Tab L 0 ns k (tableF L (sem ns k)) := by
  refine ⟨Nat.zero_le _, by simp [tableF], Nat.zero_le _, fun i hi => ?_⟩
  simp only [tableF, List.length_map, List.length_range] at hi
  simp [tableF, hi]
theorem diaF_eq {L : Nat} {ns : List BN} (ok : OkD L ns) {k : Nat} (hk : k < ns.length + 2) {φ : Fun} (h : ∀ s, sem ns k s = φ s) : canon ns k = diaF L φ := by
  have : φ = sem ns k := funext fun s => (h s).symm
  rw [this, diaF]
  exact (canonical_eq ok hk tableF_tab).symm

abbrev DR := (Int × List DI × Int) × (Int × Int)
def limF (L : Nat) (c : List BN × Nat) : DR := if 300 < c.1.length then ((0, [], 0), (10, -3)) else ((L, c.1.map castN, c.2), (0, 0))
/-- returned a diagram and a fault -/
def GivesDF (w : World) (x : DR) (e : Ending) (w' : World) : Prop :=
  (∃ A n c, e = .returned (.tuple #[.agg #[.int .i64 x.1.1, .slice A n c, .int .i64 x.1.2.2], faultV x.2]) ∧ Rd Enc.node w' A n c x.1.2.1 ∧ ∀ b off, A = some ⟨b, off, none⟩ → w.heap.size ≤ b) ∧ Below w.heap.size w w'

/-- boxes of the two results -/
structure RBox (w wr : World) (g : Nat) : Prop where
  dia : Blk 30 wr g [.int .i64 0, .slice none 0 0, .int .i64 0]
  fault : Blk 25 wr (g + 1) [.int .i64 0, .int .i64 0]
  below : Below w.heap.size w wr
  ge : w.heap.size ≤ g
theorem RBox.keep {w wr wr' : World} {g : Nat} (h : RBox w wr g) (hb : Below wr.heap.size wr wr') : RBox w wr' g :=
  ⟨h.dia.keep hb, h.fault.keep hb, h.below.trans (hb.mono h.below.size), h.ge⟩
theorem RBox.facts {w wr : World} {g : Nat} (h : RBox w wr g) :
    wr.cell? ⟨g, 0, none⟩ = some (.int .i64 0) ∧ wr.cell? ⟨g, 1, none⟩ = some (.slice none 0 0) ∧ wr.cell? ⟨g, 2, none⟩ = some (.int .i64 0) ∧
    wr.cell? ⟨g + 1, 0, none⟩ = some (.int .i64 0) ∧ wr.cell? ⟨g + 1, 1, none⟩ = some (.int .i64 0) ∧
    wr.frozen? ⟨g, 0, none⟩ = false ∧ wr.frozen? ⟨g, 1, none⟩ = false ∧ wr.frozen? ⟨g, 2, none⟩ = false ∧
    wr.frozen? ⟨g + 1, 0, none⟩ = false ∧ wr.frozen? ⟨g + 1, 1, none⟩ = false ∧ g < wr.heap.size ∧ g + 1 < wr.heap.size :=
  ⟨h.dia.cell 0, h.dia.cell 1, h.dia.cell 2, h.fault.cell 0, h.fault.cell 1, h.dia.frozen 0, h.dia.frozen 1, h.dia.frozen 2, h.fault.frozen 0, h.fault.frozen 1, h.dia.lt, h.fault.lt⟩
/-- both results laid into their boxes -/
def World.putRes (wr : World) (g : Nat) (v0 v1 v2 u0 u1 : Value) : World :=
  ((((wr.setCell ⟨g, 0, none⟩ v0).setCell ⟨g, 1, none⟩ v1).setCell ⟨g, 2, none⟩ v2).setCell ⟨g + 1, 0, none⟩ u0).setCell ⟨g + 1, 1, none⟩ u1
theorem RBox.put {w wr : World} {g : Nat} (h : RBox w wr g) (v0 v1 v2 u0 u1 : Value) : Below w.heap.size w (World.putRes wr g v0 v1 v2 u0 u1) := by
  have hg := h.ge
  unfold World.putRes
  exact ((((h.below.setCell (by simpa using hg) _).setCell (by simpa using hg) _).setCell (by simpa using hg) _).setCell (by simp; omega) _).setCell (by simp; omega) _
/-- a reading whose block is none of the two boxes -/
theorem rd_put {wr : World} {g : Nat} {A : Option Addr} {n c : Nat} {ns : List DI} (hr : Rd Enc.node wr A n c ns) (v0 v1 v2 u0 u1 : Value) (hA : ∀ b off, A = some ⟨b, off, none⟩ → 0 < n → b ≠ g ∧ b ≠ g + 1) :
    Rd Enc.node (World.putRes wr g v0 v1 v2 u0 u1) A n c ns := by
  refine ⟨hr.len, hr.cap, hr.small, hr.nil, fun hn => ?_⟩
  obtain ⟨b, off, e, hc⟩ := hr.at_ hn
  obtain ⟨h1, h2⟩ := hA b off e hn
  refine ⟨b, off, e, fun j x hj => ?_⟩
  obtain ⟨vs, ho, hv⟩ := hc j x hj
  refine ⟨vs, ho, fun i v hi => ?_⟩
  have hb := World.cell?_of_block (w := wr) (w' := World.putRes wr g v0 v1 v2 u0 u1) (a := ⟨b, off + j * Enc.node.size + i, none⟩) (by
    show (World.putRes wr g v0 v1 v2 u0 u1).heap[b]? = wr.heap[b]?
    unfold World.putRes
    rw [Below.heap_setCell _ ⟨g + 1, 1, none⟩ _ b h2, Below.heap_setCell _ ⟨g + 1, 0, none⟩ _ b h2, Below.heap_setCell _ ⟨g, 2, none⟩ _ b h1, Below.heap_setCell _ ⟨g, 1, none⟩ _ b h1, Below.heap_setCell _ ⟨g, 0, none⟩ _ b h1])
  rw [hb]
  exact hv i v hi
set_option maxHeartbeats 800000 in
theorem limited_ct (A : Option Addr) (n c : Nat) (L r : Int) (w : World) :
    Calls Try.prog 40 #[.agg #[.int .i64 L, .slice A n c, .int .i64 r]] w (fun e w' => e = .returned (.tuple #[if 300 < n then .agg #[.int .i64 0, .slice none 0 0, .int .i64 0] else .agg #[.int .i64 L, .slice A n c, .int .i64 r], faultV (if 300 < n then (10, -3) else (0, 0))]) ∧ Below w.heap.size w w') := by
  by_cases hn : 300 < n
  · go_enter Try.func40, Try.ntmps40
    go_wp2
    refine bodyPost_ret (v := .tuple #[.agg #[.int .i64 0, .slice none 0 0, .int .i64 0], faultV (10, -3)]) (by simp [results, Try.results40, go_sem, faultV]) rfl ⟨rfl, below_three _ _ _ _⟩
  · go_enter Try.func40, Try.ntmps40
    go_wp2
    refine bodyPost_ret (v := .tuple #[.agg #[.int .i64 L, .slice A n c, .int .i64 r], faultV (0, 0)]) (by simp [results, Try.results40, go_sem, faultV]) rfl ⟨rfl, below_three _ _ _ _⟩

set_option maxHeartbeats 1600000 in
set_option maxRecDepth 100000 in
/-- change, with a function that has the meaning φ -/
theorem change0_ct {L n c r : Nat} {A : Option Addr} {ds : List BN} {w : World} {φ : Fun} (hL : L ≤ 24) (hn : n ≤ 300) (hok : OkD L ds) (hlen : ds.length = n) (hr : r < ds.length + 2) (h : Rd Enc.node w A n c (ds.map castN))
    (hf : ∀ (W : World) (B g bf bp : Nat) (ms : List BN) (k C : Nat), Below w.heap.size w W → St L B g bf bp W ms C → C ≤ 1000 → k < ms.length + 2 → (∀ s, sem ms k s = sem ds r s) →
      Calls Try.prog 53 #[.pointer (some ⟨g, 0, none⟩), .int .i64 k] W (StP L B g bf bp W ms (C + 33554434) fun ns' k' => ∀ s, sem ns' k' s = φ s)) :
    Calls Try.prog 52 #[.agg #[.int .i64 L, .slice A n c, .int .i64 r], .func (Fn.func 53) #[] #[]] w (GivesDF w (limF L (diaF L φ))) := by
  have hcap := h.cap
  have hsm := h.small
  have hst0 : RBox w (((w.alloc (.cells #[.int .i64 L, .slice A n c, .int .i64 r] 30)).alloc (.cells #[.int .i64 0, .slice none 0 0, .int .i64 0] 30)).alloc (.cells #[.int .i64 0, .int .i64 0] 25)) (w.heap.size + 1) := by
    have h1 := Blk.new (w.alloc (.cells #[.int .i64 L, .slice A n c, .int .i64 r] 30)) 30 [.int .i64 0, .slice none 0 0, .int .i64 0]
    have h2 := Blk.new ((w.alloc (.cells #[.int .i64 L, .slice A n c, .int .i64 r] 30)).alloc (.cells #[.int .i64 0, .slice none 0 0, .int .i64 0] 30)) 25 [.int .i64 0, .int .i64 0]
    simp only [World.size_alloc] at h1 h2
    exact ⟨h1.alloc _, h2, below_three _ _ _ _, by omega⟩
  have hbx0 : Blk 30 (((w.alloc (.cells #[.int .i64 L, .slice A n c, .int .i64 r] 30)).alloc (.cells #[.int .i64 0, .slice none 0 0, .int .i64 0] 30)).alloc (.cells #[.int .i64 0, .int .i64 0] 25)) w.heap.size [.int .i64 L, .slice A n c, .int .i64 r] := ((Blk.new w _ [.int .i64 L, .slice A n c, .int .i64 r]).alloc _).alloc _
  have Hok := hide hok
  have Hrd := hide h
  have Hf := hide hf
  have Hst0 := hide hst0
  have Hbx0 := hide hbx0
  clear hok h hf hst0 hbx0
  go_enter Try.func52, Try.ntmps52
  go_wp2_with fail
  obtain ⟨V, hV⟩ : ∃ V, V = (((w.alloc (.cells #[.int .i64 L, .slice A n c, .int .i64 r] 30)).alloc (.cells #[.int .i64 0, .slice none 0 0, .int .i64 0] 30)).alloc (.cells #[.int .i64 0, .int .i64 0] 25)) := ⟨_, rfl⟩
  rw [← hV]
  have hst := Hst0.out
  have hbx := Hbx0.out
  rw [← hV] at hst hbx
  have Hst := hide hst
  have Hbx := hide hbx
  clear hV hst hbx Hst0 Hbx0
  refine (NewStore_ct L hL V).mono ?_
  rintro e w1 ⟨hb1, g, bf, bp, rfl, hst1⟩
  have hbx1 := Hbx.out.keep hb1
  have c0 := hbx1.cell 0
  have c1 := hbx1.cell 1
  have c2 := hbx1.cell 2
  simp only [List.getElem?_cons_zero, List.getElem?_cons_succ] at c0 c1 c2
  have Hst1 := hide hst1
  have Hb1 := hide hb1
  clear hst1 hb1 hbx1
  go_wp2_with fail
  have hA : ∀ W, Below V.heap.size w1 W → Rd Enc.node W A n c (ds.map castN) := fun W hW => Hrd.out.keep ((Hst.out.below.trans (Hb1.out.mono Hst.out.below.size)).trans (hW.mono Hst.out.below.size))
  refine (Read_ct (C := 0) (n := n) (c := c) (root := r) Hst1.out Hok.out hlen hr hA (by omega) (by omega)).mono ?_
  rintro e w2 ⟨ms, k2, rfl, hst2, hk2, hkl2, hq2⟩
  have hb2 := (Hb1.out.trans (hk2.below Hb1.out.size))
  have Hst2 := hide hst2
  have Hb2 := hide hb2
  have Hq2 := hide hq2
  clear hst2 hb2 hk2 hq2 hA c0 c1 c2
  go_wp2_with fail
  refine (Hf.out w2 _ g bf bp _ k2 _ (Hst.out.below.trans (Hb2.out.mono Hst.out.below.size)) Hst2.out (by omega) hkl2 Hq2.out).mono ?_
  rintro e w3 ⟨ms3, k3, rfl, hst3, hk3, hkl3, hq3⟩
  have hb3 := Hb2.out.trans (hk3.below Hb2.out.size)
  have Hst3 := hide hst3
  have Hb3 := hide hb3
  have Hq3 := hide hq3
  clear hst3 hb3 hk3 hq3
  go_wp2_with fail
  refine (Write_ct Hst3.out hkl3).mono ?_
  rintro e w4 ⟨⟨A4, n4, c4, rfl, hrd4, hnew4⟩, hb4⟩
  have hcan := diaF_eq Hst3.out.ok hkl3 Hq3.out
  rw [hcan] at hrd4 ⊢
  have hb4' := Hb3.out.trans (hb4.mono Hb3.out.size)
  have hl4 := hrd4.len
  rw [List.length_map] at hl4
  have hnew : ∀ b off, A4 = some ⟨b, off, none⟩ → V.heap.size ≤ b := fun b off e => Nat.le_trans Hb3.out.size (hnew4 b off e)
  have Hrd4 := hide hrd4
  have Hb4 := hide hb4'
  have Hnew := hide hnew
  clear hrd4 hb4 hb4' hcan hnew hnew4
  go_wp2_with fail
  refine (limited_ct A4 n4 c4 L (diaF L φ).2 w4).mono ?_
  rintro e w5 ⟨rfl, hb5⟩
  have hrb := Hst.out.keep (Hb4.out.trans (hb5.mono Hb4.out.size))
  obtain ⟨x0, x1, x2, x3, x4, x5, x6, x7, x8, x9, x10, x11⟩ := hrb.facts
  have Hrb := hide hrb
  have Hb5 := hide hb5
  clear hrb hb5
  have hVs : V.heap.size ≤ w4.heap.size := Hb4.out.size
  by_cases h300 : 300 < n4
  · have hlim : limF L (diaF L φ) = ((0, [], 0), (10, -3)) := by unfold limF; rw [if_pos (by omega)]
    have Hlim := hide hlim
    clear hlim
    simp only [if_pos h300, faultV]
    go_wp2
    refine bodyPost_ret (v := .tuple #[.agg #[.int .i64 0, .slice none 0 0, .int .i64 0], faultV (10, -3)]) (by simp [results, Try.results52, go_sem, faultV, x0, x1, x2, x3, x4]) rfl ?_
    refine ⟨⟨none, 0, 0, by rw [Hlim.out], by rw [Hlim.out]; exact Rd.nil_ _ _, fun b off e => by cases e⟩, Hrb.out.put _ _ _ _ _⟩
  · have hlim : limF L (diaF L φ) = (((L : Int), (diaF L φ).1.map castN, ((diaF L φ).2 : Int)), (0, 0)) := by unfold limF; rw [if_neg (by omega)]
    have Hlim := hide hlim
    clear hlim
    simp only [if_neg h300, faultV]
    go_wp2
    refine bodyPost_ret (v := .tuple #[.agg #[.int .i64 L, .slice A4 n4 c4, .int .i64 ((diaF L φ).2 : Nat)], faultV (0, 0)]) (by simp [results, Try.results52, go_sem, faultV, x0, x1, x2, x3, x4]) rfl ?_
    refine ⟨⟨A4, n4, c4, by rw [Hlim.out], ?_, fun b off e => Nat.le_trans Hst.out.below.size (Hnew.out b off e)⟩, Hrb.out.put _ _ _ _ _⟩
    rw [Hlim.out]
    exact rd_put (Hrd4.out.keep Hb5.out) _ _ _ _ _ (fun b off e _ => by
      have h1 := Hnew.out b off e
      have h2 := Hst.out.fault.lt
      omega)

set_option maxHeartbeats 1600000 in
set_option maxRecDepth 100000 in
/-- change, with a function that has the meaning φ -/
theorem change1_ct {L n c r : Nat} {A : Option Addr} {ds : List BN} {w : World} {φ : Fun} {p : Value} (hL : L ≤ 24) (hn : n ≤ 300) (hok : OkD L ds) (hlen : ds.length = n) (hr : r < ds.length + 2) (h : Rd Enc.node w A n c (ds.map castN))
    (hf : ∀ (W : World) (B g bf bp : Nat) (ms : List BN) (k C : Nat), Below w.heap.size w W → St L B g bf bp W ms C → C ≤ 1000 → k < ms.length + 2 → (∀ s, sem ms k s = sem ds r s) →
      Calls Try.prog 54 #[.pointer (some ⟨g, 0, none⟩), .int .i64 k, p] W (StP L B g bf bp W ms (C + 33554434) fun ns' k' => ∀ s, sem ns' k' s = φ s)) :
    Calls Try.prog 52 #[.agg #[.int .i64 L, .slice A n c, .int .i64 r], .func (Fn.func 54) #[] #[p]] w (GivesDF w (limF L (diaF L φ))) := by
  have hcap := h.cap
  have hsm := h.small
  have hst0 : RBox w (((w.alloc (.cells #[.int .i64 L, .slice A n c, .int .i64 r] 30)).alloc (.cells #[.int .i64 0, .slice none 0 0, .int .i64 0] 30)).alloc (.cells #[.int .i64 0, .int .i64 0] 25)) (w.heap.size + 1) := by
    have h1 := Blk.new (w.alloc (.cells #[.int .i64 L, .slice A n c, .int .i64 r] 30)) 30 [.int .i64 0, .slice none 0 0, .int .i64 0]
    have h2 := Blk.new ((w.alloc (.cells #[.int .i64 L, .slice A n c, .int .i64 r] 30)).alloc (.cells #[.int .i64 0, .slice none 0 0, .int .i64 0] 30)) 25 [.int .i64 0, .int .i64 0]
    simp only [World.size_alloc] at h1 h2
    exact ⟨h1.alloc _, h2, below_three _ _ _ _, by omega⟩
  have hbx0 : Blk 30 (((w.alloc (.cells #[.int .i64 L, .slice A n c, .int .i64 r] 30)).alloc (.cells #[.int .i64 0, .slice none 0 0, .int .i64 0] 30)).alloc (.cells #[.int .i64 0, .int .i64 0] 25)) w.heap.size [.int .i64 L, .slice A n c, .int .i64 r] := ((Blk.new w _ [.int .i64 L, .slice A n c, .int .i64 r]).alloc _).alloc _
  have Hok := hide hok
  have Hrd := hide h
  have Hf := hide hf
  have Hst0 := hide hst0
  have Hbx0 := hide hbx0
  clear hok h hf hst0 hbx0
  go_enter Try.func52, Try.ntmps52
  go_wp2_with fail
  obtain ⟨V, hV⟩ : ∃ V, V = (((w.alloc (.cells #[.int .i64 L, .slice A n c, .int .i64 r] 30)).alloc (.cells #[.int .i64 0, .slice none 0 0, .int .i64 0] 30)).alloc (.cells #[.int .i64 0, .int .i64 0] 25)) := ⟨_, rfl⟩
  rw [← hV]
  have hst := Hst0.out
  have hbx := Hbx0.out
  rw [← hV] at hst hbx
  have Hst := hide hst
  have Hbx := hide hbx
  clear hV hst hbx Hst0 Hbx0
  refine (NewStore_ct L hL V).mono ?_
  rintro e w1 ⟨hb1, g, bf, bp, rfl, hst1⟩
  have hbx1 := Hbx.out.keep hb1
  have c0 := hbx1.cell 0
  have c1 := hbx1.cell 1
  have c2 := hbx1.cell 2
  simp only [List.getElem?_cons_zero, List.getElem?_cons_succ] at c0 c1 c2
  have Hst1 := hide hst1
  have Hb1 := hide hb1
  clear hst1 hb1 hbx1
  go_wp2_with fail
  have hA : ∀ W, Below V.heap.size w1 W → Rd Enc.node W A n c (ds.map castN) := fun W hW => Hrd.out.keep ((Hst.out.below.trans (Hb1.out.mono Hst.out.below.size)).trans (hW.mono Hst.out.below.size))
  refine (Read_ct (C := 0) (n := n) (c := c) (root := r) Hst1.out Hok.out hlen hr hA (by omega) (by omega)).mono ?_
  rintro e w2 ⟨ms, k2, rfl, hst2, hk2, hkl2, hq2⟩
  have hb2 := (Hb1.out.trans (hk2.below Hb1.out.size))
  have Hst2 := hide hst2
  have Hb2 := hide hb2
  have Hq2 := hide hq2
  clear hst2 hb2 hk2 hq2 hA c0 c1 c2
  go_wp2_with fail
  refine (Hf.out w2 _ g bf bp _ k2 _ (Hst.out.below.trans (Hb2.out.mono Hst.out.below.size)) Hst2.out (by omega) hkl2 Hq2.out).mono ?_
  rintro e w3 ⟨ms3, k3, rfl, hst3, hk3, hkl3, hq3⟩
  have hb3 := Hb2.out.trans (hk3.below Hb2.out.size)
  have Hst3 := hide hst3
  have Hb3 := hide hb3
  have Hq3 := hide hq3
  clear hst3 hb3 hk3 hq3
  go_wp2_with fail
  refine (Write_ct Hst3.out hkl3).mono ?_
  rintro e w4 ⟨⟨A4, n4, c4, rfl, hrd4, hnew4⟩, hb4⟩
  have hcan := diaF_eq Hst3.out.ok hkl3 Hq3.out
  rw [hcan] at hrd4 ⊢
  have hb4' := Hb3.out.trans (hb4.mono Hb3.out.size)
  have hl4 := hrd4.len
  rw [List.length_map] at hl4
  have hnew : ∀ b off, A4 = some ⟨b, off, none⟩ → V.heap.size ≤ b := fun b off e => Nat.le_trans Hb3.out.size (hnew4 b off e)
  have Hrd4 := hide hrd4
  have Hb4 := hide hb4'
  have Hnew := hide hnew
  clear hrd4 hb4 hb4' hcan hnew hnew4
  go_wp2_with fail
  refine (limited_ct A4 n4 c4 L (diaF L φ).2 w4).mono ?_
  rintro e w5 ⟨rfl, hb5⟩
  have hrb := Hst.out.keep (Hb4.out.trans (hb5.mono Hb4.out.size))
  obtain ⟨x0, x1, x2, x3, x4, x5, x6, x7, x8, x9, x10, x11⟩ := hrb.facts
  have Hrb := hide hrb
  have Hb5 := hide hb5
  clear hrb hb5
  have hVs : V.heap.size ≤ w4.heap.size := Hb4.out.size
  by_cases h300 : 300 < n4
  · have hlim : limF L (diaF L φ) = ((0, [], 0), (10, -3)) := by unfold limF; rw [if_pos (by omega)]
    have Hlim := hide hlim
    clear hlim
    simp only [if_pos h300, faultV]
    go_wp2
    refine bodyPost_ret (v := .tuple #[.agg #[.int .i64 0, .slice none 0 0, .int .i64 0], faultV (10, -3)]) (by simp [results, Try.results52, go_sem, faultV, x0, x1, x2, x3, x4]) rfl ?_
    refine ⟨⟨none, 0, 0, by rw [Hlim.out], by rw [Hlim.out]; exact Rd.nil_ _ _, fun b off e => by cases e⟩, Hrb.out.put _ _ _ _ _⟩
  · have hlim : limF L (diaF L φ) = (((L : Int), (diaF L φ).1.map castN, ((diaF L φ).2 : Int)), (0, 0)) := by unfold limF; rw [if_neg (by omega)]
    have Hlim := hide hlim
    clear hlim
    simp only [if_neg h300, faultV]
    go_wp2
    refine bodyPost_ret (v := .tuple #[.agg #[.int .i64 L, .slice A4 n4 c4, .int .i64 ((diaF L φ).2 : Nat)], faultV (0, 0)]) (by simp [results, Try.results52, go_sem, faultV, x0, x1, x2, x3, x4]) rfl ?_
    refine ⟨⟨A4, n4, c4, by rw [Hlim.out], ?_, fun b off e => Nat.le_trans Hst.out.below.size (Hnew.out b off e)⟩, Hrb.out.put _ _ _ _ _⟩
    rw [Hlim.out]
    exact rd_put (Hrd4.out.keep Hb5.out) _ _ _ _ _ (fun b off e _ => by
      have h1 := Hnew.out b off e
      have h2 := Hst.out.fault.lt
      omega)
end Go.Proofs.Ytgenpcokpodhkaa
