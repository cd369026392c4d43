/- What the law asks for, part 35: Store7. -/
import Derived.Test.YtmjiiddncbhgpaaGreatE1
import Derived.Test.YtmjiiddncbhgpaaGreatE3
import Derived.Test.YtmjiiddncbhgpaaGreatE27
import Derived.Test.YtmjiiddncbhgpaaGreatE28
import Derived.Test.YtmjiiddncbhgpaaGreatE29
import Derived.BigQuiet
import Derived.Deep.AppendLies
import Derived.Deep.Draws
import Derived.Deep.Fields
import Derived.Deep.LoopGhost
import Derived.Deep.QuietTactic
import Derived.Deep.RegionLaw
import Derived.Deep.Slices
import Derived.DeepKeys4
import Derived.Laws.AppendOwnNone
import Derived.Laws.EntriesVeiled
import Derived.Laws.OwnMore
import Derived.Lib.Hide
import Derived.Maps.AppendAt
import Derived.Maps.OwnOps
import Derived.Maps.OwnSet
import Derived.ProofKit
import Derived.Test.YtmjiiddncbhgpaaGreatProg
import Derived.WalkKit
import Init
namespace Go.Proofs.YtmjiiddncbhgpaaGreat
open Go.RowKit Go.Maps
/-- a node in memory -/
def Enc.node : Enc (Int × Int × Int) := Enc.int.pair (Enc.int.pair Enc.int)
def castN (n : BN) : Int × Int × Int := ((n.1 : Int), (n.2.1 : Int), (n.2.2 : Int))
/-- an owned row of nodes reads as a list -/
theorem own_rdN {w : World} {base : Nat} {t : TypeId} {A : Option Addr} {n c : Nat} {l : List BN} (h : w.ownsRow base t 3 (.slice A n c) n (nodesC l)) (hl : l.length = n) (hr : ∀ x ∈ l, x.1 ≤ 9223372036854775807 ∧ x.2.1 ≤ 9223372036854775807 ∧ x.2.2 ≤ 9223372036854775807) : Rd Enc.node w A n c (l.map castN) := by
  rcases h.2 with ⟨e, hx⟩ | ⟨g, cap, cur, e, hb, hg, hnc, hcm, hcs, htake⟩
  · injection e with e1 e2 e3
    subst e1 e3
    have hl' : l = [] := by
      cases l with
      | nil => rfl
      | cons a l => simp at hl; omega
    subst hl'
    simp at hl
    subst hl
    exact Rd.nil_ _ _
  · injection e with e1 e2 e3
    subst e1 e3
    refine ⟨by rw [List.length_map, hl], hnc, by unfold maxLen at hcm; omega, fun h => (by cases h), fun _ => ⟨g, 0, rfl, fun j x hj => ?_⟩⟩
    rw [List.getElem?_map] at hj
    cases hy : l[j]? with
    | none => rw [hy] at hj; cases hj
    | some y =>
      rw [hy] at hj
      injection hj with hj
      subst hj
      obtain ⟨b1, b2, b3⟩ := hr y (List.mem_of_getElem? hy)
      obtain ⟨c1, c2, c3⟩ := nodesC_get l hy
      refine ⟨[.int .i64 (y.1 : Int), .int .i64 (y.2.1 : Int), .int .i64 (y.2.2 : Int)], ⟨[.int .i64 (y.1 : Int)], [.int .i64 (y.2.1 : Int), .int .i64 (y.2.2 : Int)], rfl, ⟨rfl, by simp only [castN]; omega, by simp only [castN]; omega⟩, ⟨[.int .i64 (y.2.1 : Int)], [.int .i64 (y.2.2 : Int)], rfl, ⟨rfl, by simp only [castN]; omega, by simp only [castN]; omega⟩, ⟨rfl, by simp only [castN]; omega, by simp only [castN]; omega⟩⟩⟩, fun i v hi => ?_⟩
      have hcell := fun k u hk => h.cells (g := g) rfl k u hk
      simp only [add_plain] at hcell
      have hsz : Enc.node.size = 3 := rfl
      rw [hsz]
      rcases i with _ | _ | _ | i
      · simp at hi; subst hi
        simpa using hcell _ _ c1
      · simp at hi; subst hi
        simpa using hcell _ _ c2
      · simp at hi; subst hi
        simpa using hcell _ _ c3
      · simp at hi

/-- a diagram was returned, and all that was there is as it was -/
def GivesD (w : World) (L : Int) (ns : List (Int × Int × Int)) (r : Int) (e : Ending) (w' : World) : Prop :=
  (∃ A n c, e = .returned (.agg #[.int .i64 L, .slice A n c, .int .i64 r]) ∧ Rd Enc.node w' A n c ns ∧ ∀ b off, A = some ⟨b, off, none⟩ → w.heap.size ≤ b) ∧ Below w.heap.size w w'

theorem WriteStart {w w1 w2 : World} {L g : Nat} {u : World}
    (hu : u = ((w.alloc (.cells #[.pointer (some ⟨g, 0, none⟩)] 74)).alloc (.cells #[.int .i64 0, .slice none 0 0, .int .i64 0] 158)).alloc (.cells #[.int .i64 L, .slice none 0 0, .int .i64 0] 158))
    (hk2 : Known w2 u.heap.size 2 (putM (putM (fun _ => none) 0 0) 1 1)) (hg1 : (u.alloc (.map #[] 0)).grownBy w1 (some u.heap.size)) (hg2 : w1.grownBy w2 (some u.heap.size))
    (hs1 : w1.heap.size = (u.alloc (.map #[] 0)).heap.size) (hs2 : w2.heap.size = w1.heap.size) :
    ∀ V, V = (w2.alloc (.cells #[.map (some (w.heap.size + 1 + 1 + 1))] 218)).alloc (.cells #[.func (Fn.func 138) #[] #[.pointer (some ⟨w2.heap.size, 0, none⟩), .pointer (some ⟨w.heap.size, 0, none⟩), .pointer (some ⟨w2.heap.size + 1, 0, none⟩), .pointer (some ⟨w.heap.size + 1 + 1, 0, none⟩)]] 146) →
      WAt w L g w2.heap.size w.heap.size (w2.heap.size + 1) (w.heap.size + 1 + 1) (w.heap.size + 1 + 1 + 1) V start [] 2 ∧ Blk 158 V (w.heap.size + 1) [.int .i64 0, .slice none 0 0, .int .i64 0] ∧
      V.cell? ⟨w2.heap.size + 1, 0, none⟩ = some (.func (Fn.func 138) #[] #[.pointer (some ⟨w2.heap.size, 0, none⟩), .pointer (some ⟨w.heap.size, 0, none⟩), .pointer (some ⟨w2.heap.size + 1, 0, none⟩), .pointer (some ⟨w.heap.size + 1 + 1, 0, none⟩)]) ∧ w.heap.size + 1 + 1 + 1 < w2.heap.size ∧ Free V (w.heap.size + 1 + 1) (w.heap.size + 1 + 1 + 1) (w.heap.size + 1 + 1 + 1) (w.heap.size + 1) := by
  have hus : u.heap.size = w.heap.size + 1 + 1 + 1 := by rw [hu]; simp
  have hws : w2.heap.size = w.heap.size + 1 + 1 + 1 + 1 := by rw [hs2, hs1]; simp [hus]
  intro V hV
  have h1 : Below w.heap.size w w2 := by
    have hu' : Below w.heap.size w u := by rw [hu]; exact below_three _ _ _ _
    have h2 := hu'.alloc (by omega) (.map #[] 0)
    exact below_only (below_only h2 hg1 (by simp; omega) (by omega)) hg2 (by rw [hs1]; simp; omega) (by omega)
  have h4 : Below w.heap.size w V := by
    rw [hV]
    exact (h1.alloc (by omega) _).alloc (by simp; omega) _
  have old : ∀ {t : TypeId} {b : Nat} {cs : List Value}, Blk t u b cs → Blk t V b cs := by
    intro t b cs hb
    have hlt := hb.lt
    have := ((hb.alloc (.map #[] 0)).grown hg1 (fun e => by injection e with e; omega)).grown hg2 (fun e => by injection e with e; omega)
    rw [hV]
    exact (this.alloc _).alloc _
  have b0 : Blk 74 u w.heap.size [.pointer (some ⟨g, 0, none⟩)] := by
    rw [hu]
    exact ((Blk.new _ _ _).alloc _).alloc _
  have b1 : Blk 158 u (w.heap.size + 1) [.int .i64 0, .slice none 0 0, .int .i64 0] := by
    rw [hu]
    have := Blk.new (w.alloc (.cells #[.pointer (some ⟨g, 0, none⟩)] 74)) 158 [.int .i64 0, .slice none 0 0, .int .i64 0]
    simp at this
    exact this.alloc _
  have b2 : Blk 158 u (w.heap.size + 1 + 1) [.int .i64 L, .slice none 0 0, .int .i64 0] := by
    rw [hu]
    have := Blk.new ((w.alloc (.cells #[.pointer (some ⟨g, 0, none⟩)] 74)).alloc (.cells #[.int .i64 0, .slice none 0 0, .int .i64 0] 158)) 158 [.int .i64 L, .slice none 0 0, .int .i64 0]
    simpa using this
  have bk : Blk 218 V w2.heap.size [.map (some (w.heap.size + 1 + 1 + 1))] := by
    rw [hV]
    exact (Blk.new w2 _ [.map (some (w.heap.size + 1 + 1 + 1))]).alloc _
  have bw : Blk 146 V (w2.heap.size + 1) [.func (Fn.func 138) #[] #[.pointer (some ⟨w2.heap.size, 0, none⟩), .pointer (some ⟨w.heap.size, 0, none⟩), .pointer (some ⟨w2.heap.size + 1, 0, none⟩), .pointer (some ⟨w.heap.size + 1 + 1, 0, none⟩)]] := by
    have := Blk.new (w2.alloc (.cells #[.map (some (w.heap.size + 1 + 1 + 1))] 218)) 146 [.func (Fn.func 138) #[] #[.pointer (some ⟨w2.heap.size, 0, none⟩), .pointer (some ⟨w.heap.size, 0, none⟩), .pointer (some ⟨w2.heap.size + 1, 0, none⟩), .pointer (some ⟨w.heap.size + 1 + 1, 0, none⟩)]]
    rw [hV]
    simpa using this
  have hmap : Known V u.heap.size 2 (putM (putM (fun _ => none) 0 0) 1 1) := by
    rw [hV]
    exact (hk2.alloc _).alloc _
  have hM : (putM (putM (fun _ => none) 0 0) 1 1 : Nat → Option Int) = lookF start := by
    funext k
    unfold putM lookF start
    by_cases h0 : k = 0
    · subst h0; rfl
    · by_cases h1 : k = 1
      · subst h1; rfl
      · rw [look_other _ _ (fun e => h0 e.symm), look_other _ _ (fun e => h1 e.symm), if_neg h1, if_neg h0]
        rfl
  rw [hM, hus] at hmap
  obtain ⟨es, cl, hmb⟩ := hmap.isMap
  refine ⟨⟨h4, bk, old b0, bw, ⟨none, 0, old b2, ⟨by simp [nodesC], .inl ⟨rfl, rfl⟩⟩⟩, ⟨2, Nat.le_refl _, hmap⟩, ⟨by omega, by omega, by omega, by omega, by omega⟩, by simp, fun k m hk => ?_⟩, old b1, bw.cell 0, by omega, ?_⟩
  · unfold start at hk
    by_cases h0 : 0 = k
    · rw [← h0, look_same] at hk
      injection hk with hk
      omega
    · rw [look_other _ _ h0] at hk
      by_cases h1 : 1 = k
      · rw [← h1, look_same] at hk
        injection hk with hk
        omega
      · rw [look_other _ _ h1] at hk
        cases hk
  · refine ⟨(old b1).lt, by omega, by omega, by omega, fun e => ?_⟩
    rw [rowOf, (old b2).cell 1] at e
    simp [Value.ownBlock] at e

set_option maxHeartbeats 1600000 in
theorem Write_ct {L B g bf bp : Nat} {w : World} {ns : List BN} {C a : Nat} (h : St L B g bf bp w ns C) (ha : a < ns.length + 2) :
    Calls Tryz.prog 100 #[.pointer (some ⟨g, 0, none⟩), .int .i64 a] w (GivesD w L ((canon ns a).1.map castN) (canon ns a).2) := by
  have hm1 := fun w => run_makeMap (P := Tryz.prog) 218 w
  obtain ⟨_, hok, np, M, _, h4, _⟩ := h
  have hlow := h4.low
  obtain ⟨A, c, hc0, hc1, hc2, hc3, hfz, hown⟩ := h4.cells
  have hlt := h4.lt
  have Hst := hide h4
  have Hok := hide hok
  clear h4 hown hfz hc1 hc2 hc3 hok
  obtain ⟨u, hu⟩ : ∃ u, u = ((w.alloc (.cells #[.pointer (some ⟨g, 0, none⟩)] 74)).alloc (.cells #[.int .i64 0, .slice none 0 0, .int .i64 0] 158)).alloc (.cells #[.int .i64 L, .slice none 0 0, .int .i64 0] 158) := ⟨_, rfl⟩
  have hus : u.heap.size = w.heap.size + 1 + 1 + 1 := by rw [hu]; simp
  obtain ⟨w1, hrun1, hk1, hg1, hs1⟩ := (MapAt.made u Tryz.prog 3 3 encI).put encI_inj lawI Tryz.underlying218 Tryz.underlying3 (by omega) (keyI (k := 0) (by omega)) 0 (by omega)
  obtain ⟨w2, hrun2, hk2, hg2, hs2⟩ := hk1.put encI_inj lawI Tryz.underlying218 Tryz.underlying3 (by omega) (keyI (k := 1) (by omega)) 1 (by omega)
  have hr1 : (Instr.mapUpdate 218 (.map (some (w.heap.size + 1 + 1 + 1))) (.int .i64 0) (.int .i64 0)).run Tryz.prog (u.alloc (.map #[] 0)) = .ok () w1 := by
    rw [← hus]
    exact hrun1
  have hr2 : (Instr.mapUpdate 218 (.map (some (w.heap.size + 1 + 1 + 1))) (.int .i64 1) (.int .i64 1)).run Tryz.prog w1 = .ok () w2 := by
    rw [← hus]
    exact hrun2
  have hz3 := WriteStart (L := L) (g := g) hu hk2 hg1 hg2 hs1 hs2
  have Hz := hide hz3
  rw [hu] at hr1
  clear hrun1 hrun2
  clear hu hk1 hk2 hg1 hg2 hus hs1 hs2 hz3
  go_enter Tryz.func100, Tryz.ntmps100
  go_wp2_with fail
  obtain ⟨V, hV⟩ : ∃ V, V = (w2.alloc (.cells #[.map (some (w.heap.size + 1 + 1 + 1))] 218)).alloc (.cells #[.func (Fn.func 138) #[] #[.pointer (some ⟨w2.heap.size, 0, none⟩), .pointer (some ⟨w.heap.size, 0, none⟩), .pointer (some ⟨w2.heap.size + 1, 0, none⟩), .pointer (some ⟨w.heap.size + 1 + 1, 0, none⟩)]] 146) := ⟨_, rfl⟩
  rw [← hV]
  obtain ⟨hw, hres, hcw, hsz, hfr⟩ := Hz.out V hV
  clear hV Hz
  refine (WriteWalk_ct Hst.out Hok.out L (a + 1) a V start [] 2 (by omega) (by omega) ha rfl rfl (Nat.le_trans (Nat.add_le_add_left (Nat.pow_le_pow_right (by omega) hlow) 2) (by omega)) hw).mono ?_
  have hcn : canon ns a = ((wr ns (a + 1) a start []).2.2, (wr ns (a + 1) a start []).1) := rfl
  generalize wr ns (a + 1) a start [] = r at hcn ⊢
  obtain ⟨m, at1, out⟩ := r
  rintro e w3 ⟨rfl, hw3, hk3⟩
  obtain ⟨Ao, co, hbo, hown⟩ := hw3.bo
  have hres3 := hk3.blk hres hfr
  have h3b := hw3.below
  have hol := hbo.lt
  have hrl := hres3.lt
  have ho0 := hbo.cell 0
  have ho1 := hbo.cell 1
  have ho2 := hbo.cell 2
  have hof := hbo.frozen 2
  have hr0 := hres3.cell 0
  have hr1' := hres3.cell 1
  have hr2' := hres3.cell 2
  have hrf0 := hres3.frozen 0
  have hrf1 := hres3.frozen 1
  have hrf2 := hres3.frozen 2
  simp at ho0 ho1 ho2 hr0 hr1' hr2'
  have H3b := hide h3b
  have Hown := hide hown
  have Hbo := hide hbo
  have Hcn := hide hcn
  have Hres := hide hres3
  have hw3few := hide hw3.few
  clear h3b hown hbo hres3 hk3 hw3 hw hres hfr hcw hcn
  simp only at *
  go_wp2
  refine bodyPost_ret (v := .agg #[.int .i64 L, .slice Ao out.length co, .int .i64 m]) (by simp [results, Tryz.results100, go_sem, hr0, hr1', hr2']) rfl ?_
  have hok := (canon_ok Hok.out ha).1
  have hkl := (canon_ok Hok.out ha).2.1
  rw [Hcn.out] at hok hkl ⊢
  simp only at hok hkl ⊢
  have hfew := hw3few.out
  have hpl : 2 ^ L ≤ 16777216 := Nat.le_trans (Nat.pow_le_pow_right (by omega) hlow) (by decide)
  have hne : ∀ r, (Value.slice Ao out.length co).ownBlock = some r → r ≠ w.heap.size + 1 + 1 ∧ r ≠ w.heap.size + 1 := by
    intro r hr
    obtain ⟨_, cs', mm, hc⟩ := own_block Hown.out hr
    have e1 := Hbo.out
    have e2 := Hres.out
    unfold Blk at e1 e2
    refine ⟨fun e => ?_, fun e => ?_⟩
    · rw [e, e1] at hc
      injection hc with hc
      injection hc with _ hc _
      exact absurd hc (by decide)
    · rw [e, e2] at hc
      injection hc with hc
      injection hc with _ hc _
      exact absurd hc (by decide)
  have ho := own_other Hown.out (only_set w3 (w.heap.size + 1 + 1) 2 (.int .i64 m)) (fun r hr e => (hne r hr).1 (Option.some.inj e))
  have ho := own_other ho (only_set _ (w.heap.size + 1) 0 (.int .i64 L)) (fun r hr e => (hne r hr).2 (Option.some.inj e))
  have ho := own_other ho (only_set _ (w.heap.size + 1) 1 (.slice Ao out.length co)) (fun r hr e => (hne r hr).2 (Option.some.inj e))
  have ho := own_other ho (only_set _ (w.heap.size + 1) 2 (.int .i64 m)) (fun r hr e => (hne r hr).2 (Option.some.inj e))
  refine ⟨⟨Ao, out.length, co, rfl, own_rdN ho rfl fun x hx => ?_, fun b off e => own_base ho (by rw [e]; rfl)⟩, (((H3b.out.setCell (by simp; omega) _).setCell (by simp) _).setCell (by simp) _).setCell (by simp) _⟩
  obtain ⟨t, ht, he⟩ := List.mem_iff_getElem.1 hx
  obtain ⟨xv, xl, xh⟩ := x
  have hg : out[t]? = some (xv, xl, xh) := by rw [← he]; exact List.getElem?_eq_getElem ht
  obtain ⟨y1, y2, y3, _⟩ := hok.node _ _ _ _ hg
  simp only
  omega
end Go.Proofs.YtmjiiddncbhgpaaGreat
