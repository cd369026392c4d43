/- Dead ends: the law that a proof excludes plans and covers all reachable states. No condition., part 36: Co1 Co2. -/
import Derived.Test.YtmjiiddncbhgpaaGreatC1
import Derived.Test.YtmjiiddncbhgpaaGreatC2
import Derived.Test.YtmjiiddncbhgpaaGreatC3
import Derived.Test.YtmjiiddncbhgpaaGreatC4
import Derived.Test.YtmjiiddncbhgpaaGreatC5
import Derived.Test.YtmjiiddncbhgpaaGreatC6
import Derived.Test.YtmjiiddncbhgpaaGreatC7
import Derived.Test.YtmjiiddncbhgpaaGreatC8
import Derived.Test.YtmjiiddncbhgpaaGreatC27
import Derived.Test.YtmjiiddncbhgpaaGreatC32
import Derived.Test.YtmjiiddncbhgpaaGreatC33
import Derived.Test.YtmjiiddncbhgpaaGreatC34
import Derived.Test.YtmjiiddncbhgpaaGreatC35
import Derived.BigQuiet
import Derived.BigRegion
import Derived.Deep.AppendLies
import Derived.Deep.DeepCutAuto
import Derived.Deep.Draws
import Derived.Deep.Fields
import Derived.Deep.LoopGhost
import Derived.Deep.QuietTactic
import Derived.Deep.RegionHeld3
import Derived.Deep.Slices
import Derived.DeepKeys4
import Derived.Laws.AppendOwnNone
import Derived.Laws.BitsAllLaws
import Derived.Laws.EntriesVeiled
import Derived.Laws.OwnMore
import Derived.Lib.Hide
import Derived.Lib.SlicesCompact
import Derived.LoopIn
import Derived.LoopNIn
import Derived.Maps.AppendAt
import Derived.Maps.OwnIn
import Derived.Maps.OwnOps
import Derived.Maps.OwnSet
import Derived.OwnWalkIn
import Derived.RangeFuncBound
import Derived.RangeFuncCalls
import Derived.RangeFuncLeaves
import Derived.RangeFuncNested
import Derived.Shelf.Abstract
import Derived.Shelf.RegionOpen
import Derived.StillTailTactics
import Derived.TacticsInMore
import Derived.Test.YtmjiiddncbhgpaaGreatProg
import Derived.WalkKit
namespace Go.Proofs.YtmjiiddncbhgpaaGreat
set_option linter.unusedVariables false
set_option linter.unusedSimpArgs false
open Go.RowKit Go.Maps
def arcCells (a : Nat × Int) : List Value := [.int .u32 a.1, .int .i64 a.2]
def ArcOk (a : Nat × Int) : Prop := a.1 < 4294967296 ∧ 0 ≤ a.2 ∧ a.2 ≤ 100
def Enc.arcB : Enc (Nat × Int) where
  size := 2
  ok := fun w vs a => vs = arcCells a ∧ ArcOk a
  len := fun h => by rw [h.1]; rfl
  keep := fun h _ => h
theorem firm_arc {M : Nat → Prop} {w : World} {a : Nat × Int} (h : ArcOk a) : Firm Enc.arcB M w (arcCells a) a := fun _ _ => ⟨rfl, h⟩
theorem Rd.arcB {w : World} {A : Option Addr} {n c k : Nat} {l : List (Nat × Int)} (h : Rd Enc.arcB w A n c l) (hk : k < n) :
    ∃ b off a, A = some ⟨b, off, none⟩ ∧ l[k]? = some a ∧ ArcOk a ∧ w.cell? ⟨b, off + k * 2, none⟩ = some (.int .u32 a.1) ∧ w.cell? ⟨b, off + k * 2 + 1, none⟩ = some (.int .i64 a.2) := by
  obtain ⟨b, off, a, vs, e, hm, ⟨hvs, h1⟩, hv⟩ := h.get hk
  subst hvs
  exact ⟨b, off, a, e, hm, h1, hv 0 _ rfl, hv 1 _ rfl⟩
theorem arcInfo : (Tryz.prog.info? 196).map (fun i => (i.zero, i.size, i.bytes)) = some (some (.agg #[.int .u32 0, .int .i64 0]), 2, 16) := by kernel_rfl
/-- a row's header -/
structure RowH where
  A : Option Addr
  n : Nat
  c : Nat
def RowH.v (r : RowH) : Value := .slice r.A r.n r.c
def RowH.nil : RowH := ⟨none, 0, 0⟩
def updR {α : Type} (f : Nat → α) (t : Nat) (v : α) : Nat → α := fun x => if x = t then v else f x
theorem updR_same {α : Type} (f : Nat → α) (t : Nat) (v : α) : updR f t v t = v := by simp [updR]
theorem updR_other {α : Type} (f : Nat → α) {t x : Nat} (v : α) (h : x ≠ t) : updR f t v x = f x := by simp [updR, h]
/-- block bb is a map of rows of arcs -/
structure BackS (B : Nat) (w : World) (bb cnt : Nat) (rows : Nat → Option RowH) (bk : Nat → List (Nat × Int)) : Prop where
  map : MapV Tryz.prog 78 encW w bb cnt (fun t => (rows t).map RowH.v)
  none : ∀ t, rows t = none → bk t = []
  row : ∀ t r, rows t = some r → ∃ vs, OwnE Enc.arcB 196 B (fun _ => True) w r.A r.n r.c vs (bk t)
  apart : ∀ t t' r r' g, rows t = some r → rows t' = some r' → t ≠ t' → blkA r.A = some g → blkA r'.A ≠ some g
def BackM (bb : Nat) (rows : Nat → Option RowH) (b : Nat) : Prop := b = bb ∨ ∃ t r, rows t = some r ∧ blkA r.A = some b
section
variable {B bb cnt : Nat} {w w' : World} {rows : Nat → Option RowH} {bk : Nat → List (Nat × Int)}
theorem BackS.chg {M : Nat → Prop} (h : BackS B w bb cnt rows bk) (hc : Chg M w w') (hM : ∀ b, BackM bb rows b → ¬ M b) : BackS B w' bb cnt rows bk :=
  ⟨h.map.chg hc (hM _ (.inl rfl)), h.none, fun t r hr => by
    obtain ⟨vs, ho⟩ := h.row t r hr
    exact ⟨vs, (ho.chg hc (fun _ _ => trivial) (fun g hg => hM g (.inr ⟨t, r, hr, hg⟩)))⟩, h.apart⟩
theorem BackS.keep (h : BackS B w bb cnt rows bk) (hb : Below w.heap.size w w') : BackS B w' bb cnt rows bk := h.chg (M := fun _ => False) (Chg.of_below hb _) (fun _ _ e => e)
theorem own_cells {α : Type} {E : Enc α} {t : TypeId} {n c : Nat} {M : Nat → Prop} {A : Option Addr} {vs : List Value} {xs : List α} (h : OwnE E t B M w A n c vs xs) {g : Nat} (hg : blkA A = some g) : ∃ ds e m, w.heap[g]? = some (.cells ds e m) := by
  rcases h.own.2 with ⟨e, _⟩ | ⟨r, cap, cur, e, hr, hc, rest⟩
  · injection e with e1 e2 e3
    subst e1
    cases hg
  · injection e with e1 e2 e3
    subst e1
    obtain rfl : r = g := by simpa [blkA] using hg
    exact ⟨_, _, _, hc⟩
theorem BackS.nbb (h : BackS B w bb cnt rows bk) {t : Nat} {r : RowH} (hr : rows t = some r) : blkA r.A ≠ some bb := fun e => by
  obtain ⟨vs, ho⟩ := h.row t r hr
  obtain ⟨ds, e1, m, h1⟩ := own_cells ho e
  obtain ⟨es, clock, h2⟩ := h.map.isMap
  rw [h2] at h1
  cases h1
/-- the row at a key, the empty one if there is none -/
def rowAt (rows : Nat → Option RowH) (t : Nat) : RowH := (rows t).getD RowH.nil
theorem BackS.at_ (h : BackS B w bb cnt rows bk) (t : Nat) : ∃ vs, OwnE Enc.arcB 196 B (fun _ => True) w (rowAt rows t).A (rowAt rows t).n (rowAt rows t).c vs (bk t) := by
  unfold rowAt
  cases hr : rows t with
  | none => rw [h.none t hr]; exact ⟨_, OwnE.nil _ _ _ _ _⟩
  | some r => exact h.row t r hr
theorem getD_v (rows : Nat → Option RowH) (t : Nat) : ((rows t).map RowH.v).getD (.slice none 0 0) = (rowAt rows t).v := by
  unfold rowAt
  cases rows t <;> rfl
set_option maxRecDepth 100000 in
/-- one arc more: the row has grown, then the map takes it -/
theorem BackS.push {w2 : World} (h : BackS B w bb cnt rows bk) (t : Nat) {y : Nat × Int} {O : Option Addr} {oc : Nat} {vs : List Value} (hcnt : cnt < 1000000000000) (ht32 : t < 4294967296)
    (hown : OwnE Enc.arcB 196 B (fun _ => True) w2 O ((rowAt rows t).n + 1) oc vs (bk t ++ [y])) (hch : Chg (fun b => blkA (rowAt rows t).A = some b) w w2) (hat : blkA O = blkA (rowAt rows t).A ∨ ∃ r, blkA O = some r ∧ w.heap.size ≤ r) :
    ∃ w3, (Instr.mapUpdate 185 (.map (some bb)) (.int .u32 t) (.slice O ((rowAt rows t).n + 1) oc)).run Tryz.prog w2 = .ok () w3 ∧
      (∃ cnt', cnt' ≤ cnt + 1 ∧ BackS B w3 bb cnt' (updR rows t (some ⟨O, (rowAt rows t).n + 1, oc⟩)) (updR bk t (bk t ++ [y]))) ∧ Chg (BackM bb rows) w w3 ∧ (∀ b, BackM bb (updR rows t (some ⟨O, (rowAt rows t).n + 1, oc⟩)) b → BackM bb rows b ∨ w.heap.size ≤ b) ∧ w2.grownBy w3 (some bb) := by
  have hA : ∀ g, blkA (rowAt rows t).A = some g → ∃ r, rows t = some r ∧ blkA r.A = some g := fun g hg => by
    unfold rowAt at hg
    cases hr : rows t with
    | none => rw [hr] at hg; cases hg
    | some r => rw [hr] at hg; exact ⟨r, rfl, hg⟩
  have hbbn : ¬ blkA (rowAt rows t).A = some bb := fun e => by
    obtain ⟨r, hr, e2⟩ := hA bb e
    exact h.nbb hr e2
  have hmap2 := h.map.chg hch hbbn
  obtain ⟨w3, hput, hmap3, hg3, hz3⟩ := hmap2.put encW_inj (int_keyed Tryz.underlying78) (T := 185) (E := 194) Tryz.underlying185 hcnt (key := t) (keyW Tryz.underlying78 ht32) (.slice O ((rowAt rows t).n + 1) oc)
  have hch3 : Chg (fun b => b = bb) w2 w3 := (Chg.of_grown hg3).mono fun b e => (by injection e with e; exact e.symm)
  have hbbl := h.map.lt
  have hOb : ∀ g, blkA O = some g → g ≠ bb := fun g hg => by
    rcases hat with e | ⟨r, e, hle⟩
    · rw [e] at hg
      rintro rfl
      exact hbbn hg
    · rw [e] at hg
      injection hg with hg
      omega
  have hrowlt : ∀ t' r' g, rows t' = some r' → blkA r'.A = some g → g < w.heap.size := fun t' r' g hr' hg => by
    obtain ⟨vs', ho'⟩ := h.row t' r' hr'
    exact (ho'.base hg).2
  refine ⟨w3, hput, ⟨_, ?_, ⟨hmap3.ext fun x => ?_, fun x hx => ?_, fun x r hr => ?_, fun x x' r r' g hr hr' hne hg => ?_⟩⟩, ?_, fun b hb => ?_, hg3⟩
  · split <;> omega
  · unfold putV updR
    split <;> rfl
  · unfold updR at hx ⊢
    split at hx
    · cases hx
    · rename_i e
      rw [if_neg e]
      exact h.none x hx
  · by_cases hxt : x = t
    · subst hxt
      rw [updR_same] at hr ⊢
      injection hr with hr
      subst hr
      exact ⟨vs, hown.chg hch3 (fun _ _ => trivial) (fun g hg e => hOb g hg e)⟩
    · rw [updR_other _ _ hxt] at hr ⊢
      obtain ⟨vs', ho'⟩ := h.row x r hr
      refine ⟨vs', (ho'.chg hch (fun _ _ => trivial) (fun g hg e => ?_)).chg hch3 (fun _ _ => trivial) (fun g hg e => h.nbb hr (by rw [hg, e]))⟩
      obtain ⟨r0, hr0, e2⟩ := hA g e
      exact h.apart t x r0 r g hr0 hr (fun e3 => hxt e3.symm) e2 hg
  · have fresh : ∀ g, blkA O = some g → (∃ r0, rows t = some r0 ∧ blkA r0.A = some g) ∨ w.heap.size ≤ g := fun g hg => by
      rcases hat with e | ⟨r, e, hle⟩
      · rw [e] at hg
        exact .inl (hA g hg)
      · rw [e] at hg
        injection hg with hg
        exact .inr (by omega)
    by_cases hxt : x = t
    · subst hxt
      have hx' : x' ≠ x := fun e => hne e.symm
      rw [updR_same] at hr
      rw [updR_other _ _ hx'] at hr'
      injection hr with hr
      subst hr
      intro e
      rcases fresh g hg with ⟨r0, hr0, e2⟩ | hle
      · exact h.apart x x' r0 r' g hr0 hr' hne e2 e
      · have := hrowlt x' r' g hr' e
        omega
    · rw [updR_other _ _ hxt] at hr
      by_cases hx't : x' = t
      · subst hx't
        rw [updR_same] at hr'
        injection hr' with hr'
        subst hr'
        intro e
        rcases fresh g e with ⟨r0, hr0, e2⟩ | hle
        · exact h.apart x' x r0 r g hr0 hr (fun e3 => hxt e3.symm) e2 hg
        · have := hrowlt x r g hr hg
          omega
      · rw [updR_other _ _ hx't] at hr'
        exact h.apart x x' r r' g hr hr' hne hg
  · refine (hch.mono fun b e => ?_).trans (hch3.mono fun b e => .inl e)
    obtain ⟨r0, hr0, e2⟩ := hA b e
    exact .inr ⟨t, r0, hr0, e2⟩
  · rcases hb with e | ⟨x, r, hr, e⟩
    · exact .inl (.inl e)
    · by_cases hxt : x = t
      · subst hxt
        rw [updR_same] at hr
        injection hr with hr
        subst hr
        rcases hat with e3 | ⟨r2, e3, hle⟩
        · simp only at e
          rw [e3] at e
          obtain ⟨r0, hr0, e2⟩ := hA b e
          exact .inl (.inr ⟨x, r0, hr0, e2⟩)
        · simp only at e
          rw [e3] at e
          injection e with e
          exact .inr (by omega)
      · rw [updR_other _ _ hxt] at hr
        exact .inl (.inr ⟨x, r, hr, e⟩)
end
end Go.Proofs.YtmjiiddncbhgpaaGreat
namespace Go.Proofs.YtmjiiddncbhgpaaGreat
set_option linter.unusedVariables false
set_option linter.unusedSimpArgs false
open Go.RowKit Go.Maps
theorem QueueS.lt {B n c Q mb : Nat} {w : World} {A : Option Addr} {es : List En} {tm : Int} (h : QueueS B w Q mb A n c es tm) {b : Nat} (hb : QueueM Q mb A es b) : b < w.heap.size := by
  rcases hb with rfl | rfl | e | ⟨x, hx, rfl⟩
  · exact h.blk.lt
  · exact h.map.lt
  · exact (World.ownsRow.lt h.heap.own b (by rw [own_blkA]; exact e)).2
  · obtain ⟨i, hi⟩ := List.getElem?_of_mem hx
    exact (h.heap.ent i x hi).lt
theorem BackS.lt {B bb cnt : Nat} {w : World} {rows : Nat → Option RowH} {bk : Nat → List (Nat × Int)} (h : BackS B w bb cnt rows bk) {b : Nat} (hb : BackM bb rows b) : b < w.heap.size := by
  rcases hb with rfl | ⟨t, r, hr, e⟩
  · exact h.map.lt
  · obtain ⟨vs, ho⟩ := h.row t r hr
    exact (ho.base e).2
theorem BackS.base {B bb cnt : Nat} {w : World} {rows : Nat → Option RowH} {bk : Nat → List (Nat × Int)} (h : BackS B w bb cnt rows bk) {t : Nat} {r : RowH} {b : Nat} (hr : rows t = some r) (e : blkA r.A = some b) : B ≤ b := by
  obtain ⟨vs, ho⟩ := h.row t r hr
  exact (ho.base e).1
/-- what the table of costs holds -/
def outM (D : List Nat) (f : Nat → Int) : Nat → Option Value := fun x => if x ∈ D then some (.int .i64 (f x)) else none
/-- the call's memory: the arcs back behind the box Bp, the table, the queue -/
structure CsS (w W : World) (Bp bb ob Q mb : Nat) (QA : Option Addr) (qn qc : Nat) (qes : List En) (tm : Int) (cnt : Nat) (rows : Nat → Option RowH) (bk : Nat → List (Nat × Int)) (D : List Nat) (f : Nat → Int) : Prop where
  low : Below w.heap.size w W
  box : Blk 185 W Bp [.map (some bb)]
  back : BackS w.heap.size W bb cnt rows bk
  out : MapV Tryz.prog 78 encW W ob D.length (outM D f)
  q : QueueS w.heap.size W Q mb QA qn qc qes tm
  sq : ∀ b, QueueM Q mb QA qes b → w.heap.size ≤ b ∧ b ≠ Bp ∧ b ≠ ob ∧ ¬ BackM bb rows b
  sb : ∀ b, BackM bb rows b → w.heap.size ≤ b ∧ b ≠ ob ∧ b ≠ Bp
  so : w.heap.size ≤ ob ∧ w.heap.size ≤ Bp ∧ ob ≠ Bp
section
variable {w W W' : World} {Bp bb ob Q mb : Nat} {QA : Option Addr} {qn qc : Nat} {qes : List En} {tm : Int} {cnt : Nat} {rows : Nat → Option RowH} {bk : Nat → List (Nat × Int)} {D : List Nat} {f : Nat → Int}
theorem CsS.keep (h : CsS w W Bp bb ob Q mb QA qn qc qes tm cnt rows bk D f) (hb : Below W.heap.size W W') : CsS w W' Bp bb ob Q mb QA qn qc qes tm cnt rows bk D f :=
  ⟨h.low.trans (hb.mono h.low.size), h.box.keep hb, h.back.keep hb, h.out.keep hb, h.q.keep hb, h.sq, h.sb, h.so⟩
/-- a walk's own block has turned -/
theorem CsS.turn {row : Option Nat} {B : Nat} (h : CsS w W Bp bb ob Q mb QA qn qc qes tm cnt rows bk D f) (hg : W.grownBy W' row) (hr : ∀ r, row = some r → B ≤ r ∧ ∃ o : Obj, W.heap[r]? = some o ∧ o.isCells = false) (hB : w.heap.size ≤ B) (hmB : mb < B) (hbB : bb < B) (hoB : ob < B) : CsS w W' Bp bb ob Q mb QA qn qc qes tm cnt rows bk D f := by
  have hc := Chg.of_grown hg
  refine ⟨h.low.grown hg h.low.size (fun k e => by have := (hr k e).1; omega), h.box.grown hg (turn_ne hr h.box.cells), h.back.chg hc ?_, h.out.of_block (hg.block ob h.out.lt (fun e => by have := (hr ob e.symm).1; omega)), h.q.chg hc ?_, h.sq, h.sb, h.so⟩
  · rintro b (rfl | ⟨t, r, hrr, e⟩) e2
    · have := (hr _ e2).1; omega
    · obtain ⟨vs, ho⟩ := h.back.row t r hrr
      exact turn_ne hr (own_cells ho e) e2.symm
  · rintro b (rfl | rfl | e | ⟨x, hx, rfl⟩) e2
    · exact turn_ne hr h.q.blk.cells e2.symm
    · have := (hr _ e2).1; omega
    · obtain ⟨ds, e3, m, h1⟩ : ∃ ds e m, W.heap[b]? = some (.cells ds e m) := by
        rcases h.q.heap.own.2 with ⟨e4, _⟩ | ⟨r, cap, cur, e4, _, hc4, rest⟩
        · injection e4 with e1; subst e1; cases e
        · injection e4 with e1
          subst e1
          obtain rfl : r = b := by simpa [blkA] using e
          exact ⟨_, _, _, hc4⟩
      exact turn_ne hr ⟨ds, e3, m, h1⟩ e2.symm
    · obtain ⟨i, hi⟩ := List.getElem?_of_mem hx
      exact turn_ne hr (h.q.heap.ent i x hi).cells e2.symm
/-- the table at a key -/
theorem CsS.setOut {D' : List Nat} {f' : Nat → Int} (h : CsS w W Bp bb ob Q mb QA qn qc qes tm cnt rows bk D f) (hmap : MapV Tryz.prog 78 encW W' ob D'.length (outM D' f')) (hg : W.grownBy W' (some ob)) : CsS w W' Bp bb ob Q mb QA qn qc qes tm cnt rows bk D' f' := by
  have hc : Chg (fun b => b = ob) W W' := (Chg.of_grown hg).mono fun b e => (by injection e with e; exact e.symm)
  exact ⟨h.low.trans ((hc.below (fun i e => by rw [e]; exact h.so.1) h.low.size)), hc.blk h.box (fun e => h.so.2.2 e.symm), h.back.chg hc (fun b hb => (h.sb b hb).2.1), hmap, h.q.chg hc (fun b hb => (h.sq b hb).2.2.1), h.sq, h.sb, h.so⟩
/-- the queue after a call of its own -/
theorem CsS.setQ {QA' : Option Addr} {qn' qc' : Nat} {qes' : List En} {tm' : Int} (h : CsS w W Bp bb ob Q mb QA qn qc qes tm cnt rows bk D f) (hq : QueueS w.heap.size W' Q mb QA' qn' qc' qes' tm') (hc : Chg (QueueM Q mb QA qes) W W') (hM : ∀ b, QueueM Q mb QA' qes' b → QueueM Q mb QA qes b ∨ W.heap.size ≤ b) : CsS w W' Bp bb ob Q mb QA' qn' qc' qes' tm' cnt rows bk D f := by
  have hbp := h.box.lt
  have hol := h.out.lt
  refine ⟨h.low.trans (hc.below (fun i e => (h.sq i e).1) h.low.size), hc.blk h.box (fun e => (h.sq _ e).2.1 rfl), h.back.chg hc (fun b hb e => (h.sq b e).2.2.2 hb), h.out.chg hc (fun e => (h.sq _ e).2.2.1 rfl), hq, fun b hb => ?_, h.sb, h.so⟩
  rcases hM b hb with e | e
  · exact h.sq b e
  · have := h.low.size
    exact ⟨by omega, by omega, by omega, fun e2 => by have := h.back.lt e2; omega⟩
/-- one arc more -/
theorem CsS.setB {cnt' : Nat} {rows' : Nat → Option RowH} {bk' : Nat → List (Nat × Int)} (h : CsS w W Bp bb ob Q mb QA qn qc qes tm cnt rows bk D f) (hb : BackS w.heap.size W' bb cnt' rows' bk') (hc : Chg (BackM bb rows) W W') (hM : ∀ b, BackM bb rows' b → BackM bb rows b ∨ W.heap.size ≤ b) : CsS w W' Bp bb ob Q mb QA qn qc qes tm cnt' rows' bk' D f := by
  have hbp := h.box.lt
  have hol := h.out.lt
  refine ⟨h.low.trans (hc.below (fun i e => (h.sb i e).1) h.low.size), hc.blk h.box (fun e => (h.sb _ e).2.2 rfl), hb, h.out.chg hc (fun e => (h.sb _ e).2.1 rfl), h.q.chg hc (fun b hb e => (h.sq b hb).2.2.2 e), fun b hb2 => ?_, fun b hb2 => ?_, h.so⟩
  · obtain ⟨h1, h2, h3, h4⟩ := h.sq b hb2
    refine ⟨h1, h2, h3, fun e => ?_⟩
    rcases hM b e with e | e
    · exact h4 e
    · have := h.q.lt hb2; omega
  · rcases hM b hb2 with e | e
    · exact h.sb b e
    · have := h.low.size
      exact ⟨by omega, by omega, by omega⟩
theorem outM_put (D : List Nat) (f : Nat → Int) (x : Nat) (v : Int) : ∀ k, outM (if x ∈ D then D else D ++ [x]) (updR f x v) k = putV (outM D f) x (.int .i64 v) k := by
  intro k
  unfold outM putV
  by_cases hk : k = x
  · subst hk
    rw [if_pos (by split <;> simp_all), updR_same, if_pos rfl]
  · rw [updR_other _ _ hk, if_neg hk]
    by_cases hx : x ∈ D
    · rw [if_pos hx]
    · rw [if_neg hx]
      simp [hk]
/-- the store into the table, known key or new -/
theorem CsS.store (h : CsS w W Bp bb ob Q mb QA qn qc qes tm cnt rows bk D f) {x : Nat} (hx : x < 4294967296) (hD : D.length < 1000000000000) (v : Int) :
    ∃ W', (Instr.mapUpdate 103 (.map (some ob)) (.int .u32 x) (.int .i64 v)).run Tryz.prog W = .ok () W' ∧ CsS w W' Bp bb ob Q mb QA qn qc qes tm cnt rows bk (if x ∈ D then D else D ++ [x]) (updR f x v) ∧ W.grownBy W' (some ob) ∧ W'.heap.size = W.heap.size := by
  obtain ⟨W', hput, hmap, hg, hz⟩ := h.out.put encW_inj (int_keyed Tryz.underlying78) (T := 103) (E := 3) Tryz.underlying103 hD (key := x) (keyW Tryz.underlying78 hx) (.int .i64 v)
  refine ⟨W', hput, h.setOut ?_ hg, hg, hz⟩
  have e : (if ((outM D f) x).isSome = true then D.length else D.length + 1) = (if x ∈ D then D else D ++ [x]).length := by
    unfold outM
    by_cases hx : x ∈ D <;> simp [hx]
  rw [e] at hmap
  exact hmap.ext (outM_put D f x v)
end
/-- the arcs into t from the states l -/
def bkF (ms : List Mk) (l : List Nat) (t : Nat) : List (Nat × Int) := l.flatMap fun s => (stepsW 0 ms s).filterMap fun x => if x.2.2 = t then some (s, x.2.1) else none
/-- those of one state, the first of them -/
def bkS (s : Nat) (ys : List (Nat × Int × Nat)) (t : Nat) : List (Nat × Int) := ys.filterMap fun x => if x.2.2 = t then some (s, x.2.1) else none
theorem bkF_snoc (ms : List Mk) (l : List Nat) (s t : Nat) : bkF ms (l ++ [s]) t = bkF ms l t ++ bkS s (stepsW 0 ms s) t := by
  unfold bkF bkS
  rw [List.flatMap_append]
  simp
theorem bkS_snoc (s : Nat) (ys : List (Nat × Int × Nat)) (x : Nat × Int × Nat) (t : Nat) : bkS s (ys ++ [x]) t = bkS s ys t ++ if x.2.2 = t then [(s, x.2.1)] else [] := by
  unfold bkS
  rw [List.filterMap_append]
  congr 1
  by_cases h : x.2.2 = t <;> simp [h]
theorem bkF_mem {ms : List Mk} {l : List Nat} {t s : Nat} {c : Int} : (s, c) ∈ bkF ms l t ↔ s ∈ l ∧ ∃ i, (i, c, t) ∈ stepsW 0 ms s := by
  unfold bkF
  rw [List.mem_flatMap]
  constructor
  · rintro ⟨s', hs', h⟩
    rw [List.mem_filterMap] at h
    obtain ⟨⟨i, c', t'⟩, hx, h2⟩ := h
    simp only at h2
    split at h2
    · rename_i e
      injection h2 with h2
      injection h2 with e1 e2
      subst e e1 e2
      exact ⟨hs', i, hx⟩
    · cases h2
  · rintro ⟨hs, i, hx⟩
    exact ⟨s, hs, List.mem_filterMap.2 ⟨_, hx, by simp⟩⟩
theorem stepsW_arc : ∀ (ms : List Mk) (i s t : Nat) (c : Int), (∃ k, (k, c, t) ∈ stepsW i ms s) ↔ arcW ms s t c := by
  intro ms
  induction ms with
  | nil => intro i s t c; simp [stepsW, arcW]
  | cons m ms ih =>
    intro i s t c
    unfold stepsW arcW
    have h2 := ih (i + 1) s t c
    unfold arcW at h2
    by_cases hc : canW s m = true
    · rw [if_pos hc]
      constructor
      · rintro ⟨k, hk⟩
        rcases List.mem_cons.1 hk with e | hk
        · injection e with e1 e2
          injection e2 with e2 e3
          exact ⟨m, List.mem_cons_self, hc, e3, e2⟩
        · obtain ⟨m', hm, h3⟩ := h2.1 ⟨k, hk⟩
          exact ⟨m', List.mem_cons_of_mem _ hm, h3⟩
      · rintro ⟨m', hm, h3, h4, h5⟩
        rcases List.mem_cons.1 hm with rfl | hm
        · exact ⟨i, by rw [h4, h5]; exact List.mem_cons_self⟩
        · obtain ⟨k, hk⟩ := h2.2 ⟨m', hm, h3, h4, h5⟩
          exact ⟨k, List.mem_cons_of_mem _ hk⟩
    · rw [if_neg hc]
      constructor
      · intro hk
        obtain ⟨m', hm, h3⟩ := h2.1 hk
        exact ⟨m', List.mem_cons_of_mem _ hm, h3⟩
      · rintro ⟨m', hm, h3, h4, h5⟩
        rcases List.mem_cons.1 hm with rfl | hm
        · exact absurd h3 hc
        · exact h2.2 ⟨m', hm, h3, h4, h5⟩
theorem bkS_len (s : Nat) (ys : List (Nat × Int × Nat)) (t : Nat) : (bkS s ys t).length ≤ ys.length := List.length_filterMap_le _ _
theorem bkF_len (ms : List Mk) (t : Nat) : ∀ l : List Nat, (bkF ms l t).length ≤ l.length * ms.length := by
  intro l
  induction l with
  | nil => simp [bkF]
  | cons s l ih =>
    have : (bkF ms (s :: l) t).length = (bkS s (stepsW 0 ms s) t).length + (bkF ms l t).length := by
      unfold bkF bkS
      rw [List.flatMap_cons, List.length_append]
    rw [this, List.length_cons, Nat.add_mul, Nat.one_mul]
    have h1 := bkS_len s (stepsW 0 ms s) t
    have h2 := stepsW_len ms 0 s
    omega
end Go.Proofs.YtmjiiddncbhgpaaGreat
