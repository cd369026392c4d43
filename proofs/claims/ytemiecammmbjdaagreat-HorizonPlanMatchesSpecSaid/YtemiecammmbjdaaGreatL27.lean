/- What the law asks for, part 27: Bn Bf. -/
import Derived.Test.YtemiecammmbjdaaGreatL2
import Derived.Test.YtemiecammmbjdaaGreatL3
import Derived.Test.YtemiecammmbjdaaGreatL4
import Derived.Test.YtemiecammmbjdaaGreatL6
import Derived.Test.YtemiecammmbjdaaGreatL7
import Derived.Test.YtemiecammmbjdaaGreatL19
import Derived.Test.YtemiecammmbjdaaGreatL20
import Derived.Test.YtemiecammmbjdaaGreatL21
import Derived.Test.YtemiecammmbjdaaGreatL22
import Derived.Test.YtemiecammmbjdaaGreatL23
import Derived.Test.YtemiecammmbjdaaGreatL24
import Derived.Test.YtemiecammmbjdaaGreatL25
import Derived.Test.YtemiecammmbjdaaGreatL26
import Derived.BigQuiet
import Derived.Deep.AppendLies
import Derived.Deep.DeepCutAuto
import Derived.Deep.Draws
import Derived.Deep.Fields
import Derived.Deep.LoopGhost
import Derived.Deep.QuietTactic
import Derived.Deep.RegionHeld3
import Derived.Deep.Slices
import Derived.DeepKeys4
import Derived.Ground.Names2Prog
import Derived.Ground.SlgnProg
import Derived.Ground.SlsfProg
import Derived.IntWalk
import Derived.Laws.AppendOwnNone
import Derived.Laws.BitsAllLaws
import Derived.Laws.OwnMore
import Derived.Lib.Hide
import Derived.Lib.SlicesCompact
import Derived.LoopIn
import Derived.LoopNIn
import Derived.Maps.AppendAt
import Derived.Maps.OwnIn
import Derived.Maps.OwnOps
import Derived.Maps.OwnSet
import Derived.OwnWalkIn
import Derived.RangeFuncBound
import Derived.RangeFuncCalls
import Derived.RangeFuncLeaves
import Derived.RangeFuncNested
import Derived.Shelf.Abstract
import Derived.Shelf.RegionOpen
import Derived.Shelf.Slices.Cells
import Derived.Shelf.Slices.Clone
import Derived.Shelf.Slices.CompactI
import Derived.Shelf.Slices.Empties
import Derived.Shelf.Slices.In.SortNone
import Derived.Shelf.Slices.Reverse
import Derived.Shelf.Slices.SearchI
import Derived.Shelf.Sort.Plain
import Derived.Sort.OwnSortedInts
import Derived.TacticsInMore
import Derived.Test.YtemiecammmbjdaaGreatProg
import Derived.WalkKit
namespace Go.Proofs.YtemiecammmbjdaaGreat
set_option linter.unusedVariables false
set_option linter.unusedSimpArgs false
open Go.RowKit Go.Shelf Go.Maps
/-- the boxes of the parents' map and of the line, the map, the line -/
structure BfS (w W : World) (Pb Lb pm : Nat) (A : Option Addr) (n c : Nat) (pa : Nat → Option (Nat × Nat)) (D ln : List Nat) : Prop where
  low : Below w.heap.size w W
  pbx : Blk 108 W Pb [.map (some pm)]
  lbx : Blk 63 W Lb [.slice A n c]
  row : LineW w.heap.size W A n c ln
  map : MapV Tryz.prog 69 encW W pm D.length (fun s => (pa s).map backV)
  s1 : w.heap.size ≤ Pb
  s2 : w.heap.size ≤ Lb
  s3 : w.heap.size ≤ pm
  n1 : Pb ≠ Lb
  a1 : ∀ r, blkA A = some r → r ≠ Pb ∧ r ≠ Lb
section
variable {w W W' : World} {Pb Lb pm : Nat} {A : Option Addr} {n c : Nat} {pa : Nat → Option (Nat × Nat)} {D ln : List Nat}
theorem BfS.n2 (h : BfS w W Pb Lb pm A n c pa D ln) : pm ≠ Pb := h.map.ne h.pbx
theorem BfS.n3 (h : BfS w W Pb Lb pm A n c pa D ln) : pm ≠ Lb := h.map.ne h.lbx
theorem BfS.nrow {r : Nat} (h : BfS w W Pb Lb pm A n c pa D ln) (hr : blkA A = some r) : r ≠ pm := by
  rintro rfl
  obtain ⟨es, clock, e⟩ := h.map.isMap
  obtain ⟨cs, e', m, hc⟩ := h.row.cells hr
  rw [e] at hc
  cases hc
theorem BfS.keep (h : BfS w W Pb Lb pm A n c pa D ln) (hb : Below W.heap.size W W') : BfS w W' Pb Lb pm A n c pa D ln :=
  ⟨h.low.trans (hb.mono h.low.size), h.pbx.keep hb, h.lbx.keep hb, h.row.keep hb, h.map.keep hb, h.s1, h.s2, h.s3, h.n1, h.a1⟩
/-- a turn of a block that is no cells and lies behind the map -/
theorem BfS.turn {row : Option Nat} {B : Nat} (h : BfS w W Pb Lb pm A n c pa D ln) (hg : W.grownBy W' row) (hr : ∀ r, row = some r → B ≤ r ∧ ∃ o : Obj, W.heap[r]? = some o ∧ o.isCells = false) (hB : w.heap.size ≤ B) (hm : pm < B) : BfS w W' Pb Lb pm A n c pa D ln := by
  have hc := (Chg.of_grown hg)
  exact ⟨h.low.grown hg h.low.size (fun k e => by have := (hr k e).1; omega), h.pbx.grown hg (turn_ne hr h.pbx.cells), h.lbx.grown hg (turn_ne hr h.lbx.cells), h.row.chg hc (fun r e1 e2 => turn_ne hr (h.row.cells e1) e2.symm),
    h.map.of_block (hg.block pm h.map.lt (fun e => by have := (hr pm e.symm).1; omega)), h.s1, h.s2, h.s3, h.n1, h.a1⟩
/-- the first of the line is taken: the store -/
theorem BfS.take {s m d : Nat} {A' : Option Addr} (h : BfS w W Pb Lb pm A n c pa D (s :: ln)) (ht : LineW w.heap.size W A' m d ln) (hA : ∀ r, blkA A' = some r → blkA A = some r) :
    BfS w (W.setCell ⟨Lb, 0, none⟩ (.slice A' m d)) Pb Lb pm A' m d pa D ln := by
  have hset := Chg.set W Lb 0 (.slice A' m d)
  exact ⟨h.low.trans ((Below.refl _ W).setCell (p := ⟨Lb, 0, none⟩) h.s2 _), hset.blk h.pbx (fun e => h.n1 e), h.lbx.set 0 _, ht.chg hset (fun r hr e => (h.a1 r (hA r hr)).2 e), h.map.chg hset (fun e => h.n3 e), h.s1, h.s2, h.s3, h.n1, fun r hr => h.a1 r (hA r hr)⟩
/-- a new state: the map's store, then the line grows, then its store -/
theorem BfS.new {x f op : Nat} {A' : Option Addr} {c' : Nat} {W1 W2 : World} {pa' : Nat → Option (Nat × Nat)} (h : BfS w W Pb Lb pm A n c pa D ln) (hx : pa x = none) (hpa : ∀ s, pa' s = if s = x then some (f, op) else pa s)
    (hm1 : MapV Tryz.prog 69 encW W1 pm (if ((pa x).map backV).isSome then D.length else D.length + 1) (putV (fun s => (pa s).map backV) x (backV (f, op)))) (hg1 : W.grownBy W1 (some pm))
    (hrow : LineW w.heap.size W2 A' (n + 1) c' (ln ++ [x])) (hg2 : (W1.alloc (.cells #[.int .u32 x] 69)).grownBy W2 (blkA A)) (hat : blkA A' = blkA A ∨ ∃ r, blkA A' = some r ∧ W1.heap.size < r) :
    BfS w (W2.setCell ⟨Lb, 0, none⟩ (.slice A' (n + 1) c')) Pb Lb pm A' (n + 1) c' pa' (D ++ [x]) (ln ++ [x]) ∧ Below w.heap.size W (W2.setCell ⟨Lb, 0, none⟩ (.slice A' (n + 1) c')) ∧ KeepsBut pm W (W2.setCell ⟨Lb, 0, none⟩ (.slice A' (n + 1) c')) ∧
      ∀ b, b < W.heap.size → b ≠ pm → blkA A ≠ some b → b ≠ Lb → (W2.setCell ⟨Lb, 0, none⟩ (.slice A' (n + 1) c')).heap[b]? = W.heap[b]? := by
  have hz := h.low.size
  have c1 := (Chg.of_grown hg1).mono (M' := fun b => b = pm) (fun i e => by injection e with e; exact e.symm)
  have c2 : Chg (fun b => blkA A = some b) W1 W2 := (Chg.of_below ((Below.refl W1.heap.size W1).alloc (Nat.le_refl _) (.cells #[.int .u32 x] 69)) _).trans (Chg.of_grown hg2)
  have c3 := Chg.set W2 Lb 0 (.slice A' (n + 1) c')
  have hA : ∀ r, blkA A = some r → w.heap.size ≤ r := fun r hr => (h.row.base hr).1
  have hlow : Below w.heap.size W (W2.setCell ⟨Lb, 0, none⟩ (.slice A' (n + 1) c')) :=
    (((Below.refl _ W).trans (c1.below (fun i hi => by have := h.s3; omega) hz)).trans (c2.below (fun i hi => hA i hi) (Nat.le_trans hz c1.size))).trans ((Below.refl _ W2).setCell (p := ⟨Lb, 0, none⟩) h.s2 _)
  have hlbW2 : Blk 63 W2 Lb [.slice A n c] := c2.blk (c1.blk h.lbx (fun e => h.n3 e.symm)) (fun e => (h.a1 _ e).2 rfl)
  have hlb := hlbW2.set 0 (.slice A' (n + 1) c')
  have hnew : ∀ r, blkA A' = some r → r ≠ Pb ∧ r ≠ Lb := fun r hr => by
    rcases hat with e | ⟨r2, e, hr2⟩
    · exact h.a1 r (by rw [← e]; exact hr)
    · rw [e] at hr
      injection hr with hr
      have l1 := h.pbx.lt
      have l2 := h.lbx.lt
      have l3 := c1.size
      exact ⟨by omega, by omega⟩
  rw [hx] at hm1
  refine ⟨⟨h.low.trans hlow, c3.blk (c2.blk (c1.blk h.pbx (fun e => h.n2 e.symm)) (fun e => (h.a1 _ e).1 rfl)) (fun e => h.n1 e), hlb, hrow.chg c3 (fun r hr e => (hnew r hr).2 e), ?_, h.s1, h.s2, h.s3, h.n1, hnew⟩, hlow, ?_, ?_⟩
  · have hm2 := (hm1.chg c2 (fun e => h.nrow e rfl)).chg c3 (fun e => h.n3 e)
    rw [List.length_append, List.length_singleton]
    refine MapV.ext (M := putV (fun s => (pa s).map backV) x (backV (f, op))) (by simpa using hm2) fun k => ?_
    unfold putV
    rw [hpa]
    by_cases hk : k = x
    · subst hk; simp
    · simp only [if_neg hk]
  · refine ((KeepsBut.map hg1).trans (KeepsBut.of (KeepsOthers.alloc _ _) _)).trans ((KeepsBut.row hg2 (fun r hr => ?_) _).trans (KeepsBut.of (KeepsOthers.setCell _ _ _) _))
    obtain ⟨cs, e, m, hc⟩ := h.row.cells hr
    have hl := (h.row.base hr).2
    refine ⟨cs, e, m, ?_⟩
    rw [Below.heap_alloc _ _ _ (Nat.lt_of_lt_of_le hl c1.size), c1.block r hl (h.nrow hr)]
    exact hc
  · intro b hb h1 h2 h3
    rw [c3.block b (by have := c1.size; have := c2.size; omega) h3, c2.block b (by have := c1.size; omega) h2, c1.block b hb h1]
end
/-- what the search gives -/
def FirstP (w : World) (ms : List Mk) (s0 gl : Nat) (e : Ending) (w' : World) : Prop :=
  Below w.heap.size w w' ∧ ((∃ (O : Option Addr) (oc : Nat) (l : List Nat), e = .returned (.tuple #[.slice O l.length oc, .bool true]) ∧ FewestOf ms s0 (goalW gl) l ∧ l.length ≤ 1000000000 ∧ w'.ownsRow w.heap.size 3 1 (.slice O l.length oc) l.length (opsV l)) ∨
    (e = .returned (.tuple #[.slice none 0 0, .bool false]) ∧ NoWay ms s0 (goalW gl)))
end Go.Proofs.YtemiecammmbjdaaGreat
namespace Go.Proofs.YtemiecammmbjdaaGreat
set_option linter.unusedVariables false
set_option linter.unusedSimpArgs false
open Go.RowKit Go.Shelf Go.Maps
attribute [local go_sem] Oper.semAt_some
theorem reach_wordF {ms : List Mk} {s0 s : Nat} (hm : ∀ m ∈ ms, MkOk m) (h0 : s0 < 4294967296) (h : Reach (stepW ms) s0 s) : s < 4294967296 := by
  induction h with
  | start => exact h0
  | step _ hs ih =>
    obtain ⟨m, hmm, _, rfl⟩ := hs
    exact goW_lt ih (hm m hmm)
theorem own_lowF {w : World} {B B' : Nat} {e : TypeId} {size n : Nat} {v : Value} {xs : List Value} (h : w.ownsRow B e size v n xs) (hB : B' ≤ B) : w.ownsRow B' e size v n xs := by
  refine ⟨h.1, ?_⟩
  rcases h.2 with h3 | ⟨g, cap, cur, e1, hg, rest⟩
  · exact .inl h3
  · exact .inr ⟨g, cap, cur, e1, Nat.le_trans hB hg, rest⟩
/-- what holds at each round of the search -/
def BfL (w : World) (g : Nat) (ms : List Mk) (s0 gl : Nat) (L : List Nat) (Pb Lb pm : Nat) (c13 c14 c15 c16 c17 c18 c19 c20 c21 : Value) (k : Nat) (a : Act) (wr : World) : Prop :=
  ∃ (A : Option Addr) (n c : Nat) (pr : Nat → Option Int) (pa : Nat → Option (Nat × Nat)) (D ln : List Nat) (p : Int) (Ds : List Nat) (u9 u22 u23 u24 u25 u26 u27 u28 u29 u30 u31 u32 u33 u34 u35 u37 u38 u39 : Value), k = 2 * (2000 - D.length) + n ∧
    a = { tmps := #[.iface 62 (.pointer (some ⟨g, 0, none⟩)), .func (.func 30) #[.pointer (some ⟨g, 0, none⟩)] #[], undef, undef, .slice none 0 0, .bool false, .int .u32 s0, .pointer (some ⟨Pb, 0, none⟩), .pointer (some ⟨Lb, 0, none⟩), u9, undef, undef, undef, c13, c14, c15, c16, c17, c18, c19, c20, c21, u22, u23, u24, u25, u26, u27, u28, u29, u30, u31, u32, u33, u34, u35, undef, u37, u38, u39, undef, undef, undef, undef, undef, undef, undef, undef, undef, undef, undef, undef, undef, undef, undef, undef, undef, undef, undef, undef, undef, undef], defers := Ds.map markD } ∧
    BfS w wr Pb Lb pm A n c pa D ln ∧ AsI (zc ms) s0 (goalW gl) (fun _ => 0) L D pr pa (keyL pr ln) 0 (fun _ => False) ∧ LnI pr ln p ∧ (∀ D ∈ Ds, w.heap.size ≤ D ∧ wr.heap[D]? = some (.deferred (some []))) ∧ Ds.Nodup
/-- what holds between two steps of a taken state -/
def BfJ (w : World) (ms : List Mk) (s0 gl : Nat) (L : List Nat) (Pb Lb pm s Sb Bs BL M0 : Nat) (q : Int) (Ds : List Nat) (pre : List (Stp ms s)) (W : World) : Prop :=
  ∃ (A : Option Addr) (n c : Nat) (pr : Nat → Option Int) (pa : Nat → Option (Nat × Nat)) (D ln : List Nat), BfS w W Pb Lb pm A n c pa D ln ∧
    AsI (zc ms) s0 (goalW gl) (fun _ => 0) L D pr pa (keyL pr ln) s (fun x => x ∉ pre.map (fun y => (y.1.1, (0 : Int), y.1.2.2))) ∧ LnI pr ln q ∧ pr s = some q ∧ keyL pr ln s = none ∧ 2 * (2000 - D.length) + n + 1 ≤ M0 ∧
    Blk 69 W Sb [.int .u32 s] ∧ Blk 69 W Bs [.int .u32 s] ∧ (∀ D ∈ Ds, D < BL ∧ W.heap[D]? = some (.deferred (some []))) ∧ pm < BL ∧ w.heap.size ≤ BL ∧ (∀ r, blkA A = some r → r ≠ Sb ∧ r ≠ Bs) ∧ Sb ≠ Lb ∧ Bs ≠ Lb ∧ n ≤ 2000
section
variable {w W W' : World} {ms : List Mk} {s0 gl : Nat} {L : List Nat} {Pb Lb pm s Sb Bs BL M0 : Nat} {q : Int} {Ds : List Nat}
theorem BfJ.own : OwnFrom BL (BfJ w ms s0 gl L Pb Lb pm s Sb Bs BL M0 q Ds) := by
  rintro pre X Y row ⟨A, n, c, pr, pa, D, ln, h1, h2, h3, h4, h5, h6, h7, h8, h9, h10, h11, h12⟩ hg hr
  exact ⟨A, n, c, pr, pa, D, ln, h1.turn hg hr h11 h10, h2, h3, h4, h5, h6, h7.grown hg (turn_ne hr h7.cells), h8.grown hg (turn_ne hr h8.cells), fun D hD => ⟨(h9 D hD).1, (hg.block D (Array.getElem?_eq_some_iff.1 (h9 D hD).2).1 (fun e => by have := (hr D e.symm).1; have := (h9 D hD).1; omega)).trans (h9 D hD).2⟩, h10, h11, h12⟩
theorem BfJ.keep {pre : List (Stp ms s)} (h : BfJ w ms s0 gl L Pb Lb pm s Sb Bs BL M0 q Ds pre W) (hb : Below W.heap.size W W') : BfJ w ms s0 gl L Pb Lb pm s Sb Bs BL M0 q Ds pre W' := by
  obtain ⟨A, n, c, pr, pa, D, ln, h1, h2, h3, h4, h5, h6, h7, h8, h9, h10⟩ := h
  exact ⟨A, n, c, pr, pa, D, ln, h1.keep hb, h2, h3, h4, h5, h6, h7.keep hb, h8.keep hb, fun D hD => ⟨(h9 D hD).1, (hb.block D (Array.getElem?_eq_some_iff.1 (h9 D hD).2).1).trans (h9 D hD).2⟩, h10⟩
end
/-- the step in its box -/
def StpBoxB (a : Act) {ms : List Mk} {s : Nat} (x : Stp ms s) (a' : Act) (W : World) : Prop :=
  ∃ Bx, Blk 114 W Bx [.int .i64 x.1.1, .int .i64 x.1.2.1, .int .u32 x.1.2.2] ∧ a' = { tmps := (a.tmps.setIfInBounds 40 (stpV x.1)).setIfInBounds 10 (.pointer (some ⟨Bx, 0, none⟩)), defers := [] }
theorem StpBoxB.own {a : Act} {ms : List Mk} {s : Nat} {B : Nat} (x : Stp ms s) (a' : Act) : OwnFrom B (fun (_ : Unit) W => StpBoxB a x a' W) := by
  rintro _ X Y row ⟨Bx, h1, h2⟩ hg hr
  exact ⟨Bx, h1.grown hg (turn_ne hr h1.cells), h2⟩
theorem range_stepsB {ms : List Mk} {s n : Nat} {g : Operand} {ps : Array Tmp} {assign body : Code} {Q : Exit → Act → World → Prop} {a : Act} {w : World} (h1 : 1 ≤ n) {gf : Nat} {lb : Array Value} (hg : a.eval g = .func (.func gf) #[] lb) (eg : ∀ args w, (callFunc gf args).run Tryz.prog w = .ok (.enter gf args) w)
    {Kp : World → World → Prop} {S Sp : List (Stp ms s) → Prop} {N : Nat} {w0 : World} (hseq : SeqStopsK Fence.wide (n - 1) Tryz.prog gf lb encStp Kp S Sp N w0) (hKt : ∀ {A B C : World}, Kp A B → Kp B C → Kp A C) (hKb : ∀ (W : World) (l : Nat) (o o' : Obj), w.heap.size ≤ l → W.heap[l]? = some o → o.isCells = false → o.isWalk = false → Kp W (W.putObj l o')) (hb0 : Below w0.heap.size w0 w) (hps : ∀ x : Stp ms s, (encStp x).size = ps.size)
    (I : List (Stp ms s) → World → Prop) (hI : OwnFrom w.heap.size I) (h0 : I [] w)
    (hassign : ∀ (l : Nat) (pre : List (Stp ms s)) (x : Stp ms s) (W : World) (K : Act → World → Prop), I pre W → (∀ a' W', KeepsFrom w.heap.size W W' → Kp W W' → I pre W' → StpBoxB a x a' W' → K a' W') →
      assign.wpIn (Fence.wide.inRound l) (n - 1 - 1) Tryz.prog (Exit.then K (fun _ _ _ => False)) { tmps := (ps.zip (encStp x)).foldl (fun t (p, v) => t.setIfInBounds p v) a.tmps, defers := [] } W)
    (hbody : ∀ (l : Nat) (pre : List (Stp ms s)) (x : Stp ms s) (a' : Act) (W : World), w.heap.size ≤ l → (∃ r, W.heap[l]? = some (.loop r)) → I pre W → StpBoxB a x a' W → pre.length < N → body.wpIn (Fence.wide.inRound l) (n - 1 - 1) Tryz.prog (ownPostG w.heap.size Kp I (fun _ _ _ => False) (pre ++ [x]) W) a' W)
    (hdone : ∀ (D : Nat) (xs : List (Stp ms s)) (W : World), w.heap.size ≤ D → S xs → I xs W → W.heap[D]? = some (.deferred (some [])) → Q .normal { a with defers := { target := .collected D, args := #[] } :: a.defers } W) :
    (Code.rangeFunc g ps assign body).wpIn Fence.wide n Tryz.prog Q a w :=
  wpIn_rangeFunc_ownH rfl h1 hg trivial eg hseq hKt hKb hb0 hps I (fun _ _ _ => False) hI (fun _ _ _ _ _ hs _ _ => hs) h0 (StpBoxB a) (fun x a' => StpBoxB.own x a') hassign hbody hdone (fun D cc pre W _ _ h _ => h.elim)
set_option maxRecDepth 100000 in
set_option maxHeartbeats 12800000 in
theorem First_ct (g s0 gl : Nat) (ms : List Mk) (w : World) (L : List Nat) (h : WordsR w g s0 gl ms) (hL : L.length ≤ 2000) (hLr : ∀ s, s ∈ L ↔ Reach (stepW ms) s0 s) :
    Calls Tryz.prog 29 #[.iface 62 (.pointer (some ⟨g, 0, none⟩)), .func (.func 30) #[.pointer (some ⟨g, 0, none⟩)] #[]] w (FirstP w ms s0 gl) := by
  have H := hide h
  have HLr := hide hLr
  clear h hLr
  have hs0L : s0 ∈ L := (HLr.out s0).2 .start
  have hs0 : s0 < 4294967296 := H.out.start
  refine (callsIn_wide (n := 8)).1 (callsIn_of_wp_marks Tryz.func29 rfl trivial (wpIn_wide.2 ?_) rfl)
  simp only [Tryz.ntmps29, List.size_toArray, List.length_cons, List.length_nil, Nat.reduceAdd, Nat.reduceSub, Array.replicate_succ, Array.replicate_zero, List.push_toArray, List.append_toArray, List.nil_append, List.cons_append]
  have hm1 := start_method g
  have hm2 := steps_method g
  have Hst := hide (fun W hb => Start_ct g s0 gl ms W (H.out.keep hb))
  have hmm := @run_makeMap Tryz.prog
  have hm0 := MapV.made (κ := Nat) w Tryz.prog 69 encW
  obtain ⟨w3, hput, hmap, hg3, hz3⟩ := hm0.put encW_inj (int_keyed Tryz.underlying69) (T := 108) (E := 107) Tryz.underlying108 (by omega) (key := s0) (keyW Tryz.underlying69 hs0) (.agg #[.int .u32 s0, .int .i64 0])
  simp only [encW] at hput
  have hbm3 : Below w.heap.size w w3 := ((Below.refl w.heap.size w).alloc (Nat.le_refl _) (.map #[] 0)).grown hg3 (by simp) (fun k e => by injection e with e; omega)
  simp only [World.size_alloc] at hz3
  have Hmap := hide hmap
  have Hbm3 := hide hbm3
  have Hz3 := hide hz3
  clear hm0 hmap hg3 hbm3 hz3
  go_upto_region 3 with (go_at_call 199; refine (Hst.out _ (Below.refl _ _)).mono ?_; rintro e w' ⟨rfl, rfl⟩)
  have hpb := Blk.new w3 108 [.map (some w.heap.size)]
  have hb4 := (Below.refl w3.heap.size w3).alloc (Nat.le_refl _) (.cells [Value.map (some w.heap.size)].toArray 108)
  obtain ⟨w4, hw4⟩ : ∃ W, W = w3.alloc (.cells [Value.map (some w.heap.size)].toArray 108) := ⟨_, rfl⟩
  have hz4 : w4.heap.size = w3.heap.size + 1 := by rw [hw4, World.size_alloc]
  rw [← hw4] at hpb hb4
  change Code.wp _ _ _ _ (w3.alloc (.cells [Value.map (some w.heap.size)].toArray 108))
  rw [← hw4]
  have hmap4 := Hmap.out.keep hb4
  have hlow4 := Hbm3.out.trans (hb4.mono (by have := Hz3.out; omega))
  have Hz4 := hide hz4
  have Hpb := hide hpb
  have Hmap4 := hide hmap4
  have Hlow4 := hide hlow4
  clear hw4 hb4 hput hz4 hpb hmap4 hlow4
  go_wp2_with fail
  have hr := rowW_one w4 s0 hs0
  have hb5 := (Below.refl w4.heap.size w4).alloc (Nat.le_refl _) (.cells #[.int .u32 s0] 69)
  obtain ⟨w5, hw5⟩ : ∃ W, W = w4.alloc (.cells #[.int .u32 s0] 69) := ⟨_, rfl⟩
  have hz5 : w5.heap.size = w4.heap.size + 1 := by rw [hw5, World.size_alloc]
  rw [← hw5] at hr hb5 ⊢
  clear hw5
  have hlb := Blk.new w5 63 [.slice (some ⟨w4.heap.size, 0, none⟩) 1 1]
  have hb6 := (Below.refl w5.heap.size w5).alloc (Nat.le_refl _) (.cells #[.slice (some ⟨w4.heap.size, 0, none⟩) 1 1] 63)
  obtain ⟨w6, hw6⟩ : ∃ W, W = w5.alloc (.cells #[.slice (some ⟨w4.heap.size, 0, none⟩) 1 1] 63) := ⟨_, rfl⟩
  change Blk 63 (w5.alloc (.cells #[.slice (some ⟨w4.heap.size, 0, none⟩) 1 1] 63)) w5.heap.size [.slice (some ⟨w4.heap.size, 0, none⟩) 1 1] at hlb
  rw [← hw6] at hlb hb6 ⊢
  try rw [← hz5]
  clear hw6
  have hk46 := hb5.trans (hb6.mono (by omega))
  have hz3 := Hz3.out
  have hz4 := Hz4.out
  have hS : BfS w w6 w3.heap.size w5.heap.size w.heap.size (some ⟨w4.heap.size, 0, none⟩) 1 1 (fun s => if s = s0 then some (s0, 0) else none) [s0] [s0] := by
    refine ⟨Hlow4.out.trans (hk46.mono (by omega)), Hpb.out.keep hk46, hlb, line_of_row ((hr.keep hb6).low (by omega)) (by omega), ?_, by omega, by omega, by omega, by omega, fun r hr => ?_⟩
    · refine MapV.ext (M := putV (fun _ => none) s0 (.agg #[.int .u32 s0, .int .i64 0])) (Hmap4.out.keep hk46) fun k => ?_
      unfold putV
      by_cases e : k = s0 <;> simp [e, backV]
    · have hr : w4.heap.size = r := by simpa [blkA] using hr
      omega
  have hI : AsI (zc ms) s0 (goalW gl) (fun _ => 0) L [s0] (fun s => if s = s0 then some 0 else none) (fun s => if s = s0 then some (s0, 0) else none) (keyL (fun s => if s = s0 then some 0 else none) [s0]) 0 (fun _ => False) := by
    have e : keyL (fun s => if s = s0 then some 0 else none) [s0] = fun s => if s = s0 then some (4096 * (fun _ : Nat => (0 : Int)) s0) else none := by
      funext y
      unfold keyL
      by_cases e : y = s0 <;> simp [e]
    rw [e]
    exact AsI.begin hs0L (by unfold infA; omega)
  clear hz3 hz4 hz5 hr hb5 hlb hb6 hk46 Hpb Hmap4 Hlow4 Hmap Hbm3 Hz3 Hz4 hmm
  generalize w3.heap.size = Pb at hS ⊢
  generalize w4.heap.size = gA at hS ⊢
  generalize w5.heap.size = Lb at hS ⊢
  generalize w.heap.size = pm at hS ⊢
  have HS := hide hS
  have HI := hide hI
  clear hS hI
  refine wp_loop_ghost_k (BfL w g ms s0 gl L Pb Lb pm _ _ _ _ _ _ _ _ _) (2 * (2000 - [s0].length) + 1) ⟨_, 1, _, _, _, _, _, 0, [], _, _, _, _, _, _, _, _, _, _, _, _, _, _, _, _, _, _, rfl, rfl, HS.out, HI.out, LnI.begin s0, fun D hD => (by cases hD), List.nodup_nil⟩ ?_
  clear HS HI Hst
  intro k a wr hI J K hJ hK
  obtain ⟨A, n, c, pr, pa, D, ln, p, Ds, u9, u22, u23, u24, u25, u26, u27, u28, u29, u30, u31, u32, u33, u34, u35, u37, u38, u39, rfl, rfl, hS, hI, hLn, hDs, hnd⟩ := hI
  cases n with
  | zero =>
    obtain rfl : ln = [] := List.eq_nil_of_length_eq_zero hS.row.len
    have c8 := hS.lbx.cell 0
    simp only [List.getElem?_cons_zero] at c8
    have HS := hide hS
    have HI := hide hI
    have HDs := hide hDs
    have Hnd := hide hnd
    clear hS hI hLn hDs hnd
    go_wp2
    refine leaves_marks Ds _ (fun D hD => (HDs.out D hD).2) Hnd.out fun W' hc => ?_
    refine ⟨.tuple #[.slice none 0 0, .bool false], by simp [results, Tryz.results29, go_sem], ?_⟩
    exact ⟨HS.out.low.trans (hc.below (fun i hi => (HDs.out i hi).1) HS.out.low.size), .inr ⟨rfl, noway_zc (HI.out.empty adm_zc (fun s => by unfold keyL; rw [if_neg (by simp)]))⟩⟩
  | succ n =>
    obtain ⟨s, ln, rfl⟩ : ∃ s l, ln = s :: l := by
      cases ln with
      | nil => have := hS.row.len; simp at this
      | cons s l => exact ⟨s, l, rfl⟩
    have hlen := hS.row.len
    obtain ⟨hcap1, hcap2⟩ := hS.row.cap
    obtain ⟨gA, off, rfl, hs32, hcs, htl⟩ := hS.row.tail
    obtain ⟨A1, hA1⟩ : ∃ A1 : Option Addr, A1 = if c = 1 then some ⟨gA, off, none⟩ else some ⟨gA, off + 1, none⟩ := ⟨_, rfl⟩
    rw [← hA1] at htl
    have hbA1 : blkA A1 = some gA := by rw [hA1]; split <;> rfl
    have HA1 := hide hA1
    clear hA1
    obtain ⟨q, hq, hLn2, hsn, hmin⟩ := hLn.take
    have hsD : s ∈ D := (hI.dom s).2 (by rw [hq]; rfl)
    have hsL := hI.sub s hsD
    have hDL := hI.few
    have hlnD : (s :: ln).length ≤ D.length := List.Nodup.length_le_of_subset hLn.nod (fun x hx => by
      obtain ⟨y, hy, _⟩ := hLn.known x hx
      exact (hI.dom x).2 (by rw [hy]; rfl))
    have hn2 : n + 1 ≤ 2000 := by omega
    have c8 := hS.lbx.cell 0
    have l8 := hS.lbx.lt
    simp only [List.getElem?_cons_zero] at c8
    have HS := hide hS
    have HI := hide hI
    have HLn2 := hide hLn2
    have HDs := hide hDs
    have Hnd := hide hnd
    have Hq := hide hq
    have Hmin := hide hmin
    have Htl := hide htl
    have Hsn := hide hsn
    clear hS hI hLn hLn2 hDs hnd hq hmin htl hsn hlen hlnD
    go_upto_region 6 with (fail)
    have hsb := Blk.new wr 69 [.int .u32 s]
    have hb7 := (Below.refl wr.heap.size wr).alloc (Nat.le_refl _) (.cells [Value.int .u32 s].toArray 69)
    obtain ⟨w7, hw7⟩ : ∃ W, W = wr.alloc (.cells [Value.int .u32 s].toArray 69) := ⟨_, rfl⟩
    rw [← hw7] at hsb hb7
    change Code.wp _ _ _ _ (wr.alloc (.cells [Value.int .u32 s].toArray 69))
    rw [← hw7]
    obtain ⟨Sb, hSb⟩ : ∃ z, z = wr.heap.size := ⟨_, rfl⟩
    rw [← hSb] at hsb l8 ⊢
    have hS7 := HS.out.keep hb7
    have htl7 := Htl.out.keep hb7
    have hlow := HS.out.low.size
    have hrowb := fun r hr => HS.out.row.base (r := r) hr
    have hD7 : ∀ D ∈ Ds, w.heap.size ≤ D ∧ w7.heap[D]? = some (.deferred (some [])) := fun D hD => by
      obtain ⟨h1, h2⟩ := HDs.out D hD
      exact ⟨h1, (hb7.block D (Array.getElem?_eq_some_iff.1 h2).1).trans h2⟩
    have c8 := hS7.lbx.cell 0
    have f8 := hS7.lbx.frozen 0
    have l8 := hS7.lbx.lt
    simp only [List.getElem?_cons_zero] at c8
    have nSL : Sb ≠ Lb := by have := HS.out.lbx.lt; omega
    have nSP : Sb ≠ Pb := by have := HS.out.pbx.lt; omega
    have HS7 := hide hS7
    have Htl7 := hide htl7
    have HD7 := hide hD7
    have Hsb7 := hide hsb
    have Hrowb := hide hrowb
    have HSb := hide hSb
    clear hw7 hb7 hS7 htl7 hD7 hsb hrowb hSb hcs
    go_upto_region 7 with (fail)
    rw [← HA1.out]
    obtain ⟨w8, hw8⟩ : ∃ W, W = w7.setCell ⟨Lb, 0, none⟩ (.slice A1 n (c - 1)) := ⟨_, rfl⟩
    have hS8 := HS7.out.take Htl7.out (fun r hr => by rw [hbA1] at hr; exact hr)
    have hset := Chg.set w7 Lb 0 (.slice A1 n (c - 1))
    have hlbc := HS7.out.lbx.cells
    rw [← hw8] at hS8 hset ⊢
    clear hw8 c8 f8 l8
    have hsb8 := hset.blk Hsb7.out nSL
    have hD8 : ∀ D ∈ Ds, w.heap.size ≤ D ∧ w8.heap[D]? = some (.deferred (some [])) := fun D hD => by
      obtain ⟨h1, h2⟩ := HD7.out D hD
      exact ⟨h1, (hset.block D (Array.getElem?_eq_some_iff.1 h2).1 (fun e => by
        obtain ⟨ds, e', m, hc⟩ := hlbc
        have e : D = Lb := e
        rw [← e, h2] at hc
        cases hc)).trans h2⟩
    have s8 := hsb8.cell 0
    have sl8 := hsb8.lt
    simp only [List.getElem?_cons_zero] at s8
    have hgc := Goal_ct g s0 gl ms s w8 (H.out.keep hS8.low) hs32
    have HS8 := hide hS8
    have HD8 := hide hD8
    have Hsb8 := hide hsb8
    have Hgc := hide hgc
    clear hS8 hset hsb8 hD8 hgc hlbc Hsb7 HD7 HS7 Htl7 HS Htl
    cases hgt : goalW gl s with
    | true =>
      rw [hgt] at Hgc
      have hBk : BackOk (zc ms) s0 pr pa := ⟨HI.out.start, fun s q hs => by
        have h1 := HI.out.low s q hs
        have h2 := HI.out.high s q hs
        exact ⟨h1.1, h1.2, by omega⟩, HI.out.par, fun s hs => reach_wordF H.out.ok hs0 ((HLr.out s).1 (HI.out.sub s ((HI.out.dom s).2 hs))), by unfold zc; rw [List.length_map]; exact H.out.few⟩
      have hzc : ∀ m ∈ zc ms, 0 ≤ m.cost := fun m hm => by
        unfold zc at hm
        obtain ⟨m', _, rfl⟩ := List.mem_map.1 hm
        exact Int.le_refl _
      have HBk := hide hBk
      have Hzc := hide hzc
      have hal := HS8.out.pbx.cell 0
      simp only [List.getElem?_cons_zero] at hal
      clear hBk hzc
      go_wp2_with (first
        | (go_at_call 30; (with_reducible refine Hgc.out.mono ?_); rintro e w14 ⟨rfl, dk, rfl⟩)
        | (go_at_call 58; (with_reducible refine (Path_ct (w8.drewN dk) HBk.out Hzc.out (HS8.out.map.drewN dk) Hq.out).mono ?_); rintro e w15 ⟨hb15, O, oc, l, n', rfl, hpw, hpl, hll, hown⟩; have Hb15 := hide hb15; have Hpw := hide hpw; have Hown := hide hown; have Hpl := hide hpl; clear hb15 hpw hown hpl))
      refine leaves_marks Ds _ (fun D hD => ?_) Hnd.out fun W' hc => ?_
      · have h1 := (HD8.out D hD).2
        exact (Hb15.out.block D (Array.getElem?_eq_some_iff.1 h1).1).trans h1
      refine ⟨.tuple #[.slice O l.length oc, .bool true], by simp [results, Tryz.results29, go_sem], ?_⟩
      have hlow15 := (below_drewN HS8.out.low dk).trans (Hb15.out.mono (below_drewN HS8.out.low dk).size)
      refine ⟨hlow15.trans (hc.below (fun i hi => (HD8.out i hi).1) hlow15.size), .inl ⟨O, oc, l, rfl, fewest_of ?_, hll, own_lowF (hc.own Hown.out (fun r hr e => ?_)) (by have h1 := HS8.out.low.size; simpa using h1)⟩⟩
      · exact HI.out.goal adm_zc (fun _ => Int.le_refl _) (k := q) (by unfold keyL; rw [if_pos List.mem_cons_self]; exact Hq.out) (fun y k' hy hk' => Hmin.out y k' hk') hgt Hq.out Hpw.out Hpl.out
      · obtain ⟨_, cs, mm, hcc⟩ := own_block Hown.out hr
        have h1 := (HD8.out r e).2
        have h2 := (Hb15.out.block r (Array.getElem?_eq_some_iff.1 h1).1).trans h1
        rw [hcc] at h2
        cases h2
    | false =>
      rw [hgt] at Hgc
      go_upto_region 9 with (go_at_call 30; (with_reducible refine Hgc.out.mono ?_); rintro e w14 ⟨rfl, dk, rfl⟩)
      have hb9 : Below w8.heap.size w8 (w8.drewN dk) := below_drewN (Below.refl _ _) dk
      obtain ⟨w9, hw9⟩ : ∃ Z, Z = w8.drewN dk := ⟨_, rfl⟩
      rw [← hw9] at hb9 ⊢
      have hS9 := HS8.out.keep hb9
      have hsb9 := Hsb8.out.keep hb9
      have hD9 : ∀ D ∈ Ds, w.heap.size ≤ D ∧ w9.heap[D]? = some (.deferred (some [])) := fun D hD => by
        obtain ⟨h1, h2⟩ := HD8.out D hD
        exact ⟨h1, (hb9.block D (Array.getElem?_eq_some_iff.1 h2).1).trans h2⟩
      have s9 := hsb9.cell 0
      have sl9 := hsb9.lt
      simp only [List.getElem?_cons_zero] at s9
      have HS9 := hide hS9
      have Hsb9 := hide hsb9
      have HD9 := hide hD9
      clear hw9 hb9 hS9 hsb9 hD9 s8 sl8 HS8 HD8 Hsb8 Hgc
      go_wp2_with (go_at_call 200; refine (SSteps_ct g s _).mono ?_; rintro e w' ⟨rfl, rfl⟩)
      have hBs := Blk.new (w9.alloc (.cells #[.pointer (some ⟨g, 0, none⟩)] 62)) 69 [.int .u32 s]
      have hBw := (Blk.new w9 62 [.pointer (some ⟨g, 0, none⟩)]).alloc (.cells #[.int .u32 s] 69)
      have hbL := below_two w9 (.cells #[.pointer (some ⟨g, 0, none⟩)] 62) (.cells #[.int .u32 s] 69)
      have hzL : ((w9.alloc (.cells #[.pointer (some ⟨g, 0, none⟩)] 62)).alloc (.cells #[.int .u32 s] 69)).heap.size = w9.heap.size + 1 + 1 := by simp only [World.size_alloc]
      simp only [World.size_alloc] at hBs
      obtain ⟨WL, hWL⟩ : ∃ W, W = (w9.alloc (.cells #[.pointer (some ⟨g, 0, none⟩)] 62)).alloc (.cells #[.int .u32 s] 69) := ⟨_, rfl⟩
      rw [← hWL] at hBs hBw hbL hzL ⊢
      clear hWL
      replace hzL := And.intro (Nat.le_of_eq hzL) (Nat.le_of_eq hzL.symm)
      have cBs := hBs.cell 0
      have cBw := hBw.cell 0
      simp only [List.getElem?_cons_zero] at cBs cBw
      have hSL := HS9.out.keep hbL
      have hz9 := HS9.out.low.size
      have hlt1 := hSL.map.lt
      have hIt := HI.out.take (fun y => keyL_take (pr := pr) Hsn.out y) hgt
      have hI0 : AsI (zc ms) s0 (goalW gl) (fun _ => 0) L D pr pa (keyL pr ln) s (fun x => x ∉ ([] : List (Stp ms s)).map (fun y => (y.1.1, (0 : Int), y.1.2.2))) := by
        simpa using hIt
      have hkn : keyL pr ln s = none := by unfold keyL; rw [if_neg Hsn.out]
      have hJ0 : BfJ w ms s0 gl L Pb Lb pm s Sb (w9.heap.size + 1) WL.heap.size (2 * (2000 - D.length) + (n + 1)) q Ds [] WL := by
        refine ⟨_, n, _, pr, pa, D, ln, hSL, hI0, HLn2.out, Hq.out, hkn, by omega, Hsb9.out.keep hbL, hBs, fun D hD => ?_, hlt1, by omega, fun r hr => ?_, nSL, ?_, by omega⟩
        · obtain ⟨h1, h2⟩ := HD9.out D hD
          have h3 := (Array.getElem?_eq_some_iff.1 h2).1
          exact ⟨by omega, (hbL.block D h3).trans h2⟩
        · rw [hbA1] at hr
          have h1 := (Hrowb.out r hr).2
          have h2 := Hsb9.out.lt
          have h3 := HSb.out
          have h4 := (HS9.out.row.base (r := r) (by rw [hbA1]; exact hr)).2
          exact ⟨by omega, by omega⟩
        · have := HS9.out.lbx.lt
          omega
      have HJ0 := hide hJ0
      have HbL := hide hbL
      have Hlow9 := hide HS9.out.low
      have hltm := HS9.out.map.lt
      have hltl := HS9.out.lbx.lt
      clear hJ0 hIt hI0 hkn hSL hBs hbL hBw s9 sl9 HS9 Hsb9 HI
      refine (wpIn_wide (n := 8)).1 (range_stepsB (w := WL) (by omega) (gf := 201) (lb := #[.pointer (some ⟨w9.heap.size, 0, none⟩), .pointer (some ⟨w9.heap.size + 1, 0, none⟩)]) rfl (enters_of Tryz.func201 (by kernel_rfl) rfl)
        (steps_stops Fence.wide 7 trivial rfl (by omega) w9.heap.size (w9.heap.size + 1) g s0 gl s ms w WL H.out hs32 (Hlow9.out.trans (HbL.out.mono hz9)) cBw cBs) kpS_t (kpS_b (by omega) (by omega)) (Below.refl _ _) (fun _ => rfl)
        (BfJ w ms s0 gl L Pb Lb pm s Sb (w9.heap.size + 1) WL.heap.size (2 * (2000 - D.length) + (n + 1)) q Ds) BfJ.own HJ0.out ?assign ?body ?done)
      case assign =>
        intro l pre x W K hi hK
        have HK := hide hK
        have Hi := hide hi
        clear hK hi
        obtain ⟨⟨xi, xc, xt⟩, hx⟩ := x
        unfold encStp stpV
        dsimp only
        gi_wp2
        exact HK.out _ _ ((KeepsOthers.alloc _ _).from _) ⟨(Below.refl _ _).alloc (by obtain ⟨_, _, _, _, _, _, _, h1, _⟩ := Hi.out; exact h1.low.size) _, Below.heap_alloc _ _ _ (by obtain ⟨_, _, _, _, _, _, _, _, _, _, _, _, _, _, h8, _⟩ := Hi.out; exact h8.lt)⟩ (BfJ.keep Hi.out ((Below.refl _ _).alloc (Nat.le_refl _) _)) ⟨W.heap.size, Blk.new _ _ _, rfl⟩
      case body =>
        rintro l pre ⟨⟨xi, xc, xt⟩, hx⟩ a' W hl ⟨r, hr⟩ ⟨A2, n2, c2, pr2, pa2, D2, ln2, j1, j2, j3, j4, j5, j6, j7, j8, j9, j10, j11, j12, j13, j14, j15⟩ ⟨Bx, hBx, rfl⟩ hlt
        dsimp only at hBx
        obtain ⟨x1, _, _, _⟩ := stepsW_ok ms 0 s hs32 H.out.ok _ hx
        dsimp only at x1
        have hxtL : xt ∈ L := (HLr.out xt).2 (.step ((HLr.out s).1 hsL) ((stepsW_step ms 0 s xt).2 ⟨_, hx, rfl⟩))
        have cP := j1.pbx.cell 0
        have cX := hBx.cell 2
        have cX0 := hBx.cell 0
        have cS := j7.cell 0
        have cL := j1.lbx.cell 0
        have fL := j1.lbx.frozen 0
        have lL := j1.lbx.lt
        simp only [List.getElem?_cons_zero, List.getElem?_cons_succ] at cP cX cX0 cS cL
        have hlook := fun W' e => j1.map.look (int_keyed Tryz.underlying69) (T := 108) (E := 107) Tryz.underlying108 zeroBack (keyW Tryz.underlying69 x1) W' e
        unfold encW at hlook
        have hlowW : w.heap.size ≤ W.heap.size := j1.low.size
        have hopen : ∀ y : Nat × Int × Nat, y ∉ pre.map (fun y => (y.1.1, (0 : Int), y.1.2.2)) → y ∉ (pre ++ [(⟨(xi, xc, xt), hx⟩ : Stp ms s)]).map (fun y => (y.1.1, (0 : Int), y.1.2.2)) ∨ y = (xi, 0, xt) := fun y hy => by
          by_cases e : y = (xi, 0, xt)
          · exact .inr e
          · refine .inl (fun hm => ?_)
            rw [List.map_append, List.mem_append] at hm
            rcases hm with hm | hm
            · exact hy hm
            · simp at hm; exact e hm
        have hp0 := j2.par0 xt
        have J1 := hide j1
        have J2 := hide j2
        have J3 := hide j3
        have J4 := hide j4
        have J5 := hide j5
        have J7 := hide j7
        have J8 := hide j8
        have J9 := hide j9
        have J12 := hide j12
        have Hopen := hide hopen
        have HBx := hide hBx
        have HzL := hide hzL
        clear hzL hopen
        cases hpx : pa2 xt with
        | some b =>
          obtain ⟨bf, bo⟩ := b
          rw [hpx] at hp0
          have hlook0 := hlook W rfl
          rw [hpx] at hlook0
          simp only [Option.map_some, Option.getD_some, Option.isSome_some] at hlook0
          unfold backV at hlook0
          obtain ⟨old, hold⟩ : ∃ old, pr2 xt = some old := by
            cases h : pr2 xt with
            | none => rw [h] at hp0; cases hp0
            | some o => exact ⟨o, rfl⟩
          have Hold := hide hold
          have hbA := (Below.refl W.heap.size W).alloc (Nat.le_refl _) (.cells #[.int .u32 bf, .int .i64 bo] 107)
          have HbA := hide hbA
          clear hlook j1 j2 j3 j4 j5 j7 j8 j9 j12 hBx hpx hp0 hold hbA
          gi_wp2
          exact ⟨(KeepsOthers.alloc _ _).from _, ⟨HbA.out.mono hlowW, HbA.out.block _ J8.out.lt⟩, _, _, _, _, _, _, _, J1.out.keep HbA.out, J2.out.skip (x := (xi, 0, xt)) J4.out (fun _ => ⟨old, Hold.out, by have := J3.out.top xt old Hold.out; unfold prc; simp only; omega⟩) Hopen.out, J3.out, J4.out, J5.out, j6, J7.out.keep HbA.out, J8.out.keep HbA.out, fun D hD => ⟨(J9.out D hD).1, (HbA.out.block D (Array.getElem?_eq_some_iff.1 (J9.out D hD).2).1).trans (J9.out D hD).2⟩, j10, j11, J12.out, j13, j14, j15⟩
        | none =>
          rw [hpx] at hp0
          have hlook0 := hlook W rfl
          rw [hpx] at hlook0
          simp only [Option.map_none, Option.getD_none, Option.isSome_none] at hlook0
          have hnone : pr2 xt = none := by
            cases h : pr2 xt with
            | none => rfl
            | some o => rw [h] at hp0; cases hp0
          have hbA := (Below.refl W.heap.size W).alloc (Nat.le_refl _) (.cells #[.int .u32 0, .int .i64 0] 107)
          have k1 := j1.keep hbA
          have hfew := j2.few
          obtain ⟨W11, hput, hm11, hg11, hz11⟩ := k1.map.put encW_inj (int_keyed Tryz.underlying69) (T := 108) (E := 107) Tryz.underlying108 (by omega) (key := xt) (keyW Tryz.underlying69 x1) (backV (s, xi))
          unfold encW backV at hput
          have cP10 := k1.pbx.cell 0
          have cX10 := (hBx.keep hbA).cell 2
          have cX010 := (hBx.keep hbA).cell 0
          have cS10 := (j7.keep hbA).cell 0
          have nX : pm ≠ Bx := j1.map.ne hBx
          have nS : pm ≠ Sb := j1.map.ne j7
          have nB : pm ≠ w9.heap.size + 1 := j1.map.ne j8
          have lb11 := k1.lbx.grown hg11 (fun e => k1.n3 (by injection e with e; exact e.symm))
          have cL11 := lb11.cell 0
          have cX11 := ((hBx.keep hbA).grown hg11 (fun e => nX (by injection e with e; exact e.symm))).cell 2
          have row11 := k1.row.chg (Chg.of_grown hg11) (fun r hr e => k1.nrow hr (by injection e with e; exact e.symm))
          simp only [List.getElem?_cons_zero, List.getElem?_cons_succ] at cP10 cX10 cX010 cS10 cL11 cX11
          have hz11w : w.heap.size ≤ W11.heap.size := by rw [hz11]; exact k1.low.size
          have na1 : ∀ r, blkA A2 = some r → r ≠ Lb := fun r hr => (k1.a1 r hr).2
          have Na1 := hide na1
          have Lb11 := hide lb11
          have Row11 := hide row11
          have Hm11 := hide hm11
          have Hg11 := hide hg11
          have Hz11 := hide hz11
          have Hpx := hide hpx
          have Hnone := hide hnone
          have HbA := hide hbA
          have K1 := hide k1
          have Hfew := hide hfew
          clear hlook j1 j2 j3 j4 j5 j7 j8 j9 j12 hbA k1 hBx hm11 hg11 lb11 row11 na1 hz11 hpx hp0 hnone hfew
          gi_wp2_with
            (gi_at_builtin
             refine wpListIn_pushLine rfl _ _ rfl rfl Row11.out xt x1 rfl (by omega) hz11w ?_
             intro O2 oc2 W12 hrow12 hg12 hat12
             have lb12 := (Lb11.out.alloc (.cells #[.int .u32 xt] 69)).grown hg12 (fun e => Na1.out Lb e.symm rfl)
             have fL12 := lb12.frozen 0
             have lL12 := lb12.lt
             have cL12 := lb12.cell 0
             simp only [List.getElem?_cons_zero] at cL12
             have Hrow12 := hide hrow12
             have Hg12 := hide hg12
             have Hat12 := hide hat12
             clear lb12 hrow12 hg12 hat12)
          have hpr : ∀ y, (fun y => if y = xt then some (q + 1) else pr2 y) y = if y = xt then some (q + 1) else pr2 y := fun y => rfl
          have hpa : ∀ y, (fun y => if y = xt then some (s, xi) else pa2 y) y = if y = xt then some (s, xi) else pa2 y := fun y => rfl
          obtain ⟨b1, b2, b3, b4⟩ := K1.out.new Hpx.out hpa Hm11.out Hg11.out Hrow12.out Hg12.out Hat12.out
          have hxD : xt ∉ D2 := fun hm => by
            have := (J2.out.dom xt).1 hm
            rw [Hnone.out] at this
            cases this
          have hprc : q + prc 0 = q + 1 := by unfold prc; omega
          obtain ⟨i1, i2, i3, _⟩ := J2.out.set (x := (xi, 0, xt)) hL (pr' := fun y => if y = xt then some (q + 1) else pr2 y) (pa' := fun y => if y = xt then some (s, xi) else pa2 y) (Qk' := keyL (fun y => if y = xt then some (q + 1) else pr2 y) (ln2 ++ [xt])) J5.out J4.out (zc_mem hx) (by simp) hxtL (by unfold infA; omega) (fun old h => by simp only at h; rw [Hnone.out] at h; cases h)
            (fun y => by show _ = if y = xt then some (q + prc 0) else pr2 y; rw [hprc]) hpa (fun y => by show _ = if y = xt then some (q + prc 0 + 4096 * (0 : Int)) else keyL pr2 ln2 y; rw [keyL_push Hnone.out hpr y, hprc, Int.mul_zero, Int.add_zero]) Hopen.out
          rw [if_neg hxD] at i1
          have hL3 := J3.out.push Hnone.out hpr
          have hfew2 := i1.few
          have hlnD : (ln2 ++ [xt]).length ≤ (D2 ++ [xt]).length := List.Nodup.length_le_of_subset hL3.nod (fun y hy => by
            obtain ⟨z, hz, _⟩ := hL3.known y hy
            exact (i1.dom y).2 (by rw [hz]; rfl))
          have hl12 := Hrow12.out.len
          have hszA : W.heap.size ≤ (W.alloc (.cells #[.int .u32 0, .int .i64 0] 107)).heap.size := HbA.out.size
          have kSb := J7.out.keep HbA.out
          have kBs := J8.out.keep HbA.out
          have eSb := b4 Sb kSb.lt (fun e => nS e.symm) (fun e => (J12.out _ e).1 rfl) j13
          have eBs := b4 (w9.heap.size + 1) kBs.lt (fun e => nB e.symm) (fun e => (J12.out _ e).2 rfl) j14
          refine ⟨((KeepsOthers.alloc _ _).from _).trans (b3.from j10), ⟨(HbA.out.mono hlowW).trans b2, eBs.trans (HbA.out.block _ J8.out.lt)⟩, _, _, _, _, _, _, _, b1, i1, hL3, i2, i3, ?_, ?_, ?_, fun D hD => ⟨(J9.out D hD).1, b3.same D _ ?_ ((HbA.out.block D (Array.getElem?_eq_some_iff.1 (J9.out D hD).2).1).trans (J9.out D hD).2) rfl⟩, j10, j11, ?_, j13, j14, ?_⟩
          · simp only [List.length_append, List.length_singleton] at hfew2 ⊢
            omega
          · unfold Blk
            exact eSb.trans kSb
          · unfold Blk
            exact eBs.trans kBs
          · rintro rfl
            obtain ⟨es, clock, he⟩ := J1.out.map.isMap
            have := (J9.out D hD).2
            rw [he] at this
            cases this
          · intro r hr
            rcases Hat12.out with e | ⟨r2, e, h2⟩
            · exact J12.out r (by rw [← e]; exact hr)
            · rw [e] at hr
              injection hr with hr
              have h3 := Hz11.out
              have h4 := J7.out.lt
              have h5 := J8.out.lt
              exact ⟨by omega, by omega⟩
          · simp only [List.length_append, List.length_singleton] at hfew2 hlnD hl12
            omega
      case done =>
        intro D' ys W hD hys hJy hKD
        obtain ⟨A2, n2, c2, pr2, pa2, D2, ln2, j1, j2, j3, j4, j5, j6, j7, j8, j9, j10, j11, j12, j13, j14, j15⟩ := hJy
        have hcl := j2.close (fun x hx hno => by
          obtain ⟨y, hy, rfl⟩ := mem_zc hx
          rw [← hys] at hy
          obtain ⟨z, hz, rfl⟩ := List.mem_map.1 hy
          exact hno (List.mem_map.2 ⟨z, hz, rfl⟩))
        have hDn : (D' :: Ds).Nodup := List.nodup_cons.2 ⟨fun hm => by have := (j9 D' hm).1; omega, Hnd.out⟩
        have hDm : ∀ E ∈ D' :: Ds, w.heap.size ≤ E ∧ W.heap[E]? = some (.deferred (some [])) := fun E hE => by
          rcases List.mem_cons.1 hE with rfl | hE
          · exact ⟨by omega, hKD⟩
          · exact ⟨(HD9.out E hE).1, (j9 E hE).2⟩
        have J1 := hide j1
        have J3 := hide j3
        have Hcl := hide hcl
        have HDn := hide hDn
        have HDm := hide hDm
        have hm2 : 2 * (2000 - D2.length) + n2 < 2 * (2000 - D.length) + (n + 1) := by omega
        clear j1 j2 j3 j4 j5 j6 j7 j8 j9 hcl hDn hDm hys hKD
        dsimp only
        go_wp2
        exact Handed.intro _ hm2 (hJ _ _ _ ⟨A2, n2, c2, pr2, pa2, D2, ln2, q, D' :: Ds, _, _, _, _, _, _, _, _, _, _, _, _, _, _, _, _, _, _, rfl, rfl, J1.out, Hcl.out, J3.out, HDm.out, HDn.out⟩)
end Go.Proofs.YtemiecammmbjdaaGreat
