/- What the law asks for, part 29: Bs. -/
import Derived.Test.YtemiecammmbjdaaGreatM1
import Derived.Test.YtemiecammmbjdaaGreatM2
import Derived.Test.YtemiecammmbjdaaGreatM3
import Derived.Test.YtemiecammmbjdaaGreatM4
import Derived.Test.YtemiecammmbjdaaGreatM5
import Derived.Test.YtemiecammmbjdaaGreatM10
import Derived.Test.YtemiecammmbjdaaGreatM11
import Derived.Test.YtemiecammmbjdaaGreatM12
import Derived.Test.YtemiecammmbjdaaGreatM13
import Derived.Test.YtemiecammmbjdaaGreatM14
import Derived.Test.YtemiecammmbjdaaGreatM15
import Derived.Test.YtemiecammmbjdaaGreatM20
import Derived.Test.YtemiecammmbjdaaGreatM21
import Derived.Test.YtemiecammmbjdaaGreatM22
import Derived.Test.YtemiecammmbjdaaGreatM23
import Derived.Test.YtemiecammmbjdaaGreatM24
import Derived.Test.YtemiecammmbjdaaGreatM25
import Derived.Test.YtemiecammmbjdaaGreatM26
import Derived.Test.YtemiecammmbjdaaGreatM27
import Derived.Test.YtemiecammmbjdaaGreatM28
import Derived.BigQuiet
import Derived.BigRegion
import Derived.Deep.AppendLies
import Derived.Deep.DeepCutAuto
import Derived.Deep.Draws
import Derived.Deep.Fields
import Derived.Deep.LoopGhost
import Derived.Deep.QuietTactic
import Derived.Deep.RegionHeld3
import Derived.Deep.Slices
import Derived.DeepKeys4
import Derived.Ground.Names2Prog
import Derived.Ground.SlgnProg
import Derived.Ground.SlsfProg
import Derived.IntWalk
import Derived.Laws.AppendOwnNone
import Derived.Laws.BitsAllLaws
import Derived.Laws.EntriesVeiled
import Derived.Laws.OwnMore
import Derived.Lib.Hide
import Derived.Lib.SlicesCompact
import Derived.LoopIn
import Derived.LoopNIn
import Derived.Maps.AppendAt
import Derived.Maps.OwnIn
import Derived.Maps.OwnOps
import Derived.Maps.OwnSet
import Derived.OrdersHeld
import Derived.OrdersIn
import Derived.OwnWalkIn
import Derived.RangeFuncBound
import Derived.RangeFuncCalls
import Derived.RangeFuncLeaves
import Derived.RangeFuncNested
import Derived.Shelf.Abstract
import Derived.Shelf.RegionOpen
import Derived.Shelf.Slices.Cells
import Derived.Shelf.Slices.Clone
import Derived.Shelf.Slices.CompactI
import Derived.Shelf.Slices.Empties
import Derived.Shelf.Slices.In.SortNone
import Derived.Shelf.Slices.Reverse
import Derived.Shelf.Slices.SearchI
import Derived.Shelf.Sort.Plain
import Derived.Sort.CutIn
import Derived.Sort.OwnSortedInts
import Derived.StillTail
import Derived.StillTailTactics
import Derived.TacticsInMore
import Derived.Test.YtemiecammmbjdaaGreatProg
import Derived.WalkKit
namespace Go.Proofs.YtemiecammmbjdaaGreat
set_option linter.unusedVariables false
set_option linter.unusedSimpArgs false
open Go.RowKit Go.Shelf Go.Maps
attribute [local go_sem] Oper.semAt_some
theorem goal_method (g : Nat) (w : World) : (method 357 62 (.pointer (some ⟨g, 0, none⟩)) "Goal").run Tryz.prog w = .ok (30, .pointer (some ⟨g, 0, none⟩)) w := by kernel_rfl
theorem leavesM_res {F : Fence} {n : Nat} {P : Program} {fn : Func} {R : Ending → World → Prop} {tmps tmps' : Array Value} (hres : results fn tmps' = results fn tmps) : ∀ (ds : List Deferred) (u : FrameMode) (w : World), LeavesInM F n P fn tmps' R ds u w → LeavesInM F n P fn tmps R ds u w := by
  intro ds
  induction ds with
  | nil =>
    intro u w h
    cases u with
    | returning =>
      obtain ⟨v, h1, h2⟩ := h
      exact ⟨v, by rw [← hres]; exact h1, h2⟩
    | panicking c => exact h
    | run => exact h
  | cons d ds ih =>
    rintro u w ⟨h0, h⟩
    refine ⟨h0, ?_⟩
    rcases h with ⟨r, w', h1, h2, h3⟩ | ⟨h1, fv, cap, f, args, h2, h3, h4, h5⟩
    · exact .inl ⟨r, w', h1, h2, ih _ _ h3⟩
    · refine .inr ⟨h1, fv, cap, f, args, h2, h3, h4, h5.mono fun e u' w' hr => ?_⟩
      cases e with
      | returned _ => exact ih _ _ hr
      | panicked _ => exact ih _ _ hr
      | _ => exact hr
theorem resB (tmps : Array Value) (d : Nat) (v : Value) (h4 : d ≠ 4) (h5 : d ≠ 5) (h6 : d ≠ 6) : results Tryz.f37 (tmps.setIfInBounds d v) = results Tryz.f37 tmps := by
  simp [results, Tryz.results37, go_sem, Array.getD_eq_getD_getElem?, Array.getElem?_setIfInBounds, h4, h5, h6]
theorem hQB {R : Ending → World → Prop} {v : Value} (d : Nat) (h4 : d ≠ 4) (h5 : d ≠ 5) (h6 : d ≠ 6) (c : _) (a : Act) (w : World) (h : (bodyPostM Fence.wide 8 Tryz.prog Tryz.f37 R) (.panic c) (a.put (some d) v) w) : (bodyPostM Fence.wide 8 Tryz.prog Tryz.f37 R) (.panic c) a w :=
  leavesM_res (resB a.tmps d v h4 h5 h6) _ _ _ h
theorem own_lowA {w : World} {B B' : Nat} {e : TypeId} {size n : Nat} {v : Value} {xs : List Value} (h : w.ownsRow B e size v n xs) (hB : B' ≤ B) : w.ownsRow B' e size v n xs := by
  refine ⟨h.1, ?_⟩
  rcases h.2 with h3 | ⟨g, cap, cur, e1, hg, rest⟩
  · exact .inl h3
  · exact .inr ⟨g, cap, cur, e1, Nat.le_trans hB hg, rest⟩
theorem reach_word32 {ms : List Mk} {s0 s : Nat} (hm : ∀ m ∈ ms, MkOk m) (h0 : s0 < 4294967296) (h : Reach (stepW ms) s0 s) : s < 4294967296 := by
  induction h with
  | start => exact h0
  | step _ hs ih =>
    obtain ⟨m, hmm, _, rfl⟩ := hs
    exact goW_lt ih (hm m hmm)
/-- a block of another type is none of the queue's -/
theorem QueueS.neT {B n c Q mb : Nat} {w : World} {A : Option Addr} {es : List En} {tm : Int} (h : QueueS B w Q mb A n c es tm) {t : TypeId} {g : Nat} {cs : List Value} (hb : Blk t w g cs) (h1 : t ≠ 162) (h2 : t ≠ 166) (h3 : t ≠ 163) : ¬ QueueM Q mb A es g := by
  rintro (e | e | e | ⟨x, hx, e⟩)
  · subst e; exact blkT_ne hb h.blk h1 rfl
  · subst e; exact h.map.ne hb rfl
  · rcases h.heap.own.2 with ⟨e4, _⟩ | ⟨r, cap, cur, e4, _, hc4, rest⟩
    · injection e4 with e1; subst e1; cases e
    · injection e4 with e1
      subst e1
      obtain rfl : r = g := by simpa [blkA] using e
      unfold Blk at hb
      rw [hc4] at hb
      injection hb with hb
      injection hb with _ hb _
      exact h3 hb.symm
  · subst e
    obtain ⟨i, hi⟩ := List.getElem?_of_mem hx
    exact blkT_ne hb (h.heap.ent i x hi) h2 rfl
/-- the step in its box, and the round's frame -/
def StpBoxA (B0 : Nat) (a : Act) {ms : List Mk} {s : Nat} (x : Stp ms s) (a' : Act) (W : World) : Prop :=
  ∃ Bx, B0 ≤ Bx ∧ Blk 114 W Bx [.int .i64 x.1.1, .int .i64 x.1.2.1, .int .u32 x.1.2.2] ∧ a' = { tmps := (a.tmps.setIfInBounds 66 (stpV x.1)).setIfInBounds 15 (.pointer (some ⟨Bx, 0, none⟩)), defers := [] }
theorem StpBoxA.own {B0 : Nat} {a : Act} {ms : List Mk} {s : Nat} {B : Nat} (x : Stp ms s) (a' : Act) : OwnFrom B (fun (_ : Unit) W => StpBoxA B0 a x a' W) := by
  rintro _ X Y row ⟨Bx, h0, h1, h2⟩ hg hr
  exact ⟨Bx, h0, h1.grown hg (turn_ne hr h1.cells), h2⟩
/-- a walk over the steps of a state -/
theorem range_stepsA (B0 : Nat) {ms : List Mk} {s n : Nat} {g : Operand} {ps : Array Tmp} {assign body : Code} {Q : Exit → Act → World → Prop} {a : Act} {w : World} (h1 : 1 ≤ n) {gf : Nat} {lb : Array Value} (hg : a.eval g = .func (.func gf) #[] lb) (eg : ∀ args w, (callFunc gf args).run Tryz.prog w = .ok (.enter gf args) w)
    {Kp : World → World → Prop} {S Sp : List (Stp ms s) → Prop} {N : Nat} {w0 : World} (hseq : SeqStopsK Fence.wide (n - 1) Tryz.prog gf lb encStp Kp S Sp N w0) (hKt : ∀ {A B C : World}, Kp A B → Kp B C → Kp A C) (hKb : ∀ (W : World) (l : Nat) (o o' : Obj), w.heap.size ≤ l → W.heap[l]? = some o → o.isCells = false → o.isWalk = false → Kp W (W.putObj l o')) (hb0 : Below w0.heap.size w0 w) (hps : ∀ x : Stp ms s, (encStp x).size = ps.size)
    (I : List (Stp ms s) → World → Prop) (hI : OwnFrom w.heap.size I) (h0 : I [] w)
    (hassign : ∀ (l : Nat) (pre : List (Stp ms s)) (x : Stp ms s) (W : World) (K : Act → World → Prop), I pre W → (∀ a' W', KeepsFrom w.heap.size W W' → Kp W W' → I pre W' → StpBoxA B0 a x a' W' → K a' W') →
      assign.wpIn (Fence.wide.inRound l) (n - 1 - 1) Tryz.prog (Exit.then K (fun _ _ _ => False)) { tmps := (ps.zip (encStp x)).foldl (fun t (p, v) => t.setIfInBounds p v) a.tmps, defers := [] } W)
    (hbody : ∀ (l : Nat) (pre : List (Stp ms s)) (x : Stp ms s) (a' : Act) (W : World), w.heap.size ≤ l → (∃ r, W.heap[l]? = some (.loop r)) → I pre W → StpBoxA B0 a x a' W → pre.length < N → body.wpIn (Fence.wide.inRound l) (n - 1 - 1) Tryz.prog (ownPostG w.heap.size Kp I (fun _ _ _ => False) (pre ++ [x]) W) a' W)
    (hdone : ∀ (D : Nat) (xs : List (Stp ms s)) (W : World), w.heap.size ≤ D → S xs → I xs W → W.heap[D]? = some (.deferred (some [])) → Q .normal { a with defers := { target := .collected D, args := #[] } :: a.defers } W) :
    (Code.rangeFunc g ps assign body).wpIn Fence.wide n Tryz.prog Q a w :=
  wpIn_rangeFunc_ownH rfl h1 hg trivial eg hseq hKt hKb hb0 hps I (fun _ _ _ => False) hI (fun _ _ _ _ _ hs _ _ => hs) h0 (StpBoxA B0 a) (fun x a' => StpBoxA.own x a') hassign hbody hdone (fun D cc pre W _ _ h _ => h.elim)
theorem skip_and {F : Fence} {X : Prop} (h : X) : (∀ (f : FuncId), none = some f → F.fn f) ∧ X := ⟨fun f h => (by cases h), h⟩
theorem round_at91 {l n : Nat} {P : Program} {Q : Exit → Act → World → Prop} {o : Oper} (_h : o.dst = some 91) (hd : ∀ c, o.op ≠ .defer c) {a : Act} {w : World} {K : Act → World → Prop} (hw : o.wp P a w K Q) : o.wpIn (Fence.wide.inRound l) n P a w K Q := round_wpIn hd hw
theorem KeepsOthers.of_belowA {W W' : World} (h : Below W.heap.size W W') : KeepsOthers W W' := ⟨h.size, fun k o hk _ => (h.block k (Array.getElem?_eq_some_iff.1 hk).1).trans hk⟩
theorem chg_fromA {M : Nat → Prop} {W W' : World} {BL : Nat} (h : Chg M W W') (hM : ∀ b, M b → b < BL) : KeepsFrom BL W W' :=
  ⟨h.size, fun k o hk ho _ => (h.block k (Array.getElem?_eq_some_iff.1 ho).1 (fun e => by have := hM k e; omega)).trans ho⟩
theorem measA_less {L : List Nat} {pr pr' : Nat → Option Int} {n n' M : Nat} (h : sumP L pr' + 1 ≤ sumP L pr) (hn : n' ≤ n + 1) (hM : measA L pr n + 1 ≤ M) : measA L pr' n' + 1 ≤ M := by
  unfold measA at hM ⊢
  have := Nat.mul_le_mul_right (L.length + 1) h
  rw [Nat.add_mul] at this
  omega
/-- what holds between two steps of a taken state -/
def AsJ (w0 : World) (ms : List Mk) (s0 gl : Nat) (hv : Nat → Int) (L : List Nat) (HC : World → Prop) (xb tb kb hb Bh Fb Pb Ab Qb pm am em Q mb s : Nat) (p : Int) (M0 Sb Bs BL : Nat) (Ds E : List Nat) (pre : List (Stp ms s)) (W : World) : Prop :=
  ∃ (QA : Option Addr) (qn qc : Nat) (qes : List En) (tm : Int) (pr : Nat → Option Int) (pa : Nat → Option (Nat × Nat)) (D : List Nat), AmS w0 W (.func (.func 68) #[] #[.pointer (some ⟨xb, 0, none⟩), .pointer (some ⟨tb, 0, none⟩), .pointer (some ⟨kb, 0, none⟩)]) HC hb Bh Fb Pb Ab Qb pm am em Q mb QA qn qc qes tm pr pa D E ∧
    AsI ms s0 (goalW gl) hv L D pr pa (keyE qes) s (fun x => x ∉ pre.map (·.1)) ∧ pr s = some p ∧ keyE qes s = none ∧ measA L pr qn + 1 ≤ M0 ∧ Blk 69 W Sb [.int .u32 s] ∧ Blk 69 W Bs [.int .u32 s] ∧ (∀ D ∈ Ds, D < BL ∧ W.heap[D]? = some (.deferred (some []))) ∧ (pm < BL ∧ am < BL ∧ em < BL ∧ mb < BL ∧ Bh ≤ BL)
section
variable {w0 W W' : World} {ms : List Mk} {s0 gl : Nat} {hv : Nat → Int} {L : List Nat} {HC : World → Prop} {xb tb kb hb Bh Fb Pb Ab Qb pm am em Q mb s : Nat} {p : Int} {M0 Sb Bs BL : Nat} {Ds E : List Nat}
theorem AsJ.own (H : HeuC xb tb kb hb Bh w0.heap.size hv L HC) : OwnFrom BL (AsJ w0 ms s0 gl hv L HC xb tb kb hb Bh Fb Pb Ab Qb pm am em Q mb s p M0 Sb Bs BL Ds E) := by
  rintro pre X Y row ⟨QA, qn, qc, qes, tm, pr, pa, D, h1, h2, h3, h4, h5, h6, h7, h8, h9⟩ hg hr
  exact ⟨QA, qn, qc, qes, tm, pr, pa, D, h1.turn H hg hr h9.2.2.2.2 h9.2.2.2.1 h9.1 h9.2.1 h9.2.2.1, h2, h3, h4, h5, h6.grown hg (turn_ne hr h6.cells), h7.grown hg (turn_ne hr h7.cells), fun D hD => ⟨(h8 D hD).1, (hg.block D (Array.getElem?_eq_some_iff.1 (h8 D hD).2).1 (fun e => by have := (hr D e.symm).1; have := (h8 D hD).1; omega)).trans (h8 D hD).2⟩, h9⟩
theorem AsJ.keep {pre : List (Stp ms s)} (H : HeuC xb tb kb hb Bh w0.heap.size hv L HC) (h : AsJ w0 ms s0 gl hv L HC xb tb kb hb Bh Fb Pb Ab Qb pm am em Q mb s p M0 Sb Bs BL Ds E pre W) (hk : Below W.heap.size W W') : AsJ w0 ms s0 gl hv L HC xb tb kb hb Bh Fb Pb Ab Qb pm am em Q mb s p M0 Sb Bs BL Ds E pre W' := by
  obtain ⟨QA, qn, qc, qes, tm, pr, pa, D, h1, h2, h3, h4, h5, h6, h7, h8, h9⟩ := h
  exact ⟨QA, qn, qc, qes, tm, pr, pa, D, h1.keep H hk, h2, h3, h4, h5, h6.keep hk, h7.keep hk, fun D hD => ⟨(h8 D hD).1, (hk.block D (Array.getElem?_eq_some_iff.1 (h8 D hD).2).1).trans (h8 D hD).2⟩, h9⟩
end
/-- what holds at each round of the search -/
def AsL (w0 : World) (g : Nat) (ms : List Mk) (s0 gl : Nat) (hv : Nat → Int) (L : List Nat) (HC : World → Prop) (xb tb kb hb Bh Fb Pb Ab Qb pm am em Q mb : Nat) (c19 c20 c21 c22 c23 c24 c25 c26 c27 c28 c29 c30 c31 c32 c33 c34 c35 c36 c37 c38 c39 c40 : Value) (k : Nat) (a : Act) (wr : World) : Prop :=
  ∃ (QA : Option Addr) (qn qc : Nat) (qes : List En) (tm : Int) (pr : Nat → Option Int) (pa : Nat → Option (Nat × Nat)) (D E Ds : List Nat) (u12 u13 u14 u42 u43 u44 u45 u46 u47 u48 u49 u50 u51 u52 u53 u60 u61 u62 u63 u64 u65 : Value), k = measA L pr qn ∧
    a = { tmps := #[.iface 62 (.pointer (some ⟨g, 0, none⟩)), .func (.func 68) #[] #[.pointer (some ⟨xb, 0, none⟩), .pointer (some ⟨tb, 0, none⟩), .pointer (some ⟨kb, 0, none⟩)], undef, .pointer (some ⟨Fb, 0, none⟩), .slice none 0 0, .int .i64 0, .bool false, .int .u32 s0, .pointer (some ⟨Pb, 0, none⟩), .pointer (some ⟨Ab, 0, none⟩), .pointer (some ⟨Qb, 0, none⟩), .map (some em), u12, u13, u14, undef, undef, undef, undef, c19, c20, c21, c22, c23, c24, c25, c26, c27, c28, c29, c30, c31, c32, c33, c34, c35, c36, c37, c38, c39, c40, .map (some em), u42, u43, u44, u45, u46, u47, u48, u49, u50, u51, u52, u53, undef, undef, undef, undef, undef, undef, u60, u61, u62, u63, u64, u65, undef, undef, undef, undef, undef, undef, undef, undef, undef, undef, undef, undef, undef, undef, undef, undef, undef, undef, undef, undef, undef, undef, undef, undef, undef, undef, undef, undef, undef, undef, undef, undef, undef, undef, undef, undef, undef, undef, undef, undef, undef, undef, undef, undef, undef, undef, undef, undef, undef, undef, undef, undef], defers := Ds.map markD } ∧
    AmS w0 wr (.func (.func 68) #[] #[.pointer (some ⟨xb, 0, none⟩), .pointer (some ⟨tb, 0, none⟩), .pointer (some ⟨kb, 0, none⟩)]) HC hb Bh Fb Pb Ab Qb pm am em Q mb QA qn qc qes tm pr pa D E ∧ AsI ms s0 (goalW gl) hv L D pr pa (keyE qes) 0 (fun _ => False) ∧ (E.Nodup ∧ ∀ x ∈ E, x ∈ L) ∧ (∀ D ∈ Ds, Bh ≤ D ∧ wr.heap[D]? = some (.deferred (some []))) ∧ Ds.Nodup
/-- what the search gives -/
def BestP (w0 w : World) (ms : List Mk) (s0 gl : Nat) (e : Ending) (w' : World) : Prop :=
  Below w0.heap.size w0 w' ∧ ((∃ (O : Option Addr) (oc : Nat) (l : List Nat) (k : Int), e = .returned (.tuple #[.slice O l.length oc, .int .i64 k, .bool true]) ∧ BestOf ms s0 (goalW gl) l ∧ l.length ≤ 1000000000 ∧ w'.ownsRow w.heap.size 3 1 (.slice O l.length oc) l.length (opsV l)) ∨
    ∃ k : Int, e = .returned (.tuple #[.slice none 0 0, .int .i64 k, .bool false]) ∧ NoWay ms s0 (goalW gl))
set_option maxRecDepth 100000 in
set_option maxHeartbeats 12800000 in
theorem Best_ct (w0 w : World) (g s0 gl : Nat) (ms : List Mk) (xb tb kb hb : Nat) (hv : Nat → Int) (L : List Nat) (HC : World → Prop) (hW : WordsR w0 g s0 gl ms) (hb0 : Below w0.heap.size w0 w) (H : HeuC xb tb kb hb w.heap.size w0.heap.size hv L HC) (hHC : HC w)
    (hL : L.length ≤ 2000) (hLr : ∀ s, s ∈ L ↔ Reach (stepW ms) s0 s) (hpos : ∀ s, 0 ≤ hv s) (hadm : ∀ s l u n, PathW ms s l u n → goalW gl u = true → hv s ≤ n ∧ hv s < infA) :
    Calls Tryz.prog 37 #[.iface 62 (.pointer (some ⟨g, 0, none⟩)), .func (.func 68) #[] #[.pointer (some ⟨xb, 0, none⟩), .pointer (some ⟨tb, 0, none⟩), .pointer (some ⟨kb, 0, none⟩)]] w (BestP w0 w ms s0 gl) := by
  have Hwr := hide hW
  have HB0 := hide hb0
  have HH := hide H
  have HHC := hide hHC
  have HLr := hide hLr
  have Hpos := hide hpos
  have Hadm := hide hadm
  clear hW hb0 H hHC hLr hpos hadm
  have hs0L : s0 ∈ L := (HLr.out s0).2 .start
  have hs032 : s0 < 4294967296 := Hwr.out.start
  refine (callsIn_wide (n := 8)).1 (callsIn_of_wp_marks Tryz.func37 rfl trivial (wpIn_wide.2 ?_) rfl)
  simp only [Tryz.ntmps37, List.size_toArray, List.length_cons, List.length_nil, Nat.reduceAdd, Nat.reduceSub, Array.replicate_succ, Array.replicate_zero, List.push_toArray, List.append_toArray, List.nil_append, List.cons_append]
  have hm1 := start_method g
  have hm2 := steps_method g
  have hm3 := goal_method g
  have Hst := hide (fun W hb => Start_ct g s0 gl ms W (Hwr.out.keep hb))
  go_upto_region 1 with (fail)
  have hfb := Blk.new w 80 [.func (.func 68) #[] #[.pointer (some ⟨xb, 0, none⟩), .pointer (some ⟨tb, 0, none⟩), .pointer (some ⟨kb, 0, none⟩)]]
  have hb1 := (Below.refl w.heap.size w).alloc (Nat.le_refl _) (.cells [.func (.func 68) #[] #[.pointer (some ⟨xb, 0, none⟩), .pointer (some ⟨tb, 0, none⟩), .pointer (some ⟨kb, 0, none⟩)]].toArray 80)
  obtain ⟨w1, hw1⟩ : ∃ W, W = w.alloc (.cells [.func (.func 68) #[] #[.pointer (some ⟨xb, 0, none⟩), .pointer (some ⟨tb, 0, none⟩), .pointer (some ⟨kb, 0, none⟩)]].toArray 80) := ⟨_, rfl⟩
  have hz1 : w1.heap.size = w.heap.size + 1 := by rw [hw1, World.size_alloc]
  rw [← hw1] at hfb hb1
  change Code.wp _ _ _ _ (w.alloc (.cells [.func (.func 68) #[] #[.pointer (some ⟨xb, 0, none⟩), .pointer (some ⟨tb, 0, none⟩), .pointer (some ⟨kb, 0, none⟩)]].toArray 80))
  rw [← hw1]
  obtain ⟨Fb, hFb⟩ : ∃ z, z = w.heap.size := ⟨_, rfl⟩
  rw [← hFb] at hfb hz1 ⊢
  clear hw1
  have f0 := hfb.cell 0
  simp only [List.getElem?_cons_zero] at f0
  have Hfb := hide hfb
  have Hb1 := hide hb1
  have HFb := hide hFb
  have hb01 := HB0.out.trans (hb1.mono HB0.out.size)
  have Hb01 := hide hb01
  have hHC1 := HH.out.chg w w1 HHC.out (Chg.of_below hb1 _)
  have HHC1 := hide hHC1
  have hcall := HH.out.call w1 s0 hs0L hHC1
  have Hcall := hide hcall
  clear hfb hb1 hFb hb01 hHC1 hcall
  by_cases hbig : 1000000000 ≤ hv s0
  rotate_left
  · skip
    go_upto_region 4 with (first | (go_at_call 199; refine (Hst.out _ Hb01.out).mono ?_; rintro e w' ⟨rfl, rfl⟩) | (go_at_call 68; (with_reducible refine Hcall.out.mono ?_); rintro e w2 ⟨rfl, hHC2, hch2⟩; have HHC2 := hide hHC2; have Hch2 := hide hch2; clear hHC2 hch2))
    have hc02 : Below w0.heap.size w0 w2 := Hb01.out.trans (Hch2.out.below (fun i e => by have h1 : i = hb := e; have := HH.out.low; omega) Hb01.out.size)
    have hf2 := Hch2.out.blk Hfb.out (fun e => by have h1 : Fb = hb := e; have := HH.out.high; have := HFb.out; omega)
    have hz2 := Hch2.out.size
    have hhc := HH.out
    have hs04 : hv s0 < infA := by unfold infA; omega
    have hp0 := Hpos.out s0
    obtain ⟨h0, hh0⟩ : ∃ z, z = hv s0 := ⟨_, rfl⟩
    rw [← hh0] at hp0 hs04 hbig ⊢
    have Hh0 := hide hh0
    have Hf2 := hide hf2
    have Hc02 := hide hc02
    clear hh0 hf2 hc02 Hfb Hb01 Hb1 HHC1 f0 Hcall Hch2
    have hmm := @run_makeMap Tryz.prog
    have hm0 := MapV.made (κ := Nat) w2 Tryz.prog 69 encW
    obtain ⟨w3, hput, hmap, hg3, hz3⟩ := hm0.put encW_inj (int_keyed Tryz.underlying69) (T := 123) (E := 3) Tryz.underlying123 (by omega) (key := s0) (keyW Tryz.underlying69 hs032) (.int .i64 0)
    simp only [encW] at hput
    have hbm3 : Below w2.heap.size w2 w3 := ((Below.refl w2.heap.size w2).alloc (Nat.le_refl _) (.map #[] 0)).grown hg3 (by simp) (fun k e => by injection e with e; omega)
    simp only [World.size_alloc] at hz3
    have Hmap := hide hmap
    have Hbm3 := hide hbm3
    clear hm0 hmap hg3 hbm3
    go_upto_region 5 with (fail)
    obtain ⟨pm, hpm⟩ : ∃ z, z = w2.heap.size := ⟨_, rfl⟩
    have hpb := Blk.new w3 123 [.map (some w2.heap.size)]
    have hb4 := (Below.refl w3.heap.size w3).alloc (Nat.le_refl _) (.cells [Value.map (some w2.heap.size)].toArray 123)
    obtain ⟨w4, hw4⟩ : ∃ W, W = w3.alloc (.cells [Value.map (some w2.heap.size)].toArray 123) := ⟨_, rfl⟩
    have hz4 : w4.heap.size = w2.heap.size + 1 + 1 := by rw [hw4, World.size_alloc, hz3]
    rw [← hw4] at hpb hb4
    change Code.wp _ _ _ _ (w3.alloc (.cells [Value.map (some w2.heap.size)].toArray 123))
    rw [← hw4]
    rw [hz3] at hpb hb4
    have hmap4 := Hmap.out.keep (hb4.mono (by omega))
    rw [← hpm] at hpb hmap4 hz4 ⊢
    have Hpb := hide hpb
    have Hmap4 := hide hmap4
    have Hb4 := hide (Hbm3.out.trans (hb4.mono (by omega)))
    have Hpm := hide hpm
    clear hw4 hpb hb4 hmap4 Hbm3 Hmap hput hz3 hpm
    have hm0 := MapV.made (κ := Nat) w4 Tryz.prog 69 encW
    obtain ⟨w5, hput, hmap, hg5, hz5⟩ := hm0.put encW_inj (int_keyed Tryz.underlying69) (T := 108) (E := 107) Tryz.underlying108 (by omega) (key := s0) (keyW Tryz.underlying69 hs032) (.agg #[.int .u32 s0, .int .i64 0])
    simp only [encW] at hput
    have hbm5 : Below w4.heap.size w4 w5 := ((Below.refl w4.heap.size w4).alloc (Nat.le_refl _) (.map #[] 0)).grown hg5 (by simp) (fun k e => by injection e with e; omega)
    simp only [World.size_alloc] at hz5
    have Hmap := hide hmap
    have Hbm5 := hide hbm5
    have Hz4 := hide hz4
    clear hm0 hmap hg5 hbm5 hz4
    go_upto_region 6 with (fail)
    have hz4 := Hz4.out
    have hab := Blk.new w5 108 [.map (some w4.heap.size)]
    have hb6 := (Below.refl w5.heap.size w5).alloc (Nat.le_refl _) (.cells [Value.map (some w4.heap.size)].toArray 108)
    obtain ⟨w6, hw6⟩ : ∃ W, W = w5.alloc (.cells [Value.map (some w4.heap.size)].toArray 108) := ⟨_, rfl⟩
    have hz6 : w6.heap.size = w4.heap.size + 1 + 1 := by rw [hw6, World.size_alloc, hz5]
    rw [← hw6] at hab hb6
    change Code.wp _ _ _ _ (w5.alloc (.cells [Value.map (some w4.heap.size)].toArray 108))
    rw [← hw6]
    rw [hz5] at hab hb6
    have hmap6 := Hmap.out.keep (hb6.mono (by omega))
    obtain ⟨am, ham⟩ : ∃ z, z = w4.heap.size := ⟨_, rfl⟩
    rw [← ham] at hab hmap6 hz6 hz4 ⊢
    have Hab := hide hab
    have Hmap6 := hide hmap6
    have Hb6 := hide (Hbm5.out.trans (hb6.mono (by omega)))
    have Ham := hide ham
    have Hz6 := hide hz6
    have Hz4b := hide hz4
    clear hw6 hab hb6 hmap6 Hbm5 Hmap hput hz5 ham hz6 hz4 Hz4
    go_upto_region 7 with (go_at_call 63; (with_reducible refine (QNew_ct w.heap.size w6).mono ?_); rintro e w7 ⟨rfl, hq7, hb7, hz7⟩; have Hq7 := hide hq7; have Hb7 := hide hb7; have Hz7 := hide hz7; clear hq7 hb7 hz7)
    obtain ⟨mb, hmb⟩ : ∃ z, z = w6.heap.size := ⟨_, rfl⟩
    have hz7 := Hz7.out
    have hz6 := Hz6.out
    have hz4 := Hz4b.out
    have hpm := Hpm.out
    have hqb := Blk.new w7 124 [.pointer (some ⟨w6.heap.size + 1, 0, none⟩)]
    have hb8 := (Below.refl w7.heap.size w7).alloc (Nat.le_refl _) (.cells [Value.pointer (some ⟨w6.heap.size + 1, 0, none⟩)].toArray 124)
    obtain ⟨w8, hw8⟩ : ∃ W, W = w7.alloc (.cells [Value.pointer (some ⟨w6.heap.size + 1, 0, none⟩)].toArray 124) := ⟨_, rfl⟩
    rw [← hw8] at hqb hb8
    change Code.wp _ _ _ _ (w7.alloc (.cells [Value.pointer (some ⟨w6.heap.size + 1, 0, none⟩)].toArray 124))
    rw [← hw8]
    have hz8 : w8.heap.size = w6.heap.size + 2 + 1 := by rw [hw8, World.size_alloc, hz7]
    clear hw8
    have hq8 := Hq7.out.keep hb8
    rw [hz7] at hqb
    rw [← hmb] at hqb hq8 hz6 hz8 ⊢
    try rw [hz7]
    try rw [← hmb]
    have hk68 : Below w6.heap.size w6 w8 := Hb7.out.trans (hb8.mono (by omega))
    have hk48 : Below w4.heap.size w4 w8 := Hb6.out.trans (hk68.mono Hb6.out.size)
    have hk28 : Below w2.heap.size w2 w8 := Hb4.out.trans (hk48.mono Hb4.out.size)
    have hf8 := Hf2.out.keep hk28
    have hp8 := Hpb.out.keep hk48
    have ha8 := Hab.out.keep hk68
    have hpm8 := Hmap4.out.keep hk48
    have ham8 := Hmap6.out.keep hk68
    have hlow8 : Below w0.heap.size w0 w8 := Hc02.out.trans (hk28.mono Hc02.out.size)
    have hHC8 := hhc.chg w2 w8 HHC2.out (Chg.of_below hk28 _)
    have hww2 : w.heap.size ≤ w2.heap.size := by have := HFb.out; omega
    clear hk68 hk48 hk28 hb8 Hq7 Hb7 Hz7 Hb6 Hb4 Hf2 Hpb Hab Hmap4 Hmap6 HHC2 Hc02
    obtain ⟨Q, hQ⟩ : ∃ z, z = mb + 1 := ⟨_, rfl⟩
    obtain ⟨Qb, hQb⟩ : ∃ z, z = mb + 2 := ⟨_, rfl⟩
    obtain ⟨Pb, hPb⟩ : ∃ z, z = pm + 1 := ⟨_, rfl⟩
    obtain ⟨Ab, hAb⟩ : ∃ z, z = am + 1 := ⟨_, rfl⟩
    rw [← hQ] at hqb hq8
    rw [← hQb] at hqb
    rw [← hPb] at hp8
    rw [← hAb] at ha8
    try rw [← hQ]
    try rw [← hQb]
    try rw [← hPb]
    try rw [← hAb]
    have q8 := hqb.cell 0
    have f8 := hf8.cell 0
    have ql := hqb.lt
    have fl := hf8.lt
    simp only [List.getElem?_cons_zero] at q8 f8
    have Hq8 := hide hq8
    have Hqb8 := hide hqb
    have Hf8 := hide hf8
    have Hp8 := hide hp8
    have Ha8 := hide ha8
    have Hpm8 := hide hpm8
    have Ham8 := hide ham8
    have Hlow8 := hide hlow8
    have HHC8 := hide hHC8
    have HN := hide (show pm ≤ w2.heap.size ∧ w2.heap.size ≤ pm ∧ am ≤ pm + 1 + 1 ∧ pm + 1 + 1 ≤ am ∧ mb ≤ am + 1 + 1 ∧ am + 1 + 1 ≤ mb ∧ Q ≤ mb + 1 ∧ mb + 1 ≤ Q ∧ Qb ≤ mb + 2 ∧ mb + 2 ≤ Qb ∧ Pb ≤ pm + 1 ∧ pm + 1 ≤ Pb ∧ Ab ≤ am + 1 ∧ am + 1 ≤ Ab ∧ w8.heap.size ≤ mb + 2 + 1 ∧ mb + 2 + 1 ≤ w8.heap.size ∧ Fb ≤ w.heap.size ∧ w.heap.size ≤ Fb ∧ w.heap.size ≤ w2.heap.size ∧ Fb + 1 ≤ w2.heap.size by have := HFb.out; omega)
    clear hq8 hqb hf8 hp8 ha8 hpm8 ham8 hlow8 hHC8 hQ hQb hPb hAb hmb hz7 hz6 hz4 hpm hz8 hww2 Hz6 Hz4b Ham Hpm HFb hz1 hz2
    have hwr : IntKind.i64.wrap (4096 * h0) = 4096 * h0 := IntWalk.i64_in _ (by unfold infA at hs04; omega)
    obtain ⟨V, hV⟩ : ∃ Z, Z = w8.drew := ⟨_, rfl⟩
    have hbV : Below w8.heap.size w8 V := by rw [hV]; exact (Below.refl _ _).drew
    refine wp_region_held_drew (S := (fun w' => w'.cell? ⟨Qb, 0, none⟩ = some (.pointer (some ⟨Q, 0, none⟩)) ∧ w'.cell? ⟨Fb, 0, none⟩ = some (.func (.func 68) #[] #[.pointer (some ⟨xb, 0, none⟩), .pointer (some ⟨tb, 0, none⟩), .pointer (some ⟨kb, 0, none⟩)]))) (by kernel_rfl) ?_ (fun hHeld => ?_)
    · exact ⟨q8, f8⟩
    rw [← hV] at hHeld ⊢
    clear hV
    refine takeA (i := 0) (v := ?_) (some 34) rfl rfl (by kernel_rfl) (by kernel_rfl) (by kernel_rfl) (fun c a w h => hQB 34 (by decide) (by decide) (by decide) c a w h) (Or.inl ⟨by rfl, ?_⟩) (by assumption) ?_
    rotate_left
    · intro w hSw; (try dsimp only at hSw); obtain ⟨s1, s2⟩ := hSw; first | (go_simp; done) | (go_simp; with_reducible rfl)
    try simp only [Act.put, List.setIfInBounds_toArray, List.set_cons_zero, List.set_cons_succ]
    refine takeA (i := 1) (v := ?_) (some 35) rfl rfl (by kernel_rfl) (by kernel_rfl) (by kernel_rfl) (fun c a w h => hQB 35 (by decide) (by decide) (by decide) c a w h) (Or.inl ⟨by rfl, ?_⟩) (by assumption) ?_
    rotate_left
    · intro w hSw; (try dsimp only at hSw); obtain ⟨s1, s2⟩ := hSw; first | (go_simp; done) | (go_simp; with_reducible rfl)
    try simp only [Act.put, List.setIfInBounds_toArray, List.set_cons_zero, List.set_cons_succ]
    refine takeA (i := 2) (v := ?_) (some 36) rfl rfl (by kernel_rfl) (by kernel_rfl) (by kernel_rfl) (fun c a w h => hQB 36 (by decide) (by decide) (by decide) c a w h) (Or.inl ⟨by rfl, ?_⟩) (by assumption) ?_
    rotate_left
    · intro w hSw; (try dsimp only at hSw); obtain ⟨s1, s2⟩ := hSw; first | (go_simp; done) | (go_simp; with_reducible rfl)
    try simp only [Act.put, List.setIfInBounds_toArray, List.set_cons_zero, List.set_cons_succ]
    refine takeA (i := 3) (v := ?_) (some 37) rfl rfl (by kernel_rfl) (by kernel_rfl) (by kernel_rfl) (fun c a w h => hQB 37 (by decide) (by decide) (by decide) c a w h) (Or.inl ⟨by rfl, ?_⟩) (by assumption) ?_
    rotate_left
    · intro w hSw; (try dsimp only at hSw); obtain ⟨s1, s2⟩ := hSw; first | (go_simp; done) | (go_simp; with_reducible rfl)
    try simp only [Act.put, List.setIfInBounds_toArray, List.set_cons_zero, List.set_cons_succ]
    refine wpAnyH_ready (rs := [4]) (by kernel_rfl) (by simp) ?_
    refine AllReadyH.cons rfl (fun K hK => ?_) AllReadyH.nil
    have hcl := HH.out.call V s0 hs0L (HH.out.chg w8 V HHC8.out (Chg.of_below hbV _))
    rw [← Hh0.out] at hcl
    go_simp
    refine hcl.mono ?_
    rintro e w9 ⟨rfl, hHC9, hch9⟩
    have hN := HN.out
    have hhb := HH.out.high
    have hlb := HH.out.low
    have hz9 := hch9.size
    have hzV := hbV.size
    have hqb9 := hch9.blk (Hqb8.out.keep hbV) (fun e => by have h1 : Qb = hb := e; omega)
    have hf9 := hch9.blk (Hf8.out.keep hbV) (fun e => by have h1 : Fb = hb := e; omega)
    have q9 := hqb9.cell 0
    have f9 := hf9.cell 0
    simp only [List.getElem?_cons_zero] at q9 f9
    go_simp
    refine hK.out _ _ ?_ (fun hHeld2 => ?_)
    · exact ⟨q9, f9⟩
    clear hK K hHeld
    try simp only [Act.put, List.setIfInBounds_toArray, List.set_cons_zero, List.set_cons_succ]
    have hHeld := hHeld2; clear hHeld2
    refine takeA (i := 5) (v := ?_) (some 39) rfl rfl (by kernel_rfl) (by kernel_rfl) (by kernel_rfl) (fun c a w h => hQB 39 (by decide) (by decide) (by decide) c a w h) (Or.inl ⟨by rfl, ?_⟩) (by assumption) ?_
    rotate_left
    · intro w hSw; (try dsimp only at hSw); obtain ⟨s1, s2⟩ := hSw; first | (go_simp; done) | (go_simp; with_reducible rfl)
    try simp only [Act.put, List.setIfInBounds_toArray, List.set_cons_zero, List.set_cons_succ]
    refine wpAnyH_ready (rs := [6]) (by kernel_rfl) (by simp) ?_
    refine AllReadyH.cons rfl (fun K hK => ?_) AllReadyH.nil
    go_simp
    have hq9 := (Hq8.out.keep hbV).chg hch9 (fun b hbq e => by
      have h1 : b = hb := e
      rcases hbq with e2 | e2 | e2 | ⟨x, hx, _⟩
      · omega
      · omega
      · cases e2
      · cases hx)
    have hset := QSet_ct w.heap.size Q mb none 0 0 [] 0 s0 (4096 * h0) w9 hq9 hs032 (by unfold infA at hs04; omega) (by omega) (by omega)
    have Hset := hide hset
    have Hq9 := hide hq9
    clear hset hq9
    with_reducible refine Hset.out.mono ?_
    rintro e w10 ⟨rfl, QA, qn, qc, qes, tm, hq10, hch10, hM10, hky10⟩
    have Hq10 := hide hq10
    have Hky10 := hide hky10
    have HM10 := hide hM10
    have Hch10 := hide hch10
    clear hq10 hky10 hM10 hch10
    go_simp
    have hq10 := Hq10.out
    have hky10 := Hky10.out
    have hM10 := HM10.out
    have hch10 := Hch10.out
    have hz10 := hch10.size
    have nq : ∀ b, b < mb → ¬ QueueM Q mb none [] b := fun b hb e => by
      rcases e with e2 | e2 | e2 | ⟨x, hx, _⟩
      · omega
      · omega
      · cases e2
      · cases hx
    have nq2 : ∀ b, Q < b → ¬ QueueM Q mb none [] b := fun b hb e => by
      rcases e with e2 | e2 | e2 | ⟨x, hx, _⟩
      · omega
      · omega
      · cases e2
      · cases hx
    have hqb10 := hch10.blk hqb9 (nq2 Qb (by omega))
    have hf10 := hch10.blk hf9 (nq Fb (by omega))
    have hp10 := hch10.blk (hch9.blk (Hp8.out.keep hbV) (fun e => by have h1 : Pb = hb := e; omega)) (nq Pb (by omega))
    have ha10 := hch10.blk (hch9.blk (Ha8.out.keep hbV) (fun e => by have h1 : Ab = hb := e; omega)) (nq Ab (by omega))
    have hpm10 := (((Hpm8.out.keep hbV).chg hch9 (fun e => by have h1 : pm = hb := e; omega))).chg hch10 (nq pm (by omega))
    have ham10 := (((Ham8.out.keep hbV).chg hch9 (fun e => by have h1 : am = hb := e; omega))).chg hch10 (nq am (by omega))
    have hlow10 := ((Hlow8.out.trans (hbV.mono Hlow8.out.size)).trans (hch9.below (fun i e => by have h1 : i = hb := e; omega) (by have := Hlow8.out.size; omega))).trans (hch10.below (fun i e => by
      have hBw := HB0.out.size
      rcases e with e2 | e2 | e2 | ⟨x, hx, _⟩
      · omega
      · omega
      · cases e2
      · cases hx) (by have := Hlow8.out.size; omega))
    have hHC10 := HH.out.chg w9 w10 hHC9 (hch10.mono fun b e => by
      rcases e with e2 | e2 | e2 | ⟨x, hx, _⟩
      · omega
      · omega
      · cases e2
      · cases hx)
    have q10 := hqb10.cell 0
    have f10 := hf10.cell 0
    simp only [List.getElem?_cons_zero] at q10 f10
    have hsq10 : ∀ b, QueueM Q mb QA qes b → w.heap.size ≤ b ∧ b ≠ Fb ∧ b ≠ Pb ∧ b ≠ Ab ∧ b ≠ Qb ∧ b ≠ pm ∧ b ≠ am ∧ b ≠ w10.heap.size := fun b hbq => by
      have hlt := hq10.ltA hbq
      rcases hM10 b hbq with e | e
      · rcases e with e2 | e2 | e2 | ⟨x, hx, _⟩
        · omega
        · omega
        · cases e2
        · cases hx
      · omega
    refine hK.out _ _ ?_ (fun hHeld2 => ?_)
    · exact ⟨q10, f10⟩
    clear hK K hHeld
    try simp only [Act.put, List.setIfInBounds_toArray, List.set_cons_zero, List.set_cons_succ]
    have hHeld := hHeld2; clear hHeld2

    refine wpAnyH_done (by kernel_rfl) ?_ _
    have Hqb10 := hide hqb10
    have Hf10 := hide hf10
    have Hp10 := hide hp10
    have Ha10 := hide ha10
    have Hpm10 := hide hpm10
    have Ham10 := hide ham10
    have Hlow10 := hide hlow10
    have HHC10 := hide hHC10
    have Hsq10 := hide hsq10
    have hz10b : mb + 2 + 1 ≤ w10.heap.size := by omega
    clear hq10 hqb10 hf10 hp10 ha10 hpm10 ham10 hlow10 hHC10 hsq10 hky10 HM10 Hch10 Hset Hq9 hcl hHeld q8 f8 q9 f9 q10 f10 ql fl hch9 hch10 hqb9 hf9 hHC9 nq nq2 hM10 hbV Hq8 Hqb8 Hf8 Hp8 Ha8 Hpm8 Ham8 Hlow8 HHC8 hz9 hzV hz10 hhc
    have hem := MapV.made (κ := Nat) w10 Tryz.prog 69 encW
    have hb11 := (Below.refl w10.heap.size w10).alloc (Nat.le_refl _) (.map #[] 0)
    go_wp2_with fail
    obtain ⟨em, hem0⟩ : ∃ z, z = w10.heap.size := ⟨_, rfl⟩
    obtain ⟨w11, hw11⟩ : ∃ W, W = w10.alloc (.map #[] 0) := ⟨_, rfl⟩
    change Code.wp _ _ _ _ (w10.alloc (.map #[] 0)) at ⊢
    rw [← hw11] at hem hb11 ⊢
    rw [← hem0] at hem ⊢
    have hN := HN.out
    have hsq := Hsq10.out
    rw [← hem0] at hsq
    have hS : AmS w0 w11 (.func (.func 68) #[] #[.pointer (some ⟨xb, 0, none⟩), .pointer (some ⟨tb, 0, none⟩), .pointer (some ⟨kb, 0, none⟩)]) HC hb w.heap.size Fb Pb Ab Qb pm am em Q mb QA qn qc qes tm (fun s => if s = s0 then some 0 else none) (fun s => if s = s0 then some (s0, 0) else none) [s0] [] := by
      have hbw := HB0.out.size
      refine ⟨Hlow10.out.trans (hb11.mono Hlow10.out.size), by have := hb11.size; omega, HH.out.chg w10 w11 HHC10.out (Chg.of_below hb11 _), Hf10.out.keep hb11, Hp10.out.keep hb11, Ha10.out.keep hb11, Hqb10.out.keep hb11, ((Hpm10.out.keep hb11).ext (fun k => ?_)), ((Ham10.out.keep hb11).ext (fun k => ?_)), (hem.ext (fun k => by simp)), Hq10.out.keep hb11, ⟨by omega, by omega, by omega, by omega, by omega, by omega, by omega⟩, ⟨by omega, by omega, by omega⟩, hsq, ⟨HH.out.low, HH.out.high⟩⟩
      · unfold putV; by_cases e : k = s0 <;> simp [e]
      · unfold putV; by_cases e : k = s0 <;> simp [e, backV]
    have hI : AsI ms s0 (goalW gl) hv L [s0] (fun s => if s = s0 then some 0 else none) (fun s => if s = s0 then some (s0, 0) else none) (keyE qes) 0 (fun _ => False) := by
      have e : keyE qes = fun s => if s = s0 then some (4096 * hv s0) else none := by
        funext y
        rw [Hky10.out y, Hh0.out]
        rfl
      rw [e]
      exact AsI.begin hs0L (by rw [← Hh0.out]; exact hs04)
    have HS := hide hS
    have HI := hide hI
    clear hS hI hN hsq hem hb11 hw11 hem0 Hlow10 HHC10 Hf10 Hp10 Ha10 Hqb10 Hpm10 Ham10 Hq10 Hsq10 Hky10 HN hz10b hp0 hs04 hwr hmm hbig
    refine wp_loop_ghost_k (AsL w0 g ms s0 gl hv L HC xb tb kb hb w.heap.size Fb Pb Ab Qb pm am em Q mb _ _ _ _ _ _ _ _ _ _ _ _ _ _ _ _ _ _ _ _ _ _) (measA L (fun s => if s = s0 then some 0 else none) qn) ⟨_, _, _, _, _, _, _, _, [], [], _, _, _, _, _, _, _, _, _, _, _, _, _, _, _, _, _, _, _, _, _, rfl, rfl, HS.out, HI.out, ⟨List.nodup_nil, fun x hx => (by cases hx)⟩, fun D hD => (by cases hD), List.nodup_nil⟩ ?_
    clear HS HI Hst Hh0
    intro k a wr hI J K hJ hK
    obtain ⟨QA, qn, qc, qes, tm, pr, pa, D, E, Ds, u12, u13, u14, u42, u43, u44, u45, u46, u47, u48, u49, u50, u51, u52, u53, u60, u61, u62, u63, u64, u65, rfl, rfl, hS, hI, ⟨hE1, hE2⟩, hDs, hdn⟩ := hI
    have hpmap := hS.pmap
    cases qn with
    | zero =>
      have hlq := QLen_ct w.heap.size Q mb QA 0 qc qes tm wr hS.q
      have hel := hS.emap.len Tryz.underlying127 3
      have c10 := hS.qbx.cell 0
      simp only [List.getElem?_cons_zero] at c10
      have Hlq := hide hlq
      have HS := hide hS
      have HI := hide hI
      have HDs := hide hDs
      have Hdn := hide hdn
      clear hlq hS hI hDs hdn hpmap hE1 hE2
      go_wp2_with (go_at_call 65; (with_reducible refine Hlq.out.mono ?_); rintro e w' ⟨rfl, rfl⟩)
      refine leaves_marks Ds _ (fun D hD => (HDs.out D hD).2) Hdn.out fun W' hc => ?_
      refine ⟨.tuple #[.slice none 0 0, .int .i64 E.length, .bool false], by simp [results, Tryz.results37, go_sem], ?_⟩
      exact ⟨HS.out.low.trans (hc.below (fun i hi => by have h1 := (HDs.out i hi).1; have h2 := HH.out.low; have h3 := HH.out.high; omega) HS.out.low.size), .inr ⟨_, rfl, HI.out.empty Hadm.out HS.out.q.noneA⟩⟩
    | succ m =>
      have hlq := QLen_ct w.heap.size Q mb QA (m + 1) qc qes tm wr hS.q
      have htk := QTake_ct w.heap.size Q mb QA m qc qes tm wr hS.q
      have c10 := hS.qbx.cell 0
      have l10 := hS.qbx.lt
      simp only [List.getElem?_cons_zero] at c10
      have hmf : m ≤ 1000000 := by have := hS.q.heap.few; omega
      have Hlq := hide hlq
      have Htk := hide htk
      have HS := hide hS
      have HI := hide hI
      have HDs := hide hDs
      have Hdn := hide hdn
      clear hlq htk hS hI hDs hdn hpmap
      go_upto_region 11 with (first
        | (go_at_call 65; (with_reducible refine Hlq.out.mono ?_); rintro e w' ⟨rfl, rfl⟩)
        | (go_at_call 66; (with_reducible refine Htk.out.mono ?_); rintro e w12 ⟨t, kq, qes2, tm2, rfl, ht32, hk1, hk2, hkt, hq2, hch2, hM2, hky2, hmin2⟩; have Hkt := hide hkt; have Hq2 := hide hq2; have Hch2 := hide hch2; have HM2 := hide hM2; have Hky2 := hide hky2; have Hmin2 := hide hmin2; clear hkt hq2 hch2 hM2 hky2 hmin2 c10 l10 Hlq Htk))
      have hS2 := HS.out.setQ HH.out Hq2.out Hch2.out (fun b hb => .inl (HM2.out b hb))
      obtain ⟨p, hpt, hkp, hvt⟩ := HI.out.key t kq Hkt.out
      have htD : t ∈ D := (HI.out.dom t).2 (by rw [hpt]; rfl)
      have htL := HI.out.sub t htD
      have hDL := HI.out.few
      have hph := HI.out.high t p hpt
      have hp0 := (HI.out.low t p hpt).1
      have hsb := Blk.new w12 69 [.int .u32 t]
      have hb13 := (Below.refl w12.heap.size w12).alloc (Nat.le_refl _) (.cells [Value.int .u32 t].toArray 69)
      obtain ⟨w13, hw13⟩ : ∃ W, W = w12.alloc (.cells [Value.int .u32 t].toArray 69) := ⟨_, rfl⟩
      rw [← hw13] at hsb hb13
      change Code.wp _ _ _ _ (w12.alloc (.cells [Value.int .u32 t].toArray 69))
      rw [← hw13]
      obtain ⟨Sb, hSb⟩ : ∃ z, z = w12.heap.size := ⟨_, rfl⟩
      rw [← hSb] at hsb ⊢
      have hSbB : w.heap.size ≤ Sb := by rw [hSb]; exact hS2.size
      clear hw13 hSb
      have hS3 := hS2.keep HH.out hb13
      have hD3 : ∀ D ∈ Ds, w.heap.size ≤ D ∧ w13.heap[D]? = some (.deferred (some [])) := fun D hD => by
        obtain ⟨h1, h2⟩ := HDs.out D hD
        have h3 : w12.heap[D]? = some (.deferred (some [])) := (Hch2.out.block D (Array.getElem?_eq_some_iff.1 h2).1 (HS.out.q.markA h2)).trans h2
        exact ⟨h1, (hb13.block D (Array.getElem?_eq_some_iff.1 h3).1).trans h3⟩
      have s0c := hsb.cell 0
      have slt := hsb.lt
      simp only [List.getElem?_cons_zero] at s0c
      have hgc := Goal_ct g s0 gl ms t w13 (Hwr.out.keep hS3.low) ht32
      have HS3 := hide hS3
      have HD3 := hide hD3
      have Hsb := hide hsb
      have Hgc := hide hgc
      have Hpt := hide hpt
      have Hkp := hide hkp
      clear hS2 hS3 hD3 hsb hgc hpt hkp hb13
      cases hgt : goalW gl t with
      | true =>
        rw [hgt] at Hgc
        have hBk : BackOk ms s0 pr pa := ⟨HI.out.start, fun s q hs => by
          have h1 := HI.out.low s q hs
          have h2 := HI.out.high s q hs
          exact ⟨h1.1, h1.2, by omega⟩, HI.out.par, fun s hs => reach_word32 Hwr.out.ok hs032 ((HLr.out s).1 (HI.out.sub s ((HI.out.dom s).2 hs))), Hwr.out.few⟩
        have HBk := hide hBk
        have hal := HS3.out.abx.cell 0
        have hel := HS3.out.emap.len Tryz.underlying127 3
        simp only [List.getElem?_cons_zero] at hal
        clear hBk
        go_wp2_with (first
          | (go_at_call 30; (with_reducible refine Hgc.out.mono ?_); rintro e w14 ⟨rfl, dk, rfl⟩)
          | (go_at_call 58; (with_reducible refine (Path_ct (w13.drewN dk) HBk.out (fun m hm => (Hwr.out.ok m hm).low) (HS3.out.amap.drewN dk) Hpt.out).mono ?_); rintro e w15 ⟨hb15, O, oc, l, n, rfl, hpw, hpl, hll, hown⟩; have Hb15 := hide hb15; have Hpw := hide hpw; have Hown := hide hown; have Hpl := hide hpl; have hel15 := (HS3.out.emap.drewN dk |>.keep hb15).len Tryz.underlying127 3; clear hb15 hpw hown hpl))
        have hal9 := HI
        refine leaves_marks Ds _ (fun D hD => ?_) Hdn.out fun W' hc => ?_
        · have h1 := (HD3.out D hD).2
          exact (Hb15.out.block D (Array.getElem?_eq_some_iff.1 h1).1).trans h1
        refine ⟨.tuple #[.slice O l.length oc, .int .i64 E.length, .bool true], by simp [results, Tryz.results37, go_sem], ?_⟩
        have hlow15 := (below_drewN HS3.out.low dk).trans (Hb15.out.mono (below_drewN HS3.out.low dk).size)
        refine ⟨hlow15.trans (hc.below (fun i hi => by have h1 := (HDs.out i hi).1; have h2 := HH.out.low; have h3 := HH.out.high; omega) hlow15.size), .inl ⟨O, oc, l, _, rfl, ?_, hll, own_lowA (hc.own Hown.out (fun r hr e => ?_)) (by have h1 := HS3.out.size; simpa using h1)⟩⟩
        · exact HI.out.goal Hadm.out Hpos.out Hkt.out (fun y k' hy hk' => Hmin2.out y k' (by rw [Hky2.out, if_neg hy]; exact hk')) hgt Hpt.out Hpw.out Hpl.out
        · obtain ⟨_, cs, mm, hcc⟩ := own_block Hown.out hr
          have h1 := (HD3.out r e).2
          have h2 := (Hb15.out.block r (Array.getElem?_eq_some_iff.1 h1).1).trans h1
          rw [hcc] at h2
          cases h2
      | false =>
        rw [hgt] at Hgc
        go_upto_region 13 with (go_at_call 30; (with_reducible refine Hgc.out.mono ?_); rintro e w14 ⟨rfl, dk, rfl⟩)
        have hb14 : Below w13.heap.size w13 (w13.drewN dk) := below_drewN (Below.refl _ _) dk
        obtain ⟨w14, hw14⟩ : ∃ Z, Z = w13.drewN dk := ⟨_, rfl⟩
        rw [← hw14] at hb14 ⊢
        have hS4 := HS3.out.keep HH.out hb14
        have hsb4 := Hsb.out.keep hb14
        have hEl : E.length ≤ L.length := List.Nodup.length_le_of_subset hE1 hE2
        obtain ⟨w15, hpE, hgE, hzE, hS5⟩ := hS4.putE HH.out ht32 (by omega)
        obtain ⟨E3, hE3e⟩ : ∃ Z, Z = (if t ∈ E then E else E ++ [t]) := ⟨_, rfl⟩
        rw [← hE3e] at hS5
        have HE3e := hide hE3e
        clear hE3e
        have hsb5 := hsb4.grown hgE (fun e => by injection e with e; exact hS4.emap.ne hsb4 e.symm)
        have hD5 : ∀ D ∈ Ds, w.heap.size ≤ D ∧ w15.heap[D]? = some (.deferred (some [])) := fun D hD => by
          obtain ⟨h1, h2⟩ := HD3.out D hD
          have h3 := (hb14.block D (Array.getElem?_eq_some_iff.1 h2).1).trans h2
          exact ⟨h1, (hgE.block D (Array.getElem?_eq_some_iff.1 h3).1 (fun e => by injection e with e; exact hS4.emap.markA h3 e)).trans h3⟩
        have s14 := hsb4.cell 0
        have s15 := hsb5.cell 0
        have l14 := hsb4.lt
        have l15 := hsb5.lt
        simp only [List.getElem?_cons_zero] at s14 s15
        have HS5 := hide hS5
        have Hsb5 := hide hsb5
        have HD5 := hide hD5
        clear hw14 hb14 hS4 hsb4 hgE hS5 hsb5 hD5 s0c slt hzE
        go_wp2_with (go_at_call 200; refine (SSteps_ct g t _).mono ?_; rintro e w' ⟨rfl, rfl⟩)
        have hBs3 := Blk.new (w15.alloc (.cells #[.pointer (some ⟨g, 0, none⟩)] 62)) 69 [.int .u32 t]
        have hBw := (Blk.new w15 62 [.pointer (some ⟨g, 0, none⟩)]).alloc (.cells #[.int .u32 t] 69)
        have hbL := below_two w15 (.cells #[.pointer (some ⟨g, 0, none⟩)] 62) (.cells #[.int .u32 t] 69)
        have hzL : ((w15.alloc (.cells #[.pointer (some ⟨g, 0, none⟩)] 62)).alloc (.cells #[.int .u32 t] 69)).heap.size = w15.heap.size + 1 + 1 := by simp only [World.size_alloc]
        simp only [World.size_alloc] at hBs3
        obtain ⟨WL, hWL⟩ : ∃ W, W = (w15.alloc (.cells #[.pointer (some ⟨g, 0, none⟩)] 62)).alloc (.cells #[.int .u32 t] 69) := ⟨_, rfl⟩
        rw [← hWL] at hBs3 hBw hbL hzL ⊢
        clear hWL
        replace hzL := And.intro (Nat.le_of_eq hzL) (Nat.le_of_eq hzL.symm)
        have cBs := hBs3.cell 0
        have cBw := hBw.cell 0
        simp only [List.getElem?_cons_zero] at cBs cBw
        have hSL := HS5.out.keep HH.out hbL
        have hz5 := HS5.out.low.size
        have hz5b := HS5.out.size
        have hlt1 := hSL.pmap.lt
        have hlt2 := hSL.amap.lt
        have hlt3 := hSL.emap.lt
        have hlt4 := hSL.q.map.lt
        have hIt := HI.out.take (fun y => Hky2.out y) hgt
        have hI0 : AsI ms s0 (goalW gl) hv L D pr pa (keyE qes2) t (fun x => x ∉ ([] : List (Stp ms t)).map (·.1)) := by
          simpa using hIt
        have hkn : keyE qes2 t = none := by rw [Hky2.out, if_pos rfl]
        have hJ0 : AsJ w0 ms s0 gl hv L HC xb tb kb hb w.heap.size Fb Pb Ab Qb pm am em Q mb t p (measA L pr (m + 1)) Sb (w15.heap.size + 1) WL.heap.size Ds E3 [] WL :=
          ⟨QA, m, qc, qes2, tm2, pr, pa, D, hSL, hI0, Hpt.out, hkn, by unfold measA; omega, Hsb5.out.keep hbL, hBs3, fun D hD => by
            obtain ⟨h1, h2⟩ := HD5.out D hD
            have h3 := (Array.getElem?_eq_some_iff.1 h2).1
            exact ⟨by omega, (hbL.block D h3).trans h2⟩, hlt1, hlt2, hlt3, hlt4, by omega⟩
        have HJ0 := hide hJ0
        have HbL := hide hbL
        have Hlow5 := hide HS5.out.low
        have hE3 : E3.Nodup ∧ ∀ x ∈ E3, x ∈ L := by
          rw [HE3e.out]
          split
          · exact ⟨hE1, hE2⟩
          · rename_i e
            refine ⟨?_, fun x hx => ?_⟩
            · rw [List.nodup_append]
              exact ⟨hE1, by simp, fun a ha b hb => by rw [List.mem_singleton] at hb; subst hb; exact fun e2 => e (e2 ▸ ha)⟩
            · rcases List.mem_append.1 hx with hx | hx
              · exact hE2 x hx
              · rw [List.mem_singleton] at hx; subst hx; exact htL
        have HE3 := hide hE3
        have HBw := hide hBw
        have hhb := HH.out.high
        have hhl := HH.out.low
        have Hnd := hide (show ∀ D ∈ Ds, ¬ D = hb from fun D hD e => by
          have h2 := (HDs.out D hD).1
          omega)
        clear HE3e
        clear hJ0 hIt hI0 hkn hE3 hSL hBs3 hbL hBw s14 s15 l14 l15 hpE Hsb5 HS5 HI HS3 Hgc Hsb
        refine (wpIn_wide (n := 8)).1 (range_stepsA w.heap.size (w := WL) (by omega) (gf := 201) (lb := #[.pointer (some ⟨w15.heap.size, 0, none⟩), .pointer (some ⟨(w15.heap.size + 1), 0, none⟩)]) rfl (enters_of Tryz.func201 (by kernel_rfl) rfl)
          (steps_stops Fence.wide 7 trivial rfl (by omega) w15.heap.size (w15.heap.size + 1) g s0 gl t ms w0 WL Hwr.out ht32 (Hlow5.out.trans (HbL.out.mono hz5)) cBw cBs) kpS_t (kpS_b (by omega) (by omega)) (Below.refl _ _) (fun _ => rfl)
          (AsJ w0 ms s0 gl hv L HC xb tb kb hb w.heap.size Fb Pb Ab Qb pm am em Q mb t p (measA L pr (m + 1)) Sb (w15.heap.size + 1) WL.heap.size Ds E3) (AsJ.own HH.out) HJ0.out ?assign ?body ?done)
        case assign =>
          intro l pre x W K hi hK
          have HK := hide hK
          have Hi := hide hi
          clear hK hi
          obtain ⟨⟨xi, xc, xt⟩, hx⟩ := x
          unfold encStp stpV
          dsimp only
          gi_wp2
          exact HK.out _ _ ((KeepsOthers.alloc _ _).from _) ⟨(Below.refl _ _).alloc (by obtain ⟨_, _, _, _, _, _, _, _, h1, _⟩ := Hi.out; exact h1.low.size) _, Below.heap_alloc _ _ _ (by obtain ⟨_, _, _, _, _, _, _, _, _, _, _, _, _, _, h7, _⟩ := Hi.out; exact h7.lt)⟩ (AsJ.keep HH.out Hi.out ((Below.refl _ _).alloc (Nat.le_refl _) _)) ⟨W.heap.size, by obtain ⟨_, _, _, _, _, _, _, _, h1, _⟩ := Hi.out; exact h1.size, Blk.new _ _ _, rfl⟩
        case body =>
          rintro l pre ⟨⟨xi, xc, xt⟩, hx⟩ a' W hl ⟨r, hr⟩ ⟨QA2, qn2, qc2, qes2, tm2, pr2, pa2, D2, j1, j2, j3, j4, j5, j6, j7, j8, j9⟩ ⟨Bx, hBxB, hBx, rfl⟩ hlt
          dsimp only at hBx
          obtain ⟨x1, x2, x3, x4⟩ := stepsW_ok ms 0 t ht32 Hwr.out.ok _ hx
          dsimp only at x1 x2 x3 x4
          have hxtL : xt ∈ L := (HLr.out xt).2 (.step ((HLr.out t).1 htL) ((stepsW_step ms 0 t xt).2 ⟨_, hx, rfl⟩))
          have cP := j1.pbx.cell 0
          have cS := j6.cell 0
          have cX1 := hBx.cell 1
          have cX2 := hBx.cell 2
          have lX := hBx.lt
          have lS := j6.lt
          have lP := j1.pbx.lt
          simp only [List.getElem?_cons_zero, List.getElem?_cons_succ] at cP cS cX1 cX2
          have hlook := fun W' e => j1.pmap.look1 (int_keyed Tryz.underlying69) (T := 123) (E := 3) Tryz.underlying123 zeroIA (keyW Tryz.underlying69 ht32) W' e
          simp only [j3, Option.map_some, Option.getD_some, encW] at hlook
          have hlook2 := fun W' e => j1.pmap.look (int_keyed Tryz.underlying69) (T := 123) (E := 3) Tryz.underlying123 zeroIA (keyW Tryz.underlying69 x1) W' e
          simp only [encW] at hlook2
          have hph2 := j2.high t p j3
          have hD2 := j2.few
          have hprc : 1 ≤ prc xc ∧ prc xc ≤ 409601 := by unfold prc; omega
          have hlwW := j1.low.size
          have hbw2 := j1.size
          have nBx : ¬ Bx = hb := by omega
          have nSb : ¬ Sb = hb := by omega
          have nBs : ¬ (w15.heap.size + 1) = hb := by omega
          have hopen : ∀ y : Nat × Int × Nat, y ∉ pre.map (·.1) → y ∉ (pre ++ [(⟨(xi, xc, xt), hx⟩ : Stp ms t)]).map (·.1) ∨ y = (xi, xc, xt) := fun y hy => by
            by_cases e : y = (xi, xc, xt)
            · exact .inr e
            · refine .inl (fun hm => ?_)
              rw [List.map_append, List.mem_append] at hm
              rcases hm with hm | hm
              · exact hy hm
              · simp at hm; exact e hm
          obtain ⟨WD, hWD⟩ : ∃ Z, Z = W.drew := ⟨_, rfl⟩
          have hbD : Below W.heap.size W WD := by rw [hWD]; exact (Below.refl _ _).drew
          have hlookD := hlook2 WD (hbD.block pm j1.pmap.lt)
          have HJ1 := hide (j1.keep HH.out hbD)
          have HbD := hide hbD
          have HBxD := hide (hBx.keep hbD)
          have Hj6D := hide (j6.keep hbD)
          have HI2 := hide j2
          have Hj3 := hide j3
          have Hj4 := hide j4
          have Hj5 := hide j5
          have Hj7 := hide j7
          have Hj8 := hide j8
          have Hlook := hide hlook
          have Hopen := hide hopen
          have HlookD := hide hlookD
          have cPD := (j1.pbx.keep hbD).cell 0
          have cXD2 := (hBx.keep hbD).cell 2
          have cFD := (j1.fbx.keep hbD).cell 0
          have lFD := (j1.fbx.keep hbD).lt
          have lXD := (hBx.keep hbD).lt
          simp only [List.getElem?_cons_zero, List.getElem?_cons_succ] at cPD cXD2 cFD
          have hD2l : D2.length < 1000000000000 := by omega
          have hwp : IntKind.i64.wrap (p + prc xc) = p + prc xc := IntWalk.i64_in _ (by omega)
          clear hlook hlook2 hlookD hbD j1 j2 j3 j4 j5 j6 j7 j8 hBx hopen
          dsimp only [stpV]
          simp only [List.setIfInBounds_toArray, List.set_cons_zero, List.set_cons_succ]
          gi_wp2
          refine wpIn_region_round (S := (fun w' => w'.cell? ⟨Pb, 0, none⟩ = some (.map (some pm)) ∧ w'.cell? ⟨Sb, 0, none⟩ = some (.int .u32 t) ∧ w'.cell? ⟨Bx, 1, none⟩ = some (.int .i64 xc) ∧ w'.heap[pm]? = W.heap[pm]?)) (by kernel_rfl) ?_ (by kernel_rfl) ?_ (fun hHeld => ?_)
          · rintro ⟨_, _, h⟩; exact h
          · exact ⟨cP, cS, cX1, rfl⟩
          refine takeA (i := 0) (v := ?_) (some 67) rfl rfl (by kernel_rfl) (by kernel_rfl) (by kernel_rfl) (fun _ _ _ h => h) (Or.inl ⟨by rfl, ?_⟩) (by assumption) ?_
          rotate_left
          · intro w hSw; (try dsimp only at hSw); obtain ⟨s1, s2, s3, s4⟩ := hSw; first | (go_simp; done) | (go_simp; with_reducible rfl)
          try simp only [Act.put, List.setIfInBounds_toArray, List.set_cons_zero, List.set_cons_succ]
          refine takeA (i := 1) (v := ?_) (some 68) rfl rfl (by kernel_rfl) (by kernel_rfl) (by kernel_rfl) (fun _ _ _ h => h) (Or.inl ⟨by rfl, ?_⟩) (by assumption) ?_
          rotate_left
          · intro w hSw; (try dsimp only at hSw); obtain ⟨s1, s2, s3, s4⟩ := hSw; first | (go_simp; done) | (go_simp; with_reducible rfl)
          try simp only [Act.put, List.setIfInBounds_toArray, List.set_cons_zero, List.set_cons_succ]
          refine takeA (i := 2) (v := ?_) (some 69) rfl rfl (by kernel_rfl) (by kernel_rfl) (by kernel_rfl) (fun _ _ _ h => h) (Or.inl ⟨by rfl, ?_⟩) (by assumption) ?_
          rotate_left
          · intro w hSw; (try dsimp only at hSw); obtain ⟨s1, s2, s3, s4⟩ := hSw; have hlk := Hlook.out w s4; first | (go_simp; done) | (go_simp; with_reducible rfl)
          try simp only [Act.put, List.setIfInBounds_toArray, List.set_cons_zero, List.set_cons_succ]
          refine takeA (i := 3) (v := ?_) (some 70) rfl rfl (by kernel_rfl) (by kernel_rfl) (by kernel_rfl) (fun _ _ _ h => h) (Or.inl ⟨by rfl, ?_⟩) (by assumption) ?_
          rotate_left
          · intro w hSw; (try dsimp only at hSw); obtain ⟨s1, s2, s3, s4⟩ := hSw; first | (go_simp; done) | (go_simp; with_reducible rfl)
          try simp only [Act.put, List.setIfInBounds_toArray, List.set_cons_zero, List.set_cons_succ]
          refine takeA (i := 4) (v := ?_) (some 71) rfl rfl (by kernel_rfl) (by kernel_rfl) (by kernel_rfl) (fun _ _ _ h => h) (Or.inl ⟨by rfl, ?_⟩) (by assumption) ?_
          rotate_left
          · intro w hSw; (try dsimp only at hSw); obtain ⟨s1, s2, s3, s4⟩ := hSw; first | (go_simp; done) | (go_simp; with_reducible rfl)
          try simp only [Act.put, List.setIfInBounds_toArray, List.set_cons_zero, List.set_cons_succ]
          refine wpAnyH_ready (rs := [5]) (by kernel_rfl) (by simp) ?_
          refine AllReadyH.cons rfl (fun K hK => ?_) AllReadyH.nil
          go_simp
          refine (Price_ct xc _ x2 x3).mono ?_
          rintro e w' ⟨rfl, rfl⟩
          go_simp
          refine hK.out _ _ ?_ (fun hHeld2 => ?_)
          · exact ⟨cP, cS, cX1, rfl⟩
          clear hK K hHeld
          try simp only [Act.put, List.setIfInBounds_toArray, List.set_cons_zero, List.set_cons_succ]
          have hHeld := hHeld2; clear hHeld2
          refine takeA (i := 6) (v := ?_) (some 73) rfl rfl (by kernel_rfl) (by kernel_rfl) (by kernel_rfl) (fun _ _ _ h => h) (Or.inl ⟨by rfl, ?_⟩) (by assumption) ?_
          rotate_left
          · intro w hSw; (try dsimp only at hSw); obtain ⟨s1, s2, s3, s4⟩ := hSw; first | (go_simp; done) | (go_simp; with_reducible rfl)
          try simp only [Act.put, List.setIfInBounds_toArray, List.set_cons_zero, List.set_cons_succ]
          refine takeA (i := 7) (v := ?_) (some 16) rfl rfl (by kernel_rfl) (by kernel_rfl) (by kernel_rfl) (fun _ _ _ h => h) (Or.inl ⟨by rfl, ?_⟩) (by assumption) ?_
          rotate_left
          · intro w hSw; (try dsimp only at hSw); obtain ⟨s1, s2, s3, s4⟩ := hSw; first | (go_simp; done) | (go_simp; with_reducible rfl)
          try simp only [Act.put, List.setIfInBounds_toArray, List.set_cons_zero, List.set_cons_succ]
          refine wpAnyH_done (by kernel_rfl) ?_ _
          rw [← hWD]
          clear hHeld cP cS cX1 cX2 lX lS lP hWD
          rename_i Qr Kr hKr
          refine hKr _ _ ?_
          clear hKr Kr
          cases hpx : pr2 xt with
          | none =>
            have hlkD := HlookD.out
            rw [hpx] at hlkD
            simp only [Option.map_none, Option.getD_none, Option.isSome_none] at hlkD
            have Hold := hide (show ∀ old, pr2 xt = some old → p + prc xc < old from fun old h => by rw [hpx] at h; cases h)
            clear HlookD hpx
            by_cases hinf : 1000000000 ≤ hv xt
            · gi_upto_region 99 with (first | ((with_reducible refine round_at91 rfl (fun c h => by cases h) ?_); go_simp; (with_reducible refine (HH.out.call WD xt hxtL HJ1.out.hc).mono ?_); rintro e W5 ⟨rfl, hHC5, hch5⟩; have HHC5 := hide hHC5; have Hch5 := hide hch5; clear hHC5 hch5; go_simp) | (with_reducible refine skip_and ?_))
              have hfin := HJ1.out.heur HHC5.out Hch5.out
              have hz9 := HJ1.out.hbs
              refine ⟨((KeepsOthers.of_belowA HbD.out).from _).trans (chg_fromA Hch5.out (fun b e => by have h1 : b = hb := e; omega)), ⟨(HbD.out.mono hlwW).trans (Hch5.out.below (fun i e => by have h1 : i = hb := e; omega) (by have := HbD.out.size; omega)), ?_⟩, _, _, _, _, _, _, _, _, hfin, HI2.out.skip Hj3.out (fun hi => by have hi2 : hv xt < infA := hi; unfold infA at hi2; omega) Hopen.out, Hj3.out, Hj4.out, Hj5.out, Hch5.out.blk Hj6D.out nSb, Hch5.out.blk (Hj7.out.keep HbD.out) nBs, fun D hD => ?_, j9⟩
              · rw [show W5.heap[(w15.heap.size + 1)]? = _ from Hch5.out.blk (Hj7.out.keep HbD.out) nBs, show W.heap[(w15.heap.size + 1)]? = _ from Hj7.out]
              · obtain ⟨h1, h2⟩ := Hj8.out D hD
                have h3 := (HbD.out.block D (Array.getElem?_eq_some_iff.1 h2).1).trans h2
                exact ⟨h1, (Hch5.out.block D (Array.getElem?_eq_some_iff.1 h3).1 (fun e => Hnd.out D hD e)).trans h3⟩
            · gi_upto_region 19 with (first | ((with_reducible refine round_at91 rfl (fun c h => by cases h) ?_); go_simp; (with_reducible refine (HH.out.call WD xt hxtL HJ1.out.hc).mono ?_); rintro e W5 ⟨rfl, hHC5, hch5⟩; have HHC5 := hide hHC5; have Hch5 := hide hch5; clear hHC5 hch5; go_simp) | (with_reducible refine skip_and ?_))
              have hi5 : hv xt < infA := by unfold infA; omega
              have hJ5 := HJ1.out.heur HHC5.out Hch5.out
              obtain ⟨W6, W7, hp1, hp2, hg6, hg7, hz6, hz7, hJ7⟩ := hJ5.put2 HH.out x1 hD2l (p + prc xc) (t, xi) HI2.out.dom HI2.out.par0
              simp only [backV] at hp2
              have hBx5 := Hch5.out.blk HBxD.out nBx
              have hBx6 := hBx5.grown hg6 (fun e => by injection e with e; exact hJ5.pmap.ne hBx5 e.symm)
              have hSb5 := Hch5.out.blk Hj6D.out nSb
              have hSb6 := hSb5.grown hg6 (fun e => by injection e with e; exact hJ5.pmap.ne hSb5 e.symm)
              have hBx7 := hBx6.grown hg7 (fun e => by
                injection e with e
                obtain ⟨es, cl, hm⟩ := hJ7.amap.isMap
                have hb := hg7
                have h9 : ∃ es cl, W6.heap[am]? = some (.map es cl) := (hJ5.amap.chg (chg_map hg6) (fun e => hJ5.ne.1 e.symm)).isMap
                obtain ⟨es, cl, h9⟩ := h9
                rw [← e] at h9
                unfold Blk at hBx6
                rw [hBx6] at h9
                cases h9)
              have hP5 := hJ5.pbx
              have hA6 := hJ5.abx.grown hg6 (fun e => by injection e with e; exact hJ5.pmap.ne hJ5.abx e.symm)
              have p5 := hP5.cell 0
              have x52 := hBx5.cell 2
              have a6 := hA6.cell 0
              have x60 := hBx6.cell 0
              have x62 := hBx6.cell 2
              have s60 := hSb6.cell 0
              have q7 := hJ7.qbx.cell 0
              have f7 := hJ7.fbx.cell 0
              have x72 := hBx7.cell 2
              have lx7 := hBx7.lt
              have lq7 := hJ7.qbx.lt
              have lf7 := hJ7.fbx.lt
              simp only [List.getElem?_cons_zero, List.getElem?_cons_succ] at p5 x52 a6 x60 x62 s60 q7 f7 x72
              have HJ5 := hide hJ5
              have HJ7 := hide hJ7
              have HBx7 := hide hBx7
              have Hg6 := hide hg6
              have Hg7 := hide hg7
              have Hz67 := hide (And.intro hz6 hz7)
              clear hJ5 hJ7 hBx5 hBx6 hBx7 hSb5 hSb6 hP5 hA6 hg6 hg7 hz6 hz7
              gi_wp2
              refine wpIn_region_round (S := (fun w' => w'.cell? ⟨Qb, 0, none⟩ = some (.pointer (some ⟨Q, 0, none⟩)) ∧ w'.cell? ⟨Fb, 0, none⟩ = some (.func (.func 68) #[] #[.pointer (some ⟨xb, 0, none⟩), .pointer (some ⟨tb, 0, none⟩), .pointer (some ⟨kb, 0, none⟩)]) ∧ w'.cell? ⟨Bx, 2, none⟩ = some (.int .u32 xt))) (by kernel_rfl) ?_ (by kernel_rfl) ?_ (fun hHeld => ?_)
              · rintro ⟨_, _, h⟩; exact h
              · exact ⟨q7, f7, x72⟩
              obtain ⟨W8, hW8⟩ : ∃ Z, Z = W7.drew := ⟨_, rfl⟩
              have hb8 : Below W7.heap.size W7 W8 := by rw [hW8]; exact (Below.refl _ _).drew
              rw [← hW8] at hHeld ⊢
              clear hW8
              have hJ8 := HJ7.out.keep HH.out hb8
              have hwm : IntKind.i64.wrap (4096 * hv xt) = 4096 * hv xt := IntWalk.i64_in _ (by have := Hpos.out xt; unfold infA at hi5; omega)
              have hwm2 : IntKind.i64.wrap (p + prc xc + 4096 * hv xt) = p + prc xc + 4096 * hv xt := IntWalk.i64_in _ (by have := Hpos.out xt; unfold infA at hi5; omega)
              have hcl8 := HH.out.call W8 xt hxtL hJ8.hc
              have HJ8 := hide hJ8
              have HBx8 := hide (HBx7.out.keep hb8)
              have Hcl8 := hide hcl8
              have Hb8 := hide hb8
              clear hJ8 hcl8 hb8 p5 x52 a6 x60 x62 s60 hp1 hp2
              refine takeA (i := 0) (v := ?_) (some 105) rfl rfl (by kernel_rfl) (by kernel_rfl) (by kernel_rfl) (fun _ _ _ h => h) (Or.inl ⟨by rfl, ?_⟩) (by assumption) ?_
              rotate_left
              · intro w hSw; (try dsimp only at hSw); obtain ⟨s1, s2, s3⟩ := hSw; first | (go_simp; done) | (go_simp; with_reducible rfl)
              try simp only [Act.put, List.setIfInBounds_toArray, List.set_cons_zero, List.set_cons_succ]
              refine takeA (i := 1) (v := ?_) (some 106) rfl rfl (by kernel_rfl) (by kernel_rfl) (by kernel_rfl) (fun _ _ _ h => h) (Or.inl ⟨by rfl, ?_⟩) (by assumption) ?_
              rotate_left
              · intro w hSw; (try dsimp only at hSw); obtain ⟨s1, s2, s3⟩ := hSw; first | (go_simp; done) | (go_simp; with_reducible rfl)
              try simp only [Act.put, List.setIfInBounds_toArray, List.set_cons_zero, List.set_cons_succ]
              refine takeA (i := 2) (v := ?_) (some 107) rfl rfl (by kernel_rfl) (by kernel_rfl) (by kernel_rfl) (fun _ _ _ h => h) (Or.inl ⟨by rfl, ?_⟩) (by assumption) ?_
              rotate_left
              · intro w hSw; (try dsimp only at hSw); obtain ⟨s1, s2, s3⟩ := hSw; first | (go_simp; done) | (go_simp; with_reducible rfl)
              try simp only [Act.put, List.setIfInBounds_toArray, List.set_cons_zero, List.set_cons_succ]
              refine takeA (i := 3) (v := ?_) (some 108) rfl rfl (by kernel_rfl) (by kernel_rfl) (by kernel_rfl) (fun _ _ _ h => h) (Or.inl ⟨by rfl, ?_⟩) (by assumption) ?_
              rotate_left
              · intro w hSw; (try dsimp only at hSw); obtain ⟨s1, s2, s3⟩ := hSw; first | (go_simp; done) | (go_simp; with_reducible rfl)
              try simp only [Act.put, List.setIfInBounds_toArray, List.set_cons_zero, List.set_cons_succ]
              refine takeA (i := 4) (v := ?_) (some 109) rfl rfl (by kernel_rfl) (by kernel_rfl) (by kernel_rfl) (fun _ _ _ h => h) (Or.inl ⟨by rfl, ?_⟩) (by assumption) ?_
              rotate_left
              · intro w hSw; (try dsimp only at hSw); obtain ⟨s1, s2, s3⟩ := hSw; first | (go_simp; done) | (go_simp; with_reducible rfl)
              try simp only [Act.put, List.setIfInBounds_toArray, List.set_cons_zero, List.set_cons_succ]
              refine takeA (i := 5) (v := ?_) (some 110) rfl rfl (by kernel_rfl) (by kernel_rfl) (by kernel_rfl) (fun _ _ _ h => h) (Or.inl ⟨by rfl, ?_⟩) (by assumption) ?_
              rotate_left
              · intro w hSw; (try dsimp only at hSw); obtain ⟨s1, s2, s3⟩ := hSw; first | (go_simp; done) | (go_simp; with_reducible rfl)
              try simp only [Act.put, List.setIfInBounds_toArray, List.set_cons_zero, List.set_cons_succ]
              refine takeA (i := 6) (v := ?_) (some 111) rfl rfl (by kernel_rfl) (by kernel_rfl) (by kernel_rfl) (fun _ _ _ h => h) (Or.inl ⟨by rfl, ?_⟩) (by assumption) ?_
              rotate_left
              · intro w hSw; (try dsimp only at hSw); obtain ⟨s1, s2, s3⟩ := hSw; first | (go_simp; done) | (go_simp; with_reducible rfl)
              try simp only [Act.put, List.setIfInBounds_toArray, List.set_cons_zero, List.set_cons_succ]
              refine wpAnyH_ready (rs := [7]) (by kernel_rfl) (by simp) ?_
              refine AllReadyH.cons rfl (fun K hK => ?_) AllReadyH.nil
              go_simp
              refine Hcl8.out.mono ?_
              rintro e W9 ⟨rfl, hHC9, hch9⟩
              have hJ9 := HJ8.out.heur hHC9 hch9
              have hBx9 := hch9.blk HBx8.out nBx
              have q9 := hJ9.qbx.cell 0
              have f9 := hJ9.fbx.cell 0
              have x92 := hBx9.cell 2
              simp only [List.getElem?_cons_zero, List.getElem?_cons_succ] at q9 f9 x92
              have HJ9 := hide hJ9
              have HBx9 := hide hBx9
              have Hch9 := hide hch9
              clear hJ9 hBx9 hch9 hHC9
              go_simp
              refine hK.out _ _ ?_ (fun hHeld2 => ?_)
              · exact ⟨q9, f9, x92⟩
              clear hK K hHeld
              try simp only [Act.put, List.setIfInBounds_toArray, List.set_cons_zero, List.set_cons_succ]
              have hHeld := hHeld2; clear hHeld2
              refine takeA (i := 8) (v := ?_) (some 113) rfl rfl (by kernel_rfl) (by kernel_rfl) (by kernel_rfl) (fun _ _ _ h => h) (Or.inl ⟨by rfl, ?_⟩) (by assumption) ?_
              rotate_left
              · intro w hSw; (try dsimp only at hSw); obtain ⟨s1, s2, s3⟩ := hSw; first | (go_simp; done) | (go_simp; with_reducible rfl)
              try simp only [Act.put, List.setIfInBounds_toArray, List.set_cons_zero, List.set_cons_succ]
              refine takeA (i := 9) (v := ?_) (some 114) rfl rfl (by kernel_rfl) (by kernel_rfl) (by kernel_rfl) (fun _ _ _ h => h) (Or.inl ⟨by rfl, ?_⟩) (by assumption) ?_
              rotate_left
              · intro w hSw; (try dsimp only at hSw); obtain ⟨s1, s2, s3⟩ := hSw; first | (go_simp; done) | (go_simp; with_reducible rfl)
              try simp only [Act.put, List.setIfInBounds_toArray, List.set_cons_zero, List.set_cons_succ]
              refine wpAnyH_ready (rs := [10]) (by kernel_rfl) (by simp) ?_
              refine AllReadyH.cons rfl (fun K hK => ?_) AllReadyH.nil
              go_simp
              have hset := QSet_ct w.heap.size Q mb QA2 qn2 qc2 qes2 tm2 xt (p + prc xc + 4096 * hv xt) W9 HJ9.out.q x1 (by have := Hpos.out xt; unfold infA at hi5; omega) (by have h1 := HJ9.out.q.lenA (l := L) (fun y v hy => by obtain ⟨q', h2, _⟩ := HI2.out.key y v hy; exact HI2.out.sub y ((HI2.out.dom y).2 (by rw [h2]; rfl))); omega) HJ9.out.size
              with_reducible refine hset.mono ?_
              rintro e W10 ⟨rfl, QA3, qn3, qc3, qes3, tm3, hq3, hch3, hM3, hky3⟩
              have Hq3 := hide hq3
              have Hch3 := hide hch3
              have HM3 := hide hM3
              have Hky3 := hide hky3
              have x102 := (hch3.blk HBx9.out (HJ9.out.q.neT HBx9.out (by decide) (by decide) (by decide))).cell 2
              have hJ10 := HJ9.out.setQ HH.out hq3 hch3 hM3
              have q10 := hJ10.qbx.cell 0
              have f10 := hJ10.fbx.cell 0
              simp only [List.getElem?_cons_zero, List.getElem?_cons_succ] at q10 f10 x102
              have HJ10 := hide hJ10
              clear hset hq3 hch3 hM3 hky3 hJ10
              go_simp
              refine hK.out _ _ ?_ (fun hHeld2 => ?_)
              · exact ⟨q10, f10, x102⟩
              clear hK K hHeld
              try simp only [Act.put, List.setIfInBounds_toArray, List.set_cons_zero, List.set_cons_succ]
              have hHeld := hHeld2; clear hHeld2
              refine wpAnyH_done (by kernel_rfl) ?_ _
              clear hHeld q7 f7 x72 lx7 lq7 lf7 q9 f9 x92 q10 f10 x102 hwm hwm2
              gi_wp2
              have hold2 : ∀ old, pr2 xt = some old → p + prc xc < old := Hold.out
              have hset2 := HI2.out.set hL (Qk' := keyE qes3) (O' := fun x => x ∉ (pre ++ [(⟨(xi, xc, xt), hx⟩ : Stp ms t)]).map (·.1)) (pr' := fun s => if s = xt then some (p + prc xc) else pr2 s) (pa' := fun s => if s = xt then some (t, xi) else pa2 s) Hj4.out Hj3.out hx ⟨x2, x3⟩ hxtL hi5 hold2 (fun s => rfl) (fun s => rfl) Hky3.out Hopen.out
              obtain ⟨k1, k2, k3, k4⟩ := hset2
              replace k4 : bigP (fun s => if s = xt then some (p + prc xc) else pr2 s) xt + 1 ≤ bigP pr2 xt := k4
              have hsum : sumP L (fun s => if s = xt then some (p + prc xc) else pr2 s) + 1 ≤ sumP L pr2 := sum_less (fun s hs => by
                by_cases e : s = xt
                · rw [e]; omega
                · unfold bigP; dsimp only; rw [if_neg e]; exact Nat.le_refl _) hxtL (by omega)
              have hlen3 : qn3 ≤ qn2 + 1 := by
                have h1 := Hq3.out.lenA (l := xt :: qes2.map En.item) (fun y v hy => by
                  rw [Hky3.out] at hy
                  split at hy
                  · rename_i e; rw [e]; exact List.mem_cons_self
                  · exact List.mem_cons_of_mem _ (keyE_item hy))
                have h2 := HJ9.out.q.items
                rw [List.length_cons, h2] at h1
                exact h1
              have c5 := Hch5.out
              have c6 := chg_map Hg6.out
              have c7 := chg_map Hg7.out
              have c9 := Hch9.out
              have c3 := Hch3.out
              have hn9 := HJ9.out.hbs
              have hbb := HJ9.out.base
              have hlw := HJ1.out.low.size
              have hWD := HbD.out
              have kA : ∀ (M : Nat → Prop) (X Y : World) (S : Nat), Chg M X Y → Blk 69 X S [.int .u32 t] → ¬ M S → Y.heap[S]? = X.heap[S]? := fun M X Y S hc hb hM => hc.block S hb.lt hM
              have bs1 := Hj7.out
              have bsD := Hj7.out.keep hWD
              have bs5 := c5.blk bsD nBs
              have bs6 := c6.blk bs5 (fun e => HJ5.out.pmap.ne bs5 e.symm)
              have nam : ∀ S, Blk 69 W6 S [.int .u32 t] → ¬ S = am := fun S hb e => by
                obtain ⟨es, cl, h9⟩ := (HJ5.out.amap.chg c6 (fun e => HJ5.out.ne.1 e.symm)).isMap
                subst e
                unfold Blk at hb
                rw [hb] at h9
                cases h9
              have bs7 := c7.blk bs6 (nam _ bs6)
              have bs8 := bs7.keep Hb8.out
              have bs9 := c9.blk bs8 nBs
              have bs10 := c3.blk bs9 (HJ9.out.q.neT bs9 (by decide) (by decide) (by decide))
              have sb6 := c6.blk (c5.blk Hj6D.out nSb) (fun e => HJ5.out.pmap.ne (c5.blk Hj6D.out nSb) e.symm)
              have sb9 := c9.blk ((c7.blk sb6 (nam _ sb6)).keep Hb8.out) nSb
              have sb10 := c3.blk sb9 (HJ9.out.q.neT sb9 (by decide) (by decide) (by decide))
              have dd : ∀ D ∈ Ds, D < WL.heap.size ∧ W10.heap[D]? = some (.deferred (some [])) := fun D hD => by
                obtain ⟨h1, h2⟩ := Hj8.out D hD
                have h3 := (hWD.block D (Array.getElem?_eq_some_iff.1 h2).1).trans h2
                have lt3 := (Array.getElem?_eq_some_iff.1 h3).1
                have ndM : ∀ (b : Nat) (X : World), X.heap[D]? = some (.deferred (some [])) → (∃ es cl, X.heap[b]? = some (.map es cl)) → ¬ D = b := fun b X hX hm e => by
                  obtain ⟨es, cl, hm⟩ := hm
                  rw [← e, hX] at hm
                  cases hm
                have h5 := (c5.block D lt3 (fun e => Hnd.out D hD e)).trans h3
                have h6 := (c6.block D (Array.getElem?_eq_some_iff.1 h5).1 (ndM pm W5 h5 HJ5.out.pmap.isMap)).trans h5
                have h7 := (c7.block D (Array.getElem?_eq_some_iff.1 h6).1 (ndM am W6 h6 (HJ5.out.amap.chg c6 (fun e => HJ5.out.ne.1 e.symm)).isMap)).trans h6
                have h8 := (Hb8.out.block D (Array.getElem?_eq_some_iff.1 h7).1).trans h7
                have h9 := (c9.block D (Array.getElem?_eq_some_iff.1 h8).1 (fun e => Hnd.out D hD e)).trans h8
                exact ⟨h1, (c3.block D (Array.getElem?_eq_some_iff.1 h9).1 (HJ9.out.q.markA h9)).trans h9⟩
              refine ⟨(((((((KeepsOthers.of_belowA hWD).from _).trans (chg_fromA c5 (fun b e => by have h1 : b = hb := e; omega))).trans (chg_fromA c6 (fun b e => by have h1 : b = pm := e; omega))).trans (chg_fromA c7 (fun b e => by have h1 : b = am := e; omega))).trans ((KeepsOthers.of_belowA Hb8.out).from _)).trans (chg_fromA c9 (fun b e => by have h1 : b = hb := e; omega))).trans (HJ9.out.q.fromA c3 j9.2.2.2.1), ⟨?_, ?_⟩, QA3, qn3, qc3, qes3, tm3, _, _, _, HJ10.out, k1, k2, k3, measA_less hsum hlen3 Hj5.out, sb10, bs10, dd, j9⟩
              · have z5 := c5.size
                have z6 := c6.size
                have z7 := c7.size
                have z8 := Hb8.out.size
                have z9 := c9.size
                have zD := hWD.size
                exact ((((((hWD.mono hlwW).trans (c5.below (fun i e => by have h1 : i = hb := e; omega) (by omega))).trans (c6.below (fun i e => by have h1 : i = pm := e; omega) (by omega))).trans (c7.below (fun i e => by have h1 : i = am := e; omega) (by omega))).trans (Hb8.out.mono (by omega))).trans (c9.below (fun i e => by have h1 : i = hb := e; omega) (by omega))).trans (c3.below (fun i e => by have := (HJ9.out.sq i e).1; omega) (by omega))
              · rw [show W10.heap[(w15.heap.size + 1)]? = _ from bs10, show W.heap[(w15.heap.size + 1)]? = _ from bs1]
          | some old =>
            have hlkD := HlookD.out
            rw [hpx] at hlkD
            simp only [Option.map_some, Option.getD_some, Option.isSome_some] at hlkD
            by_cases hle : old ≤ p + prc xc
            · have Hpx := hide hpx
              clear HlookD hpx
              gi_upto_region 99 with (with_reducible refine skip_and ?_)
              exact ⟨(KeepsOthers.of_belowA HbD.out).from _, ⟨HbD.out.mono hlwW, HbD.out.block _ Hj7.out.lt⟩, _, _, _, _, _, _, _, _, HJ1.out, HI2.out.skip Hj3.out (fun _ => ⟨old, Hpx.out, hle⟩) Hopen.out, Hj3.out, Hj4.out, Hj5.out, Hj6D.out, Hj7.out.keep HbD.out, fun D hD => ⟨(Hj8.out D hD).1, (HbD.out.block D (Array.getElem?_eq_some_iff.1 (Hj8.out D hD).2).1).trans (Hj8.out D hD).2⟩, j9⟩
            · have Hold := hide (show ∀ old, pr2 xt = some old → p + prc xc < old from fun o h => by rw [hpx] at h; obtain rfl := Option.some.inj h; omega)
              clear HlookD hpx
              by_cases hinf : 1000000000 ≤ hv xt
              · gi_upto_region 99 with (first | ((with_reducible refine round_at91 rfl (fun c h => by cases h) ?_); go_simp; (with_reducible refine (HH.out.call WD xt hxtL HJ1.out.hc).mono ?_); rintro e W5 ⟨rfl, hHC5, hch5⟩; have HHC5 := hide hHC5; have Hch5 := hide hch5; clear hHC5 hch5; go_simp) | (with_reducible refine skip_and ?_))
                have hfin := HJ1.out.heur HHC5.out Hch5.out
                have hz9 := HJ1.out.hbs
                refine ⟨((KeepsOthers.of_belowA HbD.out).from _).trans (chg_fromA Hch5.out (fun b e => by have h1 : b = hb := e; omega)), ⟨(HbD.out.mono hlwW).trans (Hch5.out.below (fun i e => by have h1 : i = hb := e; omega) (by have := HbD.out.size; omega)), ?_⟩, _, _, _, _, _, _, _, _, hfin, HI2.out.skip Hj3.out (fun hi => by have hi2 : hv xt < infA := hi; unfold infA at hi2; omega) Hopen.out, Hj3.out, Hj4.out, Hj5.out, Hch5.out.blk Hj6D.out nSb, Hch5.out.blk (Hj7.out.keep HbD.out) nBs, fun D hD => ?_, j9⟩
                · rw [show W5.heap[(w15.heap.size + 1)]? = _ from Hch5.out.blk (Hj7.out.keep HbD.out) nBs, show W.heap[(w15.heap.size + 1)]? = _ from Hj7.out]
                · obtain ⟨h1, h2⟩ := Hj8.out D hD
                  have h3 := (HbD.out.block D (Array.getElem?_eq_some_iff.1 h2).1).trans h2
                  exact ⟨h1, (Hch5.out.block D (Array.getElem?_eq_some_iff.1 h3).1 (fun e => Hnd.out D hD e)).trans h3⟩
              · gi_upto_region 19 with (first | ((with_reducible refine round_at91 rfl (fun c h => by cases h) ?_); go_simp; (with_reducible refine (HH.out.call WD xt hxtL HJ1.out.hc).mono ?_); rintro e W5 ⟨rfl, hHC5, hch5⟩; have HHC5 := hide hHC5; have Hch5 := hide hch5; clear hHC5 hch5; go_simp) | (with_reducible refine skip_and ?_))
                have hi5 : hv xt < infA := by unfold infA; omega
                have hJ5 := HJ1.out.heur HHC5.out Hch5.out
                obtain ⟨W6, W7, hp1, hp2, hg6, hg7, hz6, hz7, hJ7⟩ := hJ5.put2 HH.out x1 hD2l (p + prc xc) (t, xi) HI2.out.dom HI2.out.par0
                simp only [backV] at hp2
                have hBx5 := Hch5.out.blk HBxD.out nBx
                have hBx6 := hBx5.grown hg6 (fun e => by injection e with e; exact hJ5.pmap.ne hBx5 e.symm)
                have hSb5 := Hch5.out.blk Hj6D.out nSb
                have hSb6 := hSb5.grown hg6 (fun e => by injection e with e; exact hJ5.pmap.ne hSb5 e.symm)
                have hBx7 := hBx6.grown hg7 (fun e => by
                  injection e with e
                  obtain ⟨es, cl, hm⟩ := hJ7.amap.isMap
                  have hb := hg7
                  have h9 : ∃ es cl, W6.heap[am]? = some (.map es cl) := (hJ5.amap.chg (chg_map hg6) (fun e => hJ5.ne.1 e.symm)).isMap
                  obtain ⟨es, cl, h9⟩ := h9
                  rw [← e] at h9
                  unfold Blk at hBx6
                  rw [hBx6] at h9
                  cases h9)
                have hP5 := hJ5.pbx
                have hA6 := hJ5.abx.grown hg6 (fun e => by injection e with e; exact hJ5.pmap.ne hJ5.abx e.symm)
                have p5 := hP5.cell 0
                have x52 := hBx5.cell 2
                have a6 := hA6.cell 0
                have x60 := hBx6.cell 0
                have x62 := hBx6.cell 2
                have s60 := hSb6.cell 0
                have q7 := hJ7.qbx.cell 0
                have f7 := hJ7.fbx.cell 0
                have x72 := hBx7.cell 2
                have lx7 := hBx7.lt
                have lq7 := hJ7.qbx.lt
                have lf7 := hJ7.fbx.lt
                simp only [List.getElem?_cons_zero, List.getElem?_cons_succ] at p5 x52 a6 x60 x62 s60 q7 f7 x72
                have HJ5 := hide hJ5
                have HJ7 := hide hJ7
                have HBx7 := hide hBx7
                have Hg6 := hide hg6
                have Hg7 := hide hg7
                have Hz67 := hide (And.intro hz6 hz7)
                clear hJ5 hJ7 hBx5 hBx6 hBx7 hSb5 hSb6 hP5 hA6 hg6 hg7 hz6 hz7
                gi_wp2
                refine wpIn_region_round (S := (fun w' => w'.cell? ⟨Qb, 0, none⟩ = some (.pointer (some ⟨Q, 0, none⟩)) ∧ w'.cell? ⟨Fb, 0, none⟩ = some (.func (.func 68) #[] #[.pointer (some ⟨xb, 0, none⟩), .pointer (some ⟨tb, 0, none⟩), .pointer (some ⟨kb, 0, none⟩)]) ∧ w'.cell? ⟨Bx, 2, none⟩ = some (.int .u32 xt))) (by kernel_rfl) ?_ (by kernel_rfl) ?_ (fun hHeld => ?_)
                · rintro ⟨_, _, h⟩; exact h
                · exact ⟨q7, f7, x72⟩
                obtain ⟨W8, hW8⟩ : ∃ Z, Z = W7.drew := ⟨_, rfl⟩
                have hb8 : Below W7.heap.size W7 W8 := by rw [hW8]; exact (Below.refl _ _).drew
                rw [← hW8] at hHeld ⊢
                clear hW8
                have hJ8 := HJ7.out.keep HH.out hb8
                have hwm : IntKind.i64.wrap (4096 * hv xt) = 4096 * hv xt := IntWalk.i64_in _ (by have := Hpos.out xt; unfold infA at hi5; omega)
                have hwm2 : IntKind.i64.wrap (p + prc xc + 4096 * hv xt) = p + prc xc + 4096 * hv xt := IntWalk.i64_in _ (by have := Hpos.out xt; unfold infA at hi5; omega)
                have hcl8 := HH.out.call W8 xt hxtL hJ8.hc
                have HJ8 := hide hJ8
                have HBx8 := hide (HBx7.out.keep hb8)
                have Hcl8 := hide hcl8
                have Hb8 := hide hb8
                clear hJ8 hcl8 hb8 p5 x52 a6 x60 x62 s60 hp1 hp2
                refine takeA (i := 0) (v := ?_) (some 105) rfl rfl (by kernel_rfl) (by kernel_rfl) (by kernel_rfl) (fun _ _ _ h => h) (Or.inl ⟨by rfl, ?_⟩) (by assumption) ?_
                rotate_left
                · intro w hSw; (try dsimp only at hSw); obtain ⟨s1, s2, s3⟩ := hSw; first | (go_simp; done) | (go_simp; with_reducible rfl)
                try simp only [Act.put, List.setIfInBounds_toArray, List.set_cons_zero, List.set_cons_succ]
                refine takeA (i := 1) (v := ?_) (some 106) rfl rfl (by kernel_rfl) (by kernel_rfl) (by kernel_rfl) (fun _ _ _ h => h) (Or.inl ⟨by rfl, ?_⟩) (by assumption) ?_
                rotate_left
                · intro w hSw; (try dsimp only at hSw); obtain ⟨s1, s2, s3⟩ := hSw; first | (go_simp; done) | (go_simp; with_reducible rfl)
                try simp only [Act.put, List.setIfInBounds_toArray, List.set_cons_zero, List.set_cons_succ]
                refine takeA (i := 2) (v := ?_) (some 107) rfl rfl (by kernel_rfl) (by kernel_rfl) (by kernel_rfl) (fun _ _ _ h => h) (Or.inl ⟨by rfl, ?_⟩) (by assumption) ?_
                rotate_left
                · intro w hSw; (try dsimp only at hSw); obtain ⟨s1, s2, s3⟩ := hSw; first | (go_simp; done) | (go_simp; with_reducible rfl)
                try simp only [Act.put, List.setIfInBounds_toArray, List.set_cons_zero, List.set_cons_succ]
                refine takeA (i := 3) (v := ?_) (some 108) rfl rfl (by kernel_rfl) (by kernel_rfl) (by kernel_rfl) (fun _ _ _ h => h) (Or.inl ⟨by rfl, ?_⟩) (by assumption) ?_
                rotate_left
                · intro w hSw; (try dsimp only at hSw); obtain ⟨s1, s2, s3⟩ := hSw; first | (go_simp; done) | (go_simp; with_reducible rfl)
                try simp only [Act.put, List.setIfInBounds_toArray, List.set_cons_zero, List.set_cons_succ]
                refine takeA (i := 4) (v := ?_) (some 109) rfl rfl (by kernel_rfl) (by kernel_rfl) (by kernel_rfl) (fun _ _ _ h => h) (Or.inl ⟨by rfl, ?_⟩) (by assumption) ?_
                rotate_left
                · intro w hSw; (try dsimp only at hSw); obtain ⟨s1, s2, s3⟩ := hSw; first | (go_simp; done) | (go_simp; with_reducible rfl)
                try simp only [Act.put, List.setIfInBounds_toArray, List.set_cons_zero, List.set_cons_succ]
                refine takeA (i := 5) (v := ?_) (some 110) rfl rfl (by kernel_rfl) (by kernel_rfl) (by kernel_rfl) (fun _ _ _ h => h) (Or.inl ⟨by rfl, ?_⟩) (by assumption) ?_
                rotate_left
                · intro w hSw; (try dsimp only at hSw); obtain ⟨s1, s2, s3⟩ := hSw; first | (go_simp; done) | (go_simp; with_reducible rfl)
                try simp only [Act.put, List.setIfInBounds_toArray, List.set_cons_zero, List.set_cons_succ]
                refine takeA (i := 6) (v := ?_) (some 111) rfl rfl (by kernel_rfl) (by kernel_rfl) (by kernel_rfl) (fun _ _ _ h => h) (Or.inl ⟨by rfl, ?_⟩) (by assumption) ?_
                rotate_left
                · intro w hSw; (try dsimp only at hSw); obtain ⟨s1, s2, s3⟩ := hSw; first | (go_simp; done) | (go_simp; with_reducible rfl)
                try simp only [Act.put, List.setIfInBounds_toArray, List.set_cons_zero, List.set_cons_succ]
                refine wpAnyH_ready (rs := [7]) (by kernel_rfl) (by simp) ?_
                refine AllReadyH.cons rfl (fun K hK => ?_) AllReadyH.nil
                go_simp
                refine Hcl8.out.mono ?_
                rintro e W9 ⟨rfl, hHC9, hch9⟩
                have hJ9 := HJ8.out.heur hHC9 hch9
                have hBx9 := hch9.blk HBx8.out nBx
                have q9 := hJ9.qbx.cell 0
                have f9 := hJ9.fbx.cell 0
                have x92 := hBx9.cell 2
                simp only [List.getElem?_cons_zero, List.getElem?_cons_succ] at q9 f9 x92
                have HJ9 := hide hJ9
                have HBx9 := hide hBx9
                have Hch9 := hide hch9
                clear hJ9 hBx9 hch9 hHC9
                go_simp
                refine hK.out _ _ ?_ (fun hHeld2 => ?_)
                · exact ⟨q9, f9, x92⟩
                clear hK K hHeld
                try simp only [Act.put, List.setIfInBounds_toArray, List.set_cons_zero, List.set_cons_succ]
                have hHeld := hHeld2; clear hHeld2
                refine takeA (i := 8) (v := ?_) (some 113) rfl rfl (by kernel_rfl) (by kernel_rfl) (by kernel_rfl) (fun _ _ _ h => h) (Or.inl ⟨by rfl, ?_⟩) (by assumption) ?_
                rotate_left
                · intro w hSw; (try dsimp only at hSw); obtain ⟨s1, s2, s3⟩ := hSw; first | (go_simp; done) | (go_simp; with_reducible rfl)
                try simp only [Act.put, List.setIfInBounds_toArray, List.set_cons_zero, List.set_cons_succ]
                refine takeA (i := 9) (v := ?_) (some 114) rfl rfl (by kernel_rfl) (by kernel_rfl) (by kernel_rfl) (fun _ _ _ h => h) (Or.inl ⟨by rfl, ?_⟩) (by assumption) ?_
                rotate_left
                · intro w hSw; (try dsimp only at hSw); obtain ⟨s1, s2, s3⟩ := hSw; first | (go_simp; done) | (go_simp; with_reducible rfl)
                try simp only [Act.put, List.setIfInBounds_toArray, List.set_cons_zero, List.set_cons_succ]
                refine wpAnyH_ready (rs := [10]) (by kernel_rfl) (by simp) ?_
                refine AllReadyH.cons rfl (fun K hK => ?_) AllReadyH.nil
                go_simp
                have hset := QSet_ct w.heap.size Q mb QA2 qn2 qc2 qes2 tm2 xt (p + prc xc + 4096 * hv xt) W9 HJ9.out.q x1 (by have := Hpos.out xt; unfold infA at hi5; omega) (by have h1 := HJ9.out.q.lenA (l := L) (fun y v hy => by obtain ⟨q', h2, _⟩ := HI2.out.key y v hy; exact HI2.out.sub y ((HI2.out.dom y).2 (by rw [h2]; rfl))); omega) HJ9.out.size
                with_reducible refine hset.mono ?_
                rintro e W10 ⟨rfl, QA3, qn3, qc3, qes3, tm3, hq3, hch3, hM3, hky3⟩
                have Hq3 := hide hq3
                have Hch3 := hide hch3
                have HM3 := hide hM3
                have Hky3 := hide hky3
                have x102 := (hch3.blk HBx9.out (HJ9.out.q.neT HBx9.out (by decide) (by decide) (by decide))).cell 2
                have hJ10 := HJ9.out.setQ HH.out hq3 hch3 hM3
                have q10 := hJ10.qbx.cell 0
                have f10 := hJ10.fbx.cell 0
                simp only [List.getElem?_cons_zero, List.getElem?_cons_succ] at q10 f10 x102
                have HJ10 := hide hJ10
                clear hset hq3 hch3 hM3 hky3 hJ10
                go_simp
                refine hK.out _ _ ?_ (fun hHeld2 => ?_)
                · exact ⟨q10, f10, x102⟩
                clear hK K hHeld
                try simp only [Act.put, List.setIfInBounds_toArray, List.set_cons_zero, List.set_cons_succ]
                have hHeld := hHeld2; clear hHeld2
                refine wpAnyH_done (by kernel_rfl) ?_ _
                clear hHeld q7 f7 x72 lx7 lq7 lf7 q9 f9 x92 q10 f10 x102 hwm hwm2
                gi_wp2
                have hold2 : ∀ old, pr2 xt = some old → p + prc xc < old := Hold.out
                have hset2 := HI2.out.set hL (Qk' := keyE qes3) (O' := fun x => x ∉ (pre ++ [(⟨(xi, xc, xt), hx⟩ : Stp ms t)]).map (·.1)) (pr' := fun s => if s = xt then some (p + prc xc) else pr2 s) (pa' := fun s => if s = xt then some (t, xi) else pa2 s) Hj4.out Hj3.out hx ⟨x2, x3⟩ hxtL hi5 hold2 (fun s => rfl) (fun s => rfl) Hky3.out Hopen.out
                obtain ⟨k1, k2, k3, k4⟩ := hset2
                replace k4 : bigP (fun s => if s = xt then some (p + prc xc) else pr2 s) xt + 1 ≤ bigP pr2 xt := k4
                have hsum : sumP L (fun s => if s = xt then some (p + prc xc) else pr2 s) + 1 ≤ sumP L pr2 := sum_less (fun s hs => by
                  by_cases e : s = xt
                  · rw [e]; omega
                  · unfold bigP; dsimp only; rw [if_neg e]; exact Nat.le_refl _) hxtL (by omega)
                have hlen3 : qn3 ≤ qn2 + 1 := by
                  have h1 := Hq3.out.lenA (l := xt :: qes2.map En.item) (fun y v hy => by
                    rw [Hky3.out] at hy
                    split at hy
                    · rename_i e; rw [e]; exact List.mem_cons_self
                    · exact List.mem_cons_of_mem _ (keyE_item hy))
                  have h2 := HJ9.out.q.items
                  rw [List.length_cons, h2] at h1
                  exact h1
                have c5 := Hch5.out
                have c6 := chg_map Hg6.out
                have c7 := chg_map Hg7.out
                have c9 := Hch9.out
                have c3 := Hch3.out
                have hn9 := HJ9.out.hbs
                have hbb := HJ9.out.base
                have hlw := HJ1.out.low.size
                have hWD := HbD.out
                have kA : ∀ (M : Nat → Prop) (X Y : World) (S : Nat), Chg M X Y → Blk 69 X S [.int .u32 t] → ¬ M S → Y.heap[S]? = X.heap[S]? := fun M X Y S hc hb hM => hc.block S hb.lt hM
                have bs1 := Hj7.out
                have bsD := Hj7.out.keep hWD
                have bs5 := c5.blk bsD nBs
                have bs6 := c6.blk bs5 (fun e => HJ5.out.pmap.ne bs5 e.symm)
                have nam : ∀ S, Blk 69 W6 S [.int .u32 t] → ¬ S = am := fun S hb e => by
                  obtain ⟨es, cl, h9⟩ := (HJ5.out.amap.chg c6 (fun e => HJ5.out.ne.1 e.symm)).isMap
                  subst e
                  unfold Blk at hb
                  rw [hb] at h9
                  cases h9
                have bs7 := c7.blk bs6 (nam _ bs6)
                have bs8 := bs7.keep Hb8.out
                have bs9 := c9.blk bs8 nBs
                have bs10 := c3.blk bs9 (HJ9.out.q.neT bs9 (by decide) (by decide) (by decide))
                have sb6 := c6.blk (c5.blk Hj6D.out nSb) (fun e => HJ5.out.pmap.ne (c5.blk Hj6D.out nSb) e.symm)
                have sb9 := c9.blk ((c7.blk sb6 (nam _ sb6)).keep Hb8.out) nSb
                have sb10 := c3.blk sb9 (HJ9.out.q.neT sb9 (by decide) (by decide) (by decide))
                have dd : ∀ D ∈ Ds, D < WL.heap.size ∧ W10.heap[D]? = some (.deferred (some [])) := fun D hD => by
                  obtain ⟨h1, h2⟩ := Hj8.out D hD
                  have h3 := (hWD.block D (Array.getElem?_eq_some_iff.1 h2).1).trans h2
                  have lt3 := (Array.getElem?_eq_some_iff.1 h3).1
                  have ndM : ∀ (b : Nat) (X : World), X.heap[D]? = some (.deferred (some [])) → (∃ es cl, X.heap[b]? = some (.map es cl)) → ¬ D = b := fun b X hX hm e => by
                    obtain ⟨es, cl, hm⟩ := hm
                    rw [← e, hX] at hm
                    cases hm
                  have h5 := (c5.block D lt3 (fun e => Hnd.out D hD e)).trans h3
                  have h6 := (c6.block D (Array.getElem?_eq_some_iff.1 h5).1 (ndM pm W5 h5 HJ5.out.pmap.isMap)).trans h5
                  have h7 := (c7.block D (Array.getElem?_eq_some_iff.1 h6).1 (ndM am W6 h6 (HJ5.out.amap.chg c6 (fun e => HJ5.out.ne.1 e.symm)).isMap)).trans h6
                  have h8 := (Hb8.out.block D (Array.getElem?_eq_some_iff.1 h7).1).trans h7
                  have h9 := (c9.block D (Array.getElem?_eq_some_iff.1 h8).1 (fun e => Hnd.out D hD e)).trans h8
                  exact ⟨h1, (c3.block D (Array.getElem?_eq_some_iff.1 h9).1 (HJ9.out.q.markA h9)).trans h9⟩
                refine ⟨(((((((KeepsOthers.of_belowA hWD).from _).trans (chg_fromA c5 (fun b e => by have h1 : b = hb := e; omega))).trans (chg_fromA c6 (fun b e => by have h1 : b = pm := e; omega))).trans (chg_fromA c7 (fun b e => by have h1 : b = am := e; omega))).trans ((KeepsOthers.of_belowA Hb8.out).from _)).trans (chg_fromA c9 (fun b e => by have h1 : b = hb := e; omega))).trans (HJ9.out.q.fromA c3 j9.2.2.2.1), ⟨?_, ?_⟩, QA3, qn3, qc3, qes3, tm3, _, _, _, HJ10.out, k1, k2, k3, measA_less hsum hlen3 Hj5.out, sb10, bs10, dd, j9⟩
                · have z5 := c5.size
                  have z6 := c6.size
                  have z7 := c7.size
                  have z8 := Hb8.out.size
                  have z9 := c9.size
                  have zD := hWD.size
                  exact ((((((hWD.mono hlwW).trans (c5.below (fun i e => by have h1 : i = hb := e; omega) (by omega))).trans (c6.below (fun i e => by have h1 : i = pm := e; omega) (by omega))).trans (c7.below (fun i e => by have h1 : i = am := e; omega) (by omega))).trans (Hb8.out.mono (by omega))).trans (c9.below (fun i e => by have h1 : i = hb := e; omega) (by omega))).trans (c3.below (fun i e => by have := (HJ9.out.sq i e).1; omega) (by omega))
                · rw [show W10.heap[(w15.heap.size + 1)]? = _ from bs10, show W.heap[(w15.heap.size + 1)]? = _ from bs1]
        case done =>
          intro D ys W hD hys hJy hKD
          obtain ⟨QA2, qn2, qc2, qes2, tm2, pr2, pa2, D2, j1, j2, j3, j4, j5, j6, j7, j8, j9⟩ := hJy
          have hcl := j2.close (fun x hx hno => by rw [hys] at hno; exact hno hx)
          have hDn : (D :: Ds).Nodup := List.nodup_cons.2 ⟨fun hm => by have := (j8 D hm).1; omega, Hdn.out⟩
          have hDm : ∀ E ∈ D :: Ds, w.heap.size ≤ E ∧ W.heap[E]? = some (.deferred (some [])) := fun E hE => by
            rcases List.mem_cons.1 hE with rfl | hE
            · exact ⟨by omega, hKD⟩
            · exact ⟨(HDs.out E hE).1, (j8 E hE).2⟩
          have J1 := hide j1
          have Hcl := hide hcl
          have HDn := hide hDn
          have HDm := hide hDm
          have J5 := hide j5
          clear j1 j2 j3 j4 j5 j6 j7 j8 j9 hcl hDn hDm hys hKD
          dsimp only
          go_wp2
          exact Handed.intro _ (by have := J5.out; omega) (hJ _ _ _ ⟨QA2, qn2, qc2, qes2, tm2, pr2, pa2, D2, _, D :: Ds, _, _, _, _, _, _, _, _, _, _, _, _, _, _, _, _, _, _, _, _, _, rfl, rfl, J1.out, Hcl.out, HE3.out, HDm.out, HDn.out⟩)
  go_wp2_with (first | (go_at_call 199; refine (Hst.out _ Hb01.out).mono ?_; rintro e w' ⟨rfl, rfl⟩) | (go_at_call 68; (with_reducible refine Hcall.out.mono ?_); rintro e w2 ⟨rfl, hHC2, hch2⟩; have HHC2 := hide hHC2; have Hch2 := hide hch2; clear hHC2 hch2))
  refine leaves_marks [] _ (fun D hD => by cases hD) List.nodup_nil fun W' hc => ?_
  refine ⟨.tuple #[.slice none 0 0, .int .i64 0, .bool false], by simp [results, Tryz.results37, go_sem], ?_⟩
  have hlow2 := Hb01.out.trans (Hch2.out.below (fun i e => by have h1 : i = hb := e; have := HH.out.low; omega) Hb01.out.size)
  refine ⟨hlow2.trans (hc.below (fun i hi => by cases hi) hlow2.size), .inr ⟨0, rfl, fun l u n hw hg => ?_⟩⟩
  have := (Hadm.out s0 l u n hw hg).2
  unfold infA at this
  omega
end Go.Proofs.YtemiecammmbjdaaGreat
