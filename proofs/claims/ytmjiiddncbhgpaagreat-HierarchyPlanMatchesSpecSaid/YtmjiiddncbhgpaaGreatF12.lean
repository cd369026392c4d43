/- The law HierarchyPlanMatchesSpec of the package hierarchy holds, without a condition., part 12: Ha Hb Hc Hd He. -/
import Derived.Test.YtmjiiddncbhgpaaGreatF1
import Derived.Test.YtmjiiddncbhgpaaGreatF2
import Derived.Test.YtmjiiddncbhgpaaGreatF3
import Derived.Test.YtmjiiddncbhgpaaGreatF4
import Derived.Test.YtmjiiddncbhgpaaGreatF5
import Derived.Test.YtmjiiddncbhgpaaGreatF6
import Derived.Test.YtmjiiddncbhgpaaGreatF7
import Derived.Test.YtmjiiddncbhgpaaGreatF8
import Derived.Test.YtmjiiddncbhgpaaGreatF9
import Derived.Test.YtmjiiddncbhgpaaGreatF10
import Derived.Test.YtmjiiddncbhgpaaGreatF11
import Derived.BigQuiet
import Derived.Deep.AppendLies
import Derived.Deep.DeepCutAuto
import Derived.Deep.Draws
import Derived.Deep.Fields
import Derived.Deep.LoopGhost
import Derived.Deep.QuietTactic
import Derived.Deep.RegionHeld3
import Derived.Deep.Slices
import Derived.DeepKeys4
import Derived.Laws.AppendOwnNone
import Derived.Laws.BitsAllLaws
import Derived.Laws.OwnMore
import Derived.Lib.Hide
import Derived.Lib.SlicesCompact
import Derived.LoopIn
import Derived.LoopNIn
import Derived.Maps.AppendAt
import Derived.Maps.OwnIn
import Derived.Maps.OwnOps
import Derived.Maps.OwnSet
import Derived.OrdersHeld
import Derived.OrdersIn
import Derived.OwnWalkIn
import Derived.RangeFuncBound
import Derived.RangeFuncCalls
import Derived.RangeFuncLeaves
import Derived.RangeFuncNested
import Derived.Shelf.Abstract
import Derived.Shelf.RegionOpen
import Derived.Sort.CutIn
import Derived.StillTail
import Derived.StillTailTactics
import Derived.TacticsInMore
import Derived.Test.YtmjiiddncbhgpaaGreatProg
import Derived.WalkKit
namespace Go.Proofs.YtmjiiddncbhgpaaGreat
set_option linter.unusedVariables false
set_option linter.unusedSimpArgs false
open Go.RowKit Go.Shelf Go.Maps
attribute [local go_sem] Oper.semAt_some
theorem blkT_neH {W : World} {t t' : TypeId} {g g' : Nat} {cs cs' : List Value} (h : Blk t W g cs) (k : Blk t' W g' cs') (ht : t ≠ t') : g ≠ g' := fun e => by
  subst e
  unfold Blk at h k
  rw [h] at k
  injection k with k
  injection k with _ k _
  exact ht k
theorem KeepsOthers.of_belowH {W W' : World} (h : Below W.heap.size W W') : KeepsOthers W W' := ⟨h.size, fun k o hk _ => (h.block k (Array.getElem?_eq_some_iff.1 hk).1).trans hk⟩
/-- the place of a word in a list -/
def ixF : List Nat → Nat → Option Nat
  | [], _ => none
  | x :: l, s => if x = s then some 0 else (ixF l s).map (· + 1)
theorem ixF_some : ∀ (l : List Nat) (s k : Nat), ixF l s = some k → l[k]? = some s
  | [], s, k, h => by cases h
  | x :: l, s, k, h => by
    unfold ixF at h
    split at h
    · injection h with h; subst h; rename_i e; simp [e]
    · cases hx : ixF l s with
      | none => rw [hx] at h; cases h
      | some q =>
        rw [hx] at h
        injection h with h
        subst h
        rw [List.getElem?_cons_succ]
        exact ixF_some l s q hx
theorem ixF_mem : ∀ (l : List Nat) (s : Nat), s ∈ l → ∃ k, ixF l s = some k
  | [], s, h => by cases h
  | x :: l, s, h => by
    unfold ixF
    split
    · exact ⟨0, rfl⟩
    · rename_i e
      obtain ⟨k, hk⟩ := ixF_mem l s ((List.mem_cons.1 h).resolve_left (fun e2 => e e2.symm))
      exact ⟨k + 1, by rw [hk]; rfl⟩
/-- the refiner in memory -/
structure RfS (W : World) (Rb g s0 gl : Nat) (ms : List Mk) (SA : Option Addr) (sn sc : Nat) (st : List Nat) (am rm bm : Nat) (v0 v1 v2 v3 v4 v5 v6 : Value) (lim : Nat) : Prop where
  blk : Blk 107 W Rb [v0, v1, v2, v3, v4, v5, v6, .pointer (some ⟨g, 0, none⟩), .slice SA sn sc, .map (some am), .int .i64 lim, .map (some rm), .map (some bm)]
  words : WordsR W g s0 gl ms
  sts : Rd Enc.word W SA sn sc st
  atm : MapV Tryz.prog 78 encW W am st.length (fun s => (ixF st s).map fun k => Value.int .i64 (k : Int))
  once : st.Nodup
  few : st.length ≤ 2000
  all : ∀ s ∈ st, ∀ x ∈ stepsW 0 ms s, x.2.2 ∈ st
section
variable {W W' : World} {Rb g s0 gl : Nat} {ms : List Mk} {SA : Option Addr} {sn sc : Nat} {st : List Nat} {am rm bm : Nat} {v0 v1 v2 v3 v4 v5 v6 : Value} {lim : Nat}
theorem RfS.keep (h : RfS W Rb g s0 gl ms SA sn sc st am rm bm v0 v1 v2 v3 v4 v5 v6 lim) (hb : Below W.heap.size W W') : RfS W' Rb g s0 gl ms SA sn sc st am rm bm v0 v1 v2 v3 v4 v5 v6 lim :=
  ⟨h.blk.keep hb, h.words.keep hb, h.sts.keep hb, h.atm.keep hb, h.once, h.few, h.all⟩
theorem RfS.word32 (h : RfS W Rb g s0 gl ms SA sn sc st am rm bm v0 v1 v2 v3 v4 v5 v6 lim) {s : Nat} (hs : s ∈ st) : s < 4294967296 := h.sts.words s hs
end
/-- an operator leads from one state to another -/
def aftW (ms : List Mk) (st : List Nat) (op i k : Nat) : Prop := ∃ s m, st[i]? = some s ∧ ms[op]? = some m ∧ canW s m = true ∧ st[k]? = some (goW s m)
def AftP (w : World) (ms : List Mk) (st : List Nat) (op i : Nat) (e : Ending) (w' : World) : Prop :=
  Below w.heap.size w w' ∧ ((∃ k : Nat, e = .returned (.tuple #[.int .i64 k, .bool true]) ∧ k < st.length ∧ aftW ms st op i k) ∨ (e = .returned (.tuple #[.int .i64 0, .bool false]) ∧ ∀ k, ¬ aftW ms st op i k))
theorem leavesH {F : Fence} {n : Nat} {P : Program} {fn : Func} {R : Ending → World → Prop} {tmps tmps' : Array Value} (hres : results fn tmps' = results fn tmps) : ∀ (ds : List Deferred) (u : FrameMode) (w : World), LeavesInM F n P fn tmps' R ds u w → LeavesInM F n P fn tmps R ds u w := by
  intro ds
  induction ds with
  | nil =>
    intro u w h
    cases u with
    | returning =>
      obtain ⟨v, h1, h2⟩ := h
      exact ⟨v, by rw [← hres]; exact h1, h2⟩
    | panicking c => exact h
    | run => exact h
  | cons d ds ih =>
    rintro u w ⟨h0, h⟩
    refine ⟨h0, ?_⟩
    rcases h with ⟨r, w', h1, h2, h3⟩ | ⟨h1, fv, cap, f, args, h2, h3, h4, h5⟩
    · exact .inl ⟨r, w', h1, h2, ih _ _ h3⟩
    · refine .inr ⟨h1, fv, cap, f, args, h2, h3, h4, h5.mono fun e u' w' hr => ?_⟩
      cases e with
      | returned _ => exact ih _ _ hr
      | panicked _ => exact ih _ _ hr
      | _ => exact hr
theorem resH (tmps : Array Value) (d : Nat) (v : Value) (h6 : d ≠ 6) (h7 : d ≠ 7) : results Tryz.f112 (tmps.setIfInBounds d v) = results Tryz.f112 tmps := by
  simp [results, Tryz.results112, go_sem, Array.getD_eq_getD_getElem?, Array.getElem?_setIfInBounds, h6, h7]
theorem hQH {R : Ending → World → Prop} {v : Value} (d : Nat) (h6 : d ≠ 6) (h7 : d ≠ 7) (c : _) (a : Act) (w : World) (h : (bodyPostM Fence.wide 8 Tryz.prog Tryz.f112 R) (.panic c) (a.put (some d) v) w) : (bodyPostM Fence.wide 8 Tryz.prog Tryz.f112 R) (.panic c) a w :=
  leavesH (resH a.tmps d v h6 h7) _ _ _ h
/-- between two steps -/
def AftI (w : World) (Rb op s B3 B5 B6 B7 Bs : Nat) {ms : List Mk} (pre : List (Stp ms s)) (W : World) : Prop :=
  Below w.heap.size w W ∧ Blk 101 W B3 [.pointer (some ⟨Rb, 0, none⟩)] ∧ Blk 3 W B5 [.int .i64 op] ∧ Blk 3 W B6 [.int .i64 0] ∧ Blk 4 W B7 [.bool false] ∧ Blk 78 W Bs [.int .u32 s] ∧ (∀ x ∈ pre, x.1.1 ≠ op)
def AftX (w : World) (ms : List Mk) (st : List Nat) (op i s B6 B7 : Nat) (c : Code) (pre : List (Stp ms s)) (W : World) : Prop :=
  c = .ret ∧ ∃ k : Nat, Below w.heap.size w W ∧ Blk 3 W B6 [.int .i64 (k : Int)] ∧ Blk 4 W B7 [.bool true] ∧ k < st.length ∧ aftW ms st op i k
section
variable {w : World} {Rb op i s B3 B5 B6 B7 Bs BL : Nat} {ms : List Mk} {st : List Nat}
theorem AftI.own (hB : w.heap.size ≤ BL) : OwnFrom BL (AftI w Rb op s B3 B5 B6 B7 Bs (ms := ms)) := by
  rintro pre X Y row ⟨h1, h2, h3, h4, h5, h6, h7⟩ hg hr
  exact ⟨h1.grown hg h1.size (fun k e => by have := (hr k e).1; omega), h2.grown hg (turn_ne hr h2.cells), h3.grown hg (turn_ne hr h3.cells), h4.grown hg (turn_ne hr h4.cells), h5.grown hg (turn_ne hr h5.cells), h6.grown hg (turn_ne hr h6.cells), h7⟩
theorem AftX.own (hB : w.heap.size ≤ BL) (c : Code) : OwnFrom BL (AftX w ms st op i s B6 B7 c) := by
  rintro pre X Y row ⟨rfl, k, h1, h2, h3, h4⟩ hg hr
  exact ⟨rfl, k, h1.grown hg h1.size (fun k e => by have := (hr k e).1; omega), h2.grown hg (turn_ne hr h2.cells), h3.grown hg (turn_ne hr h3.cells), h4⟩
theorem AftI.keep {pre : List (Stp ms s)} {W W' : World} (h : AftI w Rb op s B3 B5 B6 B7 Bs pre W) (hb : Below W.heap.size W W') : AftI w Rb op s B3 B5 B6 B7 Bs pre W' := by
  obtain ⟨h1, h2, h3, h4, h5, h6, h7⟩ := h
  exact ⟨h1.trans (hb.mono h1.size), h2.keep hb, h3.keep hb, h4.keep hb, h5.keep hb, h6.keep hb, h7⟩
end
/-- the step in its box -/
def StpBoxC (a : Act) {ms : List Mk} {s : Nat} (x : Stp ms s) (a' : Act) (W : World) : Prop :=
  ∃ Bx, Blk 193 W Bx [.int .i64 x.1.1, .int .i64 x.1.2.1, .int .u32 x.1.2.2] ∧ a' = { tmps := (a.tmps.setIfInBounds 21 (stpV x.1)).setIfInBounds 8 (.pointer (some ⟨Bx, 0, none⟩)), defers := [] }
theorem StpBoxC.own {a : Act} {ms : List Mk} {s : Nat} {B : Nat} (x : Stp ms s) (a' : Act) : OwnFrom B (fun (_ : Unit) W => StpBoxC a x a' W) := by
  rintro _ X Y row ⟨Bx, h1, h2⟩ hg hr
  exact ⟨Bx, h1.grown hg (turn_ne hr h1.cells), h2⟩
theorem range_stepsC {ms : List Mk} {s n : Nat} {g : Operand} {ps : Array Tmp} {assign body : Code} {Q : Exit → Act → World → Prop} {a : Act} {w : World} (h1 : 1 ≤ n) {gf : Nat} {lb : Array Value} (hg : a.eval g = .func (.func gf) #[] lb) (eg : ∀ args w, (callFunc gf args).run Tryz.prog w = .ok (.enter gf args) w)
    {Kp : World → World → Prop} {S Sp : List (Stp ms s) → Prop} {N : Nat} {w0 : World} (hseq : SeqStopsK Fence.wide (n - 1) Tryz.prog gf lb encStp Kp S Sp N w0) (hKt : ∀ {A B C : World}, Kp A B → Kp B C → Kp A C) (hKb : ∀ (W : World) (l : Nat) (o o' : Obj), w.heap.size ≤ l → W.heap[l]? = some o → o.isCells = false → o.isWalk = false → Kp W (W.putObj l o')) (hb0 : Below w0.heap.size w0 w) (hps : ∀ x : Stp ms s, (encStp x).size = ps.size)
    (I : List (Stp ms s) → World → Prop) (Ix : Code → List (Stp ms s) → World → Prop) (hI : OwnFrom w.heap.size I) (hIx : ∀ c, OwnFrom w.heap.size (Ix c)) (h0 : I [] w)
    (hassign : ∀ (l : Nat) (pre : List (Stp ms s)) (x : Stp ms s) (W : World) (K : Act → World → Prop), I pre W → (∀ a' W', KeepsFrom w.heap.size W W' → Kp W W' → I pre W' → StpBoxC a x a' W' → K a' W') →
      assign.wpIn (Fence.wide.inRound l) (n - 1 - 1) Tryz.prog (Exit.then K (fun _ _ _ => False)) { tmps := (ps.zip (encStp x)).foldl (fun t (p, v) => t.setIfInBounds p v) a.tmps, defers := [] } W)
    (hbody : ∀ (l : Nat) (pre : List (Stp ms s)) (x : Stp ms s) (a' : Act) (W : World), w.heap.size ≤ l → (∃ r, W.heap[l]? = some (.loop r)) → I pre W → StpBoxC a x a' W → pre.length < N → body.wpIn (Fence.wide.inRound l) (n - 1 - 1) Tryz.prog (ownPostG w.heap.size Kp I Ix (pre ++ [x]) W) a' W)
    (hdone : ∀ (D : Nat) (xs : List (Stp ms s)) (W : World), w.heap.size ≤ D → S xs → I xs W → W.heap[D]? = some (.deferred (some [])) → Q .normal { a with defers := { target := .collected D, args := #[] } :: a.defers } W)
    (hstop : ∀ (D : Nat) (c : Code) (pre : List (Stp ms s)) (W : World), w.heap.size ≤ D → Sp pre → Ix c pre W → W.heap[D]? = some (.deferred (some [])) → c.wpIn Fence.wide n Tryz.prog Q { a with defers := { target := .collected D, args := #[] } :: a.defers } W) :
    (Code.rangeFunc g ps assign body).wpIn Fence.wide n Tryz.prog Q a w :=
  wpIn_rangeFunc_ownH rfl h1 hg trivial eg hseq hKt hKb hb0 hps I Ix hI hIx h0 (StpBoxC a) (fun x a' => StpBoxC.own x a') hassign hbody hdone hstop
set_option maxRecDepth 100000 in
set_option maxHeartbeats 12800000 in
theorem after_ct (W : World) (Rb g s0 gl : Nat) (ms : List Mk) (SA : Option Addr) (sn sc : Nat) (st : List Nat) (am rm bm : Nat) (v0 v1 v2 v3 v4 v5 v6 : Value) (lim i s op : Nat) (h : RfS W Rb g s0 gl ms SA sn sc st am rm bm v0 v1 v2 v3 v4 v5 v6 lim) (hs : st[i]? = some s) (hop : op < 1000) :
    Calls Tryz.prog 112 #[.pointer (some ⟨Rb, 0, none⟩), .int .i64 i, .int .i64 op] W (AftP W ms st op i) := by
  have H := hide h
  have hsL : s ∈ st := List.mem_of_getElem? hs
  have hil := (List.getElem?_eq_some_iff.1 hs).1
  have hs32 := h.word32 hsL
  have hsn := h.sts.len
  obtain ⟨sb, so, s', eA, hs', _, hcS⟩ := h.sts.word (k := i) (by omega)
  obtain rfl : s = s' := Option.some.inj (hs.symm.trans hs')
  subst eA
  have hcap := h.sts.low
  clear hs' h
  refine (callsIn_wide (n := 8)).1 (callsIn_of_wp_marks Tryz.func112 rfl trivial (wpIn_wide.2 ?_) rfl)
  simp only [Tryz.ntmps112, List.size_toArray, List.length_cons, List.length_nil, Nat.reduceAdd, Nat.reduceSub, Array.replicate_succ, Array.replicate_zero, List.push_toArray, List.append_toArray, List.nil_append, List.cons_append]
  go_upto_region 1 with (fail)
  have c3 := (((Blk.new W 101 [.pointer (some ⟨Rb, 0, none⟩)]).alloc (.cells #[.int .i64 op] 3)).alloc (.cells #[.int .i64 0] 3)).alloc (.cells #[.bool false] 4)
  have c5 := ((Blk.new (W.alloc (.cells #[.pointer (some ⟨Rb, 0, none⟩)] 101)) 3 [.int .i64 op]).alloc (.cells #[.int .i64 0] 3)).alloc (.cells #[.bool false] 4)
  have c6 := (Blk.new ((W.alloc (.cells #[.pointer (some ⟨Rb, 0, none⟩)] 101)).alloc (.cells #[.int .i64 op] 3)) 3 [.int .i64 0]).alloc (.cells #[.bool false] 4)
  have c7 := Blk.new (((W.alloc (.cells #[.pointer (some ⟨Rb, 0, none⟩)] 101)).alloc (.cells #[.int .i64 op] 3)).alloc (.cells #[.int .i64 0] 3)) 4 [.bool false]
  simp only [World.size_alloc] at c5 c6 c7
  have hb4 : Below W.heap.size W ((((W.alloc (.cells #[.pointer (some ⟨Rb, 0, none⟩)] 101)).alloc (.cells #[.int .i64 op] 3)).alloc (.cells #[.int .i64 0] 3)).alloc (.cells #[.bool false] 4)) := ((((Below.refl _ W).alloc (Nat.le_refl _) _).alloc (by simp only [World.size_alloc]; omega) _).alloc (by simp only [World.size_alloc]; omega) _).alloc (by simp only [World.size_alloc]; omega) _
  obtain ⟨w4, hw4⟩ : ∃ Z, Z = (((W.alloc (.cells #[.pointer (some ⟨Rb, 0, none⟩)] 101)).alloc (.cells #[.int .i64 op] 3)).alloc (.cells #[.int .i64 0] 3)).alloc (.cells #[.bool false] 4) := ⟨_, rfl⟩
  have hz4 : w4.heap.size = W.heap.size + 1 + 1 + 1 + 1 := by rw [hw4]; simp only [World.size_alloc]
  change Blk 4 ((((W.alloc (.cells #[.pointer (some ⟨Rb, 0, none⟩)] 101)).alloc (.cells #[.int .i64 op] 3)).alloc (.cells #[.int .i64 0] 3)).alloc (.cells #[.bool false] 4)) (W.heap.size + 1 + 1 + 1) [.bool false] at c7
  rw [← hw4] at c3 c5 c6 c7 hb4 ⊢
  clear hw4
  obtain ⟨B3, hB3⟩ : ∃ z, z = W.heap.size := ⟨_, rfl⟩
  rw [← hB3] at c3 c5 c6 c7 hz4 ⊢
  have HB3 := hide hB3
  have Hz4 := hide hz4
  have hR4 := H.out.keep hb4
  obtain ⟨V, hV⟩ : ∃ Z, Z = w4.drew := ⟨_, rfl⟩
  have hbV : Below w4.heap.size w4 V := by rw [hV]; exact (Below.refl _ _).drew
  have d3 := c3.cell 0
  have d7 := hR4.blk.cell 7
  have d8 := hR4.blk.cell 8
  have hcS4 : w4.cell? ⟨sb, so + i, none⟩ = some (.int .u32 s) := (hb4.cell (p := ⟨sb, so + i, none⟩) (World.block_lt_of_cell? W _ hcS)).trans hcS
  simp only [List.getElem?_cons_zero, List.getElem?_cons_succ] at d3 d7 d8
  have hiI : (0 : Int) ≤ (i : Int) := by omega
  have hiJ : (i : Int) < (sn : Int) := by omega
  clear hB3 hz4
  refine wp_region_held_drew (S := (fun w' => w'.cell? ⟨B3, 0, none⟩ = some (.pointer (some ⟨Rb, 0, none⟩)) ∧ w'.cell? ⟨Rb, 7, none⟩ = some (.pointer (some ⟨g, 0, none⟩)) ∧ w'.cell? ⟨Rb, 8, none⟩ = some (.slice (some ⟨sb, so, none⟩) sn sc) ∧ w'.cell? ⟨sb, so + i, none⟩ = some (.int .u32 s))) (by kernel_rfl) ?_ (fun hHeld => ?_)
  · exact ⟨d3, d7, d8, hcS4⟩
  rw [← hV] at hHeld ⊢
  clear hV
  refine takeA (i := 0) (v := ?_) (some 9) rfl rfl (by kernel_rfl) (by kernel_rfl) (by kernel_rfl) (fun c a w h => hQH 9 (by decide) (by decide) c a w h) (Or.inl ⟨by rfl, ?_⟩) (by assumption) ?_
  rotate_left
  · intro w hSw; (try dsimp only at hSw); obtain ⟨s1, s2, s3, s4⟩ := hSw; first | (go_simp; done) | (go_simp; with_reducible rfl)
  try simp only [Act.put, List.setIfInBounds_toArray, List.set_cons_zero, List.set_cons_succ]
  refine takeA (i := 1) (v := ?_) (some 10) rfl rfl (by kernel_rfl) (by kernel_rfl) (by kernel_rfl) (fun c a w h => hQH 10 (by decide) (by decide) c a w h) (Or.inl ⟨by rfl, ?_⟩) (by assumption) ?_
  rotate_left
  · intro w hSw; (try dsimp only at hSw); obtain ⟨s1, s2, s3, s4⟩ := hSw; first | (go_simp; done) | (go_simp; with_reducible rfl)
  try simp only [Act.put, List.setIfInBounds_toArray, List.set_cons_zero, List.set_cons_succ]
  refine takeA (i := 2) (v := ?_) (some 11) rfl rfl (by kernel_rfl) (by kernel_rfl) (by kernel_rfl) (fun c a w h => hQH 11 (by decide) (by decide) c a w h) (Or.inl ⟨by rfl, ?_⟩) (by assumption) ?_
  rotate_left
  · intro w hSw; (try dsimp only at hSw); obtain ⟨s1, s2, s3, s4⟩ := hSw; first | (go_simp; done) | (go_simp; with_reducible rfl)
  try simp only [Act.put, List.setIfInBounds_toArray, List.set_cons_zero, List.set_cons_succ]
  refine takeA (i := 3) (v := ?_) (some 12) rfl rfl (by kernel_rfl) (by kernel_rfl) (by kernel_rfl) (fun c a w h => hQH 12 (by decide) (by decide) c a w h) (Or.inl ⟨by rfl, ?_⟩) (by assumption) ?_
  rotate_left
  · intro w hSw; (try dsimp only at hSw); obtain ⟨s1, s2, s3, s4⟩ := hSw; first | (go_simp; done) | (go_simp; with_reducible rfl)
  try simp only [Act.put, List.setIfInBounds_toArray, List.set_cons_zero, List.set_cons_succ]
  refine takeA (i := 4) (v := ?_) (some 13) rfl rfl (by kernel_rfl) (by kernel_rfl) (by kernel_rfl) (fun c a w h => hQH 13 (by decide) (by decide) c a w h) (Or.inl ⟨by rfl, ?_⟩) (by assumption) ?_
  rotate_left
  · intro w hSw; (try dsimp only at hSw); obtain ⟨s1, s2, s3, s4⟩ := hSw; first | (go_simp; done) | (go_simp; with_reducible rfl)
  try simp only [Act.put, List.setIfInBounds_toArray, List.set_cons_zero, List.set_cons_succ]
  refine takeA (i := 5) (v := ?_) (some 14) rfl rfl (by kernel_rfl) (by kernel_rfl) (by kernel_rfl) (fun c a w h => hQH 14 (by decide) (by decide) c a w h) (Or.inl ⟨by rfl, ?_⟩) (by assumption) ?_
  rotate_left
  · intro w hSw; (try dsimp only at hSw); obtain ⟨s1, s2, s3, s4⟩ := hSw; first | (go_simp; done) | (go_simp; with_reducible rfl)
  try simp only [Act.put, List.setIfInBounds_toArray, List.set_cons_zero, List.set_cons_succ]
  refine takeA (i := 6) (v := ?_) (some 15) rfl rfl (by kernel_rfl) (by kernel_rfl) (by kernel_rfl) (fun c a w h => hQH 15 (by decide) (by decide) c a w h) (Or.inl ⟨by rfl, ?_⟩) (by assumption) ?_
  rotate_left
  · intro w hSw; (try dsimp only at hSw); obtain ⟨s1, s2, s3, s4⟩ := hSw; first | (go_simp; done) | (go_simp; with_reducible rfl)
  try simp only [Act.put, List.setIfInBounds_toArray, List.set_cons_zero, List.set_cons_succ]
  refine takeA (i := 7) (v := ?_) (some 16) rfl rfl (by kernel_rfl) (by kernel_rfl) (by kernel_rfl) (fun c a w h => hQH 16 (by decide) (by decide) c a w h) (Or.inl ⟨by rfl, ?_⟩) (by assumption) ?_
  rotate_left
  · intro w hSw; (try dsimp only at hSw); obtain ⟨s1, s2, s3, s4⟩ := hSw; first | (go_simp; done) | (go_simp; with_reducible rfl)
  try simp only [Act.put, List.setIfInBounds_toArray, List.set_cons_zero, List.set_cons_succ]
  refine takeA (i := 8) (v := ?_) (some 17) rfl rfl (by kernel_rfl) (by kernel_rfl) (by kernel_rfl) (fun c a w h => hQH 17 (by decide) (by decide) c a w h) (Or.inl ⟨by rfl, ?_⟩) (by assumption) ?_
  rotate_left
  · intro w hSw; (try dsimp only at hSw); obtain ⟨s1, s2, s3, s4⟩ := hSw; first | (go_simp; done) | (go_simp; with_reducible rfl)
  try simp only [Act.put, List.setIfInBounds_toArray, List.set_cons_zero, List.set_cons_succ]
  refine takeA (i := 9) (v := ?_) (some 18) rfl rfl (by kernel_rfl) (by kernel_rfl) (by kernel_rfl) (fun c a w h => hQH 18 (by decide) (by decide) c a w h) (Or.inl ⟨by rfl, ?_⟩) (by assumption) ?_
  rotate_left
  · intro w hSw; (try dsimp only at hSw); obtain ⟨s1, s2, s3, s4⟩ := hSw; first | (go_simp; done) | (go_simp; with_reducible rfl)
  try simp only [Act.put, List.setIfInBounds_toArray, List.set_cons_zero, List.set_cons_succ]
  refine takeA (i := 10) (v := ?_) (some 19) rfl rfl (by kernel_rfl) (by kernel_rfl) (by kernel_rfl) (fun c a w h => hQH 19 (by decide) (by decide) c a w h) (Or.inl ⟨by rfl, ?_⟩) (by assumption) ?_
  rotate_left
  · intro w hSw; (try dsimp only at hSw); obtain ⟨s1, s2, s3, s4⟩ := hSw; first | (go_simp; done) | (go_simp; with_reducible rfl)
  try simp only [Act.put, List.setIfInBounds_toArray, List.set_cons_zero, List.set_cons_succ]
  refine wpAnyH_ready (rs := [11]) (by kernel_rfl) (by simp) ?_
  refine AllReadyH.cons rfl (fun K hK => ?_) AllReadyH.nil
  go_simp
  refine (SSteps_ct g s _).mono ?_
  rintro e w' ⟨rfl, rfl⟩
  have hBs := Blk.new (V.alloc (.cells #[.pointer (some ⟨g, 0, none⟩)] 91)) 78 [.int .u32 s]
  have hBw := (Blk.new V 91 [.pointer (some ⟨g, 0, none⟩)]).alloc (.cells #[.int .u32 s] 78)
  have hbL := hbV.trans ((below_two V (.cells #[.pointer (some ⟨g, 0, none⟩)] 91) (.cells #[.int .u32 s] 78)).mono hbV.size)
  simp only [World.size_alloc] at hBs
  have hzV := hbV.size
  obtain ⟨WL, hWL⟩ : ∃ Z, Z = (V.alloc (.cells #[.pointer (some ⟨g, 0, none⟩)] 91)).alloc (.cells #[.int .u32 s] 78) := ⟨_, rfl⟩
  change Blk 78 ((V.alloc (.cells #[.pointer (some ⟨g, 0, none⟩)] 91)).alloc (.cells #[.int .u32 s] 78)) (V.heap.size + 1) [.int .u32 s] at hBs
  have hzL : WL.heap.size = V.heap.size + 1 + 1 := by rw [hWL]; simp only [World.size_alloc]
  rw [← hWL] at hBs hBw hbL ⊢
  clear hWL
  have cBs := hBs.cell 0
  have cBw := hBw.cell 0
  simp only [List.getElem?_cons_zero] at cBs cBw
  have hRL := hR4.keep hbL
  have e3 := (c3.keep hbL).cell 0
  have e7 := hRL.blk.cell 7
  have e8 := hRL.blk.cell 8
  have hcSL : WL.cell? ⟨sb, so + i, none⟩ = some (.int .u32 s) := (hbL.cell (p := ⟨sb, so + i, none⟩) (World.block_lt_of_cell? w4 _ hcS4)).trans hcS4
  simp only [List.getElem?_cons_zero, List.getElem?_cons_succ] at e3 e7 e8
  go_simp
  refine hK.out _ _ ?_ (fun hHeld2 => ?_)
  · exact ⟨e3, e7, e8, hcSL⟩
  clear hK K hHeld hHeld2
  try simp only [Act.put, List.setIfInBounds_toArray, List.set_cons_zero, List.set_cons_succ]
  refine wpAnyH_done (by kernel_rfl) ?_ _
  have hI0 : AftI W Rb op s B3 (B3 + 1) (B3 + 1 + 1) (B3 + 1 + 1 + 1) (V.heap.size + 1) (ms := ms) [] WL :=
    ⟨hb4.trans (hbL.mono hb4.size), c3.keep hbL, c5.keep hbL, c6.keep hbL, c7.keep hbL, hBs, fun x hx => by cases hx⟩
  have HI0 := hide hI0
  have HbL := hide (hb4.trans (hbL.mono hb4.size))
  have HzL := hide hzL
  have hzW : W.heap.size ≤ WL.heap.size := HbL.out.size
  clear hI0 hRL e3 e7 e8 hcSL hBs hBw hbL d3 d7 d8 hcS4 c3 c5 c6 c7 hR4 hzL
  go_wp2
  refine (wpIn_wide (n := 8)).1 (range_stepsC (w := WL) (by omega) (gf := 145) (lb := #[.pointer (some ⟨V.heap.size, 0, none⟩), .pointer (some ⟨V.heap.size + 1, 0, none⟩)]) rfl (enters_of Tryz.func145 (by kernel_rfl) rfl)
    (steps_stops Fence.wide 7 trivial rfl (by omega) V.heap.size (V.heap.size + 1) g s0 gl s ms W WL H.out.words hs32 HbL.out cBw cBs) kpS_t (kpS_b (by have := HzL.out; omega) (by have := HzL.out; omega)) (Below.refl _ _) (fun _ => rfl)
    (AftI W Rb op s B3 (B3 + 1) (B3 + 1 + 1) (B3 + 1 + 1 + 1) (V.heap.size + 1)) (AftX W ms st op i s (B3 + 1 + 1) (B3 + 1 + 1 + 1)) (AftI.own hzW) (AftX.own hzW) HI0.out ?assign ?body ?done ?stop)
  case assign =>
    intro l pre x Wa K hi hK
    have HK := hide hK
    have Hi := hide hi
    clear hK hi
    obtain ⟨⟨xi, xc, xt⟩, hx⟩ := x
    unfold encStp stpV
    dsimp only
    gi_wp2
    exact HK.out _ _ ((KeepsOthers.alloc _ _).from _) ⟨(Below.refl _ _).alloc Hi.out.1.size _, Below.heap_alloc _ _ _ Hi.out.2.2.2.2.2.1.lt⟩ (AftI.keep Hi.out ((Below.refl _ _).alloc (Nat.le_refl _) _)) ⟨Wa.heap.size, Blk.new _ _ _, rfl⟩
  case body =>
    rintro l pre ⟨⟨xi, xc, xt⟩, hx⟩ a' Wb hl ⟨r, hr⟩ ⟨i1, i2, i3, i4, i5, i6, i7⟩ ⟨Bx, hBx, rfl⟩ hlt
    dsimp only at hBx
    have x0 := hBx.cell 0
    have x2 := hBx.cell 2
    have b5 := i3.cell 0
    simp only [List.getElem?_cons_zero, List.getElem?_cons_succ] at x0 x2 b5
    by_cases e : xi = op
    · subst e
      have hRb := H.out.keep i1
      obtain ⟨x1, _, _, _⟩ := stepsW_ok ms 0 s hs32 H.out.words.ok _ hx
      dsimp only at x1
      have hxst : xt ∈ st := H.out.all s hsL _ hx
      obtain ⟨k, hk⟩ := ixF_mem st xt hxst
      have hkst := ixF_some st xt k hk
      have hkl := (List.getElem?_eq_some_iff.1 hkst).1
      have haft : aftW ms st xi i k := by
        obtain ⟨q, m, h1, h2, h3⟩ := (stepsW_mem _ _ _ _).1 hx
        simp only [Prod.mk.injEq] at h3
        obtain ⟨h4, _, h5⟩ := h3
        refine ⟨s, m, hs, ?_, h2, ?_⟩
        · rw [h4, Nat.zero_add]; exact h1
        · rw [← h5]; exact hkst
      have hlook := fun W' e => hRb.atm.look1 (int_keyed Tryz.underlying78) (T := 103) (E := 3) Tryz.underlying103 zeroIA (keyW Tryz.underlying78 x1) W' e
      simp only [hk, Option.map_some, Option.getD_some, encW] at hlook
      have r9 := hRb.blk.cell 9
      have b3 := i2.cell 0
      have f6 := i4.frozen 0
      have l6 := i4.lt
      have f7 := i5.frozen 0
      have l7 := i5.lt
      simp only [List.getElem?_cons_zero, List.getElem?_cons_succ] at r9 b3
      have I1 := hide i1
      have I2 := hide i2
      have I4 := hide i4
      have I5 := hide i5
      have I6 := hide i6
      have Hlook := hide hlook
      have Haft := hide haft
      have HBx := hide hBx
      clear hlook haft hk hkst hRb i1 i2 i3 i4 i5 i6 i7 hBx
      gi_upto_region 4 with (fail)
      obtain ⟨V2, hV2⟩ : ∃ Z, Z = Wb.drew := ⟨_, rfl⟩
      have hbV2 : Below Wb.heap.size Wb V2 := by rw [hV2]; exact (Below.refl _ _).drew
      refine wpIn_region_round (S := (fun w' => w'.cell? ⟨B3, 0, none⟩ = some (.pointer (some ⟨Rb, 0, none⟩)) ∧ w'.cell? ⟨Rb, 9, none⟩ = some (.map (some am)) ∧ w'.cell? ⟨Bx, 2, none⟩ = some (.int .u32 xt) ∧ w'.heap[am]? = Wb.heap[am]?)) (by kernel_rfl) ?_ (by kernel_rfl) ?_ (fun hHeld => ?_)
      · rintro ⟨_, _, h⟩; exact h
      · exact ⟨b3, r9, x2, rfl⟩
      rw [← hV2] at hHeld ⊢
      clear hV2
      have j4 := I4.out.keep hbV2
      have j5 := I5.out.keep hbV2
      have q6 := j4.frozen 0
      have ql6 := j4.lt
      have qc6 := j4.cell 0
      simp only [List.getElem?_cons_zero] at qc6
      refine takeA (i := 0) (v := ?_) (some 26) rfl rfl (by kernel_rfl) (by kernel_rfl) (by kernel_rfl) (fun _ _ _ h => h) (Or.inl ⟨by rfl, ?_⟩) (by assumption) ?_
      rotate_left
      · intro w hSw; (try dsimp only at hSw); obtain ⟨s1, s2, s3, s4⟩ := hSw; first | (go_simp; done) | (go_simp; with_reducible rfl)
      try simp only [Act.put, List.setIfInBounds_toArray, List.set_cons_zero, List.set_cons_succ]
      refine takeA (i := 1) (v := ?_) (some 27) rfl rfl (by kernel_rfl) (by kernel_rfl) (by kernel_rfl) (fun _ _ _ h => h) (Or.inl ⟨by rfl, ?_⟩) (by assumption) ?_
      rotate_left
      · intro w hSw; (try dsimp only at hSw); obtain ⟨s1, s2, s3, s4⟩ := hSw; first | (go_simp; done) | (go_simp; with_reducible rfl)
      try simp only [Act.put, List.setIfInBounds_toArray, List.set_cons_zero, List.set_cons_succ]
      refine takeA (i := 2) (v := ?_) (some 28) rfl rfl (by kernel_rfl) (by kernel_rfl) (by kernel_rfl) (fun _ _ _ h => h) (Or.inl ⟨by rfl, ?_⟩) (by assumption) ?_
      rotate_left
      · intro w hSw; (try dsimp only at hSw); obtain ⟨s1, s2, s3, s4⟩ := hSw; first | (go_simp; done) | (go_simp; with_reducible rfl)
      try simp only [Act.put, List.setIfInBounds_toArray, List.set_cons_zero, List.set_cons_succ]
      refine takeA (i := 3) (v := ?_) (some 29) rfl rfl (by kernel_rfl) (by kernel_rfl) (by kernel_rfl) (fun _ _ _ h => h) (Or.inl ⟨by rfl, ?_⟩) (by assumption) ?_
      rotate_left
      · intro w hSw; (try dsimp only at hSw); obtain ⟨s1, s2, s3, s4⟩ := hSw; first | (go_simp; done) | (go_simp; with_reducible rfl)
      try simp only [Act.put, List.setIfInBounds_toArray, List.set_cons_zero, List.set_cons_succ]
      refine takeA (i := 4) (v := ?_) (some 30) rfl rfl (by kernel_rfl) (by kernel_rfl) (by kernel_rfl) (fun _ _ _ h => h) (Or.inl ⟨by rfl, ?_⟩) (by assumption) ?_
      rotate_left
      · intro w hSw; (try dsimp only at hSw); obtain ⟨s1, s2, s3, s4⟩ := hSw; first | (go_simp; done) | (go_simp; with_reducible rfl)
      try simp only [Act.put, List.setIfInBounds_toArray, List.set_cons_zero, List.set_cons_succ]
      refine takeA (i := 5) (v := ?_) (some 31) rfl rfl (by kernel_rfl) (by kernel_rfl) (by kernel_rfl) (fun _ _ _ h => h) (Or.inl ⟨by rfl, ?_⟩) (by assumption) ?_
      rotate_left
      · intro w hSw; (try dsimp only at hSw); obtain ⟨s1, s2, s3, s4⟩ := hSw; first | (go_simp; done) | (go_simp; with_reducible rfl)
      try simp only [Act.put, List.setIfInBounds_toArray, List.set_cons_zero, List.set_cons_succ]
      refine takeA (i := 6) (v := ?_) (some 32) rfl rfl (by kernel_rfl) (by kernel_rfl) (by kernel_rfl) (fun _ _ _ h => h) (Or.inl ⟨by rfl, ?_⟩) (by assumption) ?_
      rotate_left
      · intro w hSw; (try dsimp only at hSw); obtain ⟨s1, s2, s3, s4⟩ := hSw; have hlk := Hlook.out w s4; first | (go_simp; done) | (go_simp; with_reducible rfl)
      try simp only [Act.put, List.setIfInBounds_toArray, List.set_cons_zero, List.set_cons_succ]
      refine wpAnyH_ready (rs := [7]) (by kernel_rfl) (by simp) ?_
      refine AllReadyH.cons rfl (fun K hK => ?_) AllReadyH.nil
      go_simp
      have n67 : B3 + 1 + 1 ≠ B3 + 1 + 1 + 1 := by omega
      have m4 := j4.set 0 (.int .i64 (k : Int))
      have m5 := j5.far (p := ⟨B3 + 1 + 1, 0, none⟩) (fun e => n67 e.symm) (.int .i64 (k : Int))
      have q7 := m5.frozen 0
      have ql7 := m5.lt
      have qc7 := m5.cell 0
      simp only [List.getElem?_cons_zero, List.set_cons_zero] at qc7 m4
      have hRb := H.out.keep I1.out
      have hB6 : B3 + 1 + 1 < WL.heap.size := HI0.out.2.2.2.1.lt
      have hRl : Rb < B3 := by rw [HB3.out]; exact H.out.blk.lt
      have haml : am < B3 := by rw [HB3.out]; exact H.out.atm.lt
      have nX6 : Bx ≠ B3 + 1 + 1 := blkT_neH HBx.out I4.out (by decide)
      have nX7 : Bx ≠ B3 + 1 + 1 + 1 := blkT_neH HBx.out I5.out (by decide)
      have y3 := (I2.out.keep hbV2).far (p := ⟨B3 + 1 + 1, 0, none⟩) (by show B3 ≠ B3 + 1 + 1; omega) (.int .i64 (k : Int))
      have yR := (hRb.blk.keep hbV2).far (p := ⟨B3 + 1 + 1, 0, none⟩) (by show Rb ≠ B3 + 1 + 1; omega) (.int .i64 (k : Int))
      have yX := (HBx.out.keep hbV2).far (p := ⟨B3 + 1 + 1, 0, none⟩) nX6 (.int .i64 (k : Int))
      have y30 := y3.cell 0
      have yR9 := yR.cell 9
      have yX2 := yX.cell 2
      simp only [List.getElem?_cons_zero, List.getElem?_cons_succ] at y30 yR9 yX2
      have haW : am < Wb.heap.size := hRb.atm.lt
      refine hK.out _ _ ?_ (fun hHeld2 => ?_)
      · exact ⟨y30, yR9, yX2, by rw [Below.heap_setCell _ _ _ _ (by show am ≠ B3 + 1 + 1; omega), hbV2.block am haW]⟩
      clear hK K hHeld
      try simp only [Act.put, List.setIfInBounds_toArray, List.set_cons_zero, List.set_cons_succ]
      have hHeld := hHeld2; clear hHeld2
      refine wpAnyH_ready (rs := [8]) (by kernel_rfl) (by simp) ?_
      refine AllReadyH.cons rfl (fun K hK => ?_) AllReadyH.nil
      go_simp
      have z3 := (y3.far (p := ⟨B3 + 1 + 1 + 1, 0, none⟩) (by show B3 ≠ B3 + 1 + 1 + 1; omega) (.bool true)).cell 0
      have zR := (yR.far (p := ⟨B3 + 1 + 1 + 1, 0, none⟩) (by show Rb ≠ B3 + 1 + 1 + 1; omega) (.bool true)).cell 9
      have zX := (yX.far (p := ⟨B3 + 1 + 1 + 1, 0, none⟩) nX7 (.bool true)).cell 2
      simp only [List.getElem?_cons_zero, List.getElem?_cons_succ] at z3 zR zX
      have m4b := m4.far (p := ⟨B3 + 1 + 1 + 1, 0, none⟩) n67 (.bool true)
      have m5b := m5.set 0 (.bool true)
      simp only [List.set_cons_zero] at m5b
      refine hK.out _ _ ?_ (fun hHeld2 => ?_)
      · exact ⟨z3, zR, zX, by rw [Below.heap_setCell _ _ _ _ (by show am ≠ B3 + 1 + 1 + 1; omega), Below.heap_setCell _ _ _ _ (by show am ≠ B3 + 1 + 1; omega), hbV2.block am haW]⟩
      clear hK K hHeld hHeld2
      try simp only [Act.put, List.setIfInBounds_toArray, List.set_cons_zero, List.set_cons_succ]
      refine wpAnyH_done (by kernel_rfl) ?_ _
      gi_wp2
      have hb2 : Below W.heap.size W ((V2.setCell ⟨B3 + 1 + 1, 0, none⟩ (.int .i64 (k : Int))).setCell ⟨B3 + 1 + 1 + 1, 0, none⟩ (.bool true)) := ((I1.out.trans (hbV2.mono I1.out.size)).setCell (p := ⟨B3 + 1 + 1, 0, none⟩) (by show W.heap.size ≤ B3 + 1 + 1; have := HB3.out; omega) _).setCell (p := ⟨B3 + 1 + 1 + 1, 0, none⟩) (by show W.heap.size ≤ B3 + 1 + 1 + 1; have := HB3.out; omega) _
      exact ⟨(((KeepsOthers.of_belowH hbV2).trans (KeepsOthers.setCell _ _ _)).trans (KeepsOthers.setCell _ _ _)).from _, rfl, k, hb2, m4b, m5b, hkl, Haft.out⟩
    · have hne : ((xi : Int) == (op : Int)) = false := by rw [beq_eq_false_iff_ne]; omega
      have hne2 : ¬ (xi : Int) = (op : Int) := by omega
      gi_wp2
      exact ⟨(KeepsOthers.refl _).from _, ⟨Below.refl _ _, rfl⟩, i1, i2, i3, i4, i5, i6, fun y hy => by
        rcases List.mem_append.1 hy with hy | hy
        · exact i7 y hy
        · rw [List.mem_singleton] at hy
          subst hy
          exact e⟩
  case done =>
    rintro D ys Wd hD hys ⟨i1, i2, i3, i4, i5, i6, i7⟩ hKD
    have f6 := i4.frozen 0
    have l6 := i4.lt
    have f7 := i5.frozen 0
    have l7 := i5.lt
    have d6 := i4.cell 0
    have d7 := i5.cell 0
    have n67 : B3 + 1 + 1 ≠ B3 + 1 + 1 + 1 := by omega
    simp only [List.getElem?_cons_zero] at d6 d7
    have I1 := hide i1
    have I4 := hide i4
    have I5 := hide i5
    have I7 := hide i7
    clear i1 i2 i3 i4 i5 i6 i7
    go_wp2
    have hB7 := HI0.out.2.2.2.2.1.lt
    have hB30 := HB3.out
    have k6 := (I4.out.set 0 (.int .i64 0)).far (p := ⟨B3 + 1 + 1 + 1, 0, none⟩) n67 (.bool false)
    have k7 := (I5.out.far (p := ⟨B3 + 1 + 1, 0, none⟩) (fun e => n67 e.symm) (.int .i64 0)).set 0 (.bool false)
    simp only [List.set_cons_zero] at k6 k7
    refine leaves_marks [D] _ (fun E hE => ?_) (by simp) fun W' hc => ?_
    · rw [List.mem_singleton] at hE
      subst hE
      rw [Below.heap_setCell _ _ _ _ (by show E ≠ B3 + 1 + 1 + 1; omega), Below.heap_setCell _ _ _ _ (by show E ≠ B3 + 1 + 1; omega)]
      exact hKD
    have e6 := (hc.blk k6 (fun e => by rw [List.mem_singleton] at e; omega)).cell 0
    have e7 := (hc.blk k7 (fun e => by rw [List.mem_singleton] at e; omega)).cell 0
    have g6 := (hc.blk k6 (fun e => by rw [List.mem_singleton] at e; omega)).lt
    have g7 := (hc.blk k7 (fun e => by rw [List.mem_singleton] at e; omega)).lt
    simp only [List.getElem?_cons_zero] at e6 e7
    refine ⟨.tuple #[.int .i64 0, .bool false], by simp [results, Tryz.results112, go_sem, e6, e7, g6, g7], ?_, .inr ⟨rfl, ?_⟩⟩
    · have hb := (I1.out.setCell (p := ⟨B3 + 1 + 1, 0, none⟩) (by show W.heap.size ≤ B3 + 1 + 1; omega) (.int .i64 0)).setCell (p := ⟨B3 + 1 + 1 + 1, 0, none⟩) (by show W.heap.size ≤ B3 + 1 + 1 + 1; omega) (.bool false)
      exact hb.trans (hc.below (fun j e => by rw [List.mem_singleton] at e; omega) hb.size)
    · rintro k ⟨s', m, h1, h2, h3, _⟩
      obtain rfl : s = s' := Option.some.inj (hs.symm.trans h1)
      have hx : (op, m.cost, goW s m) ∈ stepsW 0 ms s := (stepsW_mem _ _ _ _).2 ⟨op, m, h2, h3, by rw [Nat.zero_add]⟩
      rw [← hys] at hx
      obtain ⟨y, hy, e⟩ := List.mem_map.1 hx
      exact I7.out y hy (by rw [e])
  case stop =>
    rintro D c pre Wd hD hpre ⟨rfl, k, i1, i4, i5, hk, haft⟩ hKD
    gi_wp2
    have hB7 := HI0.out.2.2.2.2.1.lt
    have hB30 := HB3.out
    refine leaves_marks [D] _ (fun E hE => ?_) (by simp) fun W' hc => ?_
    · rw [List.mem_singleton] at hE
      subst hE
      exact hKD
    have e6 := (hc.blk i4 (fun e => by rw [List.mem_singleton] at e; omega)).cell 0
    have e7 := (hc.blk i5 (fun e => by rw [List.mem_singleton] at e; omega)).cell 0
    have g6 := (hc.blk i4 (fun e => by rw [List.mem_singleton] at e; omega)).lt
    have g7 := (hc.blk i5 (fun e => by rw [List.mem_singleton] at e; omega)).lt
    simp only [List.getElem?_cons_zero] at e6 e7
    refine ⟨.tuple #[.int .i64 (k : Int), .bool true], by simp [results, Tryz.results112, go_sem, e6, e7, g6, g7], ?_, .inl ⟨k, rfl, hk, haft⟩⟩
    exact i1.trans (hc.below (fun j e => by rw [List.mem_singleton] at e; omega) i1.size)
end Go.Proofs.YtmjiiddncbhgpaaGreat
namespace Go.Proofs.YtmjiiddncbhgpaaGreat
set_option linter.unusedVariables false
set_option linter.unusedSimpArgs false
open Go.RowKit Go.Shelf Go.Maps
theorem laid_outH : laidOutB Tryz.prog = true := by kernel_rfl
theorem wideSp : (match Tryz.prog.underlying 110 with | some (.array _ _) | some (.struct _) => true | _ => false) = true := by rw [Tryz.underlying110]
set_option maxRecDepth 1000000 in
theorem lawSp : Keyed Tryz.prog 110 := Keyed.of_law (deep_law_laid laid_outH (m := 3) (by omega) (of_decide_eq_true (by kernel_rfl)) (by kernel_rfl) wideSp)
def I64H (x : Int) : Prop := -9223372036854775808 ≤ x ∧ x ≤ 9223372036854775807
theorem I64H.wf {x : Int} (h : I64H x) : (Lit.int .i64 x).wf = true := by unfold I64H at h; simp [Lit.wf, IntKind.min, IntKind.max, IntKind.bits, IntKind.signed]; omega
theorem key_struct2 {P : Program} {k e : TypeId} {f0 f1 : Field} (hk : P.underlying k = some (.struct #[f0, f1])) (h0 : f0.type = e ∧ f0.offset = 0 ∧ (f0.name != "_") = true) (h1 : f1.type = e ∧ f1.offset = 1 ∧ (f1.name != "_") = true)
    (hkt : P.keyType k = true) (hcs : P.cellsOf k = 2) (hce : P.cellsOf e = 1) (he : P.underlying e = some (.int .i64)) (hpos : 0 < P.types.size) {a b : Int} (ha : I64H a) (hb : I64H b) :
    ∃ kl, keyOf P k (.agg #[.int .i64 a, .int .i64 b]) = some kl := by
  obtain ⟨s, hs⟩ : ∃ s, P.types.size = s + 1 := ⟨P.types.size - 1, by omega⟩
  have hi : ∀ x : Int, I64H x → P.keyLits (s + 1) e [.int .i64 x] = some [.int .i64 x] := fun x hx => by
    simp [Program.keyLits, he, hx.wf]
  obtain ⟨q0, q0', q0''⟩ := h0
  obtain ⟨q1, q1', q1''⟩ := h1
  have r0 := hi a ha
  have r1 := hi b hb
  rw [keyOf, hk, hs]
  simp only [hkt, Value.formed, Bool.true_and]
  rw [Program.keyLits.eq_def]
  simp only [hk]
  simp [Value.cells, hcs, hce, q0, q1, q0', q1', r0, r1]
  simp_all
/-- a spot: a state, and how many operators are left -/
abbrev Spot := Nat × Int
def spC (p : Spot) : List Value := [.int .i64 p.1, .int .i64 p.2]
def spV (p : Spot) : Value := .agg #[.int .i64 p.1, .int .i64 p.2]
theorem spV_inj (a b : Spot) (h : spV a = spV b) : a = b := by
  obtain ⟨a1, a2⟩ := a
  obtain ⟨b1, b2⟩ := b
  simp only [spV, Value.agg.injEq, Array.mk.injEq, List.cons.injEq, Value.int.injEq, true_and, and_true, Int.natCast_inj] at h
  simp [h]
def SpOk (p : Spot) : Prop := p.1 ≤ 1000000 ∧ -1000000 ≤ p.2 ∧ p.2 ≤ 1000000
theorem spKey {p : Spot} (h : SpOk p) : ∃ kl, keyOf Tryz.prog 110 (spV p) = some kl :=
  key_struct2 Tryz.underlying110 ⟨rfl, rfl, by decide⟩ ⟨rfl, rfl, by decide⟩ (by kernel_rfl) (by kernel_rfl) (by kernel_rfl) Tryz.underlying3 (of_decide_eq_true (by kernel_rfl)) (by unfold I64H; have := h.1; omega) (by unfold I64H; have := h.2; omega)
def Enc.spot : Enc Spot where
  size := 2
  ok := fun w vs a => vs = spC a ∧ SpOk a
  len := fun h => by rw [h.1]; rfl
  keep := fun h _ => h
theorem firm_spot {M : Nat → Prop} {w : World} {p : Spot} (h : SpOk p) : Firm Enc.spot M w (spC p) p := fun _ _ => ⟨rfl, h⟩
theorem Rd.spot {w : World} {A : Option Addr} {n c k : Nat} {l : List Spot} (h : Rd Enc.spot w A n c l) (hk : k < n) :
    ∃ b off p, A = some ⟨b, off, none⟩ ∧ l[k]? = some p ∧ SpOk p ∧ w.cell? ⟨b, off + k * 2, none⟩ = some (.int .i64 p.1) ∧ w.cell? ⟨b, off + k * 2 + 1, none⟩ = some (.int .i64 p.2) := by
  obtain ⟨b, off, p, vs, e, hm, ⟨hvs, h1⟩, hv⟩ := h.get hk
  subst hvs
  exact ⟨b, off, p, e, hm, h1, hv 0 _ rfl, hv 1 _ rfl⟩
theorem Rd.spots {w : World} {A : Option Addr} {n c : Nat} {l : List Spot} (h : Rd Enc.spot w A n c l) : ∀ p ∈ l, SpOk p := fun p hp => by
  obtain ⟨k, hk, rfl⟩ := List.getElem_of_mem hp
  obtain ⟨_, _, q, _, h1, h2, _⟩ := h.spot (k := k) (by rw [← h.len]; exact hk)
  rw [List.getElem?_eq_getElem hk] at h1
  injection h1 with h1
  rw [h1]
  exact h2
theorem spInfo : (Tryz.prog.info? 110).map (fun i => (i.zero, i.size, i.bytes)) = some (some (.agg #[.int .i64 0, .int .i64 0]), 2, 16) := by kernel_rfl
/-- a row of the call's own that reads as these spots -/
def RowSp (B : Nat) (w : World) (A : Option Addr) (n c : Nat) (xs : List Spot) : Prop := ∃ vs, OwnE Enc.spot 110 B (fun _ => True) w A n c vs xs
section
variable {B n c : Nat} {w w' : World} {A : Option Addr} {xs : List Spot}
theorem RowSp.nil (B : Nat) (w : World) : RowSp B w none 0 0 [] := ⟨_, OwnE.nil _ _ _ _ _⟩
theorem RowSp.len (h : RowSp B w A n c xs) : xs.length = n := let ⟨_, k⟩ := h; k.len
theorem RowSp.rd (h : RowSp B w A n c xs) : Rd Enc.spot w A n c xs := let ⟨_, k⟩ := h; k.rd
theorem RowSp.chg {M : Nat → Prop} (h : RowSp B w A n c xs) (hc : Chg M w w') (hA : ∀ r, blkA A = some r → ¬ M r) : RowSp B w' A n c xs := let ⟨_, k⟩ := h; ⟨_, k.chg hc (fun _ _ => trivial) hA⟩
theorem RowSp.keep (h : RowSp B w A n c xs) (hb : Below w.heap.size w w') : RowSp B w' A n c xs := let ⟨_, k⟩ := h; ⟨_, k.keep hb⟩
theorem RowSp.base (h : RowSp B w A n c xs) {r : Nat} (hr : blkA A = some r) : B ≤ r ∧ r < w.heap.size := let ⟨_, k⟩ := h; k.base hr
theorem RowSp.cells (h : RowSp B w A n c xs) {r : Nat} (hr : blkA A = some r) : ∃ cs e m, w.heap[r]? = some (.cells cs e m) := by
  obtain ⟨vs, k⟩ := h
  obtain ⟨_, cs, m, e⟩ := own_block k.own (by rw [own_blkA]; exact hr)
  exact ⟨cs, _, m, e⟩
end
/-- one spot more -/
theorem wpList_pushSp {w : World} {ops : Array Oper} {rest : List Oper} {o : Oper} {a : Act} {Q : Exit → Act → World → Prop} (hgd : o.guard = none) (s x : Operand)
    (ho : o.op = .call { callee := .builtin .append, args := #[s, x], argTypes := #[111, 111] })
    {B : Nat} {A : Option Addr} {n c : Nat} {xs : List Spot} (hs : a.eval s = .slice A n c) (hown : RowSp B w A n c xs) (y : Spot) (hy : SpOk y) (hx : a.eval x = .slice (some ⟨w.heap.size, 0, none⟩) 1 1) (hn : n ≤ 1000000) (hbase : B ≤ w.heap.size)
    (h : ∀ O oc w', RowSp B w' O (n + 1) oc (xs ++ [y]) → Chg (fun b => blkA A = some b) w w' → (blkA O = blkA A ∨ blkA O = some (w.heap.size + 1)) → wpList Tryz.prog ops Q rest (a.put o.dst (.slice O (n + 1) oc)) w') :
    wpList Tryz.prog ops Q (o :: rest) a (w.alloc (.cells #[.int .i64 y.1, .int .i64 y.2] 110)) := by
  obtain ⟨i1, hi1, hy0, hy1, hy2⟩ := info_parts spInfo
  obtain ⟨vs, hown⟩ := hown
  exact wpList_pushE hgd s x 111 ho B 110 i1 (.agg #[.int .i64 0, .int .i64 0]) 16 Tryz.underlying111 hi1 hy0 hy1 hy2 rfl (by decide) hs hown (fun _ _ => trivial) (spC y) y (by intro u hu; simp only [spC, List.mem_cons, List.not_mem_nil, or_false] at hu; rcases hu with rfl | rfl <;> rfl) hx (firm_spot hy) (by omega) (by omega) hbase
    fun O oc w' hown' hch hat => h O oc w' ⟨_, hown'.less fun _ _ _ => .inl trivial⟩ hch hat
/-- the set of the spots seen -/
def SeenS (W : World) (mb : Nat) (l : List Spot) : Prop := MapV Tryz.prog 110 spV W mb l.length (fun p => if p ∈ l then some (.agg #[]) else none)
def addSp (l : List Spot) (p : Spot) : List Spot := if 0 ≤ p.2 ∧ p ∉ l then l ++ [p] else l
def PutP (B Bn mb : Nat) (A : Option Addr) (l : List Spot) (p : Spot) (W : World) (e : Ending) (W' : World) : Prop :=
  e = .returned (.tuple #[]) ∧ Chg (fun b => b = Bn ∨ b = mb ∨ blkA A = some b) W W' ∧ ∃ (A' : Option Addr) (n' c' : Nat), Blk 111 W' Bn [.slice A' n' c'] ∧ RowSp B W' A' n' c' (addSp l p) ∧ SeenS W' mb (addSp l p) ∧ (∀ r, blkA A' = some r → blkA A = some r ∨ W.heap.size ≤ r)
theorem zeroSp (w : World) : (zeroValue 179).run Tryz.prog w = .ok (.agg #[]) w := by kernel_rfl
set_option maxRecDepth 100000 in
set_option maxHeartbeats 3200000 in
theorem Put_ct (B Bm Bn mb : Nat) (A : Option Addr) (n c : Nat) (l : List Spot) (p : Spot) (W : World) (hm : Blk 178 W Bm [.map (some mb)]) (hs : SeenS W mb l) (hn : Blk 111 W Bn [.slice A n c]) (hr : RowSp B W A n c l) (hB : B ≤ W.heap.size) (hl : l.length ≤ 1000000) (hp : SpOk p) (ha : ∀ r, blkA A = some r → r ≠ Bn ∧ r ≠ mb) :
    Calls Tryz.prog 111 #[spV p, .pointer (some ⟨Bm, 0, none⟩), .pointer (some ⟨Bn, 0, none⟩)] W (PutP B Bn mb A l p W) := by
  obtain ⟨kl, hkl⟩ := spKey hp
  have hlook := fun W' e => MapV.look hs lawSp (T := 178) (E := 179) Tryz.underlying178 zeroSp hkl W' e
  have c2 := hm.alloc (.cells #[.int .i64 p.1, .int .i64 p.2] 110)
  have c3 := Blk.new W 110 (spC p)
  have hb1 := (Below.refl W.heap.size W).alloc (Nat.le_refl _) (.cells #[.int .i64 p.1, .int .i64 p.2] 110)
  have nmn : mb ≠ Bn := MapV.ne hs hn
  have nmm : mb ≠ Bm := MapV.ne hs hm
  have hz1 : (W.alloc (.cells #[.int .i64 p.1, .int .i64 p.2] 110)).heap.size = W.heap.size + 1 := by simp only [World.size_alloc]
  change Blk 110 (W.alloc (.cells #[.int .i64 p.1, .int .i64 p.2] 110)) W.heap.size (spC p) at c3
  have Hs := hide hs
  have Hn := hide hn
  have Hr := hide hr
  have Ha := hide ha
  have Hl := hide hl
  have HB := hide hB
  have Hp := hide hp
  have Hlook := hide hlook
  clear hs hn hr ha hl hB hlook hm hp
  unfold spV
  go_enter Tryz.func111, Tryz.ntmps111
  go_upto_region 1 with (fail)
  have hlook1 := Hlook.out (W.alloc (.cells #[.int .i64 p.1, .int .i64 p.2] 110)) (Below.heap_alloc _ _ _ Hs.out.lt)
  unfold spV at hlook1
  obtain ⟨W1, hW1⟩ : ∃ Z, Z = W.alloc (.cells #[.int .i64 p.1, .int .i64 p.2] 110) := ⟨_, rfl⟩
  rw [← hW1] at c2 c3 hb1 hz1 hlook1 ⊢
  clear hW1
  obtain ⟨B3, hB3⟩ : ∃ z, z = W.heap.size := ⟨_, rfl⟩
  rw [← hB3] at c3 hz1 ⊢
  have HB3 := hide hB3
  clear hB3
  have d2 := c2.cell 0
  have d30 := c3.cell 0
  have d31 := c3.cell 1
  simp only [spC, List.getElem?_cons_zero, List.getElem?_cons_succ] at d30 d31 d2
  have keepall : ∀ W', Below W.heap.size W W' → addSp l p = l → PutP B Bn mb A l p W (.returned (.tuple #[])) W' := fun W' hb e => by
    refine ⟨rfl, Chg.of_below hb _, A, n, c, Hn.out.keep hb, ?_, ?_, fun r hr => .inl hr⟩
    · rw [e]; exact Hr.out.keep hb
    · rw [e]; exact MapV.keep Hs.out hb
  have Hka := hide keepall
  have hb2 : Below W.heap.size W (W1.alloc (.cells #[] 179)) := hb1.alloc (Nat.le_trans (Nat.le_of_eq HB3.out.symm) (by omega)) _
  have Hb2 := hide hb2
  clear keepall hb2
  by_cases hin : p ∈ l
  · simp only [if_pos hin, Option.getD_some, Option.isSome_some] at hlook1
    have hadd : addSp l p = l := by unfold addSp; rw [if_neg (fun e => e.2 hin)]
    go_wp2_with fail
    all_goals refine bodyPost_end (v := .tuple #[]) (by simp [results, Tryz.results111, go_sem]) rfl ?_
    all_goals exact Hka.out _ Hb2.out hadd
  · simp only [if_neg hin, Option.getD_none, Option.isSome_none] at hlook1
    by_cases h0 : 0 ≤ p.2
    rotate_left
    · have hadd : addSp l p = l := by unfold addSp; rw [if_neg (fun e => h0 e.1)]
      go_wp2_with fail
      all_goals refine bodyPost_end (v := .tuple #[]) (by simp [results, Tryz.results111, go_sem]) rfl ?_
      all_goals exact Hka.out _ Hb2.out hadd
    · have hadd : addSp l p = l ++ [p] := by unfold addSp; rw [if_pos ⟨h0, hin⟩]
      go_upto_region 3 with (fail)
      have e2 := c2.alloc (.cells #[] 179)
      have e3 := c3.alloc (.cells #[] 179)
      have hz2 : (W1.alloc (.cells #[] 179)).heap.size = B3 + 1 + 1 := by simp only [World.size_alloc, hz1]
      obtain ⟨W2, hW2⟩ : ∃ Z, Z = W1.alloc (.cells #[] 179) := ⟨_, rfl⟩
      rw [← hW2] at e2 e3 hz2 Hb2 ⊢
      clear hW2
      have hs2 : SeenS W2 mb l := MapV.keep Hs.out Hb2.out
      obtain ⟨W3, hput, hmap3, hg3, hz3⟩ := MapV.put hs2 spV_inj lawSp (T := 178) (E := 179) Tryz.underlying178 (by have := Hl.out; omega) (key := p) hkl (.agg #[])
      have hs3 : SeenS W3 mb (l ++ [p]) := by
        unfold SeenS
        simp only [if_neg hin, Option.isSome_none, Bool.false_eq_true, if_false] at hmap3
        rw [List.length_append]
        refine MapV.ext hmap3 fun k => ?_
        unfold putV
        by_cases e : k = p
        · subst e; simp
        · simp [e]
      have hc3 : Chg (fun b => b = mb) W2 W3 := (Chg.of_grown hg3).mono fun b e => by injection e with e; exact e.symm
      unfold spV at hput
      have d2 := e2.cell 0
      have d30 := e3.cell 0
      have d31 := e3.cell 1
      have nm3 : B3 ≠ mb := by have := Hs.out.lt; have := HB3.out; omega
      have k2 := hc3.blk e2 (fun e => nmm e.symm)
      have k3 := hc3.blk e3 nm3
      have kn := hc3.blk (Hn.out.keep Hb2.out) (fun e => nmn e.symm)
      have kr := (Hr.out.keep Hb2.out).chg hc3 (fun r hr e => (Ha.out r hr).2 e)
      have f30 := k3.cell 0
      have f31 := k3.cell 1
      have f2 := kn.cell 0
      simp only [spC, List.getElem?_cons_zero, List.getElem?_cons_succ] at d30 d31 d2 f30 f31 f2
      have hcw : Chg (fun b => b = mb) W W3 := (Chg.of_below Hb2.out _).trans hc3
      have hBz : B ≤ W3.heap.size := Nat.le_trans HB.out hcw.size
      have hlen : n ≤ 1000000 := by have h1 := Hr.out.len; have h2 := Hl.out; omega
      have Hkn := hide kn
      have Hkr := hide kr
      have Hs3 := hide hs3
      have Hcw := hide hcw
      have Hhz3 := hide hz3
      have Hhz2 := hide hz2
      clear e2 e3 k2 k3 kn kr hs3 hcw hc3 hg3 hmap3 hs2 c2 c3 hb1 hlook1 hz2 hz3 hz1
      go_wp2_with
        (at_builtin
         refine wpList_pushSp rfl _ _ rfl rfl Hkr.out p Hp.out rfl hlen hBz ?_
         intro O oc W4 hr4 hc4 hat4
         have kn4 := hc4.blk Hkn.out (fun e => (Ha.out Bn e).1 rfl)
         have fn4 := kn4.frozen 0
         have ln4 := kn4.lt
         have cn4 := kn4.cell 0
         simp only [List.getElem?_cons_zero] at cn4
         have Hkn4 := hide kn4
         have Hr4 := hide hr4
         have Hc4 := hide hc4
         have Hat4 := hide hat4
         clear kn4 hr4 hc4 hat4)
      refine bodyPost_end (v := .tuple #[]) (by simp [results, Tryz.results111, go_sem]) rfl ?_
      have hlen4 := Hr4.out.len
      have hz23 := Hhz3.out
      have hz22 := Hhz2.out
      have hB33 := HB3.out
      have nOB : ∀ r, blkA O = some r → r ≠ Bn ∧ r ≠ mb := fun r hr => by
        rcases Hat4.out with e | e
        · exact Ha.out r (by rw [← e]; exact hr)
        · rw [e] at hr
          injection hr with hr
          have h1 := Hn.out.lt
          have h2 := Hs.out.lt
          omega
      have hset := Chg.set W4 Bn 0 (.slice O (n + 1) oc)
      have hk := Hkn4.out.set 0 (.slice O (n + 1) oc)
      simp only [List.set_cons_zero] at hk
      refine ⟨rfl, ?_, O, n + 1, oc, hk, ?_, ?_, fun r hr => ?_⟩
      · refine Chg.trans (Chg.trans (Hcw.out.mono (fun i e => .inr (.inl e))) (Hc4.out.mono (fun i e => .inr (.inr e)))) (hset.mono (fun i e => .inl e))
      · rw [hadd]
        exact Hr4.out.chg hset (fun r hr e => (nOB r hr).1 e)
      · rw [hadd]
        exact MapV.chg (MapV.chg Hs3.out Hc4.out (fun e => (Ha.out mb e).2 rfl)) hset nmn
      · rcases Hat4.out with e | e
        · exact .inl (by rw [← e]; exact hr)
        · rw [e] at hr
          injection hr with hr
          right
          omega
end Go.Proofs.YtmjiiddncbhgpaaGreat
namespace Go.Proofs.YtmjiiddncbhgpaaGreat
set_option linter.unusedVariables false
set_option linter.unusedSimpArgs false
open Go.RowKit Go.Shelf Go.Maps
theorem key_struct4H {P : Program} {k e : TypeId} {f0 f1 f2 f3 : Field} (hk : P.underlying k = some (.struct #[f0, f1, f2, f3])) (h0 : f0.type = e ∧ f0.offset = 0 ∧ (f0.name != "_") = true) (h1 : f1.type = e ∧ f1.offset = 1 ∧ (f1.name != "_") = true) (h2 : f2.type = e ∧ f2.offset = 2 ∧ (f2.name != "_") = true) (h3 : f3.type = e ∧ f3.offset = 3 ∧ (f3.name != "_") = true)
    (hkt : P.keyType k = true) (hcs : P.cellsOf k = 4) (hce : P.cellsOf e = 1) (he : P.underlying e = some (.int .i64)) (hpos : 0 < P.types.size) {a b c d : Int} (ha : I64H a) (hb : I64H b) (hc : I64H c) (hd : I64H d) :
    ∃ kl, keyOf P k (.agg #[.int .i64 a, .int .i64 b, .int .i64 c, .int .i64 d]) = some kl := by
  obtain ⟨s, hs⟩ : ∃ s, P.types.size = s + 1 := ⟨P.types.size - 1, by omega⟩
  have hi : ∀ x : Int, I64H x → P.keyLits (s + 1) e [.int .i64 x] = some [.int .i64 x] := fun x hx => by
    simp [Program.keyLits, he, hx.wf]
  obtain ⟨q0, q0', q0''⟩ := h0
  obtain ⟨q1, q1', q1''⟩ := h1
  obtain ⟨q2, q2', q2''⟩ := h2
  obtain ⟨q3, q3', q3''⟩ := h3
  have r0 := hi a ha
  have r1 := hi b hb
  have r2 := hi c hc
  have r3 := hi d hd
  rw [keyOf, hk, hs]
  simp only [hkt, Value.formed, Bool.true_and]
  rw [Program.keyLits.eq_def]
  simp only [hk]
  simp [Value.cells, hcs, hce, q0, q1, q2, q3, q0', q1', q2', q3', r0, r1, r2, r3]
  simp_all
theorem key_array2H {P : Program} {k e : TypeId} (hk : P.underlying k = some (.array 2 e))
    (hkt : P.keyType k = true) (hcs : P.cellsOf k = 2) (hce : P.cellsOf e = 1) (he : P.underlying e = some (.int .i64)) (hpos : 0 < P.types.size) {a b : Int} (ha : I64H a) (hb : I64H b) :
    ∃ kl, keyOf P k (.agg #[.int .i64 a, .int .i64 b]) = some kl := by
  obtain ⟨s, hs⟩ : ∃ s, P.types.size = s + 1 := ⟨P.types.size - 1, by omega⟩
  have hi : ∀ x : Int, I64H x → P.keyLits (s + 1) e [.int .i64 x] = some [.int .i64 x] := fun x hx => by
    simp [Program.keyLits, he, hx.wf]
  have r0 := hi a ha
  have r1 := hi b hb
  rw [keyOf, hk, hs]
  simp only [hkt, Value.formed, Bool.true_and]
  rw [Program.keyLits.eq_def]
  simp only [hk]
  simp [Value.cells, hcs, hce, r0, r1, List.range_succ]
theorem wideCh : (match Tryz.prog.underlying 176 with | some (.array _ _) | some (.struct _) => true | _ => false) = true := by rw [Tryz.underlying176]
set_option maxRecDepth 1000000 in
theorem lawCh : Keyed Tryz.prog 176 := Keyed.of_law (deep_law_laid laid_outH (m := 3) (by omega) (of_decide_eq_true (by kernel_rfl)) (by kernel_rfl) wideCh)
theorem wideKp : (match Tryz.prog.underlying 177 with | some (.array _ _) | some (.struct _) => true | _ => false) = true := by rw [Tryz.underlying177]
set_option maxRecDepth 1000000 in
theorem lawKp : Keyed Tryz.prog 177 := Keyed.of_law (deep_law_laid laid_outH (m := 3) (by omega) (of_decide_eq_true (by kernel_rfl)) (by kernel_rfl) wideKp)
def chC (c : Chn) : List Value := [.int .i64 c.t, .int .i64 c.i, .int .i64 c.j, .int .i64 c.n]
def chV (c : Chn) : Value := .agg #[.int .i64 c.t, .int .i64 c.i, .int .i64 c.j, .int .i64 c.n]
theorem chV_inj (a b : Chn) (h : chV a = chV b) : a = b := by
  obtain ⟨a1, a2, a3, a4⟩ := a
  obtain ⟨b1, b2, b3, b4⟩ := b
  simp only [chV, Value.agg.injEq, Array.mk.injEq, List.cons.injEq, Value.int.injEq, true_and, and_true, Int.natCast_inj] at h
  simp [h]
def ChOk (c : Chn) : Prop := c.t ≤ 1000000 ∧ c.i ≤ 1000000 ∧ c.j ≤ 1000000 ∧ c.n ≤ 1000000
theorem chKey {c : Chn} (h : ChOk c) : ∃ kl, keyOf Tryz.prog 176 (chV c) = some kl := by
  obtain ⟨h1, h2, h3, h4⟩ := h
  exact key_struct4H Tryz.underlying176 ⟨rfl, rfl, by decide⟩ ⟨rfl, rfl, by decide⟩ ⟨rfl, rfl, by decide⟩ ⟨rfl, rfl, by decide⟩ (by kernel_rfl) (by kernel_rfl) (by kernel_rfl) Tryz.underlying3 (of_decide_eq_true (by kernel_rfl)) (by unfold I64H; omega) (by unfold I64H; omega) (by unfold I64H; omega) (by unfold I64H; omega)
/-- a task and a state -/
abbrev KP := Nat × Nat
def kpV (p : KP) : Value := .agg #[.int .i64 p.1, .int .i64 p.2]
theorem kpV_inj (a b : KP) (h : kpV a = kpV b) : a = b := by
  obtain ⟨a1, a2⟩ := a
  obtain ⟨b1, b2⟩ := b
  simp only [kpV, Value.agg.injEq, Array.mk.injEq, List.cons.injEq, Value.int.injEq, true_and, and_true, Int.natCast_inj] at h
  simp [h]
def KpOk (p : KP) : Prop := p.1 ≤ 1000000 ∧ p.2 ≤ 1000000
theorem kpKey {p : KP} (h : KpOk p) : ∃ kl, keyOf Tryz.prog 177 (kpV p) = some kl := by
  obtain ⟨h1, h2⟩ := h
  exact key_array2H Tryz.underlying177 (by kernel_rfl) (by kernel_rfl) (by kernel_rfl) Tryz.underlying3 (of_decide_eq_true (by kernel_rfl)) (by unfold I64H; omega) (by unfold I64H; omega)
def Enc.chn : Enc Chn where
  size := 4
  ok := fun w vs a => vs = chC a ∧ ChOk a
  len := fun h => by rw [h.1]; rfl
  keep := fun h _ => h
theorem firm_chn {M : Nat → Prop} {w : World} {c : Chn} (h : ChOk c) : Firm Enc.chn M w (chC c) c := fun _ _ => ⟨rfl, h⟩
theorem Rd.chn {w : World} {A : Option Addr} {n c k : Nat} {l : List Chn} (h : Rd Enc.chn w A n c l) (hk : k < n) :
    ∃ b off x, A = some ⟨b, off, none⟩ ∧ l[k]? = some x ∧ ChOk x ∧ w.cell? ⟨b, off + k * 4, none⟩ = some (.int .i64 x.t) ∧ w.cell? ⟨b, off + k * 4 + 1, none⟩ = some (.int .i64 x.i) ∧ w.cell? ⟨b, off + k * 4 + 2, none⟩ = some (.int .i64 x.j) ∧ w.cell? ⟨b, off + k * 4 + 3, none⟩ = some (.int .i64 x.n) := by
  obtain ⟨b, off, x, vs, e, hm, ⟨hvs, h1⟩, hv⟩ := h.get hk
  subst hvs
  exact ⟨b, off, x, e, hm, h1, hv 0 _ rfl, hv 1 _ rfl, hv 2 _ rfl, hv 3 _ rfl⟩
theorem chInfo : (Tryz.prog.info? 176).map (fun i => (i.zero, i.size, i.bytes)) = some (some (.agg #[.int .i64 0, .int .i64 0, .int .i64 0, .int .i64 0]), 4, 32) := by kernel_rfl
/-- a row's header -/
structure RowC where
  A : Option Addr
  n : Nat
  c : Nat
def RowC.v (r : RowC) : Value := .slice r.A r.n r.c
def RowC.nil : RowC := ⟨none, 0, 0⟩
def updK {α : Type} (f : KP → α) (t : KP) (v : α) : KP → α := fun x => if x = t then v else f x
theorem updK_same {α : Type} (f : KP → α) (t : KP) (v : α) : updK f t v t = v := by simp [updK]
theorem updK_other {α : Type} (f : KP → α) {t x : KP} (v : α) (h : x ≠ t) : updK f t v x = f x := by simp [updK, h]
/-- block bb is a map of rows of changes -/
structure ByS (B : Nat) (w : World) (bb cnt : Nat) (rows : KP → Option RowC) (bk : KP → List Chn) : Prop where
  map : MapV Tryz.prog 177 kpV w bb cnt (fun t => (rows t).map RowC.v)
  none : ∀ t, rows t = none → bk t = []
  row : ∀ t r, rows t = some r → ∃ vs, OwnE Enc.chn 176 B (fun _ => True) w r.A r.n r.c vs (bk t)
  apart : ∀ t t' r r' g, rows t = some r → rows t' = some r' → t ≠ t' → blkA r.A = some g → blkA r'.A ≠ some g
def ByM (bb : Nat) (rows : KP → Option RowC) (b : Nat) : Prop := b = bb ∨ ∃ t r, rows t = some r ∧ blkA r.A = some b
section
variable {B bb cnt : Nat} {w w' : World} {rows : KP → Option RowC} {bk : KP → List Chn}
theorem ByS.chg {M : Nat → Prop} (h : ByS B w bb cnt rows bk) (hc : Chg M w w') (hM : ∀ b, ByM bb rows b → ¬ M b) : ByS B w' bb cnt rows bk :=
  ⟨h.map.chg hc (hM _ (.inl rfl)), h.none, fun t r hr => by
    obtain ⟨vs, ho⟩ := h.row t r hr
    exact ⟨vs, (ho.chg hc (fun _ _ => trivial) (fun g hg => hM g (.inr ⟨t, r, hr, hg⟩)))⟩, h.apart⟩
theorem ByS.keep (h : ByS B w bb cnt rows bk) (hb : Below w.heap.size w w') : ByS B w' bb cnt rows bk := h.chg (M := fun _ => False) (Chg.of_below hb _) (fun _ _ e => e)
theorem own_cellsC {α : Type} {E : Enc α} {t : TypeId} {n c : Nat} {M : Nat → Prop} {A : Option Addr} {vs : List Value} {xs : List α} (h : OwnE E t B M w A n c vs xs) {g : Nat} (hg : blkA A = some g) : ∃ ds e m, w.heap[g]? = some (.cells ds e m) := by
  rcases h.own.2 with ⟨e, _⟩ | ⟨r, cap, cur, e, hr, hc, rest⟩
  · injection e with e1 e2 e3
    subst e1
    cases hg
  · injection e with e1 e2 e3
    subst e1
    obtain rfl : r = g := by simpa [blkA] using hg
    exact ⟨_, _, _, hc⟩
theorem ByS.nbb (h : ByS B w bb cnt rows bk) {t : KP} {r : RowC} (hr : rows t = some r) : blkA r.A ≠ some bb := fun e => by
  obtain ⟨vs, ho⟩ := h.row t r hr
  obtain ⟨ds, e1, m, h1⟩ := own_cellsC ho e
  obtain ⟨es, clock, h2⟩ := h.map.isMap
  rw [h2] at h1
  cases h1
/-- the row at a key, the empty one if there is none -/
def rowAtC (rows : KP → Option RowC) (t : KP) : RowC := (rows t).getD RowC.nil
theorem ByS.at_ (h : ByS B w bb cnt rows bk) (t : KP) : ∃ vs, OwnE Enc.chn 176 B (fun _ => True) w (rowAtC rows t).A (rowAtC rows t).n (rowAtC rows t).c vs (bk t) := by
  unfold rowAtC
  cases hr : rows t with
  | none => rw [h.none t hr]; exact ⟨_, OwnE.nil _ _ _ _ _⟩
  | some r => exact h.row t r hr
theorem getD_vC (rows : KP → Option RowC) (t : KP) : ((rows t).map RowC.v).getD (.slice none 0 0) = (rowAtC rows t).v := by
  unfold rowAtC
  cases rows t <;> rfl
set_option maxRecDepth 100000 in
/-- one change more: the row has grown, then the map takes it -/
theorem ByS.push {w2 : World} (h : ByS B w bb cnt rows bk) (t : KP) {y : Chn} {O : Option Addr} {oc : Nat} {vs : List Value} (hcnt : cnt < 1000000000000) (htk : KpOk t)
    (hown : OwnE Enc.chn 176 B (fun _ => True) w2 O ((rowAtC rows t).n + 1) oc vs (bk t ++ [y])) (hch : Chg (fun b => blkA (rowAtC rows t).A = some b) w w2) (hat : blkA O = blkA (rowAtC rows t).A ∨ ∃ r, blkA O = some r ∧ w.heap.size ≤ r) :
    ∃ w3, (Instr.mapUpdate 105 (.map (some bb)) (kpV t) (.slice O ((rowAtC rows t).n + 1) oc)).run Tryz.prog w2 = .ok () w3 ∧
      (∃ cnt', cnt' ≤ cnt + 1 ∧ ByS B w3 bb cnt' (updK rows t (some ⟨O, (rowAtC rows t).n + 1, oc⟩)) (updK bk t (bk t ++ [y]))) ∧ Chg (ByM bb rows) w w3 ∧ (∀ b, ByM bb (updK rows t (some ⟨O, (rowAtC rows t).n + 1, oc⟩)) b → ByM bb rows b ∨ w.heap.size ≤ b) ∧ w2.grownBy w3 (some bb) := by
  have hA : ∀ g, blkA (rowAtC rows t).A = some g → ∃ r, rows t = some r ∧ blkA r.A = some g := fun g hg => by
    unfold rowAtC at hg
    cases hr : rows t with
    | none => rw [hr] at hg; cases hg
    | some r => rw [hr] at hg; exact ⟨r, rfl, hg⟩
  have hbbn : ¬ blkA (rowAtC rows t).A = some bb := fun e => by
    obtain ⟨r, hr, e2⟩ := hA bb e
    exact h.nbb hr e2
  have hmap2 := h.map.chg hch hbbn
  obtain ⟨kl, hkl⟩ := kpKey htk
  obtain ⟨w3, hput, hmap3, hg3, hz3⟩ := hmap2.put kpV_inj lawKp (T := 105) (E := 172) Tryz.underlying105 hcnt (key := t) hkl (.slice O ((rowAtC rows t).n + 1) oc)
  have hch3 : Chg (fun b => b = bb) w2 w3 := (Chg.of_grown hg3).mono fun b e => (by injection e with e; exact e.symm)
  have hbbl := h.map.lt
  have hOb : ∀ g, blkA O = some g → g ≠ bb := fun g hg => by
    rcases hat with e | ⟨r, e, hle⟩
    · rw [e] at hg
      rintro rfl
      exact hbbn hg
    · rw [e] at hg
      injection hg with hg
      omega
  have hrowlt : ∀ t' r' g, rows t' = some r' → blkA r'.A = some g → g < w.heap.size := fun t' r' g hr' hg => by
    obtain ⟨vs', ho'⟩ := h.row t' r' hr'
    exact (ho'.base hg).2
  refine ⟨w3, hput, ⟨_, ?_, ⟨hmap3.ext fun x => ?_, fun x hx => ?_, fun x r hr => ?_, fun x x' r r' g hr hr' hne hg => ?_⟩⟩, ?_, fun b hb => ?_, hg3⟩
  · split <;> omega
  · unfold putV updK
    split <;> rfl
  · unfold updK at hx ⊢
    split at hx
    · cases hx
    · rename_i e
      rw [if_neg e]
      exact h.none x hx
  · by_cases hxt : x = t
    · subst hxt
      rw [updK_same] at hr ⊢
      injection hr with hr
      subst hr
      exact ⟨vs, hown.chg hch3 (fun _ _ => trivial) (fun g hg e => hOb g hg e)⟩
    · rw [updK_other _ _ hxt] at hr ⊢
      obtain ⟨vs', ho'⟩ := h.row x r hr
      refine ⟨vs', (ho'.chg hch (fun _ _ => trivial) (fun g hg e => ?_)).chg hch3 (fun _ _ => trivial) (fun g hg e => h.nbb hr (by rw [hg, e]))⟩
      obtain ⟨r0, hr0, e2⟩ := hA g e
      exact h.apart t x r0 r g hr0 hr (fun e3 => hxt e3.symm) e2 hg
  · have fresh : ∀ g, blkA O = some g → (∃ r0, rows t = some r0 ∧ blkA r0.A = some g) ∨ w.heap.size ≤ g := fun g hg => by
      rcases hat with e | ⟨r, e, hle⟩
      · rw [e] at hg
        exact .inl (hA g hg)
      · rw [e] at hg
        injection hg with hg
        exact .inr (by omega)
    by_cases hxt : x = t
    · subst hxt
      have hx' : x' ≠ x := fun e => hne e.symm
      rw [updK_same] at hr
      rw [updK_other _ _ hx'] at hr'
      injection hr with hr
      subst hr
      intro e
      rcases fresh g hg with ⟨r0, hr0, e2⟩ | hle
      · exact h.apart x x' r0 r' g hr0 hr' hne e2 e
      · have := hrowlt x' r' g hr' e
        omega
    · rw [updK_other _ _ hxt] at hr
      by_cases hx't : x' = t
      · subst hx't
        rw [updK_same] at hr'
        injection hr' with hr'
        subst hr'
        intro e
        rcases fresh g e with ⟨r0, hr0, e2⟩ | hle
        · exact h.apart x' x r0 r g hr0 hr (fun e3 => hxt e3.symm) e2 hg
        · have := hrowlt x r g hr hg
          omega
      · rw [updK_other _ _ hx't] at hr'
        exact h.apart x x' r r' g hr hr' hne hg
  · refine (hch.mono fun b e => ?_).trans (hch3.mono fun b e => .inl e)
    obtain ⟨r0, hr0, e2⟩ := hA b e
    exact .inr ⟨t, r0, hr0, e2⟩
  · rcases hb with e | ⟨x, r, hr, e⟩
    · exact .inl (.inl e)
    · by_cases hxt : x = t
      · subst hxt
        rw [updK_same] at hr
        injection hr with hr
        subst hr
        rcases hat with e3 | ⟨r2, e3, hle⟩
        · simp only at e
          rw [e3] at e
          obtain ⟨r0, hr0, e2⟩ := hA b e
          exact .inl (.inr ⟨x, r0, hr0, e2⟩)
        · simp only at e
          rw [e3] at e
          injection e with e
          exact .inr (by omega)
      · rw [updK_other _ _ hxt] at hr
        exact .inl (.inr ⟨x, r, hr, e⟩)
end
/-- what is known of changes: the round of each, and those that the map of rows holds; B: where the rows begin -/
structure KnS (B : Nat) (W : World) (rm bm cr cb : Nat) (R : Chn → Option Nat) (rows : KP → Option RowC) (bk : KP → List Chn) : Prop where
  rnd : MapV Tryz.prog 176 chV W rm cr (fun c => (R c).map fun q => Value.int .i64 (q : Int))
  by_ : ByS B W bm cb rows bk
  own : ∀ t i c, c ∈ bk (t, i) → c.t = t ∧ c.i = i ∧ (R c).isSome = true
theorem KnS.keep {B rm bm cr cb : Nat} {W W' : World} {R : Chn → Option Nat} {rows : KP → Option RowC} {bk : KP → List Chn} (h : KnS B W rm bm cr cb R rows bk) (hb : Below W.heap.size W W') : KnS B W' rm bm cr cb R rows bk :=
  ⟨h.rnd.keep hb, h.by_.keep hb, h.own⟩
end Go.Proofs.YtmjiiddncbhgpaaGreat
namespace Go.Proofs.YtmjiiddncbhgpaaGreat
set_option linter.unusedVariables false
set_option linter.unusedSimpArgs false
open Go.RowKit Go.Shelf Go.Maps
/-- each once; the ones of S that have operators left -/
def Ins (S : Spot → Prop) (l : List Spot) : Prop := l.Nodup ∧ ∀ p, p ∈ l ↔ 0 ≤ p.2 ∧ S p
theorem Ins.nil : Ins (fun _ => False) [] := ⟨List.nodup_nil, fun p => by simp⟩
theorem Ins.ext {S S' : Spot → Prop} {l : List Spot} (h : Ins S l) (e : ∀ p, S p ↔ S' p) : Ins S' l := ⟨h.1, fun p => by rw [h.2 p, e p]⟩
theorem Ins.add {S : Spot → Prop} {l : List Spot} (h : Ins S l) (p : Spot) : Ins (fun q => S q ∨ q = p) (addSp l p) := by
  unfold addSp
  split
  · rename_i hp
    refine ⟨List.nodup_append.2 ⟨h.1, (by simp), fun a ha b hb => ?_⟩, fun q => ?_⟩
    · rw [List.mem_singleton] at hb
      subst hb
      rintro rfl
      exact hp.2 ha
    · rw [List.mem_append, List.mem_singleton, h.2 q]
      constructor
      · rintro (⟨h1, h2⟩ | rfl)
        · exact ⟨h1, .inl h2⟩
        · exact ⟨hp.1, .inr rfl⟩
      · rintro ⟨h1, h2 | h2⟩
        · exact .inl ⟨h1, h2⟩
        · exact .inr h2
  · rename_i hp
    refine ⟨h.1, fun q => ?_⟩
    rw [h.2 q]
    constructor
    · rintro ⟨h1, h2⟩; exact ⟨h1, .inl h2⟩
    · rintro ⟨h1, h2 | rfl⟩
      · exact ⟨h1, h2⟩
      · refine ⟨h1, ?_⟩
        by_cases hm : q ∈ l
        · exact ((h.2 q).1 hm).2
        · exact absurd ⟨h1, hm⟩ hp
theorem few_spots {l : List Spot} (h : l.Nodup) (hl : ∀ p ∈ l, p.1 < 64 ∧ 0 ≤ p.2 ∧ p.2 ≤ 8) : l.length ≤ 576 := by
  have hsub : ∀ p ∈ l, p ∈ (List.range 64).flatMap fun a => (List.range 9).map fun (b : Nat) => ((a, (b : Int)) : Spot) := fun p hp => by
    obtain ⟨h1, h2, h3⟩ := hl p hp
    obtain ⟨a, b⟩ := p
    refine List.mem_flatMap.2 ⟨a, List.mem_range.2 h1, List.mem_map.2 ⟨b.toNat, List.mem_range.2 (by simp only at h2 h3; omega), ?_⟩⟩
    simp only at h2
    rw [show ((b.toNat : Nat) : Int) = b by omega]
  have := List.Nodup.length_le_of_subset h hsub
  have e : ((List.range 64).flatMap fun a => (List.range 9).map fun (b : Nat) => ((a, (b : Int)) : Spot)).length = 576 := by decide +kernel
  omega
/-- from a spot to another by one step -/
def Suc (aft : Nat → Nat → Nat → Prop) (G : Chn → Prop) (x : Int) (p q : Spot) : Prop := ∃ b : Nat, q.2 = p.2 - b ∧ SpR aft G [x] p.1 b q.1
/-- the spots where steps lead from state i with lim operators -/
def Spo (aft : Nat → Nat → Nat → Prop) (G : Chn → Prop) (lim : Nat) (l : List Int) (i : Nat) (p : Spot) : Prop := ∃ n : Nat, p.2 = (lim : Int) - n ∧ SpR aft G l i n p.1
section
variable {aft : Nat → Nat → Nat → Prop} {G : Chn → Prop} {lim : Nat}
theorem Ins.start (i : Nat) : Ins (Spo aft G lim [] i) [(i, (lim : Int))] := by
  refine ⟨(by simp), fun p => ?_⟩
  rw [List.mem_singleton]
  constructor
  · rintro rfl
    exact ⟨by simp only; omega, 0, by simp, rfl, rfl⟩
  · rintro ⟨h1, n, h2, rfl, h3⟩
    obtain ⟨a, b⟩ := p
    simp only at h2 h3 h1
    subst h3
    rw [h2]
    simp
theorem Ins.step {l : List Spot} {i : Nat} {xs : List Int} {x : Int} {l2 : List Spot} (h : Ins (Spo aft G lim xs i) l) (h2 : Ins (fun q => ∃ p ∈ l, Suc aft G x p q) l2) : Ins (Spo aft G lim (xs ++ [x]) i) l2 := by
  refine ⟨h2.1, fun q => ?_⟩
  rw [h2.2 q]
  constructor
  · rintro ⟨h0, p, hp, b, e, hs⟩
    obtain ⟨_, n, e2, hs2⟩ := (h.2 p).1 hp
    exact ⟨h0, n + b, by rw [e, e2]; omega, (SpR.snoc _ _ _ _ _).2 ⟨_, n, b, rfl, hs2, hs⟩⟩
  · rintro ⟨h0, n, e, hs⟩
    obtain ⟨k, a, b, rfl, h3, h4⟩ := (SpR.snoc _ _ _ _ _).1 hs
    exact ⟨h0, (k, (lim : Int) - a), (h.2 _).2 ⟨by simp only; omega, a, rfl, h3⟩, b, by simp only; omega, h4⟩
end
/-- the next row and the set of those seen -/
structure NxS (Z : Nat) (w W : World) (Bn Bm mb : Nat) (A : Option Addr) (n c : Nat) (l : List Spot) : Prop where
  low : Below Z w W
  zn : Z ≤ Bn
  zm : Z ≤ mb
  mbx : Blk 178 W Bm [.map (some mb)]
  seen : SeenS W mb l
  nx : Blk 111 W Bn [.slice A n c]
  row : RowSp Z W A n c l
section
variable {Z Bn Bm mb n c : Nat} {w W : World} {A : Option Addr} {l : List Spot}
theorem NxS.keep {W' : World} (h : NxS Z w W Bn Bm mb A n c l) (hb : Below W.heap.size W W') : NxS Z w W' Bn Bm mb A n c l :=
  ⟨h.low.trans (hb.mono (Nat.le_of_lt (Nat.lt_of_le_of_lt h.zn h.nx.lt))), h.zn, h.zm, h.mbx.keep hb, MapV.keep h.seen hb, h.nx.keep hb, h.row.keep hb⟩
theorem RowSp.type (h : RowSp Z W A n c l) {r : Nat} (hr : blkA A = some r) : ∃ cs m, W.heap[r]? = some (.cells cs 110 m) := by
  obtain ⟨vs, k⟩ := h
  exact (own_block k.own (by rw [own_blkA]; exact hr)).2
theorem RowSp.neT {t : TypeId} {g : Nat} {cs : List Value} (h : RowSp Z W A n c l) (k : Blk t W g cs) (ht : 110 ≠ t) {r : Nat} (hr : blkA A = some r) : r ≠ g := fun e => by
  subst e
  obtain ⟨cs', m, e⟩ := h.type hr
  unfold Blk at k
  rw [e] at k
  injection k with k
  injection k with _ k _
  exact ht k
theorem RowSp.neM (h : RowSp Z W A n c l) (k : SeenS W mb l) {r : Nat} (hr : blkA A = some r) : r ≠ mb := fun e => by
  subst e
  obtain ⟨cs', m, e⟩ := h.type hr
  obtain ⟨es, clock, e2⟩ := MapV.isMap k
  rw [e] at e2
  cases e2
theorem NxS.put_ct (h : NxS Z w W Bn Bm mb A n c l) (hl : l.length ≤ 1000000) {p : Spot} (hp : SpOk p) (hZ : Z ≤ W.heap.size) :
    Calls Tryz.prog 111 #[.agg #[.int .i64 p.1, .int .i64 p.2], .pointer (some ⟨Bm, 0, none⟩), .pointer (some ⟨Bn, 0, none⟩)] W (fun e W' => e = .returned (.tuple #[]) ∧ Chg (fun b => b = Bn ∨ b = mb ∨ blkA A = some b) W W' ∧ ∃ A' n' c', NxS Z w W' Bn Bm mb A' n' c' (addSp l p) ∧ ∀ r, blkA A' = some r → blkA A = some r ∨ W.heap.size ≤ r) := by
  refine (Put_ct Z Bm Bn mb A n c l p W h.mbx h.seen h.nx h.row hZ hl hp (fun r hr => ⟨h.row.neT h.nx (by decide) hr, h.row.neM h.seen hr⟩)).mono ?_
  rintro e W' ⟨rfl, hc, A', n', c', h1, h2, h3, h4⟩
  refine ⟨rfl, hc, A', n', c', ⟨h.low.trans (hc.below (fun b hb => ?_) hZ), h.zn, h.zm, hc.blk h.mbx (fun e => ?_), h3, h1, h2⟩, h4⟩
  · rcases hb with rfl | rfl | hb
    · exact h.zn
    · exact h.zm
    · exact (h.row.base hb).1
  · rcases e with e | e | e
    · exact blkT_neH h.mbx h.nx (by decide) e
    · exact MapV.ne h.seen h.mbx e.symm
    · exact h.row.neT h.mbx (by decide) e rfl
end
end Go.Proofs.YtmjiiddncbhgpaaGreat
namespace Go.Proofs.YtmjiiddncbhgpaaGreat
set_option linter.unusedVariables false
set_option linter.unusedSimpArgs false
open Go.RowKit Go.Shelf Go.Maps
theorem rd_spot1 (w : World) (p : Spot) (hp : SpOk p) : Rd Enc.spot (w.alloc (.cells #[.int .i64 p.1, .int .i64 p.2] 110)) (some ⟨w.heap.size, 0, none⟩) 1 1 [p] :=
  ⟨rfl, Nat.le_refl _, by omega, (fun h => by cases h), fun _ => ⟨w.heap.size, 0, rfl, fun j x hj => by
    have hj0 : j = 0 := by
      have := (List.getElem?_eq_some_iff.1 hj).1
      simp at this
      omega
    subst hj0
    obtain rfl : p = x := by simpa using hj
    exact ⟨spC p, ⟨rfl, hp⟩, fun i v hv => by rw [show 0 + 0 * Enc.spot.size + i = i by omega]; exact ((Blk.new w 110 (spC p)).cell i).trans hv⟩⟩⟩
/-- the row's cells are spots -/
def TyS (w : World) (A : Option Addr) : Prop := ∀ r, blkA A = some r → ∃ cs m, w.heap[r]? = some (.cells cs 110 m)
/-- where steps lead -/
def SpreadP (w : World) (aft : Nat → Nat → Nat → Prop) (G : Chn → Prop) (lim nS : Nat) (xs : List Int) (i : Nat) (e : Ending) (w' : World) : Prop :=
  Below w.heap.size w w' ∧ ∃ (A : Option Addr) (n c : Nat) (l : List Spot), e = .returned (.slice A n c) ∧ Rd Enc.spot w' A n c l ∧ Ins (Spo aft G lim xs i) l ∧ (∀ p ∈ l, p.1 < nS ∧ p.2 ≤ lim) ∧ TyS w' A
theorem zeroCs (w : World) : (zeroValue 172).run Tryz.prog w = .ok (.slice none 0 0) w := by kernel_rfl
/-- spots of a part of the row, and one more -/
theorem take_one {α : Type} {l : List α} {k : Nat} {x : α} (h : l[k]? = some x) (y : α) : y ∈ l.take (k + 1) ↔ y ∈ l.take k ∨ y = x := by
  rw [List.take_add_one, h]
  simp
theorem mem_addSp {l : List Spot} {p y : Spot} (h : y ∈ addSp l p) : y ∈ l ∨ y = p := by
  unfold addSp at h
  split at h
  · rcases List.mem_append.1 h with h | h
    · exact .inl h
    · exact .inr (List.mem_singleton.1 h)
  · exact .inl h
theorem aftW_one {ms : List Mk} {st : List Nat} (hn : st.Nodup) {op i k k' : Nat} (h : aftW ms st op i k) (h' : aftW ms st op i k') : k = k' := by
  obtain ⟨s, m, h1, h2, _, h3⟩ := h
  obtain ⟨s', m', h1', h2', _, h3'⟩ := h'
  rw [h1] at h1'
  obtain rfl := Option.some.inj h1'
  rw [h2] at h2'
  obtain rfl := Option.some.inj h2'
  exact (List.getElem?_inj (List.getElem?_eq_some_iff.1 h3).1 hn).1 (h3.trans h3'.symm)
theorem suc_op {aft : Nat → Nat → Nat → Prop} {G : Chn → Prop} {x : Int} (hx : 0 ≤ x) {p q : Spot} : Suc aft G x p q ↔ q.2 = p.2 - 1 ∧ aft x.toNat p.1 q.1 := by
  unfold Suc
  constructor
  · rintro ⟨b, h1, h2⟩
    obtain ⟨rfl, h3⟩ := (SpR.op hx).1 h2
    exact ⟨h1, h3⟩
  · rintro ⟨h1, h2⟩
    exact ⟨1, h1, (SpR.op hx).2 ⟨rfl, h2⟩⟩
theorem suc_task {aft : Nat → Nat → Nat → Prop} {G : Chn → Prop} {x : Int} (hx : x < 0) {p q : Spot} : Suc aft G x p q ↔ ∃ b : Nat, q.2 = p.2 - b ∧ G ⟨(-1 - x).toNat, p.1, q.1, b⟩ := by
  unfold Suc
  constructor
  · rintro ⟨b, h1, h2⟩; exact ⟨b, h1, (SpR.task hx).1 h2⟩
  · rintro ⟨b, h1, h2⟩; exact ⟨b, h1, (SpR.task hx).2 h2⟩
theorem Ins.next_ {S : Spot → Spot → Prop} {T : Spot → Prop} {l l3 : List Spot} {q : Nat} {p : Spot} (h : Ins (fun y => (∃ p' ∈ l.take q, S p' y) ∨ T y) l3) (hp : l[q]? = some p) (hT : ∀ y, 0 ≤ y.2 → (T y ↔ S p y)) : Ins (fun y => ∃ p' ∈ l.take (q + 1), S p' y) l3 := by
  refine ⟨h.1, fun y => ?_⟩
  rw [h.2 y]
  constructor
  · rintro ⟨h0, ⟨p', h1, h2⟩ | h1⟩
    · exact ⟨h0, p', (take_one hp p').2 (.inl h1), h2⟩
    · exact ⟨h0, p, (take_one hp p).2 (.inr rfl), (hT y h0).1 h1⟩
  · rintro ⟨h0, p', h1, h2⟩
    rcases (take_one hp p').1 h1 with h1 | rfl
    · exact ⟨h0, .inl ⟨p', h1, h2⟩⟩
    · exact ⟨h0, .inr ((hT y h0).2 h2)⟩
set_option maxRecDepth 100000 in
set_option maxHeartbeats 12800000 in
theorem spread_ct (W : World) (Rb g s0 gl : Nat) (ms : List Mk) (SA : Option Addr) (sn sc : Nat) (st : List Nat) (am rm bm : Nat) (v0 v1 v2 v3 v4 v5 v6 : Value) (lim : Nat) (h : RfS W Rb g s0 gl ms SA sn sc st am rm bm v0 v1 v2 v3 v4 v5 v6 lim) (B cr cb : Nat) (R : Chn → Option Nat) (rows : KP → Option RowC) (bk : KP → List Chn) (hk : KnS B W rm bm cr cb R rows bk)
    (hin : ∀ c, (R c).isSome = true → c.i < st.length ∧ c.j < st.length ∧ c.n ≤ lim) (hst : st.length ≤ 64) (hlim : lim ≤ 8) (X : Option Addr) (nX cX : Nat) (xs : List Int) (hx : Rd Enc.int W X nX cX xs) (hnX : nX ≤ 1000) (hxr : ∀ x ∈ xs, -1000 ≤ x ∧ x < 1000) (i r : Nat) (hi : i < st.length)
    (hfull : ∀ c q, R c = some q → q < r → c ∈ bk (c.t, c.i)) :
    Calls Tryz.prog 66 #[.pointer (some ⟨Rb, 0, none⟩), .slice X nX cX, .int .i64 i, .int .i64 r] W (SpreadP W (aftW ms st) (Ere R r) lim st.length xs i) := by
  have H := hide h
  have Hk := hide hk
  have Hin := hide hin
  have Hx := hide hx
  have Hxr := hide hxr
  have Hfull := hide hfull
  have hxlen := hx.len
  have hxcap := hx.low
  have hsl := h.few
  have hnl : nX ≤ 1000 := hnX
  have r10 := h.blk.cell 10
  have r5l := h.blk.lt
  simp only [List.getElem?_cons_zero, List.getElem?_cons_succ] at r10
  have Hb0 := hide (Below.refl W.heap.size W)
  have hmm := @run_makeMap Tryz.prog
  clear h hk hin hx hxr hfull
  go_enter Tryz.func66, Tryz.ntmps66
  go_upto_region 2 with (fail)
  have hr1 := rd_spot1 W (i, (lim : Int)) ⟨by simp only; omega, by simp only; omega, by simp only; omega⟩
  have hb1 := (Below.refl W.heap.size W).alloc (Nat.le_refl _) (.cells #[.int .i64 i, .int .i64 lim] 110)
  simp only at hr1
  have hty1 : TyS (W.alloc (.cells #[.int .i64 i, .int .i64 lim] 110)) (some ⟨W.heap.size, 0, none⟩) := fun r hr => by
    injection hr with hr
    subst hr
    exact ⟨_, _, Blk.new W 110 [.int .i64 i, .int .i64 lim]⟩
  obtain ⟨W1, hW1⟩ : ∃ Z, Z = W.alloc (.cells #[.int .i64 i, .int .i64 lim] 110) := ⟨_, rfl⟩
  rw [← hW1] at hr1 hb1 hty1 ⊢
  have Hr1 := hide hr1
  have Hb1 := hide hb1
  clear hW1 hr1 hb1 r10 r5l
  obtain ⟨g1, hg1⟩ : ∃ z, z = W.heap.size := ⟨_, rfl⟩
  rw [← hg1] at Hr1 hty1 ⊢
  have Hty := hide hty1
  clear hty1
  clear hg1
  go_wp2_with fail
  go_loopw [30, 9] (fun o v wr => ∃ (k : Nat) (A : Option Addr) (n c : Nat) (l : List Spot), k ≤ nX ∧ o = .int .i64 k ∧ v = .slice A n c ∧ Below W.heap.size W wr ∧ Rd Enc.spot wr A n c l ∧ Ins (Spo (aftW ms st) (Ere R r) lim (xs.take k) i) l ∧ (∀ p ∈ l, p.1 < st.length ∧ p.2 ≤ lim) ∧ TyS wr A) (fun o _ _ => nX - (intOf o).toNat)
  case atStart => exact ⟨0, some ⟨g1, 0, none⟩, 1, 1, [(i, (lim : Int))], by omega, rfl, rfl, Hb1.out, Hr1.out, Ins.start i, fun p hp => by rw [List.mem_singleton] at hp; subst hp; exact ⟨hi, by simp only; omega⟩, Hty.out⟩
  case round =>
    obtain ⟨k, A, n, c, l, hkn, rfl, rfl, hbw, hrd, hins, hbd, hty⟩ := hrel
    have Hbw := hide hbw
    have Hrd := hide hrd
    have Hins := hide hins
    have Hbd := hide hbd
    have Hty1 := hide hty
    clear hbw hrd hins hbd hty
    by_cases hlt : k < nX
    rotate_left
    · obtain rfl : k = nX := by omega
      go_wp2_with fail
      go_ret
      refine ⟨Hbw.out, A, n, c, l, rfl, Hrd.out, ?_, Hbd.out, Hty1.out⟩
      have h1 := Hins.out
      rw [List.take_of_length_le (by omega)] at h1
      exact h1
    · have hki : (k : Int) < (nX : Int) := by omega
      obtain ⟨xb, xo, x, eX, hxk, hx64, hcx⟩ := (Hx.out.keep Hbw.out).int (k := k) hlt
      subst eX
      have hxm := List.mem_of_getElem? hxk
      have hxb := Hxr.out x hxm
      go_upto_region 8 with (fail)
      obtain ⟨wk, rfl⟩ : ∃ V, V = wr := ⟨_, rfl⟩
      obtain ⟨Z, hZ⟩ : ∃ z, z = wk.heap.size := ⟨_, rfl⟩
      have n1 := ((Blk.new wk 111 [.slice none 0 0]).alloc (.map #[] 0)).alloc (.cells #[.map (some (wk.heap.size + 1))] 178)
      have n2 := Blk.new ((wk.alloc (.cells #[.slice none 0 0] 111)).alloc (.map #[] 0)) 178 [.map (some (wk.heap.size + 1))]
      have n3 : SeenS (((wk.alloc (.cells #[.slice none 0 0] 111)).alloc (.map #[] 0)).alloc (.cells #[.map (some (wk.heap.size + 1))] 178)) (wk.heap.size + 1) [] := by
        have := (MapV.made (κ := Spot) (wk.alloc (.cells #[.slice none 0 0] 111)) Tryz.prog 110 spV).alloc (.cells #[.map (some (wk.heap.size + 1))] 178)
        simp only [World.size_alloc] at this
        exact this.ext (fun k => by simp)
      have hbz : Below wk.heap.size wk (((wk.alloc (.cells #[.slice none 0 0] 111)).alloc (.map #[] 0)).alloc (.cells #[.map (some (wk.heap.size + 1))] 178)) := (((Below.refl _ wk).alloc (Nat.le_refl _) _).alloc (by simp only [World.size_alloc]; omega) _).alloc (by simp only [World.size_alloc]; omega) _
      simp only [World.size_alloc] at n2
      obtain ⟨w3, hw3⟩ : ∃ V, V = ((wk.alloc (.cells #[.slice none 0 0] 111)).alloc (.map #[] 0)).alloc (.cells #[.map (some (wk.heap.size + 1))] 178) := ⟨_, rfl⟩
      change Blk 178 (((wk.alloc (.cells #[.slice none 0 0] 111)).alloc (.map #[] 0)).alloc (.cells #[.map (some (wk.heap.size + 1))] 178)) (wk.heap.size + 1 + 1) [.map (some (wk.heap.size + 1))] at n2
      change Blk 111 (((wk.alloc (.cells #[.slice none 0 0] 111)).alloc (.map #[] 0)).alloc (.cells #[.map (some (wk.heap.size + 1))] 178)) wk.heap.size [.slice none 0 0] at n1
      rw [← hw3] at n1 n2 n3 hbz ⊢
      rw [← hZ] at n1 n2 n3 ⊢
      have hN : NxS Z wk w3 Z (Z + 1 + 1) (Z + 1) none 0 0 [] := ⟨by rw [hZ]; exact hbz, Nat.le_refl _, by omega, n2, n3, n1, RowSp.nil _ _⟩
      have HN := hide hN
      have HZ := hide hZ
      have Hhxk := hide hxk
      have hnlow := Hrd.out.low
      have hln := Hrd.out.len
      clear hw3 n1 n2 n3 hbz hZ hN hcx hxk
      go_wp2_with fail
      go_loopw [38] (fun o wr => ∃ (q : Nat) (A2 : Option Addr) (n2 c2 : Nat) (l2 : List Spot), q ≤ n ∧ o = .int .i64 q ∧ NxS Z wk wr Z (Z + 1 + 1) (Z + 1) A2 n2 c2 l2 ∧ Ins (fun p' => ∃ p ∈ l.take q, Suc (aftW ms st) (Ere R r) x p p') l2 ∧ ∀ p ∈ l2, p.1 < st.length ∧ p.2 ≤ lim) (fun o _ => n - (intOf o).toNat)
      case atStart => exact ⟨0, none, 0, 0, [], by omega, rfl, HN.out, Ins.nil.ext (fun p => by simp), fun p hp => by cases hp⟩
      case round =>
        obtain ⟨q, A2, n2, c2, l2, hqn, rfl, hnx, hins2, hbd2⟩ := hrel
        have Hnx := hide hnx
        have Hins2 := hide hins2
        have Hbd2 := hide hbd2
        clear hnx hins2 hbd2
        by_cases hlq : q < n
        rotate_left
        · obtain rfl : q = n := by omega
          have e0 := Hnx.out.nx.cell 0
          simp only [List.getElem?_cons_zero] at e0
          go_wp2_with fail
          go_roundw
          case rel =>
            refine ⟨k + 1, A2, n2, c2, l2, by omega, by go_num, rfl, Hbw.out.trans (Hnx.out.low.mono (by have := HZ.out; have := Hbw.out.size; omega)), Hnx.out.row.rd, ?_, Hbd2.out, fun r hr => Hnx.out.row.type hr⟩
            have h1 := Hins2.out
            rw [List.take_of_length_le (by omega)] at h1
            have h2 := Hins.out.step h1
            rw [List.take_add_one, Hhxk.out]
            exact h2
          case measure => simp [intOf]; omega
        · have hqi : (q : Int) < (n : Int) := by omega
          have hbr : Below wk.heap.size wk wr := by have := HZ.out; rw [← this]; exact Hnx.out.low
          have Hbr := hide hbr
          clear hbr
          obtain ⟨lb, lo, p, eA, hpk, hpo, hp0, hp1⟩ := (Hrd.out.keep Hbr.out).spot (k := q) hlq
          subst eA
          obtain ⟨hps, hpl⟩ := Hbd.out p (List.mem_of_getElem? hpk)
          have hp00 := ((Hins.out.2 p).1 (List.mem_of_getElem? hpk)).1
          have Hpk := hide hpk
          clear hpk
          go_upto_region 11 with (fail)
          have hBp := Blk.new wr 110 (spC p)
          have hba := (Below.refl wr.heap.size wr).alloc (Nat.le_refl _) (.cells #[.int .i64 p.1, .int .i64 p.2] 110)
          change Blk 110 (wr.alloc (.cells #[.int .i64 p.1, .int .i64 p.2] 110)) wr.heap.size (spC p) at hBp
          obtain ⟨w4, hw4⟩ : ∃ V, V = wr.alloc (.cells #[.int .i64 p.1, .int .i64 p.2] 110) := ⟨_, rfl⟩
          rw [← hw4] at hBp hba ⊢
          clear hw4
          have hnx4 := Hnx.out.keep hba
          have hne4 : ∀ r, blkA A2 = some r → r ≠ wr.heap.size := fun r hr => Nat.ne_of_lt (Hnx.out.row.base hr).2
          obtain ⟨Bp, hBpe⟩ : ∃ z, z = wr.heap.size := ⟨_, rfl⟩
          rw [← hBpe] at hBp hne4 ⊢
          have hb4 : Below W.heap.size W w4 := Hbw.out.trans ((Hbr.out.trans (hba.mono Hbr.out.size)).mono Hbw.out.size)
          have Hb4 := hide hb4
          have Hnx4 := hide hnx4
          have HBp := hide hBp
          have Hne4 := hide hne4
          have hl2 : l2.length ≤ 576 := few_spots Hins2.out.1 (fun y hy => ⟨Nat.lt_of_lt_of_le (Hbd2.out y hy).1 hst, ((Hins2.out.2 y).1 hy).1, by have := (Hbd2.out y hy).2; omega⟩)
          clear hba hnx4 hne4 hBpe hb4 hBp hp0 hp1 hpo
          by_cases h0 : 0 ≤ x
          · have b0 := HBp.out.cell 0
            simp only [spC, List.getElem?_cons_zero] at b0
            obtain ⟨s, hs⟩ : ∃ s, st[p.1]? = some s := ⟨_, List.getElem?_eq_getElem hps⟩
            have haf := after_ct w4 Rb g s0 gl ms SA sn sc st am rm bm v0 v1 v2 v3 v4 v5 v6 lim p.1 s x.toNat (H.out.keep Hb4.out) hs (by omega)
            rw [show ((x.toNat : Nat) : Int) = x by omega] at haf
            have Haf := hide haf
            have Hs := hide hs
            clear haf hs
            go_wp2_with fail
            with_reducible refine Haf.out.mono ?_
            rintro e w5 ⟨hb5, ⟨k2, rfl, hk2, ha2⟩ | ⟨rfl, hno⟩⟩
            · have hnx5 := Hnx4.out.keep hb5
              have b1 := (HBp.out.keep hb5).cell 1
              simp only [spC, List.getElem?_cons_zero, List.getElem?_cons_succ] at b1
              have Hput := hide (NxS.put_ct hnx5 (by omega) (p := (k2, p.2 - 1)) ⟨by simp only; omega, by simp only; omega, by simp only; omega⟩ (Nat.le_of_lt (Nat.lt_of_le_of_lt hnx5.zn hnx5.nx.lt)))
              have Ha2 := hide ha2
              clear hnx5 b0 ha2 hb5
              go_wp2_with fail
              with_reducible refine Hput.out.mono ?_
              rintro e w6 ⟨rfl, _, A3, n3, c3, hnx6, _⟩
              have Hnx6 := hide hnx6
              clear hnx6 b1
              go_wp2_with fail
              go_roundw
              case rel =>
                refine ⟨q + 1, A3, n3, c3, addSp l2 (k2, p.2 - 1), by omega, by go_num, Hnx6.out, Ins.next_ (Hins2.out.add _) Hpk.out (fun y hy => ?_), fun y hy => ?_⟩
                · rw [suc_op h0]
                  obtain ⟨y1, y2⟩ := y
                  simp only [Prod.mk.injEq]
                  constructor
                  · rintro ⟨rfl, rfl⟩; exact ⟨rfl, Ha2.out⟩
                  · rintro ⟨rfl, h2⟩; exact ⟨aftW_one H.out.once h2 Ha2.out, rfl⟩
                · rcases mem_addSp hy with hy | rfl
                  · exact Hbd2.out y hy
                  · exact ⟨hk2, by simp only; omega⟩
              case measure => simp [intOf]; omega
            · have Hnx5 := hide (Hnx4.out.keep hb5)
              have Hno := hide hno
              clear hno b0 hb5
              go_wp2_with fail
              go_roundw
              case rel =>
                refine ⟨q + 1, A2, n2, c2, l2, by omega, by go_num, Hnx5.out, Ins.next_ (T := fun _ => False) (Hins2.out.ext (fun y => by simp)) Hpk.out (fun y hy => ?_), Hbd2.out⟩
                rw [suc_op h0]
                constructor
                · exact fun e => e.elim
                · rintro ⟨_, h2⟩; exact Hno.out _ h2
              case measure => simp [intOf]; omega
          · obtain ⟨t, ht⟩ : ∃ t : Nat, t = (-1 - x).toNat := ⟨_, rfl⟩
            have htx : ((t : Nat) : Int) = -1 - x := by omega
            have hkp : KpOk (t, p.1) := ⟨by simp only; omega, by simp only; omega⟩
            obtain ⟨kl, hkl⟩ := kpKey hkp
            have hk4 := Hk.out.keep Hb4.out
            have hlook := fun W' e => hk4.by_.map.look1 lawKp (T := 105) (E := 172) Tryz.underlying105 zeroCs hkl W' e
            unfold kpV at hlook
            simp only [getD_vC, htx] at hlook
            obtain ⟨⟨rA, rn, rc⟩, hrow⟩ : ∃ z, z = rowAtC rows (t, p.1) := ⟨_, rfl⟩
            rw [← hrow] at hlook
            unfold RowC.v at hlook
            simp only at hlook
            have Hlook := hide hlook
            have Hrow := hide hrow
            have r12 := (H.out.keep Hb4.out).blk.cell 12
            have b0 := HBp.out.cell 0
            simp only [spC, List.getElem?_cons_zero, List.getElem?_cons_succ] at r12 b0
            have Htx := hide htx
            clear hlook hrow hk4 htx ht
            go_upto_region 15 with (fail)
            have hwr : IntKind.i64.wrap (-1 - x) = -1 - x := IntWalk.i64_in _ (by omega)
            obtain ⟨V, hV⟩ : ∃ V, V = w4.drew := ⟨_, rfl⟩
            have hbV : Below w4.heap.size w4 V := by rw [hV]; exact (Below.refl _ _).drew
            refine wp_region_held_drew (S := (fun w' => w'.cell? ⟨Rb, 12, none⟩ = some (.map (some bm)) ∧ w'.cell? ⟨Bp, 0, none⟩ = some (.int .i64 p.1) ∧ 0 ≤ 1 ∧ w'.heap[bm]? = w4.heap[bm]?)) (by kernel_rfl) ?_ (fun hHeld => ?_)
            · exact ⟨r12, b0, by omega, rfl⟩
            rw [← hV] at hHeld ⊢
            clear hV
            refine takeA (i := 0) (v := ?_) (some 60) rfl rfl (by kernel_rfl) (by kernel_rfl) (by kernel_rfl) (fun _ _ _ h => h) (Or.inl ⟨by rfl, ?_⟩) (by assumption) ?_
            rotate_left
            · intro w hSw; (try dsimp only at hSw); obtain ⟨s1, s2, s3, s4⟩ := hSw; first | (go_simp; done) | (go_simp; with_reducible rfl)
            try simp only [Act.put, List.setIfInBounds_toArray, List.set_cons_zero, List.set_cons_succ]
            refine takeA (i := 1) (v := ?_) (some 61) rfl rfl (by kernel_rfl) (by kernel_rfl) (by kernel_rfl) (fun _ _ _ h => h) (Or.inl ⟨by rfl, ?_⟩) (by assumption) ?_
            rotate_left
            · intro w hSw; (try dsimp only at hSw); obtain ⟨s1, s2, s3, s4⟩ := hSw; first | (go_simp; done) | (go_simp; with_reducible rfl)
            try simp only [Act.put, List.setIfInBounds_toArray, List.set_cons_zero, List.set_cons_succ]
            refine takeA (i := 2) (v := ?_) (some 62) rfl rfl (by kernel_rfl) (by kernel_rfl) (by kernel_rfl) (fun _ _ _ h => h) (Or.inl ⟨by rfl, ?_⟩) (by assumption) ?_
            rotate_left
            · intro w hSw; (try dsimp only at hSw); obtain ⟨s1, s2, s3, s4⟩ := hSw; first | (go_simp; done) | (go_simp; with_reducible rfl)
            try simp only [Act.put, List.setIfInBounds_toArray, List.set_cons_zero, List.set_cons_succ]
            refine takeA (i := 3) (v := ?_) (some 63) rfl rfl (by kernel_rfl) (by kernel_rfl) (by kernel_rfl) (fun _ _ _ h => h) (Or.inl ⟨by rfl, ?_⟩) (by assumption) ?_
            rotate_left
            · intro w hSw; (try dsimp only at hSw); obtain ⟨s1, s2, s3, s4⟩ := hSw; first | (go_simp; done) | (go_simp; with_reducible rfl)
            try simp only [Act.put, List.setIfInBounds_toArray, List.set_cons_zero, List.set_cons_succ]
            refine takeA (i := 4) (v := ?_) (some 64) rfl rfl (by kernel_rfl) (by kernel_rfl) (by kernel_rfl) (fun _ _ _ h => h) (Or.inl ⟨by rfl, ?_⟩) (by assumption) ?_
            rotate_left
            · intro w hSw; (try dsimp only at hSw); obtain ⟨s1, s2, s3, s4⟩ := hSw; first | (go_simp; done) | (go_simp; with_reducible rfl)
            try simp only [Act.put, List.setIfInBounds_toArray, List.set_cons_zero, List.set_cons_succ]
            refine takeA (i := 5) (v := ?_) (some 65) rfl rfl (by kernel_rfl) (by kernel_rfl) (by kernel_rfl) (fun _ _ _ h => h) (Or.inl ⟨by rfl, ?_⟩) (by assumption) ?_
            rotate_left
            · intro w hSw; (try dsimp only at hSw); obtain ⟨s1, s2, s3, s4⟩ := hSw; first | (go_simp; done) | (go_simp; with_reducible rfl)
            try simp only [Act.put, List.setIfInBounds_toArray, List.set_cons_zero, List.set_cons_succ]
            refine takeA (i := 6) (v := ?_) (some 66) rfl rfl (by kernel_rfl) (by kernel_rfl) (by kernel_rfl) (fun _ _ _ h => h) (Or.inl ⟨by rfl, ?_⟩) (by assumption) ?_
            rotate_left
            · intro w hSw; (try dsimp only at hSw); obtain ⟨s1, s2, s3, s4⟩ := hSw; first | (go_simp; done) | (go_simp; with_reducible rfl)
            try simp only [Act.put, List.setIfInBounds_toArray, List.set_cons_zero, List.set_cons_succ]
            refine takeA (i := 7) (v := ?_) (some 67) rfl rfl (by kernel_rfl) (by kernel_rfl) (by kernel_rfl) (fun _ _ _ h => h) (Or.inl ⟨by rfl, ?_⟩) (by assumption) ?_
            rotate_left
            · intro w hSw; (try dsimp only at hSw); obtain ⟨s1, s2, s3, s4⟩ := hSw; first | (go_simp; done) | (go_simp; with_reducible rfl)
            try simp only [Act.put, List.setIfInBounds_toArray, List.set_cons_zero, List.set_cons_succ]
            refine takeA (i := 8) (v := ?_) (some 68) rfl rfl (by kernel_rfl) (by kernel_rfl) (by kernel_rfl) (fun _ _ _ h => h) (Or.inl ⟨by rfl, ?_⟩) (by assumption) ?_
            rotate_left
            · intro w hSw; (try dsimp only at hSw); obtain ⟨s1, s2, s3, s4⟩ := hSw; first | (go_simp; done) | (go_simp; with_reducible rfl)
            try simp only [Act.put, List.setIfInBounds_toArray, List.set_cons_zero, List.set_cons_succ]
            refine takeA (i := 9) (v := ?_) (some 69) rfl rfl (by kernel_rfl) (by kernel_rfl) (by kernel_rfl) (fun _ _ _ h => h) (Or.inl ⟨by rfl, ?_⟩) (by assumption) ?_
            rotate_left
            · intro w hSw; (try dsimp only at hSw); obtain ⟨s1, s2, s3, s4⟩ := hSw; have hlk := Hlook.out w s4; first | (go_simp; done) | (go_simp; with_reducible rfl)
            try simp only [Act.put, List.setIfInBounds_toArray, List.set_cons_zero, List.set_cons_succ]
            refine takeA (i := 10) (v := ?_) (some 70) rfl rfl (by kernel_rfl) (by kernel_rfl) (by kernel_rfl) (fun _ _ _ h => h) (Or.inl ⟨by rfl, ?_⟩) (by assumption) ?_
            rotate_left
            · intro w hSw; (try dsimp only at hSw); obtain ⟨s1, s2, s3, s4⟩ := hSw; first | (go_simp; done) | (go_simp; with_reducible rfl)
            try simp only [Act.put, List.setIfInBounds_toArray, List.set_cons_zero, List.set_cons_succ]
            refine takeA (i := 11) (v := ?_) (some 71) rfl rfl (by kernel_rfl) (by kernel_rfl) (by kernel_rfl) (fun _ _ _ h => h) (Or.inl ⟨by rfl, ?_⟩) (by assumption) ?_
            rotate_left
            · intro w hSw; (try dsimp only at hSw); obtain ⟨s1, s2, s3, s4⟩ := hSw; first | (go_simp; done) | (go_simp; with_reducible rfl)
            try simp only [Act.put, List.setIfInBounds_toArray, List.set_cons_zero, List.set_cons_succ]
            refine wpAnyH_done (by kernel_rfl) ?_ _
            clear hHeld
            have HnxV := hide (Hnx4.out.keep hbV)
            have HBV := hide (HBp.out.keep hbV)
            clear hbV r12 b0
            go_wp2_with fail
            obtain ⟨wj, rfl⟩ : ∃ Y, Y = V := ⟨_, rfl⟩
            have HneV := Hne4
            go_loopw [71] (fun o wr => ∃ (j : Nat) (A3 : Option Addr) (n3 c3 : Nat) (l3 : List Spot), j ≤ rn ∧ o = .int .i64 j ∧ NxS Z wk wr Z (Z + 1 + 1) (Z + 1) A3 n3 c3 l3 ∧ Blk 110 wr Bp (spC p) ∧ (∀ r, blkA A3 = some r → r ≠ Bp) ∧ Ins (fun y => (∃ p' ∈ l.take q, Suc (aftW ms st) (Ere R r) x p' y) ∨ ∃ d ∈ (bk (t, p.1)).take j, y.1 = d.j ∧ y.2 = p.2 - d.n ∧ Ere R r d) l3 ∧ ∀ p ∈ l3, p.1 < st.length ∧ p.2 ≤ lim) (fun o _ => rn - (intOf o).toNat)
            case atStart => exact ⟨0, A2, n2, c2, l2, by omega, rfl, HnxV.out, HBV.out, HneV.out, Hins2.out.ext (fun y => by simp), Hbd2.out⟩
            case round =>
              obtain ⟨j, A3, n3, c3, l3, hjr, rfl, hnx, hbp, hne, hins3, hbd3⟩ := hrel
              have hbW : Below W.heap.size W wr := Hbw.out.trans (hnx.low.mono (by have := HZ.out; have := Hbw.out.size; omega))
              obtain ⟨vs, hown⟩ := (Hk.out.keep hbW).by_.at_ (t, p.1)
              rw [← Hrow.out] at hown
              have hrdR := hown.rd
              simp only at hrdR
              have hrl := hrdR.len
              have Hnx3 := hide hnx
              have Hbp3 := hide hbp
              have Hne3 := hide hne
              have Hins3 := hide hins3
              have Hbd3 := hide hbd3
              have HbW := hide hbW
              clear hnx hbp hne hins3 hbd3 hbW hown
              by_cases hjl : j < rn
              rotate_left
              · obtain rfl : j = rn := by omega
                clear hrdR
                go_wp2_with fail
                go_roundw
                case rel =>
                  refine ⟨q + 1, A3, n3, c3, l3, by omega, by go_num, Hnx3.out, Ins.next_ Hins3.out Hpk.out (fun y hy => ?_), Hbd3.out⟩
                  rw [suc_task (by omega), List.take_of_length_le (by omega)]
                  have htn : (-1 - x).toNat = t := by have := Htx.out; omega
                  rw [htn]
                  constructor
                  · rintro ⟨d, hd, h1, h2, h3⟩
                    obtain ⟨e1, e2, _⟩ := Hk.out.own t p.1 d hd
                    refine ⟨d.n, h2, ?_⟩
                    obtain ⟨d1, d2, d3, d4⟩ := d
                    simp only at e1 e2 h1 h2 ⊢
                    rw [← e1, ← e2, h1]
                    exact h3
                  · rintro ⟨b, h1, h2⟩
                    obtain ⟨qq, h3, h4⟩ := h2
                    exact ⟨⟨t, p.1, y.1, b⟩, Hfull.out _ qq h3 h4, rfl, h1, qq, h3, h4⟩
                case measure => simp [intOf]; omega
              · have hji : (j : Int) < (rn : Int) := by omega
                obtain ⟨rb, ro, d, eR, hdk, hdo, x0, x1, x2, x3⟩ := hrdR.chn (k := j) hjl
                subst eR
                have e3 := (Hk.out.own t p.1 d (List.mem_of_getElem? hdk)).2.2
                obtain ⟨i1, i2, i3⟩ := Hin.out d e3
                obtain ⟨qq, hqq⟩ := Option.isSome_iff_exists.1 e3
                have hrcap := hrdR.low
                have Hdk := hide hdk
                have Hqq := hide hqq
                clear hrdR hdk hqq
                go_upto_region 18 with (fail)
                have hBc := Blk.new wr 176 (chC d)
                have hba := (Below.refl wr.heap.size wr).alloc (Nat.le_refl _) (.cells #[.int .i64 d.t, .int .i64 d.i, .int .i64 d.j, .int .i64 d.n] 176)
                change Blk 176 (wr.alloc (.cells #[.int .i64 d.t, .int .i64 d.i, .int .i64 d.j, .int .i64 d.n] 176)) wr.heap.size (chC d) at hBc
                obtain ⟨w7, hw7⟩ : ∃ Y, Y = wr.alloc (.cells #[.int .i64 d.t, .int .i64 d.i, .int .i64 d.j, .int .i64 d.n] 176) := ⟨_, rfl⟩
                rw [← hw7] at hBc hba ⊢
                have Hnx7 := hide (Hnx3.out.keep hba)
                have Hbp7 := hide (Hbp3.out.keep hba)
                have hb7 : Below W.heap.size W w7 := HbW.out.trans (hba.mono HbW.out.size)
                have Hb7 := hide hb7
                obtain ⟨Bc, hBce⟩ : ∃ z, z = wr.heap.size := ⟨_, rfl⟩
                rw [← hBce] at hBc ⊢
                obtain ⟨kl2, hkl2⟩ := chKey hdo
                have hk7 := Hk.out.keep hb7
                have hlook := fun W' e => hk7.rnd.look1 lawCh (T := 104) (E := 3) Tryz.underlying104 zeroIA hkl2 W' e
                unfold chV at hlook
                have hq0 := Hqq.out
                try simp only [hq0, Option.map_some, Option.getD_some] at hlook
                clear hq0
                have Hlook2 := hide hlook
                have r11 := (H.out.keep hb7).blk.cell 11
                have m0 := hBc.cell 0
                have m1 := hBc.cell 1
                have m2 := hBc.cell 2
                have m3 := hBc.cell 3
                simp only [chC, List.getElem?_cons_zero, List.getElem?_cons_succ] at r11 m0 m1 m2 m3
                have HBc := hide hBc
                clear hw7 hba hb7 hBce hk7 hlook hBc x0 x1 x2 x3
                obtain ⟨V2, hV2⟩ : ∃ Y, Y = w7.drew := ⟨_, rfl⟩
                have hbV2 : Below w7.heap.size w7 V2 := by rw [hV2]; exact (Below.refl _ _).drew
                refine wp_region_held_drew (S := (fun w' => w'.cell? ⟨Rb, 11, none⟩ = some (.map (some rm)) ∧ w'.heap[rm]? = w7.heap[rm]? ∧ w'.cell? ⟨Bc, 0, none⟩ = some (.int .i64 d.t) ∧ w'.cell? ⟨Bc, 1, none⟩ = some (.int .i64 d.i) ∧ w'.cell? ⟨Bc, 2, none⟩ = some (.int .i64 d.j) ∧ w'.cell? ⟨Bc, 3, none⟩ = some (.int .i64 d.n))) (by kernel_rfl) ?_ (fun hHeld => ?_)
                · exact ⟨r11, rfl, m0, m1, m2, m3⟩
                rw [← hV2] at hHeld ⊢
                clear hV2
                refine takeA (i := 0) (v := ?_) (some 75) rfl rfl (by kernel_rfl) (by kernel_rfl) (by kernel_rfl) (fun _ _ _ h => h) (Or.inl ⟨by rfl, ?_⟩) (by assumption) ?_
                rotate_left
                · intro w hSw; (try dsimp only at hSw); obtain ⟨s1, s2, s3, s4, s5, s6⟩ := hSw; first | (go_simp; done) | (go_simp; with_reducible rfl)
                try simp only [Act.put, List.setIfInBounds_toArray, List.set_cons_zero, List.set_cons_succ]
                refine takeA (i := 1) (v := ?_) (some 76) rfl rfl (by kernel_rfl) (by kernel_rfl) (by kernel_rfl) (fun _ _ _ h => h) (Or.inl ⟨by rfl, ?_⟩) (by assumption) ?_
                rotate_left
                · intro w hSw; (try dsimp only at hSw); obtain ⟨s1, s2, s3, s4, s5, s6⟩ := hSw; first | (go_simp; done) | (go_simp; with_reducible rfl)
                try simp only [Act.put, List.setIfInBounds_toArray, List.set_cons_zero, List.set_cons_succ]
                refine takeA (i := 2) (v := ?_) (some 77) rfl rfl (by kernel_rfl) (by kernel_rfl) (by kernel_rfl) (fun _ _ _ h => h) (Or.inl ⟨by rfl, ?_⟩) (by assumption) ?_
                rotate_left
                · intro w hSw; (try dsimp only at hSw); obtain ⟨s1, s2, s3, s4, s5, s6⟩ := hSw; first | (go_simp; done) | (go_simp; with_reducible rfl)
                try simp only [Act.put, List.setIfInBounds_toArray, List.set_cons_zero, List.set_cons_succ]
                refine takeA (i := 3) (v := ?_) (some 78) rfl rfl (by kernel_rfl) (by kernel_rfl) (by kernel_rfl) (fun _ _ _ h => h) (Or.inl ⟨by rfl, ?_⟩) (by assumption) ?_
                rotate_left
                · intro w hSw; (try dsimp only at hSw); obtain ⟨s1, s2, s3, s4, s5, s6⟩ := hSw; first | (go_simp; done) | (go_simp; with_reducible rfl)
                try simp only [Act.put, List.setIfInBounds_toArray, List.set_cons_zero, List.set_cons_succ]
                refine takeA (i := 4) (v := ?_) (some 79) rfl rfl (by kernel_rfl) (by kernel_rfl) (by kernel_rfl) (fun _ _ _ h => h) (Or.inl ⟨by rfl, ?_⟩) (by assumption) ?_
                rotate_left
                · intro w hSw; (try dsimp only at hSw); obtain ⟨s1, s2, s3, s4, s5, s6⟩ := hSw; first | (go_simp; done) | (go_simp; with_reducible rfl)
                try simp only [Act.put, List.setIfInBounds_toArray, List.set_cons_zero, List.set_cons_succ]
                refine takeA (i := 5) (v := ?_) (some 80) rfl rfl (by kernel_rfl) (by kernel_rfl) (by kernel_rfl) (fun _ _ _ h => h) (Or.inl ⟨by rfl, ?_⟩) (by assumption) ?_
                rotate_left
                · intro w hSw; (try dsimp only at hSw); obtain ⟨s1, s2, s3, s4, s5, s6⟩ := hSw; have hlk := Hlook2.out w s2; first | (go_simp; done) | (go_simp; with_reducible rfl)
                try simp only [Act.put, List.setIfInBounds_toArray, List.set_cons_zero, List.set_cons_succ]
                refine takeA (i := 6) (v := ?_) (some 81) rfl rfl (by kernel_rfl) (by kernel_rfl) (by kernel_rfl) (fun _ _ _ h => h) (Or.inl ⟨by rfl, ?_⟩) (by assumption) ?_
                rotate_left
                · intro w hSw; (try dsimp only at hSw); obtain ⟨s1, s2, s3, s4, s5, s6⟩ := hSw; first | (go_simp; done) | (go_simp; with_reducible rfl)
                try simp only [Act.put, List.setIfInBounds_toArray, List.set_cons_zero, List.set_cons_succ]
                refine takeA (i := 7) (v := ?_) (some 82) rfl rfl (by kernel_rfl) (by kernel_rfl) (by kernel_rfl) (fun _ _ _ h => h) (Or.inl ⟨by rfl, ?_⟩) (by assumption) ?_
                rotate_left
                · intro w hSw; (try dsimp only at hSw); obtain ⟨s1, s2, s3, s4, s5, s6⟩ := hSw; first | (go_simp; done) | (go_simp; with_reducible rfl)
                try simp only [Act.put, List.setIfInBounds_toArray, List.set_cons_zero, List.set_cons_succ]
                refine wpAnyH_done (by kernel_rfl) ?_ _
                clear hHeld r11 m0 m1 m2 m3
                have hnx8 := Hnx7.out.keep hbV2
                have m2 := (HBc.out.keep hbV2).cell 2
                have m3 := (HBc.out.keep hbV2).cell 3
                have b1 := (Hbp7.out.keep hbV2).cell 1
                simp only [chC, spC, List.getElem?_cons_zero, List.getElem?_cons_succ] at m2 m3 b1
                by_cases hlt2 : qq < r
                rotate_left
                · have hli : ¬ (qq : Int) < (r : Int) := by omega
                  have Hnx8 := hide hnx8
                  have Hbp8 := hide (Hbp7.out.keep hbV2)
                  clear hnx8 m2 m3 b1 hbV2
                  go_wp2_with fail
                  go_roundw
                  case rel =>
                    refine ⟨j + 1, A3, n3, c3, l3, by omega, by go_num, Hnx8.out, Hbp8.out, Hne3.out, Hins3.out.ext (fun y => ?_), Hbd3.out⟩
                    constructor
                    · rintro (h1 | ⟨d', h1, h2⟩)
                      · exact .inl h1
                      · exact .inr ⟨d', (take_one Hdk.out d').2 (.inl h1), h2⟩
                    · rintro (h1 | ⟨d', h1, h2, h3, h4⟩)
                      · exact .inl h1
                      · rcases (take_one Hdk.out d').1 h1 with h1 | rfl
                        · exact .inr ⟨d', h1, h2, h3, h4⟩
                        · obtain ⟨q2, h5, h6⟩ := h4
                          rw [Hqq.out] at h5
                          injection h5 with h5
                          omega
                  case measure => simp [intOf]; omega
                · have hli : (qq : Int) < (r : Int) := by omega
                  have hl3 : l3.length ≤ 576 := few_spots Hins3.out.1 (fun y hy => ⟨Nat.lt_of_lt_of_le (Hbd3.out y hy).1 hst, ((Hins3.out.2 y).1 hy).1, by have := (Hbd3.out y hy).2; omega⟩)
                  have Hput := hide (NxS.put_ct hnx8 (by omega) (p := (d.j, p.2 - d.n)) ⟨by simp only; omega, by simp only; omega, by simp only; omega⟩ (Nat.le_of_lt (Nat.lt_of_le_of_lt hnx8.zn hnx8.nx.lt)))
                  have Hnx8 := hide hnx8
                  have Hbp8 := hide (Hbp7.out.keep hbV2)
                  have hBpl : Bp < V2.heap.size := Hbp8.out.lt
                  clear hnx8 hbV2
                  go_wp2_with fail
                  with_reducible refine Hput.out.mono ?_
                  rintro e w9 ⟨rfl, hc9, A4, n4, c4, hnx9, hfr⟩
                  have hbp9 := hc9.blk Hbp8.out (fun e => by
                    rcases e with e | e | e
                    · exact blkT_neH Hbp8.out Hnx8.out.nx (by decide) e
                    · exact MapV.ne Hnx8.out.seen Hbp8.out e.symm
                    · exact Hne3.out _ e rfl)
                  have Hnx9 := hide hnx9
                  have Hbp9 := hide hbp9
                  have hne9 : ∀ r, blkA A4 = some r → r ≠ Bp := fun r hr => by
                    rcases hfr r hr with h1 | h1
                    · exact Hne3.out r h1
                    · omega
                  have Hne9 := hide hne9
                  clear hnx9 hbp9 hne9 hc9 hfr m2 m3 b1
                  go_wp2_with fail
                  go_roundw
                  case rel =>
                    refine ⟨j + 1, A4, n4, c4, addSp l3 (d.j, p.2 - d.n), by omega, by go_num, Hnx9.out, Hbp9.out, Hne9.out, (Hins3.out.add _).ext (fun y => ?_), fun y hy => ?_⟩
                    · obtain ⟨y1, y2⟩ := y
                      simp only [Prod.mk.injEq]
                      constructor
                      · rintro ((h1 | ⟨d', h1, h2⟩) | ⟨rfl, rfl⟩)
                        · exact .inl h1
                        · exact .inr ⟨d', (take_one Hdk.out d').2 (.inl h1), h2⟩
                        · exact .inr ⟨d, (take_one Hdk.out d).2 (.inr rfl), rfl, rfl, qq, Hqq.out, hlt2⟩
                      · rintro (h1 | ⟨d', h1, h2, h3, h4⟩)
                        · exact .inl (.inl h1)
                        · rcases (take_one Hdk.out d').1 h1 with h1 | rfl
                          · exact .inl (.inr ⟨d', h1, h2, h3, h4⟩)
                          · exact .inr ⟨h2, h3⟩
                    · rcases mem_addSp hy with hy | rfl
                      · exact Hbd3.out y hy
                      · exact ⟨i2, by simp only; omega⟩
                  case measure => simp [intOf]; omega
end Go.Proofs.YtmjiiddncbhgpaaGreat
