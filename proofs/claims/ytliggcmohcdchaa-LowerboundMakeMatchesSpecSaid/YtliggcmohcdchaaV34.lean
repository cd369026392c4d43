/- What the law of made tables' costs asks for, part 34: Rc1 Rc2. -/
import Derived.Test.YtliggcmohcdchaaV1
import Derived.Test.YtliggcmohcdchaaV2
import Derived.Test.YtliggcmohcdchaaV3
import Derived.Test.YtliggcmohcdchaaV4
import Derived.Test.YtliggcmohcdchaaV5
import Derived.Test.YtliggcmohcdchaaV6
import Derived.Test.YtliggcmohcdchaaV7
import Derived.Test.YtliggcmohcdchaaV8
import Derived.Test.YtliggcmohcdchaaV9
import Derived.Test.YtliggcmohcdchaaV16
import Derived.Test.YtliggcmohcdchaaV17
import Derived.Test.YtliggcmohcdchaaV28
import Derived.Test.YtliggcmohcdchaaV32
import Derived.Test.YtliggcmohcdchaaV33
import Derived.BigQuiet
import Derived.Deep.AppendLies
import Derived.Deep.DeepCutAuto
import Derived.Deep.Draws
import Derived.Deep.Fields
import Derived.Deep.LoopGhost
import Derived.Deep.QuietTactic
import Derived.Deep.RegionHeld3
import Derived.Deep.Slices
import Derived.DeepKeys4
import Derived.Ground.Names2Prog
import Derived.Ground.SlgnProg
import Derived.Ground.SlsfProg
import Derived.IntWalk
import Derived.Laws.AppendOwnNone
import Derived.Laws.BitsAllLaws
import Derived.Laws.EntriesVeiled
import Derived.Laws.OwnMore
import Derived.Lib.Hide
import Derived.Lib.SlicesCompact
import Derived.LoopIn
import Derived.LoopNIn
import Derived.Maps.AppendAt
import Derived.Maps.OwnIn
import Derived.Maps.OwnOps
import Derived.Maps.OwnSet
import Derived.OwnWalkIn
import Derived.RangeFuncBound
import Derived.RangeFuncCalls
import Derived.RangeFuncLeaves
import Derived.RangeFuncNested
import Derived.Shelf.Abstract
import Derived.Shelf.RegionOpen
import Derived.Shelf.Slices.Cells
import Derived.Shelf.Slices.Clone
import Derived.Shelf.Slices.CompactI
import Derived.Shelf.Slices.Empties
import Derived.Shelf.Slices.In.SortNone
import Derived.Shelf.Slices.SearchI
import Derived.Shelf.Sort.Plain
import Derived.Sort.OwnSortedInts
import Derived.StillTailTactics
import Derived.TacticsInMore
import Derived.Test.YtliggcmohcdchaaProg
import Derived.WalkKit
namespace Go.Proofs.Ytliggcmohcdchaa
set_option linter.unusedVariables false
set_option linter.unusedSimpArgs false
open Go.RowKit
/-- arcs from place i, of cost c, to the first k places that have the word x -/
def arcK (i : Nat) (c : Int) (ws : List Nat) (x : Nat) : Nat → List Arc
  | 0 => []
  | k + 1 => arcK i c ws x k ++ (if ws[k]? = some x then [⟨i, k, c⟩] else [])
/-- arcs of the first q operators in state s at place i -/
def arcQ (os : List Opr) (ws : List Nat) (s : List Int) (i : Nat) : Nat → List Arc
  | 0 => []
  | q + 1 => arcQ os ws s i q ++ (if subsetB (opAt os q).pre s = true then arcK i (opAt os q).cost ws (wordF (updF s (opAt os q).add (opAt os q).del)) ws.length else [])
/-- arcs of the first i states -/
def arcI (os : List Opr) (l : List (List Int)) : Nat → List Arc
  | 0 => []
  | i + 1 => arcI os l i ++ (match l[i]? with | none => [] | some s => arcQ os (l.map wordF) s i os.length)
theorem arcK_len (i : Nat) (c : Int) (ws : List Nat) (x k : Nat) : (arcK i c ws x k).length ≤ k := by
  induction k with
  | zero => simp [arcK]
  | succ k ih =>
    unfold arcK
    rw [List.length_append]
    split <;> simp <;> omega
theorem arcQ_len (os : List Opr) (ws : List Nat) (hw : ws.length ≤ 2000) (s : List Int) (i q : Nat) : (arcQ os ws s i q).length ≤ 2000 * q := by
  induction q with
  | zero => simp [arcQ]
  | succ q ih =>
    unfold arcQ
    rw [List.length_append]
    split
    · have := arcK_len i (opAt os q).cost ws (wordF (updF s (opAt os q).add (opAt os q).del)) ws.length
      omega
    · simp; omega
theorem arcI_len (os : List Opr) (l : List (List Int)) (ho : os.length ≤ 40) (hl : l.length ≤ 2000) (i : Nat) : (arcI os l i).length ≤ 80000 * i := by
  induction i with
  | zero => simp [arcI]
  | succ i ih =>
    unfold arcI
    rw [List.length_append]
    split
    · simp; omega
    · rename_i s _
      have := arcQ_len os (l.map wordF) (by simpa using hl) s i os.length
      omega
theorem arcK_mem {i : Nat} {c : Int} {ws : List Nat} {x k : Nat} {a : Arc} : a ∈ arcK i c ws x k ↔ a.src = i ∧ a.dst < k ∧ ws[a.dst]? = some x ∧ a.cost = c := by
  induction k with
  | zero => simp [arcK]
  | succ k ih =>
    unfold arcK
    rw [List.mem_append, ih]
    constructor
    · rintro (⟨h1, h2, h3, h4⟩ | h)
      · exact ⟨h1, by omega, h3, h4⟩
      · split at h
        · rename_i hk
          obtain rfl := List.mem_singleton.1 h
          exact ⟨rfl, by simp, hk, rfl⟩
        · cases h
    · rintro ⟨h1, h2, h3, h4⟩
      by_cases hk : a.dst = k
      · right
        rw [if_pos (by rw [← hk]; exact h3), List.mem_singleton]
        rcases a with ⟨s, d, e⟩
        simp only at h1 h4 hk
        rw [h1, hk, h4]
      · exact .inl ⟨h1, by omega, h3, h4⟩
theorem arcQ_mem {os : List Opr} {ws : List Nat} {s : List Int} {i q : Nat} {a : Arc} : a ∈ arcQ os ws s i q ↔ ∃ j, j < q ∧ subsetB (opAt os j).pre s = true ∧ a.src = i ∧ ws[a.dst]? = some (wordF (updF s (opAt os j).add (opAt os j).del)) ∧ a.cost = (opAt os j).cost := by
  induction q with
  | zero => simp [arcQ]
  | succ q ih =>
    unfold arcQ
    rw [List.mem_append, ih]
    constructor
    · rintro (⟨j, h1, h2⟩ | h)
      · exact ⟨j, by omega, h2⟩
      · split at h
        · rename_i hp
          obtain ⟨h1, h2, h3, h4⟩ := arcK_mem.1 h
          exact ⟨q, by omega, hp, h1, h3, h4⟩
        · cases h
    · rintro ⟨j, h1, hp, h2, h3, h4⟩
      by_cases hj : j = q
      · subst hj
        right
        rw [if_pos hp]
        exact arcK_mem.2 ⟨h2, (List.getElem?_eq_some_iff.1 h3).1, h3, h4⟩
      · exact .inl ⟨j, by omega, hp, h2, h3, h4⟩
theorem arcI_mem {os : List Opr} {l : List (List Int)} {n : Nat} {a : Arc} : a ∈ arcI os l n ↔ a.src < n ∧ ∃ s, l[a.src]? = some s ∧ a ∈ arcQ os (l.map wordF) s a.src os.length := by
  induction n with
  | zero => simp [arcI]
  | succ n ih =>
    unfold arcI
    rw [List.mem_append, ih]
    constructor
    · rintro (⟨h1, h2⟩ | h)
      · exact ⟨by omega, h2⟩
      · cases hs : l[n]? with
        | none => rw [hs] at h; cases h
        | some s =>
          rw [hs] at h
          simp only at h
          obtain ⟨j, _, _, h1, _⟩ := arcQ_mem.1 h
          subst h1
          exact ⟨by omega, s, hs, h⟩
    · rintro ⟨h1, s, h2, h3⟩
      by_cases hn : a.src = n
      · right
        rw [← hn, h2]
        exact h3
      · exact .inl ⟨by omega, s, h2, h3⟩
theorem arcI_ok {T : Tsk} {N : Nat} (hok : OkT T N) {l : List (List Int)} (hl : ∀ s ∈ l, setB N s = true) : arcsOk T l (arcI T.ops l l.length) := by
  have hopq : ∀ (j : Nat) (o : Opr), T.ops[j]? = some o → opAt T.ops j = o := fun j o h => opAt_eq h
  intro i k c
  constructor
  · rintro ⟨a, ha, rfl⟩
    obtain ⟨h1, s, h2, h3⟩ := arcI_mem.1 ha
    obtain ⟨j, h4, h5, _, h6, h7⟩ := arcQ_mem.1 h3
    simp only at h1 h2 h6 h7
    rw [List.getElem?_map] at h6
    cases ht : l[k]? with
    | none => rw [ht] at h6; cases h6
    | some t =>
      rw [ht] at h6
      have hw : wordF t = wordF (updF s (opAt T.ops j).add (opAt T.ops j).del) := by simpa using h6
      have hoj := List.getElem?_eq_getElem h4
      have hm : opAt T.ops j ∈ T.ops := by rw [hopq j _ hoj]; exact List.getElem_mem h4
      exact ⟨s, t, h2, rfl, (arc_iff hok (hl s (List.mem_of_getElem? h2))).2 ⟨_, hm, h5, hw, h7⟩⟩
  · rintro ⟨s, t, h1, h2, h3⟩
    obtain ⟨o, ho, hp, hw, hc⟩ := (arc_iff hok (hl s (List.mem_of_getElem? h1))).1 h3
    obtain ⟨j, hj⟩ := List.getElem?_of_mem ho
    have hjl := (List.getElem?_eq_some_iff.1 hj).1
    refine ⟨_, arcI_mem.2 ⟨(List.getElem?_eq_some_iff.1 h1).1, s, h1, arcQ_mem.2 ⟨j, hjl, ?_, rfl, ?_, ?_⟩⟩, rfl⟩
    · rw [hopq j o hj]; exact hp
    · rw [hopq j o hj, List.getElem?_map, h2, ← hw]; rfl
    · rw [hopq j o hj]; exact hc
/-- one number of a row of the call's own set -/
theorem RowI.set {B g n c : Nat} {w : World} {xs : List Int} (h : RowI B w (some ⟨g, 0, none⟩) n c xs) {j : Nat} (hj : j < n) {y : Int} (h1 : -9223372036854775808 ≤ y) (h2 : y ≤ 9223372036854775807) : RowI B (w.setCell ⟨g, j, none⟩ (.int .i64 y)) (some ⟨g, 0, none⟩) n c (xs.set j y) := by
  have hl := h.len
  obtain ⟨vs, k⟩ := h
  have hi := k.ints
  have hs := own_set hi hj (.int .i64 y)
  have hr : ∀ x ∈ xs, -9223372036854775808 ≤ x ∧ x ≤ 9223372036854775807 := fun x hx => by
    obtain ⟨i, hi⟩ := List.getElem?_of_mem hx
    obtain ⟨us, _, hf⟩ := k.elem i x hi
    exact hf.ok.2
  rw [show (xs.map (Value.int .i64)).set j (.int .i64 y) = (xs.set j y).map (Value.int .i64) by rw [List.map_set]] at hs
  refine ⟨_, hs, by rw [List.length_set]; exact hl, fun i x hx => ⟨[.int .i64 x], fun q v hq => ?_, firm_int ?_ ?_⟩⟩
  · cases q with
    | zero =>
      simp at hq
      subst hq
      show ((xs.set j y).map (Value.int .i64))[i * 1 + 0]? = _
      rw [Nat.mul_one, Nat.add_zero, List.getElem?_map, hx]
      rfl
    | succ q => simp at hq
  · rw [List.getElem?_set] at hx
    split at hx
    · split at hx
      · injection hx with hx; omega
      · cases hx
    · exact (hr x (List.mem_of_getElem? hx)).1
  · rw [List.getElem?_set] at hx
    split at hx
    · split at hx
      · injection hx with hx; omega
      · cases hx
    · exact (hr x (List.mem_of_getElem? hx)).2
theorem RowI.addr0 {B n c : Nat} {w : World} {A : Option Addr} {xs : List Int} (h : RowI B w A n c xs) (hn : 0 < n) : ∃ g, A = some ⟨g, 0, none⟩ := let ⟨_, k⟩ := h; own_addr k.own hn
theorem RowI.frozen0 {B g n c : Nat} {w : World} {xs : List Int} (h : RowI B w (some ⟨g, 0, none⟩) n c xs) (j : Nat) (hj : j < n) : w.frozen? ⟨g, j, none⟩ = false ∧ g < w.heap.size := by
  have hl := (h.base (r := g) rfl).2
  obtain ⟨_, k⟩ := h
  rcases k.own.2 with ⟨e, _⟩ | ⟨r, cap, cur, e, _, hc, _⟩
  · cases e
  · injection e with e1 _ _
    injection e1 with e1
    injection e1 with e1 _ _
    subst e1
    exact ⟨by simp [World.frozen?, hc], hl⟩
/-- the call's memory: the task's box, rows of numbers apart from each other -/
structure CrS (w W : World) (gT : Nat) (tc : List Value) (B1 : Nat) (rs : List (Option Addr × Nat × List Int)) : Prop where
  low : Below w.heap.size w W
  par : Blk 25 W gT tc
  rows : ∀ r ∈ rs, RowI B1 W r.1 r.2.2.length r.2.1 r.2.2
  ap : rs.Pairwise fun a b => ∀ r, blkA a.1 = some r → blkA b.1 ≠ some r
  g0 : w.heap.size ≤ gT
  g1 : gT < B1
  g2 : B1 ≤ W.heap.size
section
variable {w W W' : World} {gT B1 : Nat} {tc : List Value} {rs l1 l2 : List (Option Addr × Nat × List Int)} {A A' : Option Addr} {c c' : Nat} {xs ys : List Int}
theorem CrS.keep (h : CrS w W gT tc B1 rs) (hb : Below W.heap.size W W') : CrS w W' gT tc B1 rs :=
  ⟨h.low.trans (hb.mono h.low.size), h.par.keep hb, fun r hr => (h.rows r hr).keep hb, h.ap, h.g0, h.g1, Nat.le_trans h.g2 hb.size⟩
/-- the row between l1 and l2 has changed -/
theorem CrS.chg (h : CrS w W gT tc B1 (l1 ++ (A, c, xs) :: l2)) (hrow : RowI B1 W' A' ys.length c' ys) (hch : Chg (fun b => blkA A = some b) W W') (hat : blkA A' = blkA A ∨ ∃ r, blkA A' = some r ∧ W.heap.size ≤ r) : CrS w W' gT tc B1 (l1 ++ (A', c', ys) :: l2) := by
  have hA := h.rows (A, c, xs) (by simp)
  have hab : ∀ r, blkA A = some r → B1 ≤ r := fun r hr => (hA.base hr).1
  obtain ⟨ap1, ap2, ap3⟩ := List.pairwise_append.1 h.ap
  obtain ⟨ap4, ap5⟩ := List.pairwise_cons.1 ap2
  have hg0 := h.g0
  have hg1 := h.g1
  have hg2 := h.g2
  refine ⟨h.low.trans (hch.below (fun i hi => by have := hab i hi; omega) h.low.size), hch.blk h.par (fun e => by have := hab _ e; omega), fun r hr => ?_, ?_, h.g0, h.g1, Nat.le_trans h.g2 hch.size⟩
  · rcases List.mem_append.1 hr with hr | hr
    · exact (h.rows r (List.mem_append_left _ hr)).chg hch fun q hq e => ap3 r hr (A, c, xs) List.mem_cons_self q hq e
    · rcases List.mem_cons.1 hr with rfl | hr
      · exact hrow
      · exact (h.rows r (List.mem_append_right _ (List.mem_cons_of_mem _ hr))).chg hch fun q hq e => ap4 r hr q e hq
  · refine List.pairwise_append.2 ⟨ap1, List.pairwise_cons.2 ⟨fun b hb r hr => ?_, ap5⟩, fun a ha b hb r hr => ?_⟩
    · rcases hat with e | ⟨q, e, hq⟩
      · rw [e] at hr; exact ap4 b hb r hr
      · rw [e] at hr
        injection hr with hr
        intro e2
        have := ((h.rows b (List.mem_append_right _ (List.mem_cons_of_mem _ hb))).base e2).2
        omega
    · rcases List.mem_cons.1 hb with rfl | hb
      · rcases hat with e | ⟨q, e, hq⟩
        · show blkA A' ≠ some r
          rw [e]; exact ap3 a ha (A, c, xs) List.mem_cons_self r hr
        · show blkA A' ≠ some r
          rw [e]
          intro e2
          injection e2 with e2
          have := ((h.rows a (List.mem_append_left _ ha)).base hr).2
          omega
      · exact ap3 a ha b (List.mem_cons_of_mem _ hb) r hr
/-- one number more -/
theorem CrS.push (h : CrS w W gT tc B1 (l1 ++ (A, c, xs) :: l2)) {y : Int} (hrow : RowI B1 W' A' (xs.length + 1) c' (xs ++ [y])) (hch : Chg (fun b => blkA A = some b) W W') (hat : blkA A' = blkA A ∨ blkA A' = some (W.heap.size + 1)) : CrS w W' gT tc B1 (l1 ++ (A', c', xs ++ [y]) :: l2) :=
  h.chg (by rw [List.length_append]; exact hrow) hch (hat.imp id fun e => ⟨_, e, by omega⟩)
/-- three empty rows more -/
theorem CrS.five {A2 : Option Addr} {c2 : Nat} {zs : List Int} (h : CrS w W gT tc B1 [(A, c, xs), (A2, c2, zs)]) : CrS w W gT tc B1 [(A, c, xs), (A2, c2, zs), (none, 0, []), (none, 0, []), (none, 0, [])] := by
  refine ⟨h.low, h.par, fun r hr => ?_, ?_, h.g0, h.g1, h.g2⟩
  · simp only [List.mem_cons, List.not_mem_nil, or_false] at hr
    rcases hr with rfl | rfl | rfl | rfl | rfl
    · exact h.rows _ (by simp)
    · exact h.rows _ (by simp)
    · exact RowI.nil _ _
    · exact RowI.nil _ _
    · exact RowI.nil _ _
  · have := h.ap
    simp only [List.pairwise_cons, List.mem_cons, List.not_mem_nil, or_false, forall_eq] at this
    simp only [List.pairwise_cons, List.mem_cons, List.not_mem_nil, or_false, forall_eq_or_imp, forall_eq]
    have h1 := this.1
    simp [blkA] at h1 ⊢
    exact h1
/-- one number set -/
theorem CrS.set {g j : Nat} (h : CrS w W gT tc B1 (l1 ++ (some ⟨g, 0, none⟩, c, xs) :: l2)) (hj : j < xs.length) {y : Int} (h1 : -9223372036854775808 ≤ y) (h2 : y ≤ 9223372036854775807) : CrS w (W.setCell ⟨g, j, none⟩ (.int .i64 y)) gT tc B1 (l1 ++ (some ⟨g, 0, none⟩, c, xs.set j y) :: l2) :=
  h.chg (by rw [List.length_set]; exact (h.rows (some ⟨g, 0, none⟩, c, xs) (by simp)).set hj h1 h2) ((Chg.set W g j _).mono fun b e => by rw [e]; rfl) (.inl rfl)
end
end Go.Proofs.Ytliggcmohcdchaa
namespace Go.Proofs.Ytliggcmohcdchaa
set_option linter.unusedVariables false
set_option linter.unusedSimpArgs false
open Go.RowKit
/-- the costs at first -/
def outs0 (T : Tsk) (l : List (List Int)) : List Int := l.map fun s => if subsetB T.goal s = true then 0 else infC
theorem outs0_succ {T : Tsk} {l : List (List Int)} {k : Nat} {s : List Int} (h : l[k]? = some s) : outs0 T (l.take (k + 1)) = outs0 T (l.take k) ++ [if subsetB T.goal s = true then 0 else infC] := by
  unfold outs0; rw [List.take_add_one, h, List.map_append]; rfl
def wordsI (l : List (List Int)) : List Int := l.map fun s => (wordF s : Int)
theorem wordsI_succ {l : List (List Int)} {k : Nat} {s : List Int} (h : l[k]? = some s) : wordsI (l.take (k + 1)) = wordsI (l.take k) ++ [(wordF s : Int)] := by
  unfold wordsI; rw [List.take_add_one, h, List.map_append]; rfl
theorem outs0_len (T : Tsk) (l : List (List Int)) : (outs0 T l).length = l.length := by unfold outs0; rw [List.length_map]
theorem wordsI_len (l : List (List Int)) : (wordsI l).length = l.length := by unfold wordsI; rw [List.length_map]
def srcs (ar : List Arc) : List Int := ar.map fun a => (a.src : Int)
def dsts (ar : List Arc) : List Int := ar.map fun a => (a.dst : Int)
def csts (ar : List Arc) : List Int := ar.map fun a => a.cost
/-- one number more, on a long row -/
theorem wpList_pushL {w : World} {ops : Array Oper} {rest : List Oper} {o : Oper} {a : Act} {Q : Exit → Act → World → Prop} (hgd : o.guard = none) (s x : Operand)
    (ho : o.op = .call { callee := .builtin .append, args := #[s, x], argTypes := #[22, 22] })
    {B : Nat} {A : Option Addr} {n c : Nat} {xs : List Int} (hs : a.eval s = .slice A n c) (hown : RowI B w A n c xs) (y : Int) (hy1 : -9223372036854775808 ≤ y) (hy2 : y ≤ 9223372036854775807) (hx : a.eval x = .slice (some ⟨w.heap.size, 0, none⟩) 1 1) (hn : n ≤ 1000000000) (hbase : B ≤ w.heap.size)
    (h : ∀ O oc w', RowI B w' O (n + 1) oc (xs ++ [y]) → Chg (fun b => blkA A = some b) w w' → (blkA O = blkA A ∨ blkA O = some (w.heap.size + 1)) → wpList Try.prog ops Q rest (a.put o.dst (.slice O (n + 1) oc)) w') :
    wpList Try.prog ops Q (o :: rest) a (w.alloc (.cells #[.int .i64 y] 3)) := by
  obtain ⟨i1, hi1, hz0, hz1, hz2⟩ := info_parts intInfoS
  obtain ⟨vs, hown⟩ := hown
  exact wpList_pushE hgd s x 22 ho B 3 i1 (.int .i64 0) 8 Try.underlying22 hi1 hz0 hz1 hz2 rfl (by decide) hs hown (fun _ _ => trivial) [.int .i64 y] y (by intro u hu; simp at hu; subst hu; rfl) hx (firm_int hy1 hy2) (by omega) (by omega) hbase
    fun O oc w' hown' hch hat => h O oc w' ⟨_, hown'.less fun _ _ _ => .inl trivial⟩ hch hat
/-- no arc of ar lowers a cost -/
def noMore (ar : List Arc) (o : List Int) : Prop := ∀ a ∈ ar, ∀ x y, o[a.dst]? = some x → o[a.src]? = some y → ¬ (x < infC ∧ x + a.cost < y)
def RCostsP (w : World) (T : Tsk) (l : List (List Int)) (e : Ending) (w' : World) : Prop :=
  Below w.heap.size w w' ∧ ∃ (A : Option Addr) (c : Nat) (f : Nat → Int), e = .returned (.slice A l.length c) ∧ Rd Enc.int w' A l.length c (l.map fun s => f (wordF s)) ∧ Least (arcW (T.ops.map mkOp)) (goalW (wordF T.goal)) infC (· ∈ l.map wordF) f
set_option maxRecDepth 100000 in
set_option maxHeartbeats 25600000 in
theorem RCosts_ct (a : TA) (T : Tsk) (N : Nat) (B : Option Addr) (n c : Nat) (l : List (List Int)) (w : World) (h : TkR w a T) (hok : OkT T N) (hl : Rd (Enc.sl Enc.int) w B n c l) (hsets : ∀ s ∈ l, setB N s = true) (hfew : l.length ≤ 2000) (hall : AllOf (stepW (T.ops.map mkOp)) (wordF T.init) (l.map wordF)) :
    Calls Try.prog 22 #[.agg #[.int .i64 T.facts, .slice a.I a.nI a.cI, .slice a.G a.nG a.cG, .slice a.O a.nO a.cO], .slice B n c] w (RCostsP w T l) := by
  have happ := fun B m d l q w h hl hq => RApplies_ct a T B m d l q w h hl hq
  have haft := fun B m d l q w h hl hq => RAfter_ct a T N B m d l q w h hok.facts (by have := hok.low; omega) hl hq
  have hN := hok.low
  have hset32 : ∀ {l : List Int}, setB N l = true → setB 32 l = true := fun hl => setB_iff.2 ⟨(setB_iff.1 hl).1, fun x hx => by have := (setB_iff.1 hl).2 x hx; omega⟩
  have hwl : ∀ {l : List Int}, setB N l = true → wordF l < 4294967296 := fun hl => word_lt fun x hx => by have := (setB_iff.1 hl).2 x hx; exact ⟨this.1, by omega⟩
  have hword := fun A m c l w h hl => RWord_ct A m c l w h (hset32 hl)
  obtain ⟨I, nI, cI, G, nG, cG, O, nO, cO⟩ := a
  simp only at happ haft ⊢
  have hlO := h.ops.len
  have h40 := hok.few
  simp only at hlO
  have hnO : nO ≤ 40 := by rw [← hlO]; exact h40
  have hlow := hl.low
  have hlo2 := h.ops.low
  simp only at hlo2
  have Hlen := hide hl.len
  have hn2 : n ≤ 2000 := by rw [← hl.len]; exact hfew
  have hn0 : 0 < n := by
    rw [← hl.len]
    have := (hall.mem _).2 .start
    obtain ⟨s, hs, _⟩ := List.mem_map.1 this
    exact List.length_pos_of_mem hs
  have Happ := hide happ
  have Haft := hide haft
  have Hword := hide hword
  have Hwl := hide (fun (l : List Int) (hl : setB N l = true) => hwl hl)
  have H := hide h
  have Hl := hide hl
  have Hok := hide hok
  have Hall := hide hall
  have Hsets := hide hsets
  have HlO := hide hlO
  have hsub := fun A n1 c1 s W (hT : TkR W ⟨I, nI, cI, G, nG, cG, O, nO, cO⟩ T) (hs : Rd Enc.int W A n1 c1 s) => Subset_ct G A nG cG n1 c1 T.goal s W hT.goal hs
  have Hsub := hide hsub
  clear h hl hok hall hsets hlO h40 happ haft hword hwl hset32 hfew hsub
  go_enter Try.func22, Try.ntmps22
  go_upto_region 1 with (fail)
  have hT := Blk.new w 25 [.int .i64 T.facts, .slice I nI cI, .slice G nG cG, .slice O nO cO]
  have hb0 := (Below.refl w.heap.size w).alloc (Nat.le_refl _) (.cells #[.int .i64 T.facts, .slice I nI cI, .slice G nG cG, .slice O nO cO] 25)
  have hz0 : (w.alloc (.cells #[.int .i64 T.facts, .slice I nI cI, .slice G nG cG, .slice O nO cO] 25)).heap.size = w.heap.size + 1 := by simp only [World.size_alloc]
  obtain ⟨W0, hW0⟩ : ∃ W0, W0 = w.alloc (.cells #[.int .i64 T.facts, .slice I nI cI, .slice G nG cG, .slice O nO cO] 25) := ⟨_, rfl⟩
  rw [← hW0] at hT hb0 hz0 ⊢
  clear hW0
  obtain ⟨gT, hgT⟩ : ∃ g, g = w.heap.size := ⟨_, rfl⟩
  rw [← hgT] at hT ⊢
  obtain ⟨B1, hB1⟩ : ∃ B, B = W0.heap.size := ⟨_, rfl⟩
  have hrw : ∀ r ∈ [((none : Option Addr), 0, ([] : List Int)), (none, 0, [])], RowI B1 W0 r.1 r.2.2.length r.2.1 r.2.2 := fun r hr => by
    rcases List.mem_cons.1 hr with rfl | hr
    · exact RowI.nil _ _
    · rcases List.mem_cons.1 hr with rfl | hr
      · exact RowI.nil _ _
      · cases hr
  have hS0 : CrS w W0 gT [.int .i64 T.facts, .slice I nI cI, .slice G nG cG, .slice O nO cO] B1 [(none, 0, []), (none, 0, [])] := ⟨hb0, hT, hrw, by simp [blkA], by omega, by omega, by omega⟩
  have HS0 := hide hS0
  clear hS0 hT hb0 hz0 hgT hB1 hrw
  go_wp2_with fail
  go_loopw [5, 6, 7] (fun s5 s6 i wr => ∃ (k : Nat) (X : Option Addr) (xc : Nat) (V : Option Addr) (vc : Nat), k ≤ n ∧ i = .int .i64 k ∧ s5 = .slice X k xc ∧ s6 = .slice V k vc ∧ CrS w wr gT [.int .i64 T.facts, .slice I nI cI, .slice G nG cG, .slice O nO cO] B1 [(X, xc, outs0 T (l.take k)), (V, vc, wordsI (l.take k))]) (fun _ _ i _ => n - (intOf i).toNat)
  case atStart => exact ⟨0, none, 0, none, 0, by omega, rfl, rfl, rfl, HS0.out⟩
  case round =>
    obtain ⟨k, X, xc, V, vc, hk, rfl, rfl, rfl, hS⟩ := hrel
    have HS := hide hS
    clear hS HS0
    by_cases hlt : k < n
    · skip
      obtain ⟨b, off, s, A1, n1, c1, rfl, hx, hcx, hrd⟩ := (Hl.out.keep HS.out.low).sl hlt
      have hset := Hsets.out s (List.mem_of_getElem? hx)
      have hwx := Hwl.out s hset
      have hwc := Hword.out A1 n1 c1 s wr hrd hset
      have ho1 := outs0_succ (T := T) hx
      have ho2 := wordsI_succ hx
      have hkn : (k : Int) < (n : Int) := by omega
      have hL1 : (wordsI (l.take k)).length = k := by rw [wordsI_len, List.length_take, Hlen.out]; omega
      have hL0 : (outs0 T (l.take k)).length = k := by rw [outs0_len, List.length_take, Hlen.out]; omega
      have hrowV := HS.out.rows (V, vc, wordsI (l.take k)) (by simp)
      have hrowX := HS.out.rows (X, xc, outs0 T (l.take k)) (by simp)
      simp only [hL1] at hrowV
      simp only [hL0] at hrowX
      obtain ⟨x, hxw⟩ : ∃ x, x = wordF s := ⟨_, rfl⟩
      rw [← hxw] at hwx hwc ho2
      obtain ⟨vg, hvg⟩ : ∃ v, v = subsetB T.goal s := ⟨_, rfl⟩
      rw [← hvg] at ho1
      have Hwc := hide hwc
      have Ho1 := hide ho1
      have Ho2 := hide ho2
      have Hvg := hide hvg
      have HrV := hide hrowV
      have HrX := hide hrowX
      have HL0 := hide hL0
      have HL1 := hide hL1
      have Hx := hide hx
      clear hwc ho1 ho2 hvg hrowV hrowX hxw hset hL0 hL1 hx hrd
      have Hcx := hide hcx
      have hg2 := HS.out.g2
      go_upto_region 7 with (first
        | (go_at_call 50; (with_reducible refine Hwc.out.mono ?_); rintro e w9 ⟨rfl, rfl⟩)
        | (at_builtin
           refine wpList_pushI rfl _ _ rfl rfl HrV.out (x : Int) (by omega) (by omega) rfl (by omega) hg2 ?_
           intro O7 oc7 w10 hrow7 hch7 hat7
           have hS7 := CrS.push (l1 := [(X, xc, outs0 T (l.take k))]) (l2 := []) HS.out (y := (x : Int)) (by rw [HL1.out]; exact hrow7) hch7 hat7
           rw [← Ho2.out] at hS7
           have HS7 := hide hS7
           clear hrow7 hch7 hat7 hS7))
      clear hcx
      obtain ⟨b', off', s', A1', n1', c1', eb, hx', hcx, hrd⟩ := (Hl.out.keep HS7.out.low).sl hlt
      injection eb with eb
      injection eb with eb1 eb2
      subst eb1 eb2
      obtain rfl : s = s' := Option.some.inj (Hx.out.symm.trans hx')
      have hct := fun W (hW : Qt w10 W) => Hsub.out A1' n1' c1' s W (H.out.keep (HS7.out.low.trans ((hW.below _).mono HS7.out.low.size))) (hrd.qt hW)
      rw [← Hvg.out] at hct
      have Hct := hide hct
      clear hct hx' hrd
      obtain ⟨t0, t1, t2, t3⟩ := HS7.out.par.cell4
      have tl := HS7.out.par.lt
      go_quiet ((go_at_call 42; with_reducible exact quiet_call (Hct.out _ ((Qt.refl _).drewN _))))
      obtain ⟨w11, hW⟩ : ∃ W, W = w10.drewN nq := ⟨_, rfl⟩
      have hb := below_drewN (Below.refl w10.heap.size w10) nq
      rw [← hW] at hb ⊢
      clear hW
      have HS8 := hide (HS7.out.keep hb)
      clear hb t0 t1 t2 t3 tl hcx
      have hrX8 := HS8.out.rows (X, xc, outs0 T (l.take k)) (by simp)
      simp only [HL0.out] at hrX8
      have HrX8 := hide hrX8
      have hg28 := HS8.out.g2
      clear hrX8
      cases vg with
      | true =>
        go_wp2_with (first
          | (at_builtin
             refine wpList_pushI rfl _ _ rfl rfl HrX8.out (0 : Int) (by omega) (by omega) rfl (by omega) hg28 ?_
             intro O9 oc9 w12 hrow9 hch9 hat9
             have hS9 := CrS.push (l1 := []) (l2 := [(O7, oc7, wordsI (l.take (k + 1)))]) HS8.out (y := (0 : Int)) (by rw [HL0.out]; exact hrow9) hch9 hat9
             have HS9 := hide hS9
             clear hrow9 hch9 hat9 hS9))
        go_roundw
        case rel =>
          refine ⟨k + 1, O9, oc9, O7, oc7, by omega, by go_num, rfl, rfl, ?_⟩
          have := HS9.out
          rw [Ho1.out]
          exact this
        case measure => simp [intOf]; omega
      | false =>
        go_wp2_with (first
          | (at_builtin
             refine wpList_pushI rfl _ _ rfl rfl HrX8.out (1000000000 : Int) (by omega) (by omega) rfl (by omega) hg28 ?_
             intro O9 oc9 w12 hrow9 hch9 hat9
             have hS9 := CrS.push (l1 := []) (l2 := [(O7, oc7, wordsI (l.take (k + 1)))]) HS8.out (y := (1000000000 : Int)) (by rw [HL0.out]; exact hrow9) hch9 hat9
             have HS9 := hide hS9
             clear hrow9 hch9 hat9 hS9))
        go_roundw
        case rel =>
          refine ⟨k + 1, O9, oc9, O7, oc7, by omega, by go_num, rfl, rfl, ?_⟩
          have := HS9.out
          rw [Ho1.out]
          exact this
        case measure => simp [intOf]; omega
    · skip
      obtain rfl : k = n := by omega
      have hS := HS.out
      rw [List.take_of_length_le (by rw [Hlen.out]; omega)] at hS
      replace HS := hide hS
      clear hS
      have HS5 := hide HS.out.five
      clear HS
      go_wp2_with fail
      obtain ⟨w1, rfl⟩ : ∃ W, W = wr := ⟨_, rfl⟩
      have hlk := Hlen.out
      have HwsL := hide (show (wordsI l).length = k by rw [wordsI_len, Hlen.out])
      go_loopw [8, 9, 10, 11] (fun s8 s9 s10 iv wr => ∃ (i : Nat) (Fa : Option Addr) (fc : Nat) (Ta : Option Addr) (tc : Nat) (Ca : Option Addr) (cc : Nat) (ar : List Arc) (r : Nat), i ≤ k ∧ iv = .int .i64 i ∧ s8 = .slice Fa r fc ∧ s9 = .slice Ta r tc ∧ s10 = .slice Ca r cc ∧ CrS w wr gT [.int .i64 T.facts, .slice I nI cI, .slice G nG cG, .slice O nO cO] B1 [(X, xc, outs0 T l), (V, vc, wordsI l), (Fa, fc, srcs ar), (Ta, tc, dsts ar), (Ca, cc, csts ar)] ∧ ar = arcI T.ops l i ∧ ar.length = r) (fun _ _ _ iv _ => k - (intOf iv).toNat)
      case atStart => exact ⟨0, none, 0, none, 0, none, 0, [], 0, by omega, rfl, rfl, rfl, rfl, HS5.out, rfl, rfl⟩
      case round =>
        obtain ⟨i, Fa, fc, Ta, tc, Ca, cc, ar, r, hi, rfl, rfl, rfl, rfl, hS, har, hrl⟩ := hrel
        have HS := hide hS
        have Har := hide har
        have Hrl := hide hrl
        clear hS har hrl HS5
        by_cases hlt2 : i < k
        rotate_left
        · skip
          obtain rfl : i = k := by omega
          have hrB : r ≤ 160000000 := by
            have h1 := arcI_len T.ops l Hok.out.few (by rw [Hlen.out]; exact hn2) i
            rw [← Har.out, Hrl.out] at h1
            omega
          have hok2 : arcsOk T l ar := by
            rw [Har.out, show i = l.length from Hlen.out.symm]
            exact arcI_ok Hok.out Hsets.out
          have Hok2 := hide hok2
          have HR0 := hide (show RInv T l (outs0 T l) from RInv.start Hok.out Hsets.out)
          have hXa : ∃ g, X = some ⟨g, 0, none⟩ := (HS.out.rows (X, xc, outs0 T l) (by simp)).addr0 (by show 0 < (outs0 T l).length; rw [outs0_len, Hlen.out]; exact hn0)
          obtain ⟨gX, rfl⟩ := hXa
          have hpl : ∀ a ∈ ar, a.src < i ∧ a.dst < i ∧ 0 ≤ a.cost ∧ a.cost ≤ 100 := fun a ha => by
            obtain ⟨s, t, h1, h2, h3⟩ := (hok2 a.src a.dst a.cost).1 ⟨a, ha, rfl⟩
            have h4 := (List.getElem?_eq_some_iff.1 h1).1
            have h5 := (List.getElem?_eq_some_iff.1 h2).1
            rw [Hlen.out] at h4 h5
            exact ⟨h4, h5, arc_cost Hok.out h3⟩
          have Hpl := hide hpl
          have Hlr := hide (show (srcs ar).length = r ∧ (dsts ar).length = r ∧ (csts ar).length = r by unfold srcs dsts csts; simp only [List.length_map]; exact ⟨Hrl.out, Hrl.out, Hrl.out⟩)
          clear hok2 hpl
          go_wp2_with fail
          obtain ⟨w2, rfl⟩ : ∃ W, W = wr := ⟨_, rfl⟩
          go_loopg [15] (2 * sumN (outs0 T l) + 1) (fun gk ag wr => ∃ (b : Bool) (os : List Int), ag = .bool b ∧ gk = 2 * sumN os + (if b = true then 1 else 0) ∧ CrS w wr gT [.int .i64 T.facts, .slice I nI cI, .slice G nG cG, .slice O nO cO] B1 [(some ⟨gX, 0, none⟩, xc, os), (V, vc, wordsI l), (Fa, fc, srcs ar), (Ta, tc, dsts ar), (Ca, cc, csts ar)] ∧ RInv T l os ∧ (b = false → noMore ar os))
          case atStart => exact ⟨true, outs0 T l, rfl, by simp, HS.out, HR0.out, fun h => by cases h⟩
          case round =>
            obtain ⟨b, os, rfl, hgk, hS, hR, hnm⟩ := hrel
            clear HS HR0
            have HS := hide hS
            have HR := hide hR
            have Hnm := hide hnm
            have Hgk := hide hgk
            clear hS hR hnm hgk
            cases b with
            | false =>
              go_wp2_with fail
              go_ret
              obtain ⟨f, hf, hos⟩ := RInv.done Hok.out Hsets.out Hall.out Hok2.out HR.out (Hnm.out (by simp))
              have hrd := (HS.out.rows (some ⟨gX, 0, none⟩, xc, os) (by simp)).rd
              have hlo : os.length = i := by rw [HR.out.len, Hlen.out]
              simp only [hlo] at hrd
              refine ⟨HS.out.low, some ⟨gX, 0, none⟩, xc, f, by rw [Hlen.out]; rfl, ?_, hf⟩
              rw [Hlen.out, ← hos]
              exact hrd
            | true =>
              go_wp2_with fail
              obtain ⟨w3, rfl⟩ : ∃ W, W = wr := ⟨_, rfl⟩
              go_loopw [15, 16] (fun ag av wr => ∃ (p : Nat) (b : Bool) (us : List Int), p ≤ r ∧ av = .int .i64 p ∧ ag = .bool b ∧ CrS w wr gT [.int .i64 T.facts, .slice I nI cI, .slice G nG cG, .slice O nO cO] B1 [(some ⟨gX, 0, none⟩, xc, us), (V, vc, wordsI l), (Fa, fc, srcs ar), (Ta, tc, dsts ar), (Ca, cc, csts ar)] ∧ RInv T l us ∧ (b = true → sumN us < sumN os) ∧ (b = false → us = os ∧ noMore (ar.take p) os)) (fun _ av _ => r - (intOf av).toNat)
              case atStart => exact ⟨0, false, os, by omega, rfl, rfl, HS.out, HR.out, (fun h => by cases h), fun _ => ⟨rfl, fun a ha => by simp at ha⟩⟩
              case round =>
                clear HS HR Hnm
                obtain ⟨p, b, us, hp, rfl, rfl, hS, hR, hb1, hb2⟩ := hrel
                have HS := hide hS
                have HR := hide hR
                have Hb1 := hide hb1
                have Hb2 := hide hb2
                clear hS hR hb1 hb2
                by_cases hltp : p < r
                rotate_left
                · have hpe : ar.take p = ar := List.take_of_length_le (by rw [Hrl.out]; omega)
                  have hgk : gk = 2 * sumN os + 1 := by simpa using Hgk.out
                  go_wp2_with fail
                  cases b with
                  | false =>
                    obtain ⟨e1, e2⟩ := Hb2.out rfl
                    go_roundg (2 * sumN us)
                    case measure => rw [e1]; omega
                    case rel => exact ⟨false, us, rfl, by simp, HS.out, HR.out, fun _ => by rw [e1, ← hpe]; exact e2⟩
                  | true =>
                    have e1 := Hb1.out rfl
                    go_roundg (2 * sumN us + 1)
                    case measure => omega
                    case rel => exact ⟨true, us, rfl, by simp, HS.out, HR.out, fun h => by cases h⟩
                have hget : ar[p]? = some (ar[p]'(by rw [Hrl.out]; exact hltp)) := List.getElem?_eq_getElem _
                obtain ⟨a, ha⟩ : ∃ a, ar[p]? = some a := ⟨_, hget⟩
                have hmem := List.mem_of_getElem? ha
                obtain ⟨hsl0, hdl0, a1, a2⟩ := Hpl.out a hmem
                have hlo : us.length = i := by rw [HR.out.len, Hlen.out]
                obtain ⟨x, hx⟩ : ∃ x, us[a.dst]? = some x := ⟨_, List.getElem?_eq_getElem (by rw [hlo]; exact hdl0)⟩
                obtain ⟨y, hy⟩ : ∃ y, us[a.src]? = some y := ⟨_, List.getElem?_eq_getElem (by rw [hlo]; exact hsl0)⟩
                have hx0 := HR.out.low _ _ hx
                have hx1 := HR.out.high _ _ hx
                have hy0 := HR.out.low _ _ hy
                have hy1 := HR.out.high _ _ hy
                unfold infC at hx1 hy1
                have hrX := HS.out.rows (some ⟨gX, 0, none⟩, xc, us) (by simp)
                have hrF := (HS.out.rows (Fa, fc, srcs ar) (by simp)).rd
                have hrT := (HS.out.rows (Ta, tc, dsts ar) (by simp)).rd
                have hrC := (HS.out.rows (Ca, cc, csts ar) (by simp)).rd
                simp only [Hlr.out.1] at hrF
                simp only [Hlr.out.2.1] at hrT
                simp only [Hlr.out.2.2] at hrC
                simp only [hlo] at hrX
                obtain ⟨hfz, hgl⟩ := hrX.frozen0 a.src hsl0
                obtain ⟨bX, oX, x', eX, hx', _, _, cX⟩ := hrX.rd.int hdl0
                injection eX with eX
                injection eX with e1 e2
                subst e1 e2
                obtain rfl : x = x' := Option.some.inj (hx.symm.trans hx')
                obtain ⟨bX, oX, y', eX, hy', _, _, cY⟩ := hrX.rd.int hsl0
                injection eX with eX
                injection eX with e1 e2
                subst e1 e2
                obtain rfl : y = y' := Option.some.inj (hy.symm.trans hy')
                obtain ⟨bF, oF, sF, rfl, hsF, _, _, cF⟩ := hrF.int hltp
                obtain ⟨bT, oT, sT, rfl, hsT, _, _, cT⟩ := hrT.int hltp
                obtain ⟨bC, oC, sC, rfl, hsC, _, _, cC⟩ := hrC.int hltp
                obtain rfl : sF = (a.src : Int) := by
                  unfold srcs at hsF
                  rw [List.getElem?_map, ha] at hsF
                  exact (Option.some.inj hsF).symm
                obtain rfl : sT = (a.dst : Int) := by
                  unfold dsts at hsT
                  rw [List.getElem?_map, ha] at hsT
                  exact (Option.some.inj hsT).symm
                obtain rfl : sC = a.cost := by
                  unfold csts at hsC
                  rw [List.getElem?_map, ha] at hsC
                  exact (Option.some.inj hsC).symm
                rw [Nat.zero_add] at cX cY
                have hpr : (p : Int) < (r : Int) := by omega
                have hsi : (a.src : Int) < (i : Int) := by omega
                have hdi : (a.dst : Int) < (i : Int) := by omega
                have htk : ar.take (p + 1) = ar.take p ++ [a] := by rw [List.take_add_one, ha]; rfl
                have hwr : IntKind.i64.wrap (x + a.cost) = x + a.cost := by rw [IntWalk.i64_in _ (by omega)]
                have Htk := hide htk
                have Hx := hide hx
                have Hy := hide hy
                have Hmem := hide hmem
                have Hlo := hide hlo
                clear htk hx hy hmem hlo ha hget hrX hrF hrT hrC hx' hy' hsF hsT hsC
                rcases a with ⟨aS, aD, aC⟩
                simp only at hsl0 hdl0 a1 a2 cX cY cF cT cC hsi hdi hwr hfz Hx Hy
                go_upto_region 32 with (fail)
                have hnoR : ¬ (x < infC ∧ x + aC < y) → ∀ (us' : List Int), us' = us → (b = false → us' = os ∧ noMore (ar.take (p + 1)) os) := fun hno us' e hbf => by
                  obtain ⟨e1, e2⟩ := Hb2.out hbf
                  refine ⟨by rw [e, e1], fun z hz x1 y1 h1 h2 => ?_⟩
                  rw [Htk.out] at hz
                  rcases List.mem_append.1 hz with hz | hz
                  · exact e2 z hz x1 y1 h1 h2
                  · obtain rfl := List.mem_singleton.1 hz
                    rw [← e1] at h1 h2
                    obtain rfl := Option.some.inj (h1.symm.trans Hx.out)
                    obtain rfl := Option.some.inj (h2.symm.trans Hy.out)
                    exact hno
                have HnoR := hide hnoR
                clear hnoR
                by_cases hxi : x < 1000000000
                · by_cases hlt3 : x + aC < y
                  · skip
                    go_quiet (fail)
                    obtain ⟨w5, hW⟩ : ∃ W, W = wr.drewN nq := ⟨_, rfl⟩
                    have hb := below_drewN (Below.refl wr.heap.size wr) nq
                    have cX5 : w5.cell? ⟨gX, aD, none⟩ = some (.int .i64 x) := by rw [hW]; exact cX
                    have cF5 : w5.cell? ⟨bF, oF + p, none⟩ = some (.int .i64 aS) := by rw [hW]; exact cF
                    have cT5 : w5.cell? ⟨bT, oT + p, none⟩ = some (.int .i64 aD) := by rw [hW]; exact cT
                    have cC5 : w5.cell? ⟨bC, oC + p, none⟩ = some (.int .i64 aC) := by rw [hW]; exact cC
                    have hfz5 : w5.frozen? ⟨gX, aS, none⟩ = false := by rw [hW]; exact hfz
                    have hgl5 : gX < w5.heap.size := by rw [hW]; exact hgl
                    have cY5 : w5.cell? ⟨gX, aS, none⟩ = some (.int .i64 y) := by rw [hW]; exact cY
                    rw [← hW] at hb ⊢
                    clear hW cX cY cF cT cC hfz hgl
                    replace HS := hide (HS.out.keep hb)
                    clear hb
                    go_upto_region 33 with (fail)
                    go_still_tail 18, (by kernel_rfl)
                    change wpList _ _ _ _ _ w5.drew
                    have HS6 := hide (HS.out.keep (Below.refl w5.heap.size w5).drew)
                    obtain ⟨w6, hW⟩ : ∃ W, W = w5.drew := ⟨_, rfl⟩
                    have hfz6 : w6.frozen? ⟨gX, aS, none⟩ = false := by rw [hW]; exact hfz5
                    have hgl6 : gX < w6.heap.size := by rw [hW]; exact hgl5
                    have cY6 : w6.cell? ⟨gX, aS, none⟩ = some (.int .i64 y) := by rw [hW]; exact cY5
                    rw [← hW] at HS6 ⊢
                    clear hW cX5 cY5 cF5 cT5 cC5 hfz5 hgl5 HS
                    have hsl : aS < us.length := by rw [Hlo.out]; exact hsl0
                    have hS7 := CrS.set (l1 := []) (l2 := [(V, vc, wordsI l), (some ⟨bF, oF, none⟩, fc, srcs ar), (some ⟨bT, oT, none⟩, tc, dsts ar), (some ⟨bC, oC, none⟩, cc, csts ar)]) HS6.out hsl (y := x + aC) (by omega) (by omega)
                    have HS7 := hide hS7
                    have HR7 := hide (HR.out.relax Hok.out Hsets.out Hok2.out Hmem.out Hx.out Hy.out hxi hlt3)
                    have hsum := sum_set us aS (x + aC) y Hy.out (by omega) hlt3
                    have hsle : sumN us ≤ sumN os := by
                      cases b with
                      | true => have := Hb1.out rfl; omega
                      | false => rw [(Hb2.out rfl).1]; exact Nat.le_refl _
                    clear hS7
                    go_wp2_with fail
                    go_roundw
                    case rel => exact ⟨p + 1, true, us.set aS (x + aC), by omega, by go_num, rfl, HS7.out, HR7.out, fun _ => by omega, fun h => by cases h⟩
                    case measure => simp [intOf]; omega
                  · skip
                    have hno : ¬ (x < infC ∧ x + aC < y) := fun h => hlt3 h.2
                    go_quiet (fail)
                    go_wp2_with fail
                    go_roundw
                    case rel => exact ⟨p + 1, b, us, by omega, by go_num, rfl, HS.out.keep (below_drewN (Below.refl _ _) _), HR.out, Hb1.out, HnoR.out hno us rfl⟩
                    case measure => simp [intOf]; omega
                · have hno : ¬ (x < infC ∧ x + aC < y) := fun h => hxi h.1
                  go_quiet (fail)
                  go_wp2_with fail
                  go_roundw
                  case rel => exact ⟨p + 1, b, us, by omega, by go_num, rfl, HS.out.keep (below_drewN (Below.refl _ _) _), HR.out, Hb1.out, HnoR.out hno us rfl⟩
                  case measure => simp [intOf]; omega
        obtain ⟨b, off, s, A1, n1, c1, rfl, hx, hcx, hrd⟩ := (Hl.out.keep HS.out.low).sl hlt2
        have hset := Hsets.out s (List.mem_of_getElem? hx)
        have hr1 : r ≤ 80000 * i := by
          have h1 := arcI_len T.ops l Hok.out.few (by rw [Hlen.out]; exact hn2) i
          rw [← Har.out, Hrl.out] at h1
          exact h1
        have hik : (i : Int) < (k : Int) := by omega
        have hstep : arcI T.ops l (i + 1) = ar ++ arcQ T.ops (l.map wordF) s i T.ops.length := by
          show arcI T.ops l i ++ _ = _
          rw [hx, ← Har.out]
        have Hstep := hide hstep
        have Hset := hide hset
        have Hx := hide hx
        have Har0 := hide Har.out
        clear hcx hrd hstep hset hx
        obtain ⟨A0, hA0⟩ : ∃ A, A = ar := ⟨_, rfl⟩
        have HA0 := hide hA0
        rw [← hA0] at Hstep
        have hat0 : ar = A0 ++ arcQ T.ops (l.map wordF) s i 0 := by rw [hA0]; simp [arcQ]
        have Hat0 := hide hat0
        have HA0l := hide (show A0.length ≤ 80000 * i by rw [hA0, Hrl.out]; exact hr1)
        clear hA0 hat0 hr1
        obtain ⟨t0, t1, t2, t3⟩ := HS.out.par.cell4
        have tl := HS.out.par.lt
        go_wp2_with fail
        clear t0 t1 t2 t3 tl
        obtain ⟨w2, rfl⟩ : ∃ W, W = wr := ⟨_, rfl⟩
        go_loopw [8, 9, 10, 12] (fun s8 s9 s10 qv wr => ∃ (q : Nat) (Fa : Option Addr) (fc : Nat) (Ta : Option Addr) (tc : Nat) (Ca : Option Addr) (cc : Nat) (ar : List Arc) (r : Nat), q ≤ nO ∧ qv = .int .i64 q ∧ s8 = .slice Fa r fc ∧ s9 = .slice Ta r tc ∧ s10 = .slice Ca r cc ∧ CrS w wr gT [.int .i64 T.facts, .slice I nI cI, .slice G nG cG, .slice O nO cO] B1 [(X, xc, outs0 T l), (V, vc, wordsI l), (Fa, fc, srcs ar), (Ta, tc, dsts ar), (Ca, cc, csts ar)] ∧ ar = A0 ++ arcQ T.ops (l.map wordF) s i q ∧ ar.length = r) (fun _ _ _ qv _ => nO - (intOf qv).toNat)
        case atStart => exact ⟨0, Fa, fc, Ta, tc, Ca, cc, ar, r, by omega, rfl, rfl, rfl, rfl, HS.out, Hat0.out, Hrl.out⟩
        case round =>
          clear HS Har Hrl HA0 Hat0 Har0
          obtain ⟨q, Fa, fc, Ta, tc, Ca, cc, ar, r, hq, rfl, rfl, rfl, rfl, hS, har, hrl⟩ := hrel
          have HS := hide hS
          have Har := hide har
          have Hrl := hide hrl
          clear hS har hrl
          obtain ⟨t0, t1, t2, t3⟩ := HS.out.par.cell4
          have tl := HS.out.par.lt
          by_cases hltq : q < nO
          rotate_left
          · have hqe : q = nO := by omega
            have har := Har.out
            rw [hqe, ← HlO.out, ← Hstep.out] at har
            replace Har := hide har
            clear har hqe
            go_wp2_with fail
            go_roundw
            case rel => exact ⟨i + 1, Fa, fc, Ta, tc, Ca, cc, ar, r, by omega, by go_num, rfl, rfl, rfl, HS.out, Har.out, Hrl.out⟩
            case measure => simp [intOf]; omega
          obtain ⟨b1, o1, s', A1', n1', c1', e1, hx1, hcx, hrd⟩ := (Hl.out.keep HS.out.low).sl hlt2
          injection e1 with e1
          injection e1 with e1 e2
          subst e1 e2
          obtain rfl : s = s' := Option.some.inj (Hx.out.symm.trans hx1)
          have hoq : T.ops[q]? = some (opAt T.ops q) := by
            have hq2 : q < T.ops.length := by rw [HlO.out]; exact hltq
            rw [opAt_eq (List.getElem?_eq_getElem hq2)]
            exact List.getElem?_eq_getElem hq2
          have hop := Hok.out.ops _ (List.mem_of_getElem? hoq)
          have hsq : arcQ T.ops (l.map wordF) s i (q + 1) = arcQ T.ops (l.map wordF) s i q ++ (if subsetB (opAt T.ops q).pre s = true then arcK i (opAt T.ops q).cost (l.map wordF) (wordF (updF s (opAt T.ops q).add (opAt T.ops q).del)) (l.map wordF).length else []) := rfl
          obtain ⟨op, hopq⟩ : ∃ op, op = opAt T.ops q := ⟨_, rfl⟩
          rw [← hopq] at hop hsq hoq
          have Hop := hide hop
          have Hsq := hide hsq
          have Hopq := hide hopq
          have Hoq := hide hoq
          have Hrd := hide hrd
          have Hcx := hide hcx
          have hqi : (q : Int) < (nO : Int) := by omega
          have hrq : r ≤ 80000 * i + 2000 * q := by
            have h1 := arcQ_len T.ops (l.map wordF) (by rw [List.length_map, Hlen.out]; exact hn2) s i q
            have h2 := Hrl.out
            rw [Har.out, List.length_append] at h2
            have := HA0l.out
            omega
          clear hop hsq hoq hopq hrd hx1
          go_upto_region 17 with (fail)
          go_still_tail 6, (by kernel_rfl)
          change wpList _ _ _ _ _ wr.drew
          obtain ⟨w5, hW⟩ : ∃ W, W = wr.drew := ⟨_, rfl⟩
          have hb : Below wr.heap.size wr w5 := by rw [hW]; exact (Below.refl _ _).drew
          rw [← hW]
          clear hW t0 t1 t2 t3 tl
          replace HS := hide (HS.out.keep hb)
          replace Hrd := hide (Hrd.out.keep hb)
          replace Hcx := hide ((hb.cell (p := ⟨b, off + i, none⟩) (World.block_lt_of_cell? _ _ Hcx.out)).trans Hcx.out)
          clear hb hcx
          have hcx := Hcx.out
          obtain ⟨t0, t1, t2, t3⟩ := HS.out.par.cell4
          have tl := HS.out.par.lt
          have hct := Happ.out A1' n1' c1' s q w5 (H.out.keep HS.out.low) Hrd.out hltq
          rw [← Hopq.out] at hct
          obtain ⟨v1, hv1⟩ : ∃ z, z = subsetB op.pre s := ⟨_, rfl⟩
          rw [← hv1] at hct
          have Hv1 := hide hv1
          have Hct := hide hct
          clear hv1 hct
          go_wp2_with fail
          with_reducible refine Hct.out.mono ?_
          rintro e w6 ⟨rfl, hb⟩
          clear Hct t0 t1 t2 t3 tl
          replace HS := hide (HS.out.keep hb)
          replace Hrd := hide (Hrd.out.keep hb)
          replace Hcx := hide ((hb.cell (p := ⟨b, off + i, none⟩) (World.block_lt_of_cell? _ _ Hcx.out)).trans Hcx.out)
          clear hb hcx
          have hcx := Hcx.out
          obtain ⟨t0, t1, t2, t3⟩ := HS.out.par.cell4
          have tl := HS.out.par.lt
          cases v1 with
          | false =>
            have hsq := Hsq.out
            rw [if_neg (by rw [← Hv1.out]; simp), List.append_nil] at hsq
            replace Hsq := hide hsq
            clear hsq
            go_wp2_with fail
            go_roundw
            case rel => exact ⟨q + 1, Fa, fc, Ta, tc, Ca, cc, ar, r, by omega, by go_num, rfl, rfl, rfl, HS.out, by rw [Hsq.out]; exact Har.out, Hrl.out⟩
            case measure => simp [intOf]; omega
          | true =>
            have hsq := Hsq.out
            rw [if_pos (by rw [← Hv1.out])] at hsq
            replace Hsq := hide hsq
            clear hsq
            go_upto_region 18 with (fail)
            go_still_tail 6, (by kernel_rfl)
            change wpList _ _ _ _ _ w6.drew
            obtain ⟨w7, hW⟩ : ∃ W, W = w6.drew := ⟨_, rfl⟩
            have hb : Below w6.heap.size w6 w7 := by rw [hW]; exact (Below.refl _ _).drew
            rw [← hW]
            clear hW t0 t1 t2 t3 tl
            replace HS := hide (HS.out.keep hb)
            replace Hrd := hide (Hrd.out.keep hb)
            replace Hcx := hide ((hb.cell (p := ⟨b, off + i, none⟩) (World.block_lt_of_cell? _ _ Hcx.out)).trans Hcx.out)
            clear hb hcx
            have hcx := Hcx.out
            obtain ⟨t0, t1, t2, t3⟩ := HS.out.par.cell4
            have tl := HS.out.par.lt
            have hct := Haft.out A1' n1' c1' s q w7 (H.out.keep HS.out.low) Hrd.out hltq
            rw [← Hopq.out, aftR_upd Hop.out Hset.out] at hct
            have hnx := upd_setB Hset.out Hop.out
            obtain ⟨nx, hnxe⟩ : ∃ nx, nx = updF s op.add op.del := ⟨_, rfl⟩
            rw [← hnxe] at hct hnx
            have hsq := Hsq.out
            rw [← hnxe] at hsq
            obtain ⟨x, hxe⟩ : ∃ x, x = wordF nx := ⟨_, rfl⟩
            rw [← hxe] at hsq
            replace Hsq := hide hsq
            have Hct := hide hct
            have Hnx := hide hnx
            have Hxe := hide hxe
            clear hsq hct hnx hnxe hxe
            go_wp2_with fail
            with_reducible refine Hct.out.mono ?_
            rintro e w8 ⟨hb, A2, c2, rfl, hown⟩
            have hni : ∀ x ∈ nx, -9223372036854775808 ≤ x ∧ x ≤ 9223372036854775807 := fun x hx => by
              have := (setB_iff.1 Hnx.out).2 x hx
              omega
            have hrdn := own_rd hown rfl hni
            have hwd := Hword.out A2 nx.length c2 nx w8 hrdn Hnx.out
            rw [← Hxe.out] at hwd
            have hwx : x < 4294967296 := by rw [Hxe.out]; exact Hwl.out nx Hnx.out
            obtain ⟨ln, hln⟩ : ∃ ln, ln = nx.length := ⟨_, rfl⟩
            rw [← hln] at hwd ⊢
            have Hwd := hide hwd
            clear Hct t0 t1 t2 t3 tl
            replace HS := hide (HS.out.keep hb)
            clear hb hcx Hcx Hrd hown hni hrdn hwd hln
            go_wp2_with fail
            with_reducible refine Hwd.out.mono ?_
            rintro e w9 ⟨rfl, rfl⟩
            go_wp2_with fail
            have hn40 : nO ≤ 40 := hnO
            obtain ⟨A9, hA9⟩ : ∃ A, A = ar := ⟨_, rfl⟩
            have HA9 := hide (show A9 ++ arcK i op.cost (l.map wordF) x (l.map wordF).length = A0 ++ arcQ T.ops (l.map wordF) s i (q + 1) by rw [Hsq.out, hA9, Har.out, List.append_assoc])
            have Hat9 := hide (show ar = A9 ++ arcK i op.cost (l.map wordF) x 0 by rw [hA9]; simp [arcK])
            have HA9l := hide (show A9.length ≤ 80000 * i + 2000 * q by rw [hA9, Hrl.out]; exact hrq)
            clear hA9 hrq
            obtain ⟨w10, rfl⟩ : ∃ W, W = w8 := ⟨_, rfl⟩
            go_loopw [8, 9, 10, 14] (fun s8 s9 s10 jv wr => ∃ (j : Nat) (Fa : Option Addr) (fc : Nat) (Ta : Option Addr) (tc : Nat) (Ca : Option Addr) (cc : Nat) (ar : List Arc) (r : Nat), j ≤ k ∧ jv = .int .i64 j ∧ s8 = .slice Fa r fc ∧ s9 = .slice Ta r tc ∧ s10 = .slice Ca r cc ∧ CrS w wr gT [.int .i64 T.facts, .slice I nI cI, .slice G nG cG, .slice O nO cO] B1 [(X, xc, outs0 T l), (V, vc, wordsI l), (Fa, fc, srcs ar), (Ta, tc, dsts ar), (Ca, cc, csts ar)] ∧ ar = A9 ++ arcK i op.cost (l.map wordF) x j ∧ ar.length = r) (fun _ _ _ jv _ => k - (intOf jv).toNat)
            case atStart => exact ⟨0, Fa, fc, Ta, tc, Ca, cc, ar, r, by omega, rfl, rfl, rfl, rfl, HS.out, Hat9.out, Hrl.out⟩
            case round =>
              clear HS Har Hrl Hat9
              obtain ⟨j, Fa, fc, Ta, tc, Ca, cc, ar, r, hj, rfl, rfl, rfl, rfl, hS, har, hrl⟩ := hrel
              have HS := hide hS
              have Har := hide har
              have Hrl := hide hrl
              clear hS har hrl
              by_cases hltj : j < k
              rotate_left
              · have hje : j = (l.map wordF).length := by rw [List.length_map, Hlen.out]; omega
                have har := Har.out
                rw [hje, HA9.out] at har
                replace Har := hide har
                clear har hje
                go_wp2_with fail
                go_roundw
                case rel => exact ⟨q + 1, Fa, fc, Ta, tc, Ca, cc, ar, r, by omega, by go_num, rfl, rfl, rfl, HS.out, Har.out, Hrl.out⟩
                case measure => simp [intOf]; omega
              have hrj : r ≤ 80000 * i + 2000 * q + j := by
                have h1 := arcK_len i op.cost (l.map wordF) x j
                have h2 := Hrl.out
                rw [Har.out, List.length_append] at h2
                have := HA9l.out
                omega
              have hVr := (HS.out.rows (V, vc, wordsI l) (by simp)).rd
              simp only [HwsL.out] at hVr
              obtain ⟨bv, ov, xv, rfl, hxv, _, _, hcv⟩ := hVr.int hltj
              obtain ⟨y, hy, hyx⟩ : ∃ y, (l.map wordF)[j]? = some y ∧ xv = (y : Int) := by
                unfold wordsI at hxv
                rw [List.getElem?_map] at hxv ⊢
                cases hl : l[j]? with
                | none => rw [hl] at hxv; cases hxv
                | some z => rw [hl] at hxv; exact ⟨wordF z, rfl, by simpa using hxv.symm⟩
              subst hyx
              have hks : arcK i op.cost (l.map wordF) x (j + 1) = arcK i op.cost (l.map wordF) x j ++ (if (l.map wordF)[j]? = some x then [⟨i, j, op.cost⟩] else []) := rfl
              rw [hy] at hks
              have Hks := hide hks
              have hjk : (j : Int) < (k : Int) := by omega
              clear hks hy hxv hVr
              by_cases he : y = x
              · skip
                have hks := Hks.out
                rw [if_pos (by rw [he])] at hks
                replace Hks := hide hks
                have hyb : ((y : Int) == (x : Int)) = true := by rw [he]; simp
                have hrF := HS.out.rows (Fa, fc, srcs ar) (by simp)
                simp only [show (srcs ar).length = r by unfold srcs; rw [List.length_map, Hrl.out]] at hrF
                have HrF := hide hrF
                have hg2 := HS.out.g2
                have Hlr := hide (show (srcs ar).length = r ∧ (dsts ar).length = r ∧ (csts ar).length = r by unfold srcs dsts csts; simp only [List.length_map]; exact ⟨Hrl.out, Hrl.out, Hrl.out⟩)
                obtain ⟨bo, oo, o', B1', m1', d1', B2', m2', d2', B3', m3', d3', eO, hoo, _, _, _, _, _, _, _, _⟩ := (H.out.keep HS.out.low).ops.op hltq
                obtain rfl : op = o' := Option.some.inj (Hoq.out.symm.trans hoo)
                subst eO
                have hco1 := Hop.out.low
                have hco2 := Hop.out.high
                clear hks hrF hoo he
                go_upto_region 24 with (first
                  | (at_builtin
                     refine wpList_pushL rfl _ _ rfl rfl HrF.out (i : Int) (by omega) (by omega) rfl (by omega) hg2 ?_
                     intro O7 oc7 w12 hrow7 hch7 hat7
                     have hS7 := CrS.push (l1 := [(X, xc, outs0 T l), (some ⟨bv, ov, none⟩, vc, wordsI l)]) (l2 := [(Ta, tc, dsts ar), (Ca, cc, csts ar)]) HS.out (y := (i : Int)) (by rw [Hlr.out.1]; exact hrow7) hch7 hat7
                     have HS7 := hide hS7
                     clear hrow7 hch7 hat7 hS7))
                have hrT := HS7.out.rows (Ta, tc, dsts ar) (by simp)
                simp only [Hlr.out.2.1] at hrT
                have HrT := hide hrT
                have hg27 := HS7.out.g2
                clear hrT hcv
                go_upto_region 25 with (first
                  | (at_builtin
                     refine wpList_pushL rfl _ _ rfl rfl HrT.out (j : Int) (by omega) (by omega) rfl (by omega) hg27 ?_
                     intro O8 oc8 w13 hrow8 hch8 hat8
                     have hS8 := CrS.push (l1 := [(X, xc, outs0 T l), (some ⟨bv, ov, none⟩, vc, wordsI l), (O7, oc7, srcs ar ++ [(i : Int)])]) (l2 := [(Ca, cc, csts ar)]) HS7.out (y := (j : Int)) (by rw [Hlr.out.2.1]; exact hrow8) hch8 hat8
                     have HS8 := hide hS8
                     clear hrow8 hch8 hat8 hS8))
                obtain ⟨bo2, oo2, o', _, _, _, _, _, _, _, _, _, eO, hoo, _, _, _, g3, _, _, _, _⟩ := (H.out.keep HS8.out.low).ops.op hltq
                obtain rfl : op = o' := Option.some.inj (Hoq.out.symm.trans hoo)
                injection eO with eO
                injection eO with e1 e2
                subst e1 e2
                have hrC := HS8.out.rows (Ca, cc, csts ar) (by simp)
                simp only [Hlr.out.2.2] at hrC
                have HrC := hide hrC
                have hg28 := HS8.out.g2
                obtain ⟨t0, t1, t2, t3⟩ := HS8.out.par.cell4
                have tl := HS8.out.par.lt
                clear hrC hoo
                go_wp2_with (first
                  | (at_builtin
                     refine wpList_pushL rfl _ _ rfl rfl HrC.out op.cost (by omega) (by omega) rfl (by omega) hg28 ?_
                     intro O9 oc9 w14 hrow9 hch9 hat9
                     have hS9 := CrS.push (l1 := [(X, xc, outs0 T l), (some ⟨bv, ov, none⟩, vc, wordsI l), (O7, oc7, srcs ar ++ [(i : Int)]), (O8, oc8, dsts ar ++ [(j : Int)])]) (l2 := []) HS8.out (y := op.cost) (by rw [Hlr.out.2.2]; exact hrow9) hch9 hat9
                     have HS9 := hide hS9
                     clear hrow9 hch9 hat9 hS9))
                go_roundw
                case rel =>
                  refine ⟨j + 1, O7, oc7, O8, oc8, O9, oc9, ar ++ [⟨i, j, op.cost⟩], r + 1, by omega, by go_num, rfl, rfl, rfl, ?_, by rw [Hks.out, ← List.append_assoc, ← Har.out], by rw [List.length_append, Hrl.out]; rfl⟩
                  have := HS9.out
                  unfold srcs dsts csts at this ⊢
                  simp only [List.map_append, List.map_cons, List.map_nil]
                  exact this
                case measure => simp [intOf]; omega
              · skip
                have hks := Hks.out
                rw [if_neg (by intro e; injection e with e; exact he e), List.append_nil] at hks
                replace Hks := hide hks
                have hyb : ((y : Int) == (x : Int)) = false := by rw [beq_eq_false_iff_ne]; omega
                clear hks he
                go_wp2_with fail
                go_roundw
                case rel => exact ⟨j + 1, Fa, fc, Ta, tc, Ca, cc, ar, r, by omega, by go_num, rfl, rfl, rfl, HS.out, by rw [Hks.out]; exact Har.out, Hrl.out⟩
                case measure => simp [intOf]; omega
end Go.Proofs.Ytliggcmohcdchaa
