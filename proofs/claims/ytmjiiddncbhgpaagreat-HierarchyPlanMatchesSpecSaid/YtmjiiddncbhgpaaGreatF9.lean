/- The law HierarchyPlanMatchesSpec of the package hierarchy holds, without a condition., part 9: Sw8. -/
import Derived.Test.YtmjiiddncbhgpaaGreatF1
import Derived.Test.YtmjiiddncbhgpaaGreatF2
import Derived.Test.YtmjiiddncbhgpaaGreatF3
import Derived.Test.YtmjiiddncbhgpaaGreatF4
import Derived.Test.YtmjiiddncbhgpaaGreatF5
import Derived.Test.YtmjiiddncbhgpaaGreatF6
import Derived.Test.YtmjiiddncbhgpaaGreatF7
import Derived.Test.YtmjiiddncbhgpaaGreatF8
import Derived.BigQuiet
import Derived.Deep.AppendLies
import Derived.Deep.DeepCutAuto
import Derived.Deep.Draws
import Derived.Deep.Fields
import Derived.Deep.LoopGhost
import Derived.Deep.QuietTactic
import Derived.Deep.RegionHeld3
import Derived.Deep.Slices
import Derived.DeepKeys4
import Derived.Laws.AppendOwnNone
import Derived.Laws.BitsAllLaws
import Derived.Laws.OwnMore
import Derived.Lib.Hide
import Derived.Lib.SlicesCompact
import Derived.LoopIn
import Derived.LoopNIn
import Derived.Maps.AppendAt
import Derived.Maps.OwnIn
import Derived.Maps.OwnOps
import Derived.Maps.OwnSet
import Derived.OwnWalkIn
import Derived.RangeFuncBound
import Derived.RangeFuncCalls
import Derived.RangeFuncLeaves
import Derived.RangeFuncNested
import Derived.Shelf.Abstract
import Derived.Shelf.RegionOpen
import Derived.TacticsInMore
import Derived.Test.YtmjiiddncbhgpaaGreatProg
import Derived.WalkKit
namespace Go.Proofs.YtmjiiddncbhgpaaGreat
set_option linter.unusedVariables false
set_option linter.unusedSimpArgs false
open Go.RowKit Go.Shelf Go.Maps
attribute [local go_sem] Oper.semAt_some
theorem stepsW_step : ∀ (ms : List Mk) (i s t : Nat), stepW ms s t ↔ ∃ x ∈ stepsW i ms s, x.2.2 = t := by
  intro ms
  induction ms with
  | nil => intro i s t; constructor
           · rintro ⟨m, hm, _⟩; cases hm
           · rintro ⟨x, hx, _⟩; cases hx
  | cons m ms ih =>
    intro i s t
    unfold stepsW
    constructor
    · rintro ⟨m', hm, hc, rfl⟩
      rcases List.mem_cons.1 hm with rfl | hm
      · rw [if_pos hc]
        exact ⟨_, List.mem_cons_self, rfl⟩
      · obtain ⟨x, hx, e⟩ := (ih (i + 1) s _).1 ⟨m', hm, hc, rfl⟩
        split
        · exact ⟨x, List.mem_cons_of_mem _ hx, e⟩
        · exact ⟨x, hx, e⟩
    · rintro ⟨x, hx, rfl⟩
      split at hx
      · rename_i hc
        rcases List.mem_cons.1 hx with rfl | hx
        · exact ⟨m, List.mem_cons_self, hc, rfl⟩
        · obtain ⟨m', hm, h1, h2⟩ := (ih (i + 1) s _).2 ⟨x, hx, rfl⟩
          exact ⟨m', List.mem_cons_of_mem _ hm, h1, h2⟩
      · obtain ⟨m', hm, h1, h2⟩ := (ih (i + 1) s _).2 ⟨x, hx, rfl⟩
        exact ⟨m', List.mem_cons_of_mem _ hm, h1, h2⟩
theorem stepsW_len : ∀ (ms : List Mk) (i s : Nat), (stepsW i ms s).length ≤ ms.length := by
  intro ms
  induction ms with
  | nil => intro i s; simp [stepsW]
  | cons m ms ih =>
    intro i s
    unfold stepsW
    have := ih (i + 1) s
    split <;> simp only [List.length_cons] <;> omega
theorem goW_lt {s : Nat} {m : Mk} (hs : s < 4294967296) (h : MkOk m) : goW s m < 4294967296 := by
  unfold goW
  have h1 := less_lt hs h.del
  have h2 := h.add
  have : lessW s m.del ||| m.add < 2 ^ 32 := Nat.or_lt_two_pow (by simpa using h1) (by simpa using h2)
  simpa using this
/-- each step: its cost and the word behind it are within bounds -/
theorem stepsW_ok : ∀ (ms : List Mk) (i s : Nat), s < 4294967296 → (∀ m ∈ ms, MkOk m) → ∀ x ∈ stepsW i ms s, x.2.2 < 4294967296 ∧ 0 ≤ x.2.1 ∧ x.2.1 ≤ 100 ∧ x.1 < i + ms.length := by
  intro ms
  induction ms with
  | nil => intro i s _ _ x hx; cases hx
  | cons m ms ih =>
    intro i s hs hm x hx
    have hm2 := fun m' h => hm m' (List.mem_cons_of_mem m h)
    unfold stepsW at hx
    split at hx
    · rcases List.mem_cons.1 hx with rfl | hx
      · have hok := hm m List.mem_cons_self
        exact ⟨goW_lt hs hok, hok.low, hok.high, by simp⟩
      · have := ih (i + 1) s hs hm2 x hx
        simp only [List.length_cons]
        exact ⟨this.1, this.2.1, this.2.2.1, by omega⟩
    · have := ih (i + 1) s hs hm2 x hx
      simp only [List.length_cons]
      exact ⟨this.1, this.2.1, this.2.2.1, by omega⟩
theorem start_method (g : Nat) (w : World) : (method 411 91 (.pointer (some ⟨g, 0, none⟩)) "Start").run Tryz.prog w = .ok (65, .pointer (some ⟨g, 0, none⟩)) w := by kernel_rfl
theorem steps_method (g : Nat) (w : World) : (method 411 91 (.pointer (some ⟨g, 0, none⟩)) "Steps").run Tryz.prog w = .ok (117, .pointer (some ⟨g, 0, none⟩)) w := by kernel_rfl
/-- what holds at each round of the search -/
def AllI (w : World) (g s0 : Nat) (ms : List Mk) (Sb Mb mb : Nat) (v13 : Value) (k : Nat) (a : Act) (wr : World) : Prop :=
  ∃ (A : Option Addr) (n c : Nat) (O : Option Addr) (q oc : Nat) (out st : List Nat) (Ds : List Nat) (u7 u19 u20 u21 u22 u23 u24 u25 u26 u27 u28 u29 u30 u31 u32 u33 u34 u35 u36 u37 u38 u39 u59 u60 u61 : Value), k = 2001 - out.length ∧
    a = { tmps := #[.iface 91 (.pointer (some ⟨g, 0, none⟩)), undef, .slice none 0 0, .bool false, .pointer (some ⟨Sb, 0, none⟩), .pointer (some ⟨Mb, 0, none⟩), .slice O q oc, u7, undef, undef, undef, .iface 91 (.pointer (some ⟨g, 0, none⟩)), .int .u32 s0, v13, .map (some mb), .iface 91 (.pointer (some ⟨g, 0, none⟩)), .int .u32 s0, .agg #[], .map (some mb), u19, u20, u21, u22, u23, u24, u25, u26, u27, u28, u29, u30, u31, u32, u33, u34, u35, u36, u37, u38, u39, undef, undef, undef, undef, undef, undef, undef, undef, undef, undef, undef, undef, undef, undef, undef, undef, undef, undef, undef, u59, u60, u61, undef], defers := Ds.map markD } ∧
    AllS w wr Sb Mb mb A n c O q oc out st ∧ Seen (stepW ms) s0 out st ∧ (out ++ st).length ≤ 2000 ∧ (∀ D ∈ Ds, w.heap.size ≤ D ∧ wr.heap[D]? = some (.deferred (some []))) ∧ Ds.Nodup
/-- what holds between two steps of a taken state -/
def AllJ (w : World) (ms : List Mk) (s0 s : Nat) (Sb Mb mb Bs BL : Nat) (O : Option Addr) (q oc : Nat) (out Ds : List Nat) (pre : List (Stp ms s)) (W : World) : Prop :=
  ∃ (A : Option Addr) (n c : Nat) (st : List Nat), AllS w W Sb Mb mb A n c O q oc out st ∧ SeenAt (stepW ms) s0 out st s (fun t => stepW ms s t ∧ t ∉ pre.map (·.1.2.2)) ∧
    (∀ r, blkA A = some r → r ≠ Bs) ∧ (∀ D ∈ Ds, D < BL ∧ W.heap[D]? = some (.deferred (some []))) ∧ mb < BL ∧ w.heap.size ≤ BL ∧ out.length ≤ 2000 ∧ n ≤ 2000 + pre.length ∧ Bs < W.heap.size
theorem AllJ.own {w : World} {ms : List Mk} {s0 s Sb Mb mb Bs BL : Nat} {O : Option Addr} {q oc : Nat} {out Ds : List Nat} : OwnFrom BL (AllJ w ms s0 s Sb Mb mb Bs BL O q oc out Ds) := by
  rintro pre X Y row ⟨A, n, c, st, h1, h2, h3, h4, h5, h6, h7, h8, h9⟩ hg hr
  exact ⟨A, n, c, st, h1.turn hg hr h6 h5, h2, h3, fun D hD => ⟨(h4 D hD).1, (hg.block D (Array.getElem?_eq_some_iff.1 (h4 D hD).2).1 (fun e => by have := (hr D e.symm).1; have := (h4 D hD).1; omega)).trans (h4 D hD).2⟩, h5, h6, h7, h8, Nat.lt_of_lt_of_le h9 hg.size⟩
theorem AllJ.keep {w : World} {ms : List Mk} {s0 s Sb Mb mb Bs BL : Nat} {O : Option Addr} {q oc : Nat} {out Ds : List Nat} {pre : List (Stp ms s)} {W W' : World} (h : AllJ w ms s0 s Sb Mb mb Bs BL O q oc out Ds pre W) (hb : Below W.heap.size W W') : AllJ w ms s0 s Sb Mb mb Bs BL O q oc out Ds pre W' := by
  obtain ⟨A, n, c, st, h1, h2, h3, h4, h5, h6, h7, h8, h9⟩ := h
  exact ⟨A, n, c, st, h1.keep hb, h2, h3, fun D hD => ⟨(h4 D hD).1, (hb.block D (Array.getElem?_eq_some_iff.1 (h4 D hD).2).1).trans (h4 D hD).2⟩, h5, h6, h7, h8, Nat.lt_of_lt_of_le h9 hb.size⟩
/-- the loop's variable in its box -/
def StpBox (fr : Value → Value → Array Value) {ms : List Mk} {s : Nat} (x : Stp ms s) (a' : Act) (W : World) : Prop :=
  ∃ Bx, Blk 193 W Bx [.int .i64 x.1.1, .int .i64 x.1.2.1, .int .u32 x.1.2.2] ∧ a' = { tmps := fr (.pointer (some ⟨Bx, 0, none⟩)) (stpV x.1), defers := [] }
theorem StpBox.own {fr : Value → Value → Array Value} {ms : List Mk} {s : Nat} {B : Nat} (x : Stp ms s) (a' : Act) : OwnFrom B (fun (_ : Unit) W => StpBox fr x a' W) := by
  rintro _ X Y row ⟨Bx, h1, h2⟩ hg hr
  exact ⟨Bx, h1.grown hg (turn_ne hr h1.cells), h2⟩
set_option maxRecDepth 100000 in
set_option maxHeartbeats 6400000 in
theorem All_ct (g s0 gl : Nat) (ms : List Mk) (w : World) (h : WordsR w g s0 gl ms) :
    Calls Tryz.prog 96 #[.iface 91 (.pointer (some ⟨g, 0, none⟩))] w (AllP w ms s0) := by
  have H := hide h
  clear h
  refine (callsIn_wide (n := 8)).1 (callsIn_of_wp_marks Tryz.func96 rfl trivial (wpIn_wide.2 ?_) rfl)
  simp only [Tryz.ntmps96, List.size_toArray, List.length_cons, List.length_nil, Nat.reduceAdd, Nat.reduceSub, Array.replicate_succ, Array.replicate_zero, List.push_toArray, List.append_toArray, List.nil_append, List.cons_append]
  have hm1 := start_method g
  have hm2 := steps_method g
  have Hst := hide (fun W hb => Start_ct g s0 gl ms W (H.out.keep hb))
  go_upto_region 2 with (go_at_call 65; refine (Hst.out _ (Below.refl _ _)).mono ?_; rintro e w' ⟨rfl, rfl⟩)
  have hs0 := H.out.start
  have hr := rowW_one w s0 hs0
  have hb1 := (Below.refl w.heap.size w).alloc (Nat.le_refl _) (.cells #[.int .u32 s0] 78)
  have hz1 : (w.alloc (.cells #[.int .u32 s0] 78)).heap.size = w.heap.size + 1 := by simp only [World.size_alloc]
  obtain ⟨W1, hW1⟩ : ∃ W, W = w.alloc (.cells #[.int .u32 s0] 78) := ⟨_, rfl⟩
  rw [← hW1] at hr hb1 hz1 ⊢
  clear hW1
  have hsb := Blk.new W1 92 [.slice (some ⟨w.heap.size, 0, none⟩) 1 1]
  have hb2 := (Below.refl W1.heap.size W1).alloc (Nat.le_refl _) (.cells #[.slice (some ⟨w.heap.size, 0, none⟩) 1 1] 92)
  have hz2 : (W1.alloc (.cells #[.slice (some ⟨w.heap.size, 0, none⟩) 1 1] 92)).heap.size = w.heap.size + 1 + 1 := by simp only [World.size_alloc, hz1]
  obtain ⟨W2, hW2⟩ : ∃ W, W = W1.alloc (.cells #[.slice (some ⟨w.heap.size, 0, none⟩) 1 1] 92) := ⟨_, rfl⟩
  rw [← hW2, hz1] at hsb
  rw [← hW2] at hb2 hz2 ⊢
  clear hW2
  replace hr := hr.keep hb2
  replace hb1 := hb1.trans (hb2.mono (by omega))
  clear hb2 hz1
  have hm0 := MapV.made (κ := Nat) W2 Tryz.prog 78 encW
  have hb3 := hb1.alloc (by omega) (.map #[] 0)
  obtain ⟨W3, hput, hmap, hg3, hz3⟩ := hm0.put encW_inj (int_keyed Tryz.underlying78) (T := 205) (E := 179) Tryz.underlying205 (by omega) (key := s0) (keyW Tryz.underlying78 hs0) (.agg #[])
  simp only [encW] at hput
  have hc3 : Below W2.heap.size W2 W3 := ((Below.refl W2.heap.size W2).alloc (Nat.le_refl _) (.map #[] 0)).grown hg3 (by simp) (fun k e => by injection e with e; omega)
  have hmm := @run_makeMap Tryz.prog
  have Hr := hide (hr.keep hc3)
  have Hsb := hide (hsb.keep hc3)
  have Hb3 := hide (hb1.trans (hc3.mono (by omega)))
  have Hmap := hide hmap
  have Hb2 := hide hb3
  have Hz2 := hide hz2
  have Hz3 := hide hz3
  clear hr hsb hb1 hc3 hmap hb3 hm0 hg3 hz2 hz3
  go_wp2_with (go_at_call 65; refine (Hst.out _ Hb2.out).mono ?_; rintro e w' ⟨rfl, rfl⟩)
  have hmb := Blk.new W3 205 [.map (some W2.heap.size)]
  have hb4 := (Below.refl W3.heap.size W3).alloc (Nat.le_refl _) (.cells #[.map (some W2.heap.size)] 205)
  have hz3 := Hz3.out
  have hz2 := Hz2.out
  simp only [World.size_alloc] at hz3
  obtain ⟨W4, hW4⟩ : ∃ W, W = W3.alloc (.cells #[.map (some W2.heap.size)] 205) := ⟨_, rfl⟩
  rw [← hW4] at hmb hb4 ⊢
  clear hW4
  have hS : AllS w W4 (w.heap.size + 1) W3.heap.size W2.heap.size (some ⟨w.heap.size, 0, none⟩) 1 1 none 0 0 [] [s0] := by
    refine ⟨Hb3.out.trans (hb4.mono (by omega)), Hsb.out.keep hb4, hmb, Hr.out.keep hb4, RowW.nil _ _, ?_, by omega, by omega, by omega, by omega, fun r hr => ?_, fun r hr => by cases hr⟩
    · refine MapV.ext (M := putV (fun _ => none) s0 (.agg #[])) (Hmap.out.keep hb4) fun k => ?_
      unfold putV
      simp
    · have hr : w.heap.size = r := by simpa [blkA] using hr
      omega
  have hsb1 : w.heap.size ≤ W2.heap.size := by omega
  generalize hv13 : Value.slice (some ⟨w.heap.size, 0, none⟩) 1 1 = v13
  clear hv13
  clear hput hm1 hmm Hsb Hr Hb3 Hmap Hb2 Hz2 Hz3 hz2 hz3 hmb hb4
  generalize W3.heap.size = Mb at hS ⊢
  generalize W2.heap.size = mb at hS hsb1 ⊢
  generalize hSb : w.heap.size + 1 = Sb at hS ⊢
  have HS := hide hS
  clear hS hSb hsb1
  refine wp_loop_ghost_k (AllI w g s0 ms Sb Mb mb v13) 2001 ⟨_, _, _, _, _, _, [], [s0], [], _, _, _, _, _, _, _, _, _, _, _, _, _, _, _, _, _, _, _, _, _, _, _, _, _, rfl, rfl, HS.out, .begin _ _, by simp, fun D hD => (by cases hD), List.nodup_nil⟩ ?_
  clear HS Hst
  intro k a wr hI J K hJ hK
  obtain ⟨A, n, c, O, q, oc, out, st, Ds, u7, u19, u20, u21, u22, u23, u24, u25, u26, u27, u28, u29, u30, u31, u32, u33, u34, u35, u36, u37, u38, u39, u59, u60, u61, rfl, rfl, hS, hseen, hfew, hDs, hnd⟩ := hI
  cases n with
  | zero =>
    obtain rfl : st = [] := List.eq_nil_of_length_eq_zero hS.row.len
    have c4 := hS.sb.cell 0
    simp only [List.getElem?_cons_zero] at c4
    have HS := hide hS
    have Hseen := hide hseen
    have Hfew := hide hfew
    have HDs := hide hDs
    have Hnd := hide hnd
    clear hS hseen hfew hDs hnd
    go_wp2
    refine leaves_marks Ds _ (fun D hD => (HDs.out D hD).2) Hnd.out fun W' hc => ?_
    have hq := HS.out.res.len
    subst hq
    refine ⟨.tuple #[.slice O out.length oc, .bool true], by simp [results, Tryz.results96, go_sem], ?_⟩
    have hs := Hseen.out
    refine ⟨HS.out.low.trans (hc.below (fun i hi => (HDs.out i hi).1) HS.out.low.size), .inl ⟨out, O, oc, rfl, HS.out.res.chg hc (fun r hr hm => ?_), hs.all, by simpa using Hfew.out⟩⟩
    obtain ⟨cs, e, m, hcs⟩ := HS.out.res.cells hr
    have := (HDs.out r hm).2
    rw [hcs] at this
    cases this
  | succ n =>
    obtain ⟨gA, rfl⟩ := hS.row.addr (by omega)
    have hl := hS.row.len
    obtain ⟨st0, s, rfl⟩ : ∃ st0 s, st = st0 ++ [s] := by
      have hne : st ≠ [] := by rintro rfl; simp at hl
      exact ⟨st.dropLast, st.getLast hne, (List.dropLast_concat_getLast hne).symm⟩
    obtain ⟨b, off, x, e, hx, hs32, hcs⟩ := hS.row.rd.word (show n < n + 1 by omega)
    injection e with e
    injection e with e1 e2
    subst e1 e2
    have hl0 : st0.length = n := by simpa using hl
    obtain rfl : s = x := by
      rw [List.getElem?_append_right (by omega), hl0] at hx
      simpa using hx
    rw [Nat.zero_add] at hcs
    obtain ⟨hcap1, hcap2⟩ := hS.row.cap
    have hq := hS.res.len
    have hqn : q + n + 1 ≤ 2000 := by simp only [List.length_append, List.length_singleton] at hfew; omega
    have c4 := hS.sb.cell 0
    have f4 := hS.sb.frozen 0
    have l4 := hS.sb.lt
    simp only [List.getElem?_cons_zero] at c4
    have hres := hS.res.chg (Chg.set wr Sb 0 (.slice (some ⟨gA, 0, none⟩) n c)) (fun r hr e => (hS.a2 r hr).1 e)
    have hz0 := hS.low.size
    have hset : Chg (fun b => b = Sb) wr (wr.setCell ⟨Sb, 0, none⟩ (.slice (some ⟨gA, 0, none⟩) n c)) := Chg.set _ _ _ _
    have HS := hide hS
    have Hres := hide hres
    have Hseen := hide hseen
    have Hfew := hide hfew
    have HDs := hide hDs
    have Hnd := hide hnd
    have Hq := hide hq
    have Hset := hide hset
    have Hl0 := hide hl0
    clear hS hseen hfew hDs hnd hl hl0 hx hres hq hset
    go_upto_region 7 with (fail)
    have hzx : w.heap.size ≤ (wr.setCell ⟨Sb, 0, none⟩ (.slice (some ⟨gA, 0, none⟩) n c)).heap.size := by simpa [World.setCell] using hz0
    have htake := hide (fun (W' : World) (O' : Option Addr) (oc' : Nat) h1 h2 h3 => AllS.take (W' := W') (O' := O') (oc' := oc') HS.out h1 h2 h3)
    obtain ⟨Wx, hWx⟩ : ∃ W, W = wr.setCell ⟨Sb, 0, none⟩ (.slice (some ⟨gA, 0, none⟩) n c) := ⟨_, rfl⟩
    rw [← hWx] at Hres Hset hzx htake ⊢
    clear hWx c4 f4 l4 hcs
    go_wp2_with (first
      | (at_builtin
         refine wpList_pushW rfl _ _ rfl rfl Hres.out s hs32 rfl (by omega) hzx ?_
         intro O' oc' W5 hres5 hch5 hat5
         have HS5 := hide (htake.out W5 O' oc' hres5 hch5 hat5)
         have Hch5 := hide (Chg.trans (Hset.out.mono (M' := fun b => b = Sb ∨ blkA O = some b) (fun i e => .inl e)) (hch5.mono (fun i e => .inr e)))
         clear hres5 hch5 hat5 htake)
      | (go_at_call 117; refine (SSteps_ct g s _).mono ?_; rintro e w' ⟨rfl, rfl⟩))
    have hz5 := HS5.out.low.size
    have hBs := Blk.new (W5.alloc (.cells #[.pointer (some ⟨g, 0, none⟩)] 91)) 78 [.int .u32 s]
    have hBw := (Blk.new W5 91 [.pointer (some ⟨g, 0, none⟩)]).alloc (.cells #[.int .u32 s] 78)
    have hbL := below_two W5 (.cells #[.pointer (some ⟨g, 0, none⟩)] 91) (.cells #[.int .u32 s] 78)
    have hzL : ((W5.alloc (.cells #[.pointer (some ⟨g, 0, none⟩)] 91)).alloc (.cells #[.int .u32 s] 78)).heap.size = W5.heap.size + 1 + 1 := by simp only [World.size_alloc]
    simp only [World.size_alloc] at hBs
    obtain ⟨WL, hWL⟩ : ∃ W, W = (W5.alloc (.cells #[.pointer (some ⟨g, 0, none⟩)] 91)).alloc (.cells #[.int .u32 s] 78) := ⟨_, rfl⟩
    rw [← hWL] at hBs hBw hbL hzL ⊢
    clear hWL
    have cBs := hBs.cell 0
    have cBw := hBw.cell 0
    simp only [List.getElem?_cons_zero] at cBs cBw
    have hlt5 := hBs.lt
    have hSL := HS5.out.keep hbL
    have hDL : ∀ D ∈ Ds, D < WL.heap.size ∧ WL.heap[D]? = some (.deferred (some [])) := fun D hD => by
      have h1 := (HDs.out D hD).2
      have h2 := (Array.getElem?_eq_some_iff.1 h1).1
      have h3 : W5.heap[D]? = some (.deferred (some [])) := (Hch5.out.block D h2 (fun e => by
        rcases e with e | e
        · obtain ⟨ds, e', m, hc⟩ := HS.out.sb.cells
          rw [← e, h1] at hc
          cases hc
        · obtain ⟨cs, e', m, hc⟩ := HS.out.res.cells e
          rw [h1] at hc
          cases hc)).trans h1
      exact ⟨by have := (Array.getElem?_eq_some_iff.1 h3).1; omega, (hbL.block D (Array.getElem?_eq_some_iff.1 h3).1).trans h3⟩
    have hSeenAt : SeenAt (stepW ms) s0 (out ++ [s]) st0 s (fun t => stepW ms s t ∧ t ∉ ([] : List (Stp ms s)).map (·.1.2.2)) := Hseen.out.take (fun t ht => ⟨ht, by simp⟩)
    have hJ0 : AllJ w ms s0 s Sb Mb mb (W5.heap.size + 1) WL.heap.size O' (q + 1) oc' (out ++ [s]) Ds [] WL := by
      refine ⟨_, _, _, _, hSL, hSeenAt, fun r hr => ?_, hDL, hSL.map.lt, by omega, ?_, by omega, by omega⟩
      · have := (HS5.out.row.base hr).2
        omega
      · have := Hq.out
        simp only [List.length_append, List.length_singleton]
        omega
    have HJ0 := hide hJ0
    have HDL := hide hDL
    have HbL := hide hbL
    have hWr := H.out
    clear hJ0 hDL hSeenAt hSL hBs hBw hbL
    generalize hv6 : Value.slice O' (q + 1) oc' = v6
    refine (wpIn_wide (n := 8)).1 (wpIn_rangeFunc_ownH (w := WL) rfl (by omega) (gf := 145) (lb := #[.pointer (some ⟨W5.heap.size, 0, none⟩), .pointer (some ⟨W5.heap.size + 1, 0, none⟩)]) rfl trivial (enters_of Tryz.func145 (by kernel_rfl) rfl)
      (steps_stops Fence.wide 7 trivial rfl (by omega) W5.heap.size (W5.heap.size + 1) g s0 gl s ms w WL hWr hs32 (HS5.out.low.trans (HbL.out.mono hz5)) cBw cBs) kpS_t (kpS_b (by omega) (by omega)) (Below.refl _ _) (fun _ => rfl)
      (AllJ w ms s0 s Sb Mb mb (W5.heap.size + 1) WL.heap.size O' (q + 1) oc' (out ++ [s]) Ds) (fun _ _ _ => False) AllJ.own (fun _ _ _ _ _ hs _ _ => hs) HJ0.out
      (StpBox (fun bx sv => #[.iface 91 (.pointer (some ⟨g, 0, none⟩)), undef, .slice none 0 0, .bool false, .pointer (some ⟨Sb, 0, none⟩), .pointer (some ⟨Mb, 0, none⟩), v6, .int .u32 s, bx, undef, undef, .iface 91 (.pointer (some ⟨g, 0, none⟩)), .int .u32 s0, v13, .map (some mb), .iface 91 (.pointer (some ⟨g, 0, none⟩)), .int .u32 s0, .agg #[], .map (some mb), .slice (some ⟨gA, 0, none⟩) (n + 1) c, .int .i64 ((n : Int) + 1), .bool true, .slice (some ⟨gA, 0, none⟩) (n + 1) c, .slice (some ⟨gA, 0, none⟩) (n + 1) c, .int .i64 ((n : Int) + 1), .int .i64 n, .pointer (some ⟨gA, n, none⟩), .int .u32 s, .slice (some ⟨gA, 0, none⟩) (n + 1) c, .slice (some ⟨gA, 0, none⟩) (n + 1) c, .int .i64 ((n : Int) + 1), .int .i64 n, .slice (some ⟨gA, 0, none⟩) n c, .slice O q oc, .int .u32 s, .slice (some ⟨Wx.heap.size, 0, none⟩) 1 1, v6, .iface 91 (.pointer (some ⟨g, 0, none⟩)), .int .u32 s, .func (.func 145) #[] #[.pointer (some ⟨W5.heap.size, 0, none⟩), .pointer (some ⟨W5.heap.size + 1, 0, none⟩)], sv, undef, undef, undef, undef, undef, undef, undef, undef, undef, undef, undef, undef, undef, undef, undef, undef, undef, undef, u59, u60, u61, undef])) StpBox.own ?assign ?body ?done ?stop)
    case assign =>
      intro l pre x W K hi hK
      have HK := hide hK
      have Hi := hide hi
      clear hK hi
      obtain ⟨⟨xi, xc, xt⟩, hx⟩ := x
      unfold encStp stpV
      dsimp only
      gi_wp2
      exact HK.out _ _ ((KeepsOthers.alloc _ _).from _) ⟨(Below.refl _ _).alloc (by obtain ⟨_, _, _, _, h1, _⟩ := Hi.out; exact h1.low.size) _, Below.heap_alloc _ _ _ (by obtain ⟨_, _, _, _, _, _, _, _, _, _, _, _, h9⟩ := Hi.out; exact h9)⟩ (Hi.out.keep ((Below.refl _ _).alloc (Nat.le_refl _) _)) ⟨W.heap.size, Blk.new _ _ _, rfl⟩
    case body =>
      rintro l pre ⟨⟨xi, xc, xt⟩, hx⟩ a' W hl ⟨r, hr⟩ ⟨A2, n2, c2, st2, j1, j2, j3, j4, j5, j6, j7, j8, j9⟩ ⟨Bx, hBx, rfl⟩ hlt
      dsimp only at hBx
      obtain ⟨x1, _, _, _⟩ := stepsW_ok ms 0 s hs32 H.out.ok _ hx
      dsimp only at x1
      have hn2 : n2 ≤ 3000 := by
        have := stepsW_len ms 0 s
        have := H.out.few
        omega
      have cM := j1.mbx.cell 0
      have cX := hBx.cell 2
      have cS := j1.sb.cell 0
      have fS := j1.sb.frozen 0
      have lS := j1.sb.lt
      simp only [List.getElem?_cons_zero, List.getElem?_cons_succ] at cM cX cS
      have hz168 : ∀ w : World, (zeroValue 179).run Tryz.prog w = .ok (.agg #[]) w := fun w => by kernel_rfl
      have hlook := fun W' e => j1.map.look (int_keyed Tryz.underlying78) (T := 205) (E := 179) Tryz.underlying205 hz168 (keyW Tryz.underlying78 x1) W' e
      unfold encW at hlook
      have HzL := hide hzL
      clear hzL
      have hlow : w.heap.size ≤ W.heap.size := j1.low.size
      have hbA := (Below.refl W.heap.size W).alloc (Nat.le_refl _) (.cells #[] 179)
      have k1 := j1.keep hbA
      have k9 := Nat.lt_of_lt_of_le j9 hbA.size
      have hleft : ∀ u, (stepW ms s u ∧ u ∉ pre.map (·.1.2.2)) → (stepW ms s u ∧ u ∉ (pre ++ [(⟨(xi, xc, xt), hx⟩ : Stp ms s)]).map (·.1.2.2)) ∨ u = xt := fun u hu => by
        by_cases e : u = xt
        · exact .inr e
        · refine .inl ⟨hu.1, fun hm => ?_⟩
          rw [List.map_append, List.mem_append] at hm
          rcases hm with hm | hm
          · exact hu.2 hm
          · simp at hm
            exact e hm
      have J1 := hide j1
      have J2 := hide j2
      have J3 := hide j3
      have J4 := hide j4
      have HbA := hide hbA
      have K1 := hide k1
      have Hleft := hide hleft
      have HBx := hide hBx
      by_cases hin : xt ∈ out ++ [s] ++ st2
      · simp only [if_pos hin, Option.getD_some, Option.isSome_some] at hlook
        have hlook0 := hlook W rfl
        clear hlook j1 j2 j3 j4 hbA k1 hleft hBx
        gi_wp2
        exact ⟨(KeepsOthers.alloc _ _).from _, ⟨HbA.out.mono hlow, HbA.out.block _ j9⟩, _, _, _, _, K1.out, J2.out.known hin Hleft.out, J3.out, fun D hD => ⟨(J4.out D hD).1, (HbA.out.block D (Array.getElem?_eq_some_iff.1 (J4.out D hD).2).1).trans (J4.out D hD).2⟩, j5, j6, j7, by rw [List.length_append]; omega, k9⟩
      · simp only [if_neg hin, Option.getD_none, Option.isSome_none] at hlook
        have hlook0 := hlook W rfl
        have hcnt : (out ++ [s] ++ st2).length < 1000000000000 := by
          have := j1.row.len
          rw [List.length_append]
          omega
        obtain ⟨W11, hput, hm11, hg11, hz11⟩ := k1.map.put encW_inj (int_keyed Tryz.underlying78) (T := 205) (E := 179) Tryz.underlying205 hcnt (key := xt) (keyW Tryz.underlying78 x1) (.agg #[])
        unfold encW at hput
        have cM10 := k1.mbx.cell 0
        have cX10 := (hBx.alloc (.cells #[] 179)).cell 2
        have nX : mb ≠ Bx := j1.map.ne hBx
        have n2 := j1.n2
        have n3 := j1.n3
        have sb11 := k1.sb.grown hg11 (fun e => n2 (by injection e with e; exact e.symm))
        have cS11 := sb11.cell 0
        have cX11 := ((hBx.alloc (.cells #[] 179)).grown hg11 (fun e => nX (by injection e with e; exact e.symm))).cell 2
        have row11 := k1.row.chg (Chg.of_grown hg11) (fun r hr e => k1.nrow k1.row hr (by injection e with e; exact e.symm))
        simp only [List.getElem?_cons_zero, List.getElem?_cons_succ] at cM10 cX10 cS11 cX11
        have hz11w : w.heap.size ≤ W11.heap.size := by rw [hz11]; exact k1.low.size
        have na1 : ∀ r, blkA A2 = some r → r ≠ Sb := fun r hr => (k1.a1 r hr).1
        have Na1 := hide na1
        have Sb11 := hide sb11
        have Row11 := hide row11
        have Hm11 := hide hm11
        have Hg11 := hide hg11
        have Hz11 := hide hz11
        have Hin := hide hin
        clear hlook j1 j2 j3 j4 hbA k1 hleft hBx hcnt hm11 hg11 sb11 row11 na1 hz11 hin
        gi_wp2_with
          (gi_at_builtin
           refine wpListIn_pushW rfl _ _ rfl rfl Row11.out xt x1 rfl (by omega) hz11w ?_
           intro O2 oc2 W12 hrow12 hg12 hat12
           have sb12 := (Sb11.out.alloc (.cells #[.int .u32 xt] 78)).grown hg12 (fun e => Na1.out Sb e.symm rfl)
           have fS12 := sb12.frozen 0
           have lS12 := sb12.lt
           have cS12 := sb12.cell 0
           simp only [List.getElem?_cons_zero] at cS12
           have Hrow12 := hide hrow12
           have Hg12 := hide hg12
           have Hat12 := hide hat12
           clear sb12 hrow12 hg12 hat12)
        obtain ⟨b1, b2, b3, b4⟩ := K1.out.new Hin.out Hm11.out Hg11.out Hrow12.out Hg12.out Hat12.out
        refine ⟨((KeepsOthers.alloc _ _).from _).trans (b3.from j5), ⟨(HbA.out.mono hlow).trans b2, (b4 _ k9 ?_ ?_ ?_).trans (HbA.out.block _ j9)⟩, _, _, _, _, b1, J2.out.new ?_ Hin.out Hleft.out, ?_, fun D hD => ⟨(J4.out D hD).1, b3.same D _ ?_ ((HbA.out.block D (Array.getElem?_eq_some_iff.1 (J4.out D hD).2).1).trans (J4.out D hD).2) rfl⟩, j5, j6, j7, by rw [List.length_append]; simp only [List.length_singleton]; omega, Nat.lt_of_lt_of_le k9 b3.size⟩
        · have := HS5.out.map.lt
          omega
        · exact fun e => J3.out _ e rfl
        · have := HS5.out.sb.lt
          omega
        · exact (stepsW_step ms 0 s xt).2 ⟨_, hx, rfl⟩
        · intro r hr
          rcases Hat12.out with e | e
          · exact J3.out r (by rw [← e]; exact hr)
          · rw [e] at hr
            injection hr with hr
            have := Hz11.out
            simp only [World.size_alloc] at this
            omega
        · rintro rfl
          obtain ⟨es, clock, he⟩ := J1.out.map.isMap
          have := (J4.out D hD).2
          rw [he] at this
          cases this
    case done =>
      intro D ys W hD hys hJy hKD
      obtain ⟨A2, n2, c2, st2, j1, j2, j3, j4, j5, j6, j7, j8, j9⟩ := hJy
      have cM := j1.mbx.cell 0
      simp only [List.getElem?_cons_zero] at cM
      have hlen := j1.map.len Tryz.underlying205 3
      have hdone := j2.done (fun t ht => by
        obtain ⟨x, hx, e⟩ := (stepsW_step ms 0 s t).1 ht.1
        rw [← hys] at hx
        obtain ⟨y, hy, rfl⟩ := List.mem_map.1 hx
        exact ht.2 (List.mem_map.2 ⟨y, hy, e⟩))
      have J1 := hide j1
      have J4 := hide j4
      have Hdone := hide hdone
      have HKD := hide hKD
      obtain ⟨cnt, hcnt⟩ : ∃ cnt, cnt = (out ++ [s] ++ st2).length := ⟨_, rfl⟩
      rw [← hcnt] at hlen
      have Hcnt := hide hcnt
      clear j1 j2 j3 j4 hdone hcnt hys hKD
      dsimp only
      have hDn : (D :: Ds).Nodup := List.nodup_cons.2 ⟨fun hm => by have := (J4.out D hm).1; omega, Hnd.out⟩
      have hDm : ∀ E ∈ D :: Ds, w.heap.size ≤ E ∧ W.heap[E]? = some (.deferred (some [])) := fun E hE => by
        rcases List.mem_cons.1 hE with rfl | hE
        · exact ⟨by omega, HKD.out⟩
        · exact ⟨(HDs.out E hE).1, (J4.out E hE).2⟩
      have HDn := hide hDn
      have HDm := hide hDm
      clear hDn hDm
      have Hv6 := hide hv6
      clear hv6
      by_cases hbig : 2000 < cnt
      · go_wp2
        refine leaves_marks (D :: Ds) W (fun E hE => (HDm.out E hE).2) HDn.out fun W' hc => ?_
        refine ⟨.tuple #[.slice none 0 0, .bool false], by simp [results, Tryz.results96, go_sem], ?_⟩
        have hd := Hdone.out
        have hcnt := Hcnt.out
        refine ⟨J1.out.low.trans (hc.below (fun i hi => (HDm.out i hi).1) J1.out.low.size), .inr ⟨rfl, (out ++ [s] ++ st2).take 2001, hd.once.sublist (List.take_sublist _ _), fun x hx => hd.reach x (List.mem_of_mem_take hx), ?_⟩⟩
        rw [List.length_take]
        omega
      · go_wp2
        have hv6 := Hv6.out
        subst hv6
        have hcnt := Hcnt.out
        refine Handed.intro (2001 - (out ++ [s]).length) ?_ (hJ _ _ _ ⟨A2, n2, c2, O', q + 1, oc', out ++ [s], st2, D :: Ds, _, _, _, _, _, _, _, _, _, _, _, _, _, _, _, _, _, _, _, _, _, _, _, _, _, rfl, rfl, J1.out, Hdone.out, by omega, HDm.out, HDn.out⟩)
        simp only [List.length_append, List.length_singleton] at j7 ⊢
        omega
    case stop =>
      intro D cc pre W _ _ h _
      exact h.elim
end Go.Proofs.YtmjiiddncbhgpaaGreat
