/- HierarchyFreeMethodsPermitAll: with free methods all plans that can be executed are refinements, part 31: La43. -/
import Derived.Test.YtmjiiddncbhgpaaO1
import Derived.Test.YtmjiiddncbhgpaaO2
import Derived.Test.YtmjiiddncbhgpaaO3
import Derived.Test.YtmjiiddncbhgpaaO4
import Derived.Test.YtmjiiddncbhgpaaO5
import Derived.Test.YtmjiiddncbhgpaaO6
import Derived.Test.YtmjiiddncbhgpaaO7
import Derived.Test.YtmjiiddncbhgpaaO8
import Derived.Test.YtmjiiddncbhgpaaO9
import Derived.Test.YtmjiiddncbhgpaaO10
import Derived.Test.YtmjiiddncbhgpaaO11
import Derived.Test.YtmjiiddncbhgpaaO12
import Derived.Test.YtmjiiddncbhgpaaO13
import Derived.Test.YtmjiiddncbhgpaaO14
import Derived.Test.YtmjiiddncbhgpaaO15
import Derived.Test.YtmjiiddncbhgpaaO16
import Derived.Test.YtmjiiddncbhgpaaO17
import Derived.Test.YtmjiiddncbhgpaaO18
import Derived.Test.YtmjiiddncbhgpaaO19
import Derived.Test.YtmjiiddncbhgpaaO20
import Derived.Test.YtmjiiddncbhgpaaO21
import Derived.Test.YtmjiiddncbhgpaaO22
import Derived.Test.YtmjiiddncbhgpaaO23
import Derived.Test.YtmjiiddncbhgpaaO24
import Derived.Test.YtmjiiddncbhgpaaO25
import Derived.Test.YtmjiiddncbhgpaaO26
import Derived.Test.YtmjiiddncbhgpaaO27
import Derived.Test.YtmjiiddncbhgpaaO28
import Derived.Test.YtmjiiddncbhgpaaO29
import Derived.Test.YtmjiiddncbhgpaaO30
import Derived.BigQuiet
import Derived.BigRegionIn
import Derived.ChangeOld
import Derived.Deep.AppendLies
import Derived.Deep.DeepCutAuto
import Derived.Deep.Draws
import Derived.Deep.Fields
import Derived.Deep.LoopGhost
import Derived.Deep.QuietTactic
import Derived.Deep.RegionHeld3
import Derived.Deep.Slices
import Derived.DeepKeys4
import Derived.Ground.Names2Prog
import Derived.Ground.SlgnProg
import Derived.Ground.SlsfProg
import Derived.IntWalk
import Derived.Laws.AppendOwnNone
import Derived.Laws.BitsAllLaws
import Derived.Laws.OwnMore
import Derived.Lib.Hide
import Derived.Lib.SlicesCompact
import Derived.LoopIn
import Derived.LoopNIn
import Derived.Maps.AppendAt
import Derived.Maps.OwnIn
import Derived.Maps.OwnOps
import Derived.Maps.OwnSet
import Derived.OpenShut
import Derived.OrdersHeld
import Derived.OrdersIn
import Derived.OwnWalkIn
import Derived.ProofKit
import Derived.RangeFuncBound
import Derived.RangeFuncCalls
import Derived.RangeFuncKeeps
import Derived.RangeFuncLeaves
import Derived.RangeFuncNested
import Derived.Shelf.Abstract
import Derived.Shelf.RegionOpen
import Derived.Shelf.SlSortCmp.Whole1
import Derived.Shelf.Slices.Cells
import Derived.Shelf.Slices.Clone
import Derived.Shelf.Slices.CompactI
import Derived.Shelf.Slices.Empties
import Derived.Shelf.Slices.In.SortNone
import Derived.Shelf.Slices.SearchI
import Derived.Shelf.Sort.Plain
import Derived.Sort.CutIn
import Derived.Sort.OwnSortedInts
import Derived.StillTail
import Derived.StillTailTactics
import Derived.TacticsInMore
import Derived.Test.YtmjiiddncbhgpaaProg
import Derived.Test.YtmjiiddncbhgpaaRows
import Derived.WalkKit
import Derived.WideKeyEntry
namespace Go.Proofs.Ytmjiiddncbhgpaa
set_option linter.unusedVariables false
set_option linter.unusedSimpArgs false
open Go.RowKit
theorem meInfo : (Try.prog.info? 43).map (fun i => (i.zero, i.size, i.bytes)) = some (some (.agg #[.int .i64 0, .slice none 0 0, .slice none 0 0]), 3, 56) := by kernel_rfl
theorem rowMe_one (w : World) (M : Nat → Prop) : OwnE Enc.me 43 w.heap.size M (w.alloc (.cells #[.int .i64 0, .slice none 0 0, .slice none 0 0] 43)) (some ⟨w.heap.size, 0, none⟩) 1 1 [.int .i64 0, .slice none 0 0, .slice none 0 0] [⟨0, [], []⟩] := by
  refine ⟨⟨rfl, .inr ⟨w.heap.size, 1, #[.int .i64 0, .slice none 0 0, .slice none 0 0], rfl, Nat.le_refl _, heap_alloc_new w _, by omega, by unfold maxLen; omega, rfl, rfl⟩⟩, rfl, fun i y hy => ?_⟩
  cases i with
  | zero =>
    simp at hy
    subst hy
    exact ⟨[.int .i64 0, .slice none 0 0, .slice none 0 0], fun j v h => by rw [Nat.zero_mul, Nat.zero_add]; exact h, fun w' hc => ⟨none, 0, 0, none, 0, 0, rfl, by unfold I64s; simp, Rd.nil_ _ _, Rd.nil_ _ _⟩⟩
  | succ i => simp at hy
/-- one method more -/
theorem wpList_pushMe {w : World} {ops : Array Oper} {rest : List Oper} {o : Oper} {a : Act} {Q : Exit → Act → World → Prop} (hgd : o.guard = none) (s x : Operand)
    (ho : o.op = .call { callee := .builtin .append, args := #[s, x], argTypes := #[35, 35] })
    {B : Nat} {A : Option Addr} {n c : Nat} {M : Nat → Prop} {vs : List Value} {xs : List Hm} (hs : a.eval s = .slice A n c) (hown : OwnE Enc.me 43 B M w A n c vs xs) (hA : ∀ r, blkA A = some r → M r) (u0 u1 u2 : Value) (y : Hm) (ho0 : u0.oneCell' = true) (ho1 : u1.oneCell' = true) (ho2 : u2.oneCell' = true) (hx : a.eval x = .slice (some ⟨w.heap.size, 0, none⟩) 1 1) (hf : Firm Enc.me M w [u0, u1, u2] y) (hn : (n + 1) * 56 ≤ 140737488355328) (hbase : B ≤ w.heap.size)
    (h : ∀ O oc w', OwnE Enc.me 43 B (fun b => M b ∨ w.heap.size ≤ b) w' O (n + 1) oc (vs ++ [u0, u1, u2]) (xs ++ [y]) → Chg (fun b => blkA A = some b) w w' → (blkA O = blkA A ∨ blkA O = some (w.heap.size + 1)) → wpList Try.prog ops Q rest (a.put o.dst (.slice O (n + 1) oc)) w') :
    wpList Try.prog ops Q (o :: rest) a (w.alloc (.cells #[u0, u1, u2] 43)) := by
  obtain ⟨i1, hi1, hy0, hy1, hy2⟩ := info_parts meInfo
  exact wpList_pushE hgd s x 35 ho B 43 i1 (.agg #[.int .i64 0, .slice none 0 0, .slice none 0 0]) 56 Try.underlying35 hi1 hy0 hy1 hy2 rfl (by decide) hs hown hA [u0, u1, u2] y (by intro u hu; simp only [List.mem_cons, List.not_mem_nil, or_false] at hu; rcases hu with rfl | rfl | rfl <;> assumption) hx hf (by omega) hn hbase h
theorem own_neB {B n c : Nat} {w : World} {A : Option Addr} {M : Nat → Prop} {vs : List Value} {xs : List Hm} {t : TypeId} {g : Nat} {cs : List Value} (h : OwnE Enc.me 43 B M w A n c vs xs) (k : Blk t w g cs) (ht : 43 ≠ t) : blkA A ≠ some g := fun hr => by
  rcases h.own.2 with ⟨e, _⟩ | ⟨q, cap, cur, e, _, hc, _⟩
  · injection e with e1 e2 e3
    subst e1
    cases hr
  · injection e with e1 e2 e3
    subst e1
    obtain rfl : q = g := by simpa [blkA] using hr
    unfold Blk at k
    rw [hc] at k
    injection k with k
    injection k with _ k _
    exact ht k
set_option maxRecDepth 100000 in
set_option maxHeartbeats 6400000 in
theorem freeLaw_ct (T : Tsk) (a : TA) (P : Option Addr) (np pc : Nat) (plan : List Int) (w : World) (hT : TkR w a T) (hp : Rd Enc.int w P np pc plan) :
    Calls Try.prog 7 #[.agg #[.int .i64 T.facts, .slice a.I a.nI a.cI, .slice a.G a.nG a.cG, .slice a.O a.nO a.cO], .slice P np pc] w (Gives w (.bool true)) := by
  have hpf := fun W hT hl => RPlanFault_ct a T P np pc plan W hT hl
  have hpy := fun Pi ni di W hT hs hl => Play_ct a T Pi ni di T.init P np pc plan W hT hs hl
  have hini := hT.init
  have hol := hT.ops.len
  have hon := hT.ops.low
  have hpl := hp.len
  have hpw := hp.low
  obtain ⟨I, nI, cI, G, nG, cG, O, nO, cO⟩ := a
  simp only at hpf hpy hini hol hon ⊢
  rcases hq : planFault T plan with ⟨ec, ei⟩
  rw [hq] at hpf
  have Hq := hide hq
  have Hpf := hide hpf
  have Hpy := hide hpy
  have Hini := hide hini
  have H := hide hT
  have Hp := hide hp
  have Hol := hide hol
  have Hpl := hide hpl
  have hfi : ∀ (x : Int) (y : Value) (w : World), (Instr.field 29 (.agg #[.int .i64 x, y]) 0).run Try.prog w = .ok (.int .i64 x) w := fun x y w => by kernel_rfl
  clear hq hpf hpy hini hT hp hol hpl
  go_enter Try.func7, Try.ntmps7
  go_upto_region 1 with (fail)
  have bT := Blk.new w 25 [.int .i64 T.facts, .slice I nI cI, .slice G nG cG, .slice O nO cO]
  have hbT : Below w.heap.size w (w.alloc (.cells #[.int .i64 T.facts, .slice I nI cI, .slice G nG cG, .slice O nO cO] 25)) := (Below.refl _ _).alloc (Nat.le_refl _) _
  change Blk 25 (w.alloc (.cells #[.int .i64 T.facts, .slice I nI cI, .slice G nG cG, .slice O nO cO] 25)) w.heap.size [.int .i64 T.facts, .slice I nI cI, .slice G nG cG, .slice O nO cO] at bT
  obtain ⟨w0, hw⟩ : ∃ Z, Z = w.alloc (.cells #[.int .i64 T.facts, .slice I nI cI, .slice G nG cG, .slice O nO cO] 25) := ⟨_, rfl⟩
  rw [← hw] at bT hbT ⊢
  clear hw
  obtain ⟨gt, hg⟩ : ∃ z, z = w.heap.size := ⟨_, rfl⟩
  rw [← hg] at bT ⊢
  clear hg
  have BT := hide bT
  clear bT
  have Hb := hide hbT
  clear hbT
  go_wp2_with fail
  with_reducible refine (hierExample_ct w0).mono ?_
  rintro e w1 ⟨rfl, hb1⟩
  replace BT := hide (BT.out.keep hb1)
  replace Hb := hide (Hb.out.trans (hb1.mono Hb.out.size))
  clear hb1
  have t_0 := BT.out.cell 0
  have t_1 := BT.out.cell 1
  have t_2 := BT.out.cell 2
  have t_3 := BT.out.cell 3
  simp only [List.getElem?_cons_zero, List.getElem?_cons_succ] at t_0 t_1 t_2 t_3
  go_wp2_with fail
  with_reducible refine (Hpf.out w1 (H.out.keep Hb.out) (Hp.out.keep Hb.out)).mono ?_
  rintro e w2 ⟨rfl, hb2⟩
  replace BT := hide (BT.out.keep hb2)
  replace Hb := hide (Hb.out.trans (hb2.mono Hb.out.size))
  clear hb2 t_0 t_1 t_2 t_3
  have t_0 := BT.out.cell 0
  have t_1 := BT.out.cell 1
  have t_2 := BT.out.cell 2
  have t_3 := BT.out.cell 3
  simp only [List.getElem?_cons_zero, List.getElem?_cons_succ] at t_0 t_1 t_2 t_3
  unfold fault
  by_cases hne : ec = 0
  rotate_left
  · go_wp2_with fail
    go_ret
    exact ⟨rfl, Hb.out⟩
  · subst hne
    by_cases h12 : 12 < nO
    · have h12I : (12 : Int) < (nO : Int) := by omega
      go_wp2_with fail
      go_ret
      exact ⟨rfl, Hb.out⟩
    · by_cases h13 : 12 < np
      · have h12I : ¬ (12 : Int) < (nO : Int) := by omega
        have h13I : (12 : Int) < (np : Int) := by omega
        go_wp2_with fail
        go_ret
        exact ⟨rfl, Hb.out⟩
      · have h12I : ¬ (12 : Int) < (nO : Int) := by omega
        have h13I : ¬ (12 : Int) < (np : Int) := by omega
        go_upto_region 6 with (fail)
        have hLn := Blk.new w2 3 [.int .i64 (-1)]
        have hbL : Below w2.heap.size w2 (w2.alloc (.cells #[.int .i64 (-1)] 3)) := (Below.refl _ _).alloc (Nat.le_refl _) _
        change Blk 3 (w2.alloc (.cells #[.int .i64 (-1)] 3)) w2.heap.size [.int .i64 (-1)] at hLn
        obtain ⟨w3, hw⟩ : ∃ Z, Z = w2.alloc (.cells #[.int .i64 (-1)] 3) := ⟨_, rfl⟩
        have hz3 : w3.heap.size = w2.heap.size + 1 := by rw [hw]; simp only [World.size_alloc]
        rw [← hw] at hLn hbL ⊢
        clear hw
        have hM := rowMe_one w3
        have hbM : Below w3.heap.size w3 (w3.alloc (.cells #[.int .i64 0, .slice none 0 0, .slice none 0 0] 43)) := (Below.refl _ _).alloc (Nat.le_refl _) _
        obtain ⟨w4, hw⟩ : ∃ Z, Z = w3.alloc (.cells #[.int .i64 0, .slice none 0 0, .slice none 0 0] 43) := ⟨_, rfl⟩
        have hz4 : w4.heap.size = w2.heap.size + 1 + 1 := by rw [hw]; simp only [World.size_alloc, hz3]
        rw [← hw] at hM hbM ⊢
        clear hw
        rw [hz3] at hM
        have hB := Blk.new w4 37 [.int .i64 T.facts, .slice I nI cI, .slice G nG cG, .slice O nO cO, .int .i64 1, .slice (some ⟨w2.heap.size + 1, 0, none⟩) 1 1, .slice (some ⟨w2.heap.size, 0, none⟩) 1 1]
        have hbB : Below w4.heap.size w4 (w4.alloc (.cells #[.int .i64 T.facts, .slice I nI cI, .slice G nG cG, .slice O nO cO, .int .i64 1, .slice (some ⟨w2.heap.size + 1, 0, none⟩) 1 1, .slice (some ⟨w2.heap.size, 0, none⟩) 1 1] 37)) := (Below.refl _ _).alloc (Nat.le_refl _) _
        change Blk 37 (w4.alloc (.cells #[.int .i64 T.facts, .slice I nI cI, .slice G nG cG, .slice O nO cO, .int .i64 1, .slice (some ⟨w2.heap.size + 1, 0, none⟩) 1 1, .slice (some ⟨w2.heap.size, 0, none⟩) 1 1] 37)) w4.heap.size [.int .i64 T.facts, .slice I nI cI, .slice G nG cG, .slice O nO cO, .int .i64 1, .slice (some ⟨w2.heap.size + 1, 0, none⟩) 1 1, .slice (some ⟨w2.heap.size, 0, none⟩) 1 1] at hB
        obtain ⟨w5, hw⟩ : ∃ Z, Z = w4.alloc (.cells #[.int .i64 T.facts, .slice I nI cI, .slice G nG cG, .slice O nO cO, .int .i64 1, .slice (some ⟨w2.heap.size + 1, 0, none⟩) 1 1, .slice (some ⟨w2.heap.size, 0, none⟩) 1 1] 37) := ⟨_, rfl⟩
        rw [← hw] at hB hbB ⊢
        clear hw
        rw [hz4] at hB
        obtain ⟨gL, hgL⟩ : ∃ z, z = w2.heap.size := ⟨_, rfl⟩
        rw [← hgL] at hB hM hLn hz4 hz3 ⊢
        obtain ⟨g5, hg5⟩ : ∃ z, z = gL + 1 + 1 := ⟨_, rfl⟩
        rw [← hg5] at hB ⊢
        have hM5 := (hM (fun b => b = g5 ∨ blkA (some ⟨gL + 1, 0, none⟩) = some b)).keep hbB
        have hL5 := (hLn.keep hbM).keep hbB
        have hb25 : Below w2.heap.size w2 w5 := (hbL.trans (hbM.mono (by omega))).trans (hbB.mono (by omega))
        have HM5 := hide hM5
        have HL5 := hide hL5
        have HB5 := hide hB
        have Hb25 := hide hb25
        have HgL := hide hgL
        have Hg5 := hide (show g5 = gL + 1 + 1 by omega)
        clear hM hbL hbM hbB hLn hM5 hL5 hB hb25 hgL hg5 hz3 hz4 t_0 t_1 t_2 t_3
        go_wp2_with fail
        go_loopw [6] (fun o wr => ∃ (k : Nat) (A : Option Addr) (n c : Nat) (vs : List Value), k ≤ nO ∧ o = .int .i64 k ∧ Blk 37 wr g5 [.int .i64 T.facts, .slice I nI cI, .slice G nG cG, .slice O nO cO, .int .i64 1, .slice A n c, .slice (some ⟨gL, 0, none⟩) 1 1] ∧ OwnE Enc.me 43 (gL + 1) (fun b => b = g5 ∨ blkA A = some b) wr A n c vs (freeMs k) ∧ Blk 3 wr gL [.int .i64 (-1)] ∧ Below w2.heap.size w2 wr) (fun o _ => nO - (intOf o).toNat)
        case atStart => exact ⟨0, _, _, _, _, by omega, rfl, HB5.out, HM5.out, HL5.out, Hb25.out⟩
        case round =>
          obtain ⟨k, A, n, c, vs, hkn, rfl, hBx, hown, hLx, hbx⟩ := hrel
          have BTr := hide (BT.out.keep hbx)
          have HBx := hide hBx
          have Hown := hide hown
          have HLx := hide hLx
          have Hbx := hide hbx
          clear hBx hown hLx hbx
          have t_3 := BTr.out.cell 3
          have x_5 := HBx.out.cell 5
          simp only [List.getElem?_cons_zero, List.getElem?_cons_succ] at t_3 x_5
          by_cases hlt : k < nO
          rotate_left
          · obtain rfl : k = nO := by omega
            have htf : (taskFault T).1 = 0 := by
              by_cases e0 : (taskFault T).1 = 0
              · exact e0
              · have hq := Hq.out
                unfold planFault at hq
                rw [if_pos e0] at hq
                rw [hq]
            have hsf : stepsFault T.ops.length plan = (0, ei) := by
              have hq := Hq.out
              unfold planFault at hq
              rw [if_neg (by rw [htf]; simp)] at hq
              exact hq
            have hsr : stepsFault T.ops.length plan = (0, 0) ∧ ∀ x ∈ plan, 0 ≤ x ∧ x < T.ops.length := by
              unfold stepsFault at hsf ⊢
              split at hsf
              · cases hsf
              · rename_i e1
                split at hsf
                · cases hsf
                · rename_i e2
                  rw [if_neg e1, if_neg e2]
                  refine ⟨rfl, fun x hx => ?_⟩
                  have : ¬ outB T.ops.length x = true := fun e => e2 (List.any_eq_true.2 ⟨x, hx, e⟩)
                  unfold outB at this
                  simp only [Bool.or_eq_true, decide_eq_true_eq] at this
                  omega
            have hhf := free_fault htf (by have := Hol.out; omega)
            have hdf : decFault (freeH T) plan = (0, 0) := by
              unfold decFault
              rw [if_neg (by rw [hhf]; simp)]
              exact hsr.1
            have hst0 : stateFault T T.init = (0, 0) := by
              obtain ⟨N, hok⟩ := taskFault_ok htf
              unfold stateFault
              rw [if_neg (by rw [htf]; simp), if_neg (by rw [hok.facts]; simp [hok.init])]
            have hHy : HyR wr ⟨⟨I, nI, cI, G, nG, cG, O, k, cO⟩, A, n, c, some ⟨gL, 0, none⟩, 1, 1⟩ (freeH T) := by
              refine ⟨H.out.keep (Hb.out.trans (Hbx.out.mono Hb.out.size)), by unfold freeH I64s; simp, ?_, one_lowo HLx.out (by omega)⟩
              have := Hown.out.rd
              unfold freeH
              rw [Hol.out]
              exact this
            have hde : Calls Try.prog 13 #[.agg #[.int .i64 T.facts, .slice I nI cI, .slice G nG cG, .slice O k cO, .int .i64 1, .slice A n c, .slice (some ⟨gL, 0, none⟩) 1 1], .slice P np pc] wr (DecP wr (freeH T) plan) := Decompose_ct ⟨⟨I, nI, cI, G, nG, cG, O, k, cO⟩, A, n, c, some ⟨gL, 0, none⟩, 1, 1⟩ (freeH T) P np pc plan wr hHy (Hp.out.keep (Hb.out.trans (Hbx.out.mono Hb.out.size)))
            have hrf := free_ref hsr.2
            have hpr : playR T T.init plan = if (runF T.ops T.init plan).length ≤ plan.length then ([], 11, ((runF T.ops T.init plan).length : Int) - 1) else (runF T.ops T.init plan, 0, 0) := by
              unfold playR
              rw [if_neg (by rw [hst0]; simp), if_neg (by rw [hsr.1]; simp)]
            have hrl := runF_len T.ops T.init plan
            have Hde := hide hde
            have Hdf := hide hdf
            have Hrf := hide hrf
            have Hpr := hide hpr
            have HbW := hide (Hb.out.trans (Hbx.out.mono Hb.out.size))
            have Hrl := hide hrl
            clear hde hdf hrf hpr hHy hsr hsf hhf hst0 htf hrl
            have x_0 := HBx.out.cell 0
            have x_1 := HBx.out.cell 1
            have x_2 := HBx.out.cell 2
            have x_3 := HBx.out.cell 3
            have x_4 := HBx.out.cell 4
            have x_6 := HBx.out.cell 6
            simp only [List.getElem?_cons_zero, List.getElem?_cons_succ] at x_0 x_1 x_2 x_3 x_4 x_6
            go_wp2_with fail
            with_reducible refine Hde.out.mono ?_
            rintro e w6 ⟨hb6, bb, rfl, hiff⟩
            rw [Hdf.out] at hiff ⊢
            clear x_0 x_1 x_2 x_3 x_4 x_5 x_6 t_3
            replace BT := hide (BTr.out.keep hb6)
            replace HbW := hide (HbW.out.trans (hb6.mono HbW.out.size))
            clear hb6
            unfold fault
            go_upto_region 11 with (fail)
            have bQ := Blk.new w6 29 [.int .i64 0, .int .i64 0]
            have hbQ : Below w6.heap.size w6 (w6.alloc (.cells #[.int .i64 0, .int .i64 0] 29)) := (Below.refl _ _).alloc (Nat.le_refl _) _
            change Blk 29 (w6.alloc (.cells #[.int .i64 0, .int .i64 0] 29)) w6.heap.size [.int .i64 0, .int .i64 0] at bQ
            obtain ⟨w7, hw⟩ : ∃ Z, Z = w6.alloc (.cells #[.int .i64 0, .int .i64 0] 29) := ⟨_, rfl⟩
            rw [← hw] at bQ hbQ ⊢
            clear hw
            obtain ⟨gq, hg⟩ : ∃ z, z = w6.heap.size := ⟨_, rfl⟩
            rw [← hg] at bQ ⊢
            clear hg
            have BQ := hide bQ
            clear bQ
            replace BT := hide (BT.out.keep hbQ)
            replace HbW := hide (HbW.out.trans (hbQ.mono HbW.out.size))
            clear hbQ
            have t_0 := BT.out.cell 0
            have t_1 := BT.out.cell 1
            have t_2 := BT.out.cell 2
            have t_3 := BT.out.cell 3
            simp only [List.getElem?_cons_zero, List.getElem?_cons_succ] at t_0 t_1 t_2 t_3
            have Hiff := hide hiff
            clear hiff
            by_cases hfull : (runF T.ops T.init plan).length ≤ plan.length
            · obtain rfl : bb = false := by
                cases bb with
                | false => rfl
                | true => exact absurd (Hrf.out.1 (Hiff.out.1 rfl).2) (by omega)
              have hpr := Hpr.out
              rw [if_pos hfull] at hpr
              have Hpr2 := hide hpr
              clear hpr hfull
              go_wp2_with fail
              with_reducible refine (Hpy.out I nI cI w7 (H.out.keep HbW.out) (Hini.out.keep HbW.out) (Hp.out.keep HbW.out)).mono ?_
              rw [Hpr2.out]
              rintro e w8 ⟨hb8, A8, n8, c8, rfl, _⟩
              simp only
              clear t_0 t_1 t_2 t_3
              replace BQ := hide (BQ.out.keep hb8)
              replace HbW := hide (HbW.out.trans (hb8.mono HbW.out.size))
              clear hb8
              unfold fault
              go_upto_region 12 with (fail)
              have bS := Blk.new w8 29 [.int .i64 11, .int .i64 (((runF T.ops T.init plan).length : Int) - 1)]
              have hbS : Below w8.heap.size w8 (w8.alloc (.cells #[.int .i64 11, .int .i64 (((runF T.ops T.init plan).length : Int) - 1)] 29)) := (Below.refl _ _).alloc (Nat.le_refl _) _
              change Blk 29 (w8.alloc (.cells #[.int .i64 11, .int .i64 (((runF T.ops T.init plan).length : Int) - 1)] 29)) w8.heap.size [.int .i64 11, .int .i64 (((runF T.ops T.init plan).length : Int) - 1)] at bS
              obtain ⟨w9, hw⟩ : ∃ Z, Z = w8.alloc (.cells #[.int .i64 11, .int .i64 (((runF T.ops T.init plan).length : Int) - 1)] 29) := ⟨_, rfl⟩
              rw [← hw] at bS hbS ⊢
              clear hw
              obtain ⟨gs, hg⟩ : ∃ z, z = w8.heap.size := ⟨_, rfl⟩
              rw [← hg] at bS ⊢
              clear hg
              have BS := hide bS
              clear bS
              replace BQ := hide (BQ.out.keep hbS)
              replace HbW := hide (HbW.out.trans (hbS.mono HbW.out.size))
              have q_0 := BQ.out.cell 0
              have q_l := BQ.out.lt
              have s_0 := BS.out.cell 0
              have s_l := BS.out.lt
              simp only [List.getElem?_cons_zero, List.getElem?_cons_succ] at q_0 s_0
              clear hbS
              go_wp2_with fail
              go_ret
              exact ⟨rfl, HbW.out⟩
            · obtain rfl : bb = true := Hiff.out.2 ⟨by first | trivial | rfl, Hrf.out.2 (by have := Hrl.out; omega)⟩
              have hpr := Hpr.out
              rw [if_neg hfull] at hpr
              have Hpr2 := hide hpr
              clear hpr hfull
              go_wp2_with fail
              with_reducible refine (Hpy.out I nI cI w7 (H.out.keep HbW.out) (Hini.out.keep HbW.out) (Hp.out.keep HbW.out)).mono ?_
              rw [Hpr2.out]
              rintro e w8 ⟨hb8, A8, n8, c8, rfl, _⟩
              simp only
              clear t_0 t_1 t_2 t_3
              replace BQ := hide (BQ.out.keep hb8)
              replace HbW := hide (HbW.out.trans (hb8.mono HbW.out.size))
              clear hb8
              unfold fault
              go_upto_region 12 with (fail)
              have bS := Blk.new w8 29 [.int .i64 0, .int .i64 0]
              have hbS : Below w8.heap.size w8 (w8.alloc (.cells #[.int .i64 0, .int .i64 0] 29)) := (Below.refl _ _).alloc (Nat.le_refl _) _
              change Blk 29 (w8.alloc (.cells #[.int .i64 0, .int .i64 0] 29)) w8.heap.size [.int .i64 0, .int .i64 0] at bS
              obtain ⟨w9, hw⟩ : ∃ Z, Z = w8.alloc (.cells #[.int .i64 0, .int .i64 0] 29) := ⟨_, rfl⟩
              rw [← hw] at bS hbS ⊢
              clear hw
              obtain ⟨gs, hg⟩ : ∃ z, z = w8.heap.size := ⟨_, rfl⟩
              rw [← hg] at bS ⊢
              clear hg
              have BS := hide bS
              clear bS
              replace BQ := hide (BQ.out.keep hbS)
              replace HbW := hide (HbW.out.trans (hbS.mono HbW.out.size))
              have q_0 := BQ.out.cell 0
              have q_l := BQ.out.lt
              have s_0 := BS.out.cell 0
              have s_l := BS.out.lt
              simp only [List.getElem?_cons_zero, List.getElem?_cons_succ] at q_0 s_0
              clear hbS
              go_wp2_with fail
              go_ret
              exact ⟨rfl, HbW.out⟩
          · have hki : (k : Int) < (nO : Int) := by omega
            have hnA : blkA A ≠ some g5 := own_neB Hown.out HBx.out (by decide)
            have hnL : blkA A ≠ some gL := own_neB Hown.out HLx.out (by decide)
            have hn13 : n ≤ 20 := by have := Hown.out.len; rw [freeMs_len] at this; omega
            have hlg : gL + 1 ≤ wr.heap.size := by have := HBx.out.lt; have := Hg5.out; omega
            have hlr : g5 < wr.heap.size := HBx.out.lt
            have hAl : ∀ b, blkA A = some b → b < wr.heap.size := fun b e => (Hown.out.base e).2
            have hS := Blk.new wr 3 [.int .i64 (k : Int), .int .i64 (-1)]
            have hbS : Below wr.heap.size wr (wr.alloc (.cells #[.int .i64 (k : Int), .int .i64 (-1)] 3)) := (Below.refl _ _).alloc (Nat.le_refl _) _
            change Blk 3 (wr.alloc (.cells #[.int .i64 (k : Int), .int .i64 (-1)] 3)) wr.heap.size [.int .i64 (k : Int), .int .i64 (-1)] at hS
            have hownS := Hown.out.keep hbS
            have hfirm : Firm Enc.me (fun b => b = g5 ∨ blkA A = some b) (wr.alloc (.cells #[.int .i64 (k : Int), .int .i64 (-1)] 3)) [.int .i64 0, .slice none 0 0, .slice (some ⟨wr.heap.size, 0, none⟩) 2 2] ⟨0, [], [(k : Int), -1]⟩ := fun w' hc => ⟨none, 0, 0, _, 2, 2, rfl, by unfold I64s; simp, Rd.nil_ _ _, Rd.lit_ints [(k : Int), -1] (hc.blk hS (fun e => by
              rcases e with e | e
              · omega
              · have := hAl _ e
                omega)) (by simp) (fun y hy => by
              simp only [List.mem_cons, List.not_mem_nil, or_false] at hy
              rcases hy with rfl | rfl <;> omega)⟩
            have blkS := HBx.out.keep hbS
            have HfS := hide hfirm
            have HoS := hide hownS
            have HBS := hide blkS
            have HbS := hide hbS
            clear hS hbS hownS hfirm blkS
            go_wp2_with
              (at_builtin
               refine wpList_pushMe rfl _ _ rfl rfl HoS.out (fun r hr => .inr hr) (.int .i64 0) (.slice none 0 0) (.slice (some ⟨wr.heap.size, 0, none⟩) 2 2) ⟨0, [], [(k : Int), -1]⟩ rfl rfl rfl (by rw [World.size_alloc]; rfl) HfS.out (by omega) (by simp only [World.size_alloc]; omega) ?_
               intro O6 oc6 w6 hown6 hch6 hat6
               have b6 := hch6.blk HBS.out hnA
               have f5 := b6.frozen 5
               have l5 := b6.lt
               have c5 := b6.cell 5
               simp only [List.getElem?_cons_zero, List.getElem?_cons_succ] at c5
               have Hown6 := hide hown6
               have Hch6 := hide hch6
               have Hat6 := hide hat6
               have HB6 := hide b6
               clear hown6 hch6 hat6 b6)
            have b7 := HB6.out.set 5 (.slice O6 (n + 1) oc6)
            simp only [List.set_cons_zero, List.set_cons_succ] at b7
            have hset := Chg.set w6 g5 5 (.slice O6 (n + 1) oc6)
            have hn6 : blkA O6 ≠ some g5 := fun e => by
              rcases Hat6.out with e2 | e2
              · exact hnA (by rw [← e2]; exact e)
              · rw [e2] at e
                injection e with e
                simp only [World.size_alloc] at e
                omega
            have hown7 := (Hown6.out.less (M' := fun b => b = g5 ∨ blkA O6 = some b) (fun b _ e => by
              rcases e with e | e
              · exact .inl (.inl e)
              · rcases Hat6.out with e2 | e2
                · exact .inl (.inr (by rw [← e2]; exact e))
                · refine .inr ?_
                  rw [e2] at e
                  injection e with e
                  omega)).chg hset (fun b e => .inl e) (fun r hr e => hn6 (by rw [hr, e]))
            have hb27 : Below w2.heap.size w2 (w6.setCell ⟨g5, 5, none⟩ (.slice O6 (n + 1) oc6)) := by
              have h1 := Hbx.out.size
              have h2 := HgL.out
              have h3 := Hg5.out
              have h4 := HbS.out.size
              refine ((Hbx.out.trans (HbS.out.mono h1)).trans (Hch6.out.below (B := w2.heap.size) (fun b e => ?_) (by omega))).trans (hset.below (fun b e => by omega) ?_)
              · have := (Hown.out.base e).1
                omega
              · have := Hch6.out.size
                omega
            have hL7 := hset.blk (Hch6.out.blk (HLx.out.keep HbS.out) hnL) (by have := Hg5.out; omega)
            go_roundw
            case rel => exact ⟨k + 1, O6, n + 1, oc6, _, by omega, by go_num, b7, by rw [freeMs_succ]; exact hown7, hL7, hb27⟩
            case measure => simp [intOf]; omega
end Go.Proofs.Ytmjiiddncbhgpaa
