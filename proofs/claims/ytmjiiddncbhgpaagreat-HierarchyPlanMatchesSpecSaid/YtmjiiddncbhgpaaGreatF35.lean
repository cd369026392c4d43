/- The law HierarchyPlanMatchesSpec of the package hierarchy holds, without a condition., part 35: Rfd. -/
import Derived.Test.YtmjiiddncbhgpaaGreatF1
import Derived.Test.YtmjiiddncbhgpaaGreatF2
import Derived.Test.YtmjiiddncbhgpaaGreatF3
import Derived.Test.YtmjiiddncbhgpaaGreatF4
import Derived.Test.YtmjiiddncbhgpaaGreatF5
import Derived.Test.YtmjiiddncbhgpaaGreatF6
import Derived.Test.YtmjiiddncbhgpaaGreatF7
import Derived.Test.YtmjiiddncbhgpaaGreatF8
import Derived.Test.YtmjiiddncbhgpaaGreatF9
import Derived.Test.YtmjiiddncbhgpaaGreatF10
import Derived.Test.YtmjiiddncbhgpaaGreatF11
import Derived.Test.YtmjiiddncbhgpaaGreatF12
import Derived.Test.YtmjiiddncbhgpaaGreatF13
import Derived.Test.YtmjiiddncbhgpaaGreatF14
import Derived.Test.YtmjiiddncbhgpaaGreatF15
import Derived.Test.YtmjiiddncbhgpaaGreatF16
import Derived.Test.YtmjiiddncbhgpaaGreatF17
import Derived.Test.YtmjiiddncbhgpaaGreatF18
import Derived.Test.YtmjiiddncbhgpaaGreatF19
import Derived.Test.YtmjiiddncbhgpaaGreatF20
import Derived.Test.YtmjiiddncbhgpaaGreatF21
import Derived.Test.YtmjiiddncbhgpaaGreatF33
import Derived.Test.YtmjiiddncbhgpaaGreatF34
import Derived.BigQuiet
import Derived.Deep.AppendLies
import Derived.Deep.DeepCutAuto
import Derived.Deep.Draws
import Derived.Deep.Fields
import Derived.Deep.LoopGhost
import Derived.Deep.QuietTactic
import Derived.Deep.RegionHeld3
import Derived.Deep.Slices
import Derived.DeepKeys4
import Derived.Ground.Names2Prog
import Derived.Ground.SlgnProg
import Derived.Ground.SlsfProg
import Derived.IntWalk
import Derived.Laws.AppendOwnNone
import Derived.Laws.BitsAllLaws
import Derived.Laws.OwnMore
import Derived.Laws.StructEq
import Derived.Lib.Hide
import Derived.Lib.SlicesCompact
import Derived.LoopIn
import Derived.LoopNIn
import Derived.Maps.AppendAt
import Derived.Maps.OwnIn
import Derived.Maps.OwnOps
import Derived.Maps.OwnSet
import Derived.OrdersHeld
import Derived.OrdersIn
import Derived.OwnWalkIn
import Derived.RangeFuncBound
import Derived.RangeFuncCalls
import Derived.RangeFuncLeaves
import Derived.RangeFuncNested
import Derived.Shelf.Abstract
import Derived.Shelf.RegionOpen
import Derived.Shelf.Slices.Cells
import Derived.Shelf.Slices.Clone
import Derived.Shelf.Slices.CompactI
import Derived.Shelf.Slices.Empties
import Derived.Shelf.Slices.In.SortNone
import Derived.Shelf.Slices.SearchI
import Derived.Shelf.Sort.Plain
import Derived.Sort.CutIn
import Derived.Sort.OwnSortedInts
import Derived.StillTail
import Derived.StillTailTactics
import Derived.TacticsInMore
import Derived.Test.YtmjiiddncbhgpaaGreatProg
import Derived.WalkKit
namespace Go.Proofs.YtmjiiddncbhgpaaGreat
set_option linter.unusedVariables false
set_option linter.unusedSimpArgs false
open Go.RowKit
/-- Refined's answer -/
def RfdQ (w : World) (h : Hy) (lim : Nat) (e : Ending) (w' : World) : Prop := Below w.heap.size w w' ∧ ∃ R : Int, e = .returned (.int .i64 R) ∧ RefR h lim R
set_option maxRecDepth 100000 in
set_option maxHeartbeats 25600000 in
theorem Refined_ct (b : HA) (h : Hy) (N KK : Nat) (hok : OkH h N KK) (lim : Nat) (w : World) (hh : HyR w b h) (hl8 : lim ≤ 8) (hf : FewL h.T.ops.length lim) :
    Calls Tryz.prog 29 #[.agg #[.int .i64 h.T.facts, .slice b.a.I b.a.nI b.a.cI, .slice b.a.G b.a.nG b.a.cG, .slice b.a.O b.a.nO b.a.cO, .int .i64 h.tasks, .slice b.M b.nM b.cM, .slice b.L b.nL b.cL], .int .i64 lim] w (RfdQ w h lim) := by
  have happ := fun B m d l q W h2 hl hq => RApplies_ct b.a h.T B m d l q W h2 hl hq
  have haft := fun B m d l q W hh hl hq => RAfter_ct b.a h.T N B m d l q W hh hok.task.facts (by have := hok.task.low; omega) hl hq
  have hre := fun A n c plan W hW hl hn hx => Refines_ct b h N KK hok A n c plan W hW hl hn hx
  have hon := hh.task.ops.low
  have hol := hh.task.ops.len
  obtain ⟨i1, hi1, hy0, hy1, hy2⟩ := info_parts rowInfoHI
  obtain ⟨⟨I, nI, cI, G, nG, cG, O, nO, cO⟩, M, nM, cM, L, nL, cL⟩ := b
  obtain ⟨T, K, ms, li⟩ := h
  try simp only at happ haft hre hon hol hf ⊢
  have hfew := hok.task.few
  have hop := hok.task.ops
  have Happ := hide happ
  have Haft := hide haft
  have Hre := hide hre
  have Hol := hide hol
  have Hop := hide hop
  have HH := hide hh
  have Hok := hide hok
  have Hf := hide hf
  clear happ haft hre hol hop hh hok hf
  go_enter Tryz.func29, Tryz.ntmps29
  go_upto_region 1 with (fail)
  have hT := Blk.new w 50 [.int .i64 T.facts, .slice I nI cI, .slice G nG cG, .slice O nO cO, .int .i64 K, .slice M nM cM, .slice L nL cL]
  have hb0 := (Below.refl w.heap.size w).alloc (Nat.le_refl _) (.cells #[.int .i64 T.facts, .slice I nI cI, .slice G nG cG, .slice O nO cO, .int .i64 K, .slice M nM cM, .slice L nL cL] 50)
  obtain ⟨W0, hW0⟩ : ∃ W0, W0 = w.alloc (.cells #[.int .i64 T.facts, .slice I nI cI, .slice G nG cG, .slice O nO cO, .int .i64 K, .slice M nM cM, .slice L nL cL] 50) := ⟨_, rfl⟩
  rw [← hW0] at hT hb0 ⊢
  clear hW0
  generalize w.heap.size = gT at hT ⊢
  go_upto_region 2 with (fail)
  have ho1 := own_oneH (t := 22) (E := Enc.sl Enc.int) (M := fun _ => False) (w := W0) (us := [.slice none 0 0]) (x := ([] : List Int)) (fun W hb w' hc => ⟨none, 0, 0, rfl, Rd.nil_ _ _⟩)
  have hr1 := ho1.rd
  have hb1 := (Below.refl W0.heap.size W0).alloc (Nat.le_refl _) (.cells #[.slice none 0 0] 22)
  change Rd _ (W0.alloc (.cells #[.slice none 0 0] 22)) _ _ _ _ at hr1
  obtain ⟨W1, hW1⟩ : ∃ W1, W1 = W0.alloc (.cells #[.slice none 0 0] 22) := ⟨_, rfl⟩
  rw [← hW1] at hb1 hr1 ⊢
  clear hW1 ho1
  generalize W0.heap.size = gL at hr1 ⊢
  replace hT := hT.keep hb1
  replace hb1 := hb0.trans (hb1.mono hb0.size)
  clear hb0
  have t0 := hT.cell 0
  have t1 := hT.cell 1
  have tl := hT.lt
  simp only [List.getElem?_cons_zero, List.getElem?_cons_succ] at t0 t1
  have HT := hide hT
  have Hr1 := hide hr1
  have Hb1 := hide hb1
  clear hT hr1 hb1
  go_upto_region 3 with (fail)
  have hM : ∀ W, Below W1.heap.size W1 W → Firm (Enc.sl Enc.int) (fun b => W1.heap.size ≤ b) W [.slice I nI cI] T.init := fun W hb => firm_old (w0 := w) (E := Enc.sl Enc.int) ⟨I, nI, cI, rfl, HH.out.task.init⟩ (Hb1.out.trans (hb.mono Hb1.out.size)) (fun i hi => Nat.le_trans Hb1.out.size hi)
  have hr2 := (own_oneH (t := 22) hM).rd
  change Rd _ (W1.alloc (.cells #[.slice I nI cI] 22)) _ _ _ _ at hr2
  have hb2 := (Below.refl W1.heap.size W1).alloc (Nat.le_refl _) (.cells #[.slice I nI cI] 22)
  obtain ⟨W2, hW2⟩ : ∃ W2, W2 = W1.alloc (.cells #[.slice I nI cI] 22) := ⟨_, rfl⟩
  rw [← hW2] at hb2 hr2 ⊢
  clear hW2 hM t0 t1 tl
  generalize W1.heap.size = gE at hr2 ⊢
  have HP := hide (HT.out.keep hb2)
  have RL := hide (Hr1.out.keep hb2)
  have RE := hide hr2
  have HB := hide (Hb1.out.trans (hb2.mono Hb1.out.size))
  clear hr2 hb2 HT Hr1 Hb1
  go_wp2_with fail
  go_loopw [5, 6, 7] (fun lv ev nv wr => ∃ (n nl : Nat) (Q E : Option Addr) (cl ce : Nat), lv = .slice Q nl cl ∧ ev = .slice E nl ce ∧ nv = .int .i64 n ∧ n ≤ lim + 1 ∧ Below w.heap.size w wr ∧ Blk 50 wr gT [.int .i64 T.facts, .slice I nI cI, .slice G nG cG, .slice O nO cO, .int .i64 K, .slice M nM cM, .slice L nL cL] ∧
      Rd (Enc.sl Enc.int) wr Q nl cl ((levL T n).map Prod.fst) ∧ Rd (Enc.sl Enc.int) wr E nl ce ((levL T n).map Prod.snd) ∧ NoG ⟨T, K, ms, li⟩ n 0) (fun _ _ nv _ => lim + 1 - (intOf nv).toNat)
  case atStart => exact ⟨0, 1, _, _, 1, 1, rfl, rfl, rfl, by omega, HB.out, HP.out, RL.out, RE.out, NoG.zero _⟩
  case round =>
    obtain ⟨n, nl, Q, E, cl, ce, rfl, rfl, rfl, hn1, hB, hP, hRL, hRE, hno⟩ := hrel
    clear HB HP RL RE
    obtain ⟨W1, rfl⟩ : ∃ V, V = wr := ⟨_, rfl⟩
    have HB := hide hB
    have HP := hide hP
    have RL := hide hRL
    have RE := hide hRE
    have Hno := hide hno
    have hlen := hRL.len
    rw [List.length_map] at hlen
    have Hlen := hide hlen
    have hlw := hRL.low
    clear hB hP hRL hRE hno hlen
    by_cases hlt : n ≤ lim
    · have hn700 : nl ≤ 700 := by
        have := Hf.out.lev hlt
        rw [Hlen.out] at this
        exact this
      have hnl : (n : Int) ≤ (lim : Int) := by omega
      have HfN := hide (fun i => Hf.out.next (i := i) Hok.out.task hlt)
      clear hn1
      go_wp2_with fail
      go_loopw [8, 9, 10] (fun xv yv iv wr => ∃ (i nn : Nat) (X Y : Option Addr) (cx cy : Nat) (vs us : List Value), xv = .slice X nn cx ∧ yv = .slice Y nn cy ∧ iv = .int .i64 i ∧ i ≤ nl ∧
          LvS W1 wr X nn cx vs ((nextM T ((levL T n).take i)).map Prod.fst) Y nn cy us ((nextM T ((levL T n).take i)).map Prod.snd) ∧ NoG ⟨T, K, ms, li⟩ n i) (fun _ _ iv _ => nl - (intOf iv).toNat)
      case atStart => exact ⟨0, 0, none, none, 0, 0, [], [], rfl, rfl, rfl, by omega, LvS.nil _, Hno.out⟩
      case round =>
        obtain ⟨i, nn, X, Y, cx, cy, vs, us, rfl, rfl, rfl, hin, hS, hno⟩ := hrel
        clear Hno
        have Hno := hide hno
        have HS := hide hS
        clear hno hS
        by_cases hli : i < nl
        · obtain ⟨⟨p, s⟩, hps⟩ : ∃ x, (levL T n)[i]? = some x := ⟨_, List.getElem?_eq_getElem (by rw [Hlen.out]; exact hli)⟩
          obtain ⟨b1, o1, p1, A1, n1, c1, e1, hx1, hc1, hr1⟩ := RL.out.sl hli
          obtain ⟨b2, o2, p2, A2, n2, c2, e2, hx2, hc2, hr2⟩ := RE.out.sl hli
          rw [List.getElem?_map, hps] at hx1 hx2
          simp only [Option.map_some, Option.some.injEq] at hx1 hx2
          subst hx1 hx2 e1 e2
          obtain ⟨hset, hpl, hpr⟩ := levL_set Hok.out.task (List.mem_of_getElem? hps)
          have hn1 : n1 ≤ 8 := by
            have := hr1.len
            omega
          have Lc := hide hc1
          have Ec := hide hc2
          have Hrp := hide hr1
          have Hrs := hide hr2
          have Hps := hide hps
          have Hset := hide hset
          have Hpr := hide hpr
          clear hc1 hc2 hr1 hr2 hps hset hpl hpr
          have hini : ((i : Nat) : Int) < (nl : Int) := by omega
          have t0 := (HP.out.keep HS.out.low).cell 0
          have t1 := (HP.out.keep HS.out.low).cell 1
          have t2 := (HP.out.keep HS.out.low).cell 2
          have t3 := (HP.out.keep HS.out.low).cell 3
          have t4 := (HP.out.keep HS.out.low).cell 4
          have t5 := (HP.out.keep HS.out.low).cell 5
          have t6 := (HP.out.keep HS.out.low).cell 6
          have tl := (HP.out.keep HS.out.low).lt
          simp only [List.getElem?_cons_zero, List.getElem?_cons_succ] at t0 t1 t2 t3 t4 t5 t6
          have lc := cellOf_lowH HS.out.low Lc.out
          have ec := cellOf_lowH HS.out.low Ec.out

          go_upto_region 10 with (fail)
          refine wp_region_held_drew (S := (fun w3 => w3.cell? ⟨gT, 0, none⟩ = some (.int .i64 T.facts) ∧ w3.cell? ⟨gT, 1, none⟩ = some (.slice I nI cI) ∧ w3.cell? ⟨gT, 2, none⟩ = some (.slice G nG cG) ∧ w3.cell? ⟨gT, 3, none⟩ = some (.slice O nO cO) ∧ w3.cell? ⟨gT, 4, none⟩ = some (.int .i64 K) ∧ w3.cell? ⟨gT, 5, none⟩ = some (.slice M nM cM) ∧ w3.cell? ⟨gT, 6, none⟩ = some (.slice L nL cL) ∧ w3.cell? ⟨b1, o1 + i, none⟩ = some (.slice A1 n1 c1) ∧ w3.cell? ⟨b2, o2 + i, none⟩ = some (.slice A2 n2 c2))) (by kernel_rfl) ?_ (fun hHeld => ?_)
          · (try dsimp only); exact ⟨t0, t1, t2, t3, t4, t5, t6, lc, ec⟩
          obtain ⟨w3, hW⟩ : ∃ W, W = wr.drew := ⟨_, rfl⟩
          have hb : Below wr.heap.size wr w3 := by rw [hW]; exact (Below.refl _ _).drew
          rw [← hW] at hHeld ⊢
          clear hW
          clear t0 t1 t2 t3 t4 t5 t6 tl lc ec
          replace HS := hide (HS.out.keep hb)
          clear hb
          have t0 := (HP.out.keep HS.out.low).cell 0
          have t1 := (HP.out.keep HS.out.low).cell 1
          have t2 := (HP.out.keep HS.out.low).cell 2
          have t3 := (HP.out.keep HS.out.low).cell 3
          have t4 := (HP.out.keep HS.out.low).cell 4
          have t5 := (HP.out.keep HS.out.low).cell 5
          have t6 := (HP.out.keep HS.out.low).cell 6
          have tl := (HP.out.keep HS.out.low).lt
          simp only [List.getElem?_cons_zero, List.getElem?_cons_succ] at t0 t1 t2 t3 t4 t5 t6
          have lc := cellOf_lowH HS.out.low Lc.out
          have ec := cellOf_lowH HS.out.low Ec.out
          refine takeC (i := 0) (v := ?_) (some 28) rfl rfl (by kernel_rfl) (by kernel_rfl) (by kernel_rfl) (fun _ _ _ h => h) (Or.inl ⟨by rfl, ?_⟩) (by assumption) ?_
          rotate_left
          · intro w hSw; (try dsimp only at hSw); obtain ⟨s0, s1, s2, s3, s4, s5, s6, s7, s8⟩ := hSw; first | (go_simp; done) | (go_simp; with_reducible rfl)
          try simp only [Act.put, List.setIfInBounds_toArray, List.set_cons_zero, List.set_cons_succ]
          refine takeC (i := 1) (v := ?_) (some 29) rfl rfl (by kernel_rfl) (by kernel_rfl) (by kernel_rfl) (fun _ _ _ h => h) (Or.inl ⟨by rfl, ?_⟩) (by assumption) ?_
          rotate_left
          · intro w hSw; (try dsimp only at hSw); obtain ⟨s0, s1, s2, s3, s4, s5, s6, s7, s8⟩ := hSw; first | (go_simp; done) | (go_simp; with_reducible rfl)
          try simp only [Act.put, List.setIfInBounds_toArray, List.set_cons_zero, List.set_cons_succ]
          refine takeC (i := 2) (v := ?_) (some 30) rfl rfl (by kernel_rfl) (by kernel_rfl) (by kernel_rfl) (fun _ _ _ h => h) (Or.inl ⟨by rfl, ?_⟩) (by assumption) ?_
          rotate_left
          · intro w hSw; (try dsimp only at hSw); obtain ⟨s0, s1, s2, s3, s4, s5, s6, s7, s8⟩ := hSw; first | (go_simp; done) | (go_simp; with_reducible rfl)
          try simp only [Act.put, List.setIfInBounds_toArray, List.set_cons_zero, List.set_cons_succ]
          refine takeC (i := 3) (v := ?_) (some 31) rfl rfl (by kernel_rfl) (by kernel_rfl) (by kernel_rfl) (fun _ _ _ h => h) (Or.inl ⟨by rfl, ?_⟩) (by assumption) ?_
          rotate_left
          · intro w hSw; (try dsimp only at hSw); obtain ⟨s0, s1, s2, s3, s4, s5, s6, s7, s8⟩ := hSw; first | (go_simp; done) | (go_simp; with_reducible rfl)
          try simp only [Act.put, List.setIfInBounds_toArray, List.set_cons_zero, List.set_cons_succ]
          refine takeC (i := 4) (v := ?_) (some 32) rfl rfl (by kernel_rfl) (by kernel_rfl) (by kernel_rfl) (fun _ _ _ h => h) (Or.inl ⟨by rfl, ?_⟩) (by assumption) ?_
          rotate_left
          · intro w hSw; (try dsimp only at hSw); obtain ⟨s0, s1, s2, s3, s4, s5, s6, s7, s8⟩ := hSw; first | (go_simp; done) | (go_simp; with_reducible rfl)
          try simp only [Act.put, List.setIfInBounds_toArray, List.set_cons_zero, List.set_cons_succ]
          refine takeC (i := 5) (v := ?_) (some 33) rfl rfl (by kernel_rfl) (by kernel_rfl) (by kernel_rfl) (fun _ _ _ h => h) (Or.inl ⟨by rfl, ?_⟩) (by assumption) ?_
          rotate_left
          · intro w hSw; (try dsimp only at hSw); obtain ⟨s0, s1, s2, s3, s4, s5, s6, s7, s8⟩ := hSw; first | (go_simp; done) | (go_simp; with_reducible rfl)
          try simp only [Act.put, List.setIfInBounds_toArray, List.set_cons_zero, List.set_cons_succ]
          refine takeC (i := 6) (v := ?_) (some 34) rfl rfl (by kernel_rfl) (by kernel_rfl) (by kernel_rfl) (fun _ _ _ h => h) (Or.inl ⟨by rfl, ?_⟩) (by assumption) ?_
          rotate_left
          · intro w hSw; (try dsimp only at hSw); obtain ⟨s0, s1, s2, s3, s4, s5, s6, s7, s8⟩ := hSw; first | (go_simp; done) | (go_simp; with_reducible rfl)
          try simp only [Act.put, List.setIfInBounds_toArray, List.set_cons_zero, List.set_cons_succ]
          have hsb := Subset_ct G A2 nG cG n2 c2 T.goal s w3 (HH.out.task.goal.keep (HB.out.trans (HS.out.low.mono HB.out.size))) (Hrs.out.keep HS.out.low)
          rcases hv1 : subsetB T.goal s with _ | _
          · have Hv1 := hide hv1
            have hno1 := Hno.out.one Hps.out (by rw [Hv1.out]; simp)
            clear Hno hv1
            have Hno := hide hno1
            clear hno1
            rw [Hv1.out] at hsb
            have Hsb := hide hsb
            clear hsb
            refine wpAnyH_ready (rs := [7]) (by kernel_rfl) (by simp) ?_
            refine AllReadyH.cons rfl (fun K hK => ?_) AllReadyH.nil
            go_simp
            with_reducible refine Hsb.out.mono ?_
            rintro e w4 ⟨rfl, hq⟩
            have hb := hq.below w3.heap.size
            clear hq
            clear t0 t1 t2 t3 t4 t5 t6 tl lc ec
            replace HS := hide (HS.out.keep hb)
            clear hb
            have t0 := (HP.out.keep HS.out.low).cell 0
            have t1 := (HP.out.keep HS.out.low).cell 1
            have t2 := (HP.out.keep HS.out.low).cell 2
            have t3 := (HP.out.keep HS.out.low).cell 3
            have t4 := (HP.out.keep HS.out.low).cell 4
            have t5 := (HP.out.keep HS.out.low).cell 5
            have t6 := (HP.out.keep HS.out.low).cell 6
            have tl := (HP.out.keep HS.out.low).lt
            simp only [List.getElem?_cons_zero, List.getElem?_cons_succ] at t0 t1 t2 t3 t4 t5 t6
            have lc := cellOf_lowH HS.out.low Lc.out
            have ec := cellOf_lowH HS.out.low Ec.out
            refine hK.out _ _ ?_ (fun hHeld2 => ?_)
            · (try dsimp only); exact ⟨t0, t1, t2, t3, t4, t5, t6, lc, ec⟩
            clear hK K hHeld
            try simp only [Act.put, List.setIfInBounds_toArray, List.set_cons_zero, List.set_cons_succ]
            have hHeld := hHeld2; clear hHeld2
            refine takeC (i := 8) (v := ?_) (some 36) rfl rfl (by kernel_rfl) (by kernel_rfl) (by kernel_rfl) (fun _ _ _ h => h) (Or.inl ⟨by rfl, ?_⟩) (by assumption) ?_
            rotate_left
            · intro w hSw; (try dsimp only at hSw); obtain ⟨s0, s1, s2, s3, s4, s5, s6, s7, s8⟩ := hSw; first | (go_simp; done) | (go_simp; with_reducible rfl)
            try simp only [Act.put, List.setIfInBounds_toArray, List.set_cons_zero, List.set_cons_succ]
            refine takeC (i := 9) (v := undef) (some 37) rfl rfl (by kernel_rfl) (by kernel_rfl) (by kernel_rfl) (fun _ _ _ h => h) (Or.inr ⟨by rfl, rfl⟩) (by assumption) ?_
            try simp only [Act.put, List.setIfInBounds_toArray, List.set_cons_zero, List.set_cons_succ]
            refine takeC (i := 10) (v := undef) (some 38) rfl rfl (by kernel_rfl) (by kernel_rfl) (by kernel_rfl) (fun _ _ _ h => h) (Or.inr ⟨by rfl, rfl⟩) (by assumption) ?_
            try simp only [Act.put, List.setIfInBounds_toArray, List.set_cons_zero, List.set_cons_succ]
            refine takeC (i := 11) (v := undef) (some 39) rfl rfl (by kernel_rfl) (by kernel_rfl) (by kernel_rfl) (fun _ _ _ h => h) (Or.inr ⟨by rfl, rfl⟩) (by assumption) ?_
            try simp only [Act.put, List.setIfInBounds_toArray, List.set_cons_zero, List.set_cons_succ]
            refine takeC (i := 12) (v := undef) (some 40) rfl rfl (by kernel_rfl) (by kernel_rfl) (by kernel_rfl) (fun _ _ _ h => h) (Or.inr ⟨by rfl, rfl⟩) (by assumption) ?_
            try simp only [Act.put, List.setIfInBounds_toArray, List.set_cons_zero, List.set_cons_succ]
            refine takeC (i := 13) (v := undef) (some 41) rfl rfl (by kernel_rfl) (by kernel_rfl) (by kernel_rfl) (fun _ _ _ h => h) (Or.inr ⟨by rfl, rfl⟩) (by assumption) ?_
            try simp only [Act.put, List.setIfInBounds_toArray, List.set_cons_zero, List.set_cons_succ]
            refine takeC (i := 14) (v := undef) (some 42) rfl rfl (by kernel_rfl) (by kernel_rfl) (by kernel_rfl) (fun _ _ _ h => h) (Or.inr ⟨by rfl, rfl⟩) (by assumption) ?_
            try simp only [Act.put, List.setIfInBounds_toArray, List.set_cons_zero, List.set_cons_succ]
            refine takeC (i := 15) (v := ?_) (some 43) rfl rfl (by kernel_rfl) (by kernel_rfl) (by kernel_rfl) (fun _ _ _ h => h) (Or.inl ⟨by rfl, ?_⟩) (by assumption) ?_
            rotate_left
            · intro w hSw; (try dsimp only at hSw); obtain ⟨s0, s1, s2, s3, s4, s5, s6, s7, s8⟩ := hSw; first | (go_simp; done) | (go_simp; with_reducible rfl)
            try simp only [Act.put, List.setIfInBounds_toArray, List.set_cons_zero, List.set_cons_succ]
            refine wpAnyH_done (by kernel_rfl) ?_ _
            clear t0 t1 t2 t3 t4 t5 t6 tl lc ec
            go_wp2_with fail
            go_loopw [8, 9, 11] (fun xv yv qv wr => ∃ (q nn : Nat) (X Y : Option Addr) (cx cy : Nat) (vs us : List Value), xv = .slice X nn cx ∧ yv = .slice Y nn cy ∧ qv = .int .i64 q ∧ q ≤ nO ∧
                LvS W1 wr X nn cx vs ((nextM T ((levL T n).take i) ++ nextU T p s q).map Prod.fst) Y nn cy us ((nextM T ((levL T n).take i) ++ nextU T p s q).map Prod.snd)) (fun _ _ qv _ => nO - (intOf qv).toNat)
            case atStart => exact ⟨0, nn, X, Y, cx, cy, vs, us, rfl, rfl, rfl, by omega, by rw [nextU_zero, List.append_nil]; exact HS.out⟩
            case round =>
              clear HS
              obtain ⟨q, nn, X, Y, cx, cy, vs, us, rfl, rfl, rfl, hqn, hS⟩ := hrel
              have hnn : nn ≤ 28040 := by
                have h1 := hS.nx.len
                rw [List.length_map, List.length_append] at h1
                have h2 := HfN.out i
                have h3 := nextU_len T p s q
                have h4 := Hol.out
                omega
              have HS := hide hS
              clear hS
              have t0 := (HP.out.keep HS.out.low).cell 0
              have t1 := (HP.out.keep HS.out.low).cell 1
              have t2 := (HP.out.keep HS.out.low).cell 2
              have t3 := (HP.out.keep HS.out.low).cell 3
              have t4 := (HP.out.keep HS.out.low).cell 4
              have t5 := (HP.out.keep HS.out.low).cell 5
              have t6 := (HP.out.keep HS.out.low).cell 6
              have tl := (HP.out.keep HS.out.low).lt
              simp only [List.getElem?_cons_zero, List.getElem?_cons_succ] at t0 t1 t2 t3 t4 t5 t6
              have lc := cellOf_lowH HS.out.low Lc.out
              have ec := cellOf_lowH HS.out.low Ec.out

              by_cases hqO : q < nO
              · have hqOi : (q : Int) < (nO : Int) := by omega
                have hql : q < T.ops.length := by rw [Hol.out]; exact hqO
                go_upto_region 15 with (fail)
                go_still_tail 7, (by kernel_rfl)
                change wpList _ _ _ _ _ wr.drew
                obtain ⟨w6, hW⟩ : ∃ W, W = wr.drew := ⟨_, rfl⟩
                have hb : Below wr.heap.size wr w6 := by rw [hW]; exact (Below.refl _ _).drew
                rw [← hW]
                clear hW
                clear t0 t1 t2 t3 t4 t5 t6 tl lc ec
                replace HS := hide (HS.out.keep hb)
                clear hb
                have t0 := (HP.out.keep HS.out.low).cell 0
                have t1 := (HP.out.keep HS.out.low).cell 1
                have t2 := (HP.out.keep HS.out.low).cell 2
                have t3 := (HP.out.keep HS.out.low).cell 3
                have t4 := (HP.out.keep HS.out.low).cell 4
                have t5 := (HP.out.keep HS.out.low).cell 5
                have t6 := (HP.out.keep HS.out.low).cell 6
                have tl := (HP.out.keep HS.out.low).lt
                simp only [List.getElem?_cons_zero, List.getElem?_cons_succ] at t0 t1 t2 t3 t4 t5 t6
                have lc := cellOf_lowH HS.out.low Lc.out
                have ec := cellOf_lowH HS.out.low Ec.out

                have hct := Happ.out A2 n2 c2 s q w6 (HH.out.task.keep (HB.out.trans (HS.out.low.mono HB.out.size))) (Hrs.out.keep HS.out.low) hqO
                rcases hv2 : subsetB (opAt T.ops (q : Int)).pre s with _ | _
                · rw [hv2] at hct
                  have hnx := nextU_no (p := p) hv2
                  have Hct := hide hct
                  have Hnx := hide hnx
                  clear hct hv2 hnx
                  go_wp2_with fail
                  with_reducible refine Hct.out.mono ?_
                  rintro e w7 ⟨rfl, hb⟩
                  clear Hct
                  clear t0 t1 t2 t3 t4 t5 t6 tl lc ec
                  replace HS := hide (HS.out.keep hb)
                  clear hb
                  have t0 := (HP.out.keep HS.out.low).cell 0
                  have t1 := (HP.out.keep HS.out.low).cell 1
                  have t2 := (HP.out.keep HS.out.low).cell 2
                  have t3 := (HP.out.keep HS.out.low).cell 3
                  have t4 := (HP.out.keep HS.out.low).cell 4
                  have t5 := (HP.out.keep HS.out.low).cell 5
                  have t6 := (HP.out.keep HS.out.low).cell 6
                  have tl := (HP.out.keep HS.out.low).lt
                  simp only [List.getElem?_cons_zero, List.getElem?_cons_succ] at t0 t1 t2 t3 t4 t5 t6
                  have lc := cellOf_lowH HS.out.low Lc.out
                  have ec := cellOf_lowH HS.out.low Ec.out

                  go_wp2_with fail
                  go_roundw
                  case rel => exact ⟨q + 1, nn, X, Y, cx, cy, vs, us, rfl, rfl, by go_num, by omega, by rw [Hnx.out]; exact HS.out⟩
                  case measure => simp [intOf]; omega
                · rw [hv2] at hct
                  have hnx := nextU_yes (p := p) hv2
                  have Hct := hide hct
                  have Hnx := hide hnx
                  clear hct hv2 hnx
                  go_wp2_with fail
                  with_reducible refine Hct.out.mono ?_
                  rintro e w7 ⟨rfl, hb⟩
                  clear Hct
                  clear t0 t1 t2 t3 t4 t5 t6 tl lc ec
                  replace HS := hide (HS.out.keep hb)
                  clear hb
                  have t0 := (HP.out.keep HS.out.low).cell 0
                  have t1 := (HP.out.keep HS.out.low).cell 1
                  have t2 := (HP.out.keep HS.out.low).cell 2
                  have t3 := (HP.out.keep HS.out.low).cell 3
                  have t4 := (HP.out.keep HS.out.low).cell 4
                  have t5 := (HP.out.keep HS.out.low).cell 5
                  have t6 := (HP.out.keep HS.out.low).cell 6
                  have tl := (HP.out.keep HS.out.low).lt
                  simp only [List.getElem?_cons_zero, List.getElem?_cons_succ] at t0 t1 t2 t3 t4 t5 t6
                  have lc := cellOf_lowH HS.out.low Lc.out
                  have ec := cellOf_lowH HS.out.low Ec.out

                  go_wp2_with fail
                  with_reducible refine (RCopy_ct A1 n1 c1 p w7 (Hrp.out.keep HS.out.low) (by omega)).mono ?_
                  rintro e w8 ⟨hb, A3, c3, rfl, hown⟩
                  clear t0 t1 t2 t3 t4 t5 t6 tl lc ec
                  have hri : ∀ x ∈ p, -9223372036854775808 ≤ x ∧ x ≤ 9223372036854775807 := fun x hx => by
                    have := Hpr.out x hx
                    omega
                  have hlp8 : p.length ≤ 8 := by
                    have := Hrp.out.len
                    omega
                  obtain ⟨lp, hlp⟩ : ∃ z, z = p.length := ⟨_, rfl⟩
                  rw [← hlp] at hown hlp8 ⊢
                  have hrI := rowI_of hown hlp.symm hri
                  have hbs : ∀ r, blkA A3 = some r → w7.heap.size ≤ r := fun r hr => (hrI.base hr).1
                  have HrI := hide hrI
                  clear hown hlp hrI hri
                  have hsz7 := hb.size
                  go_wp2_with (at_builtin
                               (first
                                | (refine wpList_pushI rfl _ _ rfl rfl HrI.out (q : Int) (by omega) (by omega) rfl (by omega) hsz7 ?_
                                   intro O9 oc9 w9 hrow9 hch9 hat9
                                   have hb79 := hb.trans (hch9.below hbs hb.size)
                                   have Hrow9 := hide hrow9
                                   clear hrow9 hch9 hat9 HrI hbs
                                   have HS9 := hide (HS.out.keep hb79)
                                   have hfirm := HS.out.firm Hrow9.out
                                   have Hfirm := hide hfirm
                                   clear hfirm HS hb hb79 Hrow9 hsz7)
                                | (refine wpList_pushE (E := Enc.sl Enc.int) rfl _ _ 42 rfl W1.heap.size 22 i1 (.slice none 0 0) 24 Tryz.underlying42 hi1 hy0 hy1 hy2 rfl (by decide) rfl HS9.out.nx (fun r hr => .inl hr) [.slice O9 (lp + 1) oc9] (p ++ [(q : Int)]) (by intro u hu; simp at hu; subst hu; rfl) rfl Hfirm.out (by omega) (by omega) HS9.out.low.size ?_
                                   intro O10 oc10 w10 hown10 hch10 hat10
                                   have HS := hide (HS9.out.pushX hown10 hch10 hat10)
                                   clear hown10 hch10 hat10 HS9 Hfirm)))
                  have t0 := (HP.out.keep HS.out.low).cell 0
                  have t1 := (HP.out.keep HS.out.low).cell 1
                  have t2 := (HP.out.keep HS.out.low).cell 2
                  have t3 := (HP.out.keep HS.out.low).cell 3
                  have t4 := (HP.out.keep HS.out.low).cell 4
                  have t5 := (HP.out.keep HS.out.low).cell 5
                  have t6 := (HP.out.keep HS.out.low).cell 6
                  have tl := (HP.out.keep HS.out.low).lt
                  simp only [List.getElem?_cons_zero, List.getElem?_cons_succ] at t0 t1 t2 t3 t4 t5 t6
                  have lc := cellOf_lowH HS.out.low Lc.out
                  have ec := cellOf_lowH HS.out.low Ec.out
                  go_upto_region 17 with (fail)
                  refine wp_region_held_drew (S := (fun w11 => w11.cell? ⟨gT, 0, none⟩ = some (.int .i64 T.facts) ∧ w11.cell? ⟨gT, 1, none⟩ = some (.slice I nI cI) ∧ w11.cell? ⟨gT, 2, none⟩ = some (.slice G nG cG) ∧ w11.cell? ⟨gT, 3, none⟩ = some (.slice O nO cO) ∧ w11.cell? ⟨gT, 4, none⟩ = some (.int .i64 K) ∧ w11.cell? ⟨gT, 5, none⟩ = some (.slice M nM cM) ∧ w11.cell? ⟨gT, 6, none⟩ = some (.slice L nL cL) ∧ w11.cell? ⟨b1, o1 + i, none⟩ = some (.slice A1 n1 c1) ∧ w11.cell? ⟨b2, o2 + i, none⟩ = some (.slice A2 n2 c2))) (by kernel_rfl) ?_ (fun hHeld => ?_)
                  · (try dsimp only); exact ⟨t0, t1, t2, t3, t4, t5, t6, lc, ec⟩
                  obtain ⟨w11, hW⟩ : ∃ W, W = w10.drew := ⟨_, rfl⟩
                  have hb : Below w10.heap.size w10 w11 := by rw [hW]; exact (Below.refl _ _).drew
                  rw [← hW] at hHeld ⊢
                  clear hW
                  clear t0 t1 t2 t3 t4 t5 t6 tl lc ec
                  replace HS := hide (HS.out.keep hb)
                  clear hb
                  have t0 := (HP.out.keep HS.out.low).cell 0
                  have t1 := (HP.out.keep HS.out.low).cell 1
                  have t2 := (HP.out.keep HS.out.low).cell 2
                  have t3 := (HP.out.keep HS.out.low).cell 3
                  have t4 := (HP.out.keep HS.out.low).cell 4
                  have t5 := (HP.out.keep HS.out.low).cell 5
                  have t6 := (HP.out.keep HS.out.low).cell 6
                  have tl := (HP.out.keep HS.out.low).lt
                  simp only [List.getElem?_cons_zero, List.getElem?_cons_succ] at t0 t1 t2 t3 t4 t5 t6
                  have lc := cellOf_lowH HS.out.low Lc.out
                  have ec := cellOf_lowH HS.out.low Ec.out
                  refine takeC (i := 0) (v := ?_) (some 72) rfl rfl (by kernel_rfl) (by kernel_rfl) (by kernel_rfl) (fun _ _ _ h => h) (Or.inl ⟨by rfl, ?_⟩) (by assumption) ?_
                  rotate_left
                  · intro w hSw; (try dsimp only at hSw); obtain ⟨s0, s1, s2, s3, s4, s5, s6, s7, s8⟩ := hSw; first | (go_simp; done) | (go_simp; with_reducible rfl)
                  try simp only [Act.put, List.setIfInBounds_toArray, List.set_cons_zero, List.set_cons_succ]
                  refine takeC (i := 1) (v := ?_) (some 73) rfl rfl (by kernel_rfl) (by kernel_rfl) (by kernel_rfl) (fun _ _ _ h => h) (Or.inl ⟨by rfl, ?_⟩) (by assumption) ?_
                  rotate_left
                  · intro w hSw; (try dsimp only at hSw); obtain ⟨s0, s1, s2, s3, s4, s5, s6, s7, s8⟩ := hSw; first | (go_simp; done) | (go_simp; with_reducible rfl)
                  try simp only [Act.put, List.setIfInBounds_toArray, List.set_cons_zero, List.set_cons_succ]
                  refine takeC (i := 2) (v := ?_) (some 74) rfl rfl (by kernel_rfl) (by kernel_rfl) (by kernel_rfl) (fun _ _ _ h => h) (Or.inl ⟨by rfl, ?_⟩) (by assumption) ?_
                  rotate_left
                  · intro w hSw; (try dsimp only at hSw); obtain ⟨s0, s1, s2, s3, s4, s5, s6, s7, s8⟩ := hSw; first | (go_simp; done) | (go_simp; with_reducible rfl)
                  try simp only [Act.put, List.setIfInBounds_toArray, List.set_cons_zero, List.set_cons_succ]
                  refine takeC (i := 3) (v := ?_) (some 75) rfl rfl (by kernel_rfl) (by kernel_rfl) (by kernel_rfl) (fun _ _ _ h => h) (Or.inl ⟨by rfl, ?_⟩) (by assumption) ?_
                  rotate_left
                  · intro w hSw; (try dsimp only at hSw); obtain ⟨s0, s1, s2, s3, s4, s5, s6, s7, s8⟩ := hSw; first | (go_simp; done) | (go_simp; with_reducible rfl)
                  try simp only [Act.put, List.setIfInBounds_toArray, List.set_cons_zero, List.set_cons_succ]
                  refine takeC (i := 4) (v := ?_) (some 76) rfl rfl (by kernel_rfl) (by kernel_rfl) (by kernel_rfl) (fun _ _ _ h => h) (Or.inl ⟨by rfl, ?_⟩) (by assumption) ?_
                  rotate_left
                  · intro w hSw; (try dsimp only at hSw); obtain ⟨s0, s1, s2, s3, s4, s5, s6, s7, s8⟩ := hSw; first | (go_simp; done) | (go_simp; with_reducible rfl)
                  try simp only [Act.put, List.setIfInBounds_toArray, List.set_cons_zero, List.set_cons_succ]
                  refine takeC (i := 5) (v := ?_) (some 77) rfl rfl (by kernel_rfl) (by kernel_rfl) (by kernel_rfl) (fun _ _ _ h => h) (Or.inl ⟨by rfl, ?_⟩) (by assumption) ?_
                  rotate_left
                  · intro w hSw; (try dsimp only at hSw); obtain ⟨s0, s1, s2, s3, s4, s5, s6, s7, s8⟩ := hSw; first | (go_simp; done) | (go_simp; with_reducible rfl)
                  try simp only [Act.put, List.setIfInBounds_toArray, List.set_cons_zero, List.set_cons_succ]
                  refine takeC (i := 6) (v := ?_) (some 78) rfl rfl (by kernel_rfl) (by kernel_rfl) (by kernel_rfl) (fun _ _ _ h => h) (Or.inl ⟨by rfl, ?_⟩) (by assumption) ?_
                  rotate_left
                  · intro w hSw; (try dsimp only at hSw); obtain ⟨s0, s1, s2, s3, s4, s5, s6, s7, s8⟩ := hSw; first | (go_simp; done) | (go_simp; with_reducible rfl)
                  try simp only [Act.put, List.setIfInBounds_toArray, List.set_cons_zero, List.set_cons_succ]
                  refine takeC (i := 7) (v := ?_) (some 79) rfl rfl (by kernel_rfl) (by kernel_rfl) (by kernel_rfl) (fun _ _ _ h => h) (Or.inl ⟨by rfl, ?_⟩) (by assumption) ?_
                  rotate_left
                  · intro w hSw; (try dsimp only at hSw); obtain ⟨s0, s1, s2, s3, s4, s5, s6, s7, s8⟩ := hSw; first | (go_simp; done) | (go_simp; with_reducible rfl)
                  try simp only [Act.put, List.setIfInBounds_toArray, List.set_cons_zero, List.set_cons_succ]
                  have hct := Haft.out A2 n2 c2 s q w11 (HH.out.task.keep (HB.out.trans (HS.out.low.mono HB.out.size))) (Hrs.out.keep HS.out.low) hqO
                  have hopq : OkOp N (opAt T.ops (q : Int)) := by
                    rw [opAt_eq (List.getElem?_eq_getElem hql)]
                    exact Hop.out _ (List.getElem_mem hql)
                  rw [aftR_upd hopq Hset.out] at hct
                  have hnset := upd_setH Hset.out hopq
                  clear hopq
                  obtain ⟨nx, hnxe⟩ : ∃ nx, nx = updF s (opAt T.ops (q : Int)).add (opAt T.ops (q : Int)).del := ⟨_, rfl⟩
                  rw [← hnxe] at hct hnset
                  have Hct := hide hct
                  have Hnxe := hide hnxe
                  have hni : ∀ x ∈ nx, -9223372036854775808 ≤ x ∧ x ≤ 9223372036854775807 := fun x hx => by
                    have := (setB_iff.1 hnset).2 x hx
                    have := Hok.out.task.low
                    omega
                  clear hct hnxe hnset
                  refine wpAnyH_ready (rs := [8]) (by kernel_rfl) (by simp) ?_
                  refine AllReadyH.cons rfl (fun K2 hK => ?_) AllReadyH.nil
                  go_simp
                  with_reducible refine Hct.out.mono ?_
                  rintro e w12 ⟨hb, A4, c4, rfl, hown⟩
                  clear Hct
                  obtain ⟨ln, hln⟩ : ∃ ln, ln = nx.length := ⟨_, rfl⟩
                  rw [← hln] at hown ⊢
                  have hfirm := HS.out.firm (rowI_of hown hln.symm hni)
                  have Hfirm := hide hfirm
                  clear hown hln hni hfirm
                  clear t0 t1 t2 t3 t4 t5 t6 tl lc ec
                  replace HS := hide (HS.out.keep hb)
                  clear hb
                  have t0 := (HP.out.keep HS.out.low).cell 0
                  have t1 := (HP.out.keep HS.out.low).cell 1
                  have t2 := (HP.out.keep HS.out.low).cell 2
                  have t3 := (HP.out.keep HS.out.low).cell 3
                  have t4 := (HP.out.keep HS.out.low).cell 4
                  have t5 := (HP.out.keep HS.out.low).cell 5
                  have t6 := (HP.out.keep HS.out.low).cell 6
                  have tl := (HP.out.keep HS.out.low).lt
                  simp only [List.getElem?_cons_zero, List.getElem?_cons_succ] at t0 t1 t2 t3 t4 t5 t6
                  have lc := cellOf_lowH HS.out.low Lc.out
                  have ec := cellOf_lowH HS.out.low Ec.out
                  refine hK.out _ _ ?_ (fun hHeld2 => ?_)
                  · (try dsimp only); exact ⟨t0, t1, t2, t3, t4, t5, t6, lc, ec⟩
                  clear hK K2 hHeld
                  try simp only [Act.put, List.setIfInBounds_toArray, List.set_cons_zero, List.set_cons_succ]
                  have hHeld := hHeld2; clear hHeld2
                  refine wpAnyH_ready (rs := [9]) (by kernel_rfl) (by simp) ?_
                  refine AllReadyH.cons rfl (fun K2 hK => ?_) AllReadyH.nil
                  go_simp
                  have hA := (Below.refl w12.heap.size w12).alloc (Nat.le_refl _) (.cells #[.slice A4 ln c4] 22)
                  refine hK.out _ _ ?_ (fun hHeld2 => ?_)
                  · (try dsimp only); exact ⟨cellOf_lowH hA t0, cellOf_lowH hA t1, cellOf_lowH hA t2, cellOf_lowH hA t3, cellOf_lowH hA t4, cellOf_lowH hA t5, cellOf_lowH hA t6, cellOf_lowH hA lc, cellOf_lowH hA ec⟩
                  clear hK K2 hHeld hA
                  try simp only [Act.put, List.setIfInBounds_toArray, List.set_cons_zero, List.set_cons_succ]
                  have hHeld := hHeld2; clear hHeld2
                  refine wpAnyH_ready (rs := [10]) (by kernel_rfl) (by simp) ?_
                  refine AllReadyH.cons rfl (fun K2 hK => ?_) AllReadyH.nil
                  refine step_pushE (E := Enc.sl Enc.int) rfl _ _ 42 rfl W1.heap.size 22 i1 (.slice none 0 0) 24 Tryz.underlying42 hi1 hy0 hy1 hy2 rfl (by decide) (A := Y) (n := nn) (c := cy) (by first | rfl | (go_simp; done)) HS.out.af (fun r hr => .inr (.inl hr)) [.slice A4 ln c4] nx (by intro u hu; simp at hu; subst hu; rfl) (by first | rfl | (go_simp; done)) Hfirm.out (by omega) (by omega) HS.out.low.size ?_
                  intro O13 oc13 w13 hown13 hch13 hat13
                  have HS13 := hide (HS.out.pushY hown13 hch13 hat13)
                  clear hown13 hch13 hat13 Hfirm HS t0 t1 t2 t3 t4 t5 t6 tl lc ec
                  have HS := hide HS13.out
                  clear HS13
                  have t0 := (HP.out.keep HS.out.low).cell 0
                  have t1 := (HP.out.keep HS.out.low).cell 1
                  have t2 := (HP.out.keep HS.out.low).cell 2
                  have t3 := (HP.out.keep HS.out.low).cell 3
                  have t4 := (HP.out.keep HS.out.low).cell 4
                  have t5 := (HP.out.keep HS.out.low).cell 5
                  have t6 := (HP.out.keep HS.out.low).cell 6
                  have tl := (HP.out.keep HS.out.low).lt
                  simp only [List.getElem?_cons_zero, List.getElem?_cons_succ] at t0 t1 t2 t3 t4 t5 t6
                  have lc := cellOf_lowH HS.out.low Lc.out
                  have ec := cellOf_lowH HS.out.low Ec.out
                  refine hK.out _ _ ?_ (fun hHeld2 => ?_)
                  · (try dsimp only); exact ⟨t0, t1, t2, t3, t4, t5, t6, lc, ec⟩
                  clear hK K2 hHeld
                  try simp only [Act.put, List.setIfInBounds_toArray, List.set_cons_zero, List.set_cons_succ]
                  have hHeld := hHeld2; clear hHeld2
                  refine takeC (i := 11) (v := ?_) (some 9) rfl rfl (by kernel_rfl) (by kernel_rfl) (by kernel_rfl) (fun _ _ _ h => h) (Or.inl ⟨by rfl, ?_⟩) (by assumption) ?_
                  rotate_left
                  · intro w hSw; (try dsimp only at hSw); obtain ⟨s0, s1, s2, s3, s4, s5, s6, s7, s8⟩ := hSw; first | (go_simp; done) | (go_simp; with_reducible rfl)
                  try simp only [Act.put, List.setIfInBounds_toArray, List.set_cons_zero, List.set_cons_succ]
                  refine wpAnyH_done (by kernel_rfl) ?_ _
                  have hfin := HS.out
                  have hnx := Hnx.out
                  rw [← Hnxe.out] at hnx
                  have hm1 : (nextM T ((levL T n).take i) ++ nextU T p s (q + 1)).map Prod.fst = (nextM T ((levL T n).take i) ++ nextU T p s q).map Prod.fst ++ [p ++ [(q : Int)]] := by
                    rw [hnx, ← List.append_assoc, List.map_append]
                    rfl
                  have hm2 : (nextM T ((levL T n).take i) ++ nextU T p s (q + 1)).map Prod.snd = (nextM T ((levL T n).take i) ++ nextU T p s q).map Prod.snd ++ [nx] := by
                    rw [hnx, ← List.append_assoc, List.map_append]
                    rfl
                  rw [← hm1, ← hm2] at hfin
                  have Hfin := hide hfin
                  clear hfin hnx hm1 hm2 HS
                  go_wp2_with fail
                  go_roundw
                  case rel => exact ⟨q + 1, nn + 1, O10, O13, oc10, oc13, _, _, rfl, rfl, by go_num, by omega, Hfin.out⟩
                  case measure => simp [intOf]; omega
              · obtain rfl : nO = q := by omega
                have hnx := nextM_take (T := T) Hps.out
                rw [Hol.out] at hnx
                have hS1 := HS.out
                rw [← hnx] at hS1
                have HS1 := hide hS1
                clear hnx hS1 HS
                have hqOi : ¬ (nO : Int) < (nO : Int) := by omega
                go_wp2_with fail
                go_roundw
                case rel => exact ⟨i + 1, nn, X, Y, cx, cy, vs, us, rfl, rfl, by go_num, by omega, HS1.out, Hno.out⟩
                case measure => simp [intOf]; omega
          · have Hv1 := hide hv1
            clear hv1
            rw [Hv1.out] at hsb
            have Hsb := hide hsb
            clear hsb
            refine wpAnyH_ready (rs := [7]) (by kernel_rfl) (by simp) ?_
            refine AllReadyH.cons rfl (fun K hK => ?_) AllReadyH.nil
            go_simp
            with_reducible refine Hsb.out.mono ?_
            rintro e w4 ⟨rfl, hq⟩
            have hb := hq.below w3.heap.size
            clear hq
            clear t0 t1 t2 t3 t4 t5 t6 tl lc ec
            replace HS := hide (HS.out.keep hb)
            clear hb
            have t0 := (HP.out.keep HS.out.low).cell 0
            have t1 := (HP.out.keep HS.out.low).cell 1
            have t2 := (HP.out.keep HS.out.low).cell 2
            have t3 := (HP.out.keep HS.out.low).cell 3
            have t4 := (HP.out.keep HS.out.low).cell 4
            have t5 := (HP.out.keep HS.out.low).cell 5
            have t6 := (HP.out.keep HS.out.low).cell 6
            have tl := (HP.out.keep HS.out.low).lt
            simp only [List.getElem?_cons_zero, List.getElem?_cons_succ] at t0 t1 t2 t3 t4 t5 t6
            have lc := cellOf_lowH HS.out.low Lc.out
            have ec := cellOf_lowH HS.out.low Ec.out
            refine hK.out _ _ ?_ (fun hHeld2 => ?_)
            · (try dsimp only); exact ⟨t0, t1, t2, t3, t4, t5, t6, lc, ec⟩
            clear hK K hHeld
            try simp only [Act.put, List.setIfInBounds_toArray, List.set_cons_zero, List.set_cons_succ]
            have hHeld := hHeld2; clear hHeld2
            refine takeC (i := 8) (v := ?_) (some 36) rfl rfl (by kernel_rfl) (by kernel_rfl) (by kernel_rfl) (fun _ _ _ h => h) (Or.inl ⟨by rfl, ?_⟩) (by assumption) ?_
            rotate_left
            · intro w hSw; (try dsimp only at hSw); obtain ⟨s0, s1, s2, s3, s4, s5, s6, s7, s8⟩ := hSw; first | (go_simp; done) | (go_simp; with_reducible rfl)
            try simp only [Act.put, List.setIfInBounds_toArray, List.set_cons_zero, List.set_cons_succ]
            refine takeC (i := 9) (v := ?_) (some 37) rfl rfl (by kernel_rfl) (by kernel_rfl) (by kernel_rfl) (fun _ _ _ h => h) (Or.inl ⟨by rfl, ?_⟩) (by assumption) ?_
            rotate_left
            · intro w hSw; (try dsimp only at hSw); obtain ⟨s0, s1, s2, s3, s4, s5, s6, s7, s8⟩ := hSw; first | (go_simp; done) | (go_simp; with_reducible rfl)
            try simp only [Act.put, List.setIfInBounds_toArray, List.set_cons_zero, List.set_cons_succ]
            refine takeC (i := 10) (v := ?_) (some 38) rfl rfl (by kernel_rfl) (by kernel_rfl) (by kernel_rfl) (fun _ _ _ h => h) (Or.inl ⟨by rfl, ?_⟩) (by assumption) ?_
            rotate_left
            · intro w hSw; (try dsimp only at hSw); obtain ⟨s0, s1, s2, s3, s4, s5, s6, s7, s8⟩ := hSw; first | (go_simp; done) | (go_simp; with_reducible rfl)
            try simp only [Act.put, List.setIfInBounds_toArray, List.set_cons_zero, List.set_cons_succ]
            refine takeC (i := 11) (v := ?_) (some 39) rfl rfl (by kernel_rfl) (by kernel_rfl) (by kernel_rfl) (fun _ _ _ h => h) (Or.inl ⟨by rfl, ?_⟩) (by assumption) ?_
            rotate_left
            · intro w hSw; (try dsimp only at hSw); obtain ⟨s0, s1, s2, s3, s4, s5, s6, s7, s8⟩ := hSw; first | (go_simp; done) | (go_simp; with_reducible rfl)
            try simp only [Act.put, List.setIfInBounds_toArray, List.set_cons_zero, List.set_cons_succ]
            refine takeC (i := 12) (v := ?_) (some 40) rfl rfl (by kernel_rfl) (by kernel_rfl) (by kernel_rfl) (fun _ _ _ h => h) (Or.inl ⟨by rfl, ?_⟩) (by assumption) ?_
            rotate_left
            · intro w hSw; (try dsimp only at hSw); obtain ⟨s0, s1, s2, s3, s4, s5, s6, s7, s8⟩ := hSw; first | (go_simp; done) | (go_simp; with_reducible rfl)
            try simp only [Act.put, List.setIfInBounds_toArray, List.set_cons_zero, List.set_cons_succ]
            refine takeC (i := 13) (v := ?_) (some 41) rfl rfl (by kernel_rfl) (by kernel_rfl) (by kernel_rfl) (fun _ _ _ h => h) (Or.inl ⟨by rfl, ?_⟩) (by assumption) ?_
            rotate_left
            · intro w hSw; (try dsimp only at hSw); obtain ⟨s0, s1, s2, s3, s4, s5, s6, s7, s8⟩ := hSw; first | (go_simp; done) | (go_simp; with_reducible rfl)
            try simp only [Act.put, List.setIfInBounds_toArray, List.set_cons_zero, List.set_cons_succ]
            have hrf := Hre.out A1 n1 c1 p w4 (HH.out.keep (HB.out.trans (HS.out.low.mono HB.out.size))) (Hrp.out.keep HS.out.low) (by omega) Hpr.out
            have Hrf := hide hrf
            clear hrf
            refine wpAnyH_ready (rs := [14]) (by kernel_rfl) (by simp) ?_
            refine AllReadyH.cons rfl (fun K hK => ?_) AllReadyH.nil
            go_simp
            with_reducible refine Hrf.out.mono ?_
            rintro e w5 ⟨hb, bb, rfl, hbb⟩
            have Hbb := hide hbb
            clear hbb
            clear t0 t1 t2 t3 t4 t5 t6 tl lc ec
            replace HS := hide (HS.out.keep hb)
            clear hb
            have t0 := (HP.out.keep HS.out.low).cell 0
            have t1 := (HP.out.keep HS.out.low).cell 1
            have t2 := (HP.out.keep HS.out.low).cell 2
            have t3 := (HP.out.keep HS.out.low).cell 3
            have t4 := (HP.out.keep HS.out.low).cell 4
            have t5 := (HP.out.keep HS.out.low).cell 5
            have t6 := (HP.out.keep HS.out.low).cell 6
            have tl := (HP.out.keep HS.out.low).lt
            simp only [List.getElem?_cons_zero, List.getElem?_cons_succ] at t0 t1 t2 t3 t4 t5 t6
            have lc := cellOf_lowH HS.out.low Lc.out
            have ec := cellOf_lowH HS.out.low Ec.out
            refine hK.out _ _ ?_ (fun hHeld2 => ?_)
            · (try dsimp only); exact ⟨t0, t1, t2, t3, t4, t5, t6, lc, ec⟩
            clear hK K hHeld
            try simp only [Act.put, List.setIfInBounds_toArray, List.set_cons_zero, List.set_cons_succ]
            have hHeld := hHeld2; clear hHeld2
            refine takeC (i := 15) (v := ?_) (some 43) rfl rfl (by kernel_rfl) (by kernel_rfl) (by kernel_rfl) (fun _ _ _ h => h) (Or.inl ⟨by rfl, ?_⟩) (by assumption) ?_
            rotate_left
            · intro w hSw; (try dsimp only at hSw); obtain ⟨s0, s1, s2, s3, s4, s5, s6, s7, s8⟩ := hSw; first | (go_simp; done) | (go_simp; with_reducible rfl)
            try simp only [Act.put, List.setIfInBounds_toArray, List.set_cons_zero, List.set_cons_succ]
            refine wpAnyH_done (by kernel_rfl) ?_ _
            cases bb with
            | true =>
              have hgood := Hno.out.found hlt Hps.out ⟨Hv1.out, Hbb.out.1 rfl⟩
              have Hgood := hide hgood
              clear hgood
              go_wp2_with fail
              go_ret
              exact ⟨(HB.out.trans (HS.out.low.mono HB.out.size)), (n : Int), rfl, Hgood.out⟩
            | false =>
              have hno1 := Hno.out.one Hps.out (fun e => by have := Hbb.out.2 e.2; cases this)
              clear Hno Hbb
              have Hno := hide hno1
              clear hno1
              clear t0 t1 t2 t3 t4 t5 t6 tl lc ec
              go_wp2_with fail
              go_loopw [8, 9, 11] (fun xv yv qv wr => ∃ (q nn : Nat) (X Y : Option Addr) (cx cy : Nat) (vs us : List Value), xv = .slice X nn cx ∧ yv = .slice Y nn cy ∧ qv = .int .i64 q ∧ q ≤ nO ∧
                  LvS W1 wr X nn cx vs ((nextM T ((levL T n).take i) ++ nextU T p s q).map Prod.fst) Y nn cy us ((nextM T ((levL T n).take i) ++ nextU T p s q).map Prod.snd)) (fun _ _ qv _ => nO - (intOf qv).toNat)
              case atStart => exact ⟨0, nn, X, Y, cx, cy, vs, us, rfl, rfl, rfl, by omega, by rw [nextU_zero, List.append_nil]; exact HS.out⟩
              case round =>
                clear HS
                obtain ⟨q, nn, X, Y, cx, cy, vs, us, rfl, rfl, rfl, hqn, hS⟩ := hrel
                have hnn : nn ≤ 28040 := by
                  have h1 := hS.nx.len
                  rw [List.length_map, List.length_append] at h1
                  have h2 := HfN.out i
                  have h3 := nextU_len T p s q
                  have h4 := Hol.out
                  omega
                have HS := hide hS
                clear hS
                have t0 := (HP.out.keep HS.out.low).cell 0
                have t1 := (HP.out.keep HS.out.low).cell 1
                have t2 := (HP.out.keep HS.out.low).cell 2
                have t3 := (HP.out.keep HS.out.low).cell 3
                have t4 := (HP.out.keep HS.out.low).cell 4
                have t5 := (HP.out.keep HS.out.low).cell 5
                have t6 := (HP.out.keep HS.out.low).cell 6
                have tl := (HP.out.keep HS.out.low).lt
                simp only [List.getElem?_cons_zero, List.getElem?_cons_succ] at t0 t1 t2 t3 t4 t5 t6
                have lc := cellOf_lowH HS.out.low Lc.out
                have ec := cellOf_lowH HS.out.low Ec.out

                by_cases hqO : q < nO
                · have hqOi : (q : Int) < (nO : Int) := by omega
                  have hql : q < T.ops.length := by rw [Hol.out]; exact hqO
                  go_upto_region 15 with (fail)
                  go_still_tail 7, (by kernel_rfl)
                  change wpList _ _ _ _ _ wr.drew
                  obtain ⟨w6, hW⟩ : ∃ W, W = wr.drew := ⟨_, rfl⟩
                  have hb : Below wr.heap.size wr w6 := by rw [hW]; exact (Below.refl _ _).drew
                  rw [← hW]
                  clear hW
                  clear t0 t1 t2 t3 t4 t5 t6 tl lc ec
                  replace HS := hide (HS.out.keep hb)
                  clear hb
                  have t0 := (HP.out.keep HS.out.low).cell 0
                  have t1 := (HP.out.keep HS.out.low).cell 1
                  have t2 := (HP.out.keep HS.out.low).cell 2
                  have t3 := (HP.out.keep HS.out.low).cell 3
                  have t4 := (HP.out.keep HS.out.low).cell 4
                  have t5 := (HP.out.keep HS.out.low).cell 5
                  have t6 := (HP.out.keep HS.out.low).cell 6
                  have tl := (HP.out.keep HS.out.low).lt
                  simp only [List.getElem?_cons_zero, List.getElem?_cons_succ] at t0 t1 t2 t3 t4 t5 t6
                  have lc := cellOf_lowH HS.out.low Lc.out
                  have ec := cellOf_lowH HS.out.low Ec.out

                  have hct := Happ.out A2 n2 c2 s q w6 (HH.out.task.keep (HB.out.trans (HS.out.low.mono HB.out.size))) (Hrs.out.keep HS.out.low) hqO
                  rcases hv2 : subsetB (opAt T.ops (q : Int)).pre s with _ | _
                  · rw [hv2] at hct
                    have hnx := nextU_no (p := p) hv2
                    have Hct := hide hct
                    have Hnx := hide hnx
                    clear hct hv2 hnx
                    go_wp2_with fail
                    with_reducible refine Hct.out.mono ?_
                    rintro e w7 ⟨rfl, hb⟩
                    clear Hct
                    clear t0 t1 t2 t3 t4 t5 t6 tl lc ec
                    replace HS := hide (HS.out.keep hb)
                    clear hb
                    have t0 := (HP.out.keep HS.out.low).cell 0
                    have t1 := (HP.out.keep HS.out.low).cell 1
                    have t2 := (HP.out.keep HS.out.low).cell 2
                    have t3 := (HP.out.keep HS.out.low).cell 3
                    have t4 := (HP.out.keep HS.out.low).cell 4
                    have t5 := (HP.out.keep HS.out.low).cell 5
                    have t6 := (HP.out.keep HS.out.low).cell 6
                    have tl := (HP.out.keep HS.out.low).lt
                    simp only [List.getElem?_cons_zero, List.getElem?_cons_succ] at t0 t1 t2 t3 t4 t5 t6
                    have lc := cellOf_lowH HS.out.low Lc.out
                    have ec := cellOf_lowH HS.out.low Ec.out

                    go_wp2_with fail
                    go_roundw
                    case rel => exact ⟨q + 1, nn, X, Y, cx, cy, vs, us, rfl, rfl, by go_num, by omega, by rw [Hnx.out]; exact HS.out⟩
                    case measure => simp [intOf]; omega
                  · rw [hv2] at hct
                    have hnx := nextU_yes (p := p) hv2
                    have Hct := hide hct
                    have Hnx := hide hnx
                    clear hct hv2 hnx
                    go_wp2_with fail
                    with_reducible refine Hct.out.mono ?_
                    rintro e w7 ⟨rfl, hb⟩
                    clear Hct
                    clear t0 t1 t2 t3 t4 t5 t6 tl lc ec
                    replace HS := hide (HS.out.keep hb)
                    clear hb
                    have t0 := (HP.out.keep HS.out.low).cell 0
                    have t1 := (HP.out.keep HS.out.low).cell 1
                    have t2 := (HP.out.keep HS.out.low).cell 2
                    have t3 := (HP.out.keep HS.out.low).cell 3
                    have t4 := (HP.out.keep HS.out.low).cell 4
                    have t5 := (HP.out.keep HS.out.low).cell 5
                    have t6 := (HP.out.keep HS.out.low).cell 6
                    have tl := (HP.out.keep HS.out.low).lt
                    simp only [List.getElem?_cons_zero, List.getElem?_cons_succ] at t0 t1 t2 t3 t4 t5 t6
                    have lc := cellOf_lowH HS.out.low Lc.out
                    have ec := cellOf_lowH HS.out.low Ec.out

                    go_wp2_with fail
                    with_reducible refine (RCopy_ct A1 n1 c1 p w7 (Hrp.out.keep HS.out.low) (by omega)).mono ?_
                    rintro e w8 ⟨hb, A3, c3, rfl, hown⟩
                    clear t0 t1 t2 t3 t4 t5 t6 tl lc ec
                    have hri : ∀ x ∈ p, -9223372036854775808 ≤ x ∧ x ≤ 9223372036854775807 := fun x hx => by
                      have := Hpr.out x hx
                      omega
                    have hlp8 : p.length ≤ 8 := by
                      have := Hrp.out.len
                      omega
                    obtain ⟨lp, hlp⟩ : ∃ z, z = p.length := ⟨_, rfl⟩
                    rw [← hlp] at hown hlp8 ⊢
                    have hrI := rowI_of hown hlp.symm hri
                    have hbs : ∀ r, blkA A3 = some r → w7.heap.size ≤ r := fun r hr => (hrI.base hr).1
                    have HrI := hide hrI
                    clear hown hlp hrI hri
                    have hsz7 := hb.size
                    go_wp2_with (at_builtin
                                 (first
                                  | (refine wpList_pushI rfl _ _ rfl rfl HrI.out (q : Int) (by omega) (by omega) rfl (by omega) hsz7 ?_
                                     intro O9 oc9 w9 hrow9 hch9 hat9
                                     have hb79 := hb.trans (hch9.below hbs hb.size)
                                     have Hrow9 := hide hrow9
                                     clear hrow9 hch9 hat9 HrI hbs
                                     have HS9 := hide (HS.out.keep hb79)
                                     have hfirm := HS.out.firm Hrow9.out
                                     have Hfirm := hide hfirm
                                     clear hfirm HS hb hb79 Hrow9 hsz7)
                                  | (refine wpList_pushE (E := Enc.sl Enc.int) rfl _ _ 42 rfl W1.heap.size 22 i1 (.slice none 0 0) 24 Tryz.underlying42 hi1 hy0 hy1 hy2 rfl (by decide) rfl HS9.out.nx (fun r hr => .inl hr) [.slice O9 (lp + 1) oc9] (p ++ [(q : Int)]) (by intro u hu; simp at hu; subst hu; rfl) rfl Hfirm.out (by omega) (by omega) HS9.out.low.size ?_
                                     intro O10 oc10 w10 hown10 hch10 hat10
                                     have HS := hide (HS9.out.pushX hown10 hch10 hat10)
                                     clear hown10 hch10 hat10 HS9 Hfirm)))
                    have t0 := (HP.out.keep HS.out.low).cell 0
                    have t1 := (HP.out.keep HS.out.low).cell 1
                    have t2 := (HP.out.keep HS.out.low).cell 2
                    have t3 := (HP.out.keep HS.out.low).cell 3
                    have t4 := (HP.out.keep HS.out.low).cell 4
                    have t5 := (HP.out.keep HS.out.low).cell 5
                    have t6 := (HP.out.keep HS.out.low).cell 6
                    have tl := (HP.out.keep HS.out.low).lt
                    simp only [List.getElem?_cons_zero, List.getElem?_cons_succ] at t0 t1 t2 t3 t4 t5 t6
                    have lc := cellOf_lowH HS.out.low Lc.out
                    have ec := cellOf_lowH HS.out.low Ec.out
                    go_upto_region 17 with (fail)
                    refine wp_region_held_drew (S := (fun w11 => w11.cell? ⟨gT, 0, none⟩ = some (.int .i64 T.facts) ∧ w11.cell? ⟨gT, 1, none⟩ = some (.slice I nI cI) ∧ w11.cell? ⟨gT, 2, none⟩ = some (.slice G nG cG) ∧ w11.cell? ⟨gT, 3, none⟩ = some (.slice O nO cO) ∧ w11.cell? ⟨gT, 4, none⟩ = some (.int .i64 K) ∧ w11.cell? ⟨gT, 5, none⟩ = some (.slice M nM cM) ∧ w11.cell? ⟨gT, 6, none⟩ = some (.slice L nL cL) ∧ w11.cell? ⟨b1, o1 + i, none⟩ = some (.slice A1 n1 c1) ∧ w11.cell? ⟨b2, o2 + i, none⟩ = some (.slice A2 n2 c2))) (by kernel_rfl) ?_ (fun hHeld => ?_)
                    · (try dsimp only); exact ⟨t0, t1, t2, t3, t4, t5, t6, lc, ec⟩
                    obtain ⟨w11, hW⟩ : ∃ W, W = w10.drew := ⟨_, rfl⟩
                    have hb : Below w10.heap.size w10 w11 := by rw [hW]; exact (Below.refl _ _).drew
                    rw [← hW] at hHeld ⊢
                    clear hW
                    clear t0 t1 t2 t3 t4 t5 t6 tl lc ec
                    replace HS := hide (HS.out.keep hb)
                    clear hb
                    have t0 := (HP.out.keep HS.out.low).cell 0
                    have t1 := (HP.out.keep HS.out.low).cell 1
                    have t2 := (HP.out.keep HS.out.low).cell 2
                    have t3 := (HP.out.keep HS.out.low).cell 3
                    have t4 := (HP.out.keep HS.out.low).cell 4
                    have t5 := (HP.out.keep HS.out.low).cell 5
                    have t6 := (HP.out.keep HS.out.low).cell 6
                    have tl := (HP.out.keep HS.out.low).lt
                    simp only [List.getElem?_cons_zero, List.getElem?_cons_succ] at t0 t1 t2 t3 t4 t5 t6
                    have lc := cellOf_lowH HS.out.low Lc.out
                    have ec := cellOf_lowH HS.out.low Ec.out
                    refine takeC (i := 0) (v := ?_) (some 72) rfl rfl (by kernel_rfl) (by kernel_rfl) (by kernel_rfl) (fun _ _ _ h => h) (Or.inl ⟨by rfl, ?_⟩) (by assumption) ?_
                    rotate_left
                    · intro w hSw; (try dsimp only at hSw); obtain ⟨s0, s1, s2, s3, s4, s5, s6, s7, s8⟩ := hSw; first | (go_simp; done) | (go_simp; with_reducible rfl)
                    try simp only [Act.put, List.setIfInBounds_toArray, List.set_cons_zero, List.set_cons_succ]
                    refine takeC (i := 1) (v := ?_) (some 73) rfl rfl (by kernel_rfl) (by kernel_rfl) (by kernel_rfl) (fun _ _ _ h => h) (Or.inl ⟨by rfl, ?_⟩) (by assumption) ?_
                    rotate_left
                    · intro w hSw; (try dsimp only at hSw); obtain ⟨s0, s1, s2, s3, s4, s5, s6, s7, s8⟩ := hSw; first | (go_simp; done) | (go_simp; with_reducible rfl)
                    try simp only [Act.put, List.setIfInBounds_toArray, List.set_cons_zero, List.set_cons_succ]
                    refine takeC (i := 2) (v := ?_) (some 74) rfl rfl (by kernel_rfl) (by kernel_rfl) (by kernel_rfl) (fun _ _ _ h => h) (Or.inl ⟨by rfl, ?_⟩) (by assumption) ?_
                    rotate_left
                    · intro w hSw; (try dsimp only at hSw); obtain ⟨s0, s1, s2, s3, s4, s5, s6, s7, s8⟩ := hSw; first | (go_simp; done) | (go_simp; with_reducible rfl)
                    try simp only [Act.put, List.setIfInBounds_toArray, List.set_cons_zero, List.set_cons_succ]
                    refine takeC (i := 3) (v := ?_) (some 75) rfl rfl (by kernel_rfl) (by kernel_rfl) (by kernel_rfl) (fun _ _ _ h => h) (Or.inl ⟨by rfl, ?_⟩) (by assumption) ?_
                    rotate_left
                    · intro w hSw; (try dsimp only at hSw); obtain ⟨s0, s1, s2, s3, s4, s5, s6, s7, s8⟩ := hSw; first | (go_simp; done) | (go_simp; with_reducible rfl)
                    try simp only [Act.put, List.setIfInBounds_toArray, List.set_cons_zero, List.set_cons_succ]
                    refine takeC (i := 4) (v := ?_) (some 76) rfl rfl (by kernel_rfl) (by kernel_rfl) (by kernel_rfl) (fun _ _ _ h => h) (Or.inl ⟨by rfl, ?_⟩) (by assumption) ?_
                    rotate_left
                    · intro w hSw; (try dsimp only at hSw); obtain ⟨s0, s1, s2, s3, s4, s5, s6, s7, s8⟩ := hSw; first | (go_simp; done) | (go_simp; with_reducible rfl)
                    try simp only [Act.put, List.setIfInBounds_toArray, List.set_cons_zero, List.set_cons_succ]
                    refine takeC (i := 5) (v := ?_) (some 77) rfl rfl (by kernel_rfl) (by kernel_rfl) (by kernel_rfl) (fun _ _ _ h => h) (Or.inl ⟨by rfl, ?_⟩) (by assumption) ?_
                    rotate_left
                    · intro w hSw; (try dsimp only at hSw); obtain ⟨s0, s1, s2, s3, s4, s5, s6, s7, s8⟩ := hSw; first | (go_simp; done) | (go_simp; with_reducible rfl)
                    try simp only [Act.put, List.setIfInBounds_toArray, List.set_cons_zero, List.set_cons_succ]
                    refine takeC (i := 6) (v := ?_) (some 78) rfl rfl (by kernel_rfl) (by kernel_rfl) (by kernel_rfl) (fun _ _ _ h => h) (Or.inl ⟨by rfl, ?_⟩) (by assumption) ?_
                    rotate_left
                    · intro w hSw; (try dsimp only at hSw); obtain ⟨s0, s1, s2, s3, s4, s5, s6, s7, s8⟩ := hSw; first | (go_simp; done) | (go_simp; with_reducible rfl)
                    try simp only [Act.put, List.setIfInBounds_toArray, List.set_cons_zero, List.set_cons_succ]
                    refine takeC (i := 7) (v := ?_) (some 79) rfl rfl (by kernel_rfl) (by kernel_rfl) (by kernel_rfl) (fun _ _ _ h => h) (Or.inl ⟨by rfl, ?_⟩) (by assumption) ?_
                    rotate_left
                    · intro w hSw; (try dsimp only at hSw); obtain ⟨s0, s1, s2, s3, s4, s5, s6, s7, s8⟩ := hSw; first | (go_simp; done) | (go_simp; with_reducible rfl)
                    try simp only [Act.put, List.setIfInBounds_toArray, List.set_cons_zero, List.set_cons_succ]
                    have hct := Haft.out A2 n2 c2 s q w11 (HH.out.task.keep (HB.out.trans (HS.out.low.mono HB.out.size))) (Hrs.out.keep HS.out.low) hqO
                    have hopq : OkOp N (opAt T.ops (q : Int)) := by
                      rw [opAt_eq (List.getElem?_eq_getElem hql)]
                      exact Hop.out _ (List.getElem_mem hql)
                    rw [aftR_upd hopq Hset.out] at hct
                    have hnset := upd_setH Hset.out hopq
                    clear hopq
                    obtain ⟨nx, hnxe⟩ : ∃ nx, nx = updF s (opAt T.ops (q : Int)).add (opAt T.ops (q : Int)).del := ⟨_, rfl⟩
                    rw [← hnxe] at hct hnset
                    have Hct := hide hct
                    have Hnxe := hide hnxe
                    have hni : ∀ x ∈ nx, -9223372036854775808 ≤ x ∧ x ≤ 9223372036854775807 := fun x hx => by
                      have := (setB_iff.1 hnset).2 x hx
                      have := Hok.out.task.low
                      omega
                    clear hct hnxe hnset
                    refine wpAnyH_ready (rs := [8]) (by kernel_rfl) (by simp) ?_
                    refine AllReadyH.cons rfl (fun K2 hK => ?_) AllReadyH.nil
                    go_simp
                    with_reducible refine Hct.out.mono ?_
                    rintro e w12 ⟨hb, A4, c4, rfl, hown⟩
                    clear Hct
                    obtain ⟨ln, hln⟩ : ∃ ln, ln = nx.length := ⟨_, rfl⟩
                    rw [← hln] at hown ⊢
                    have hfirm := HS.out.firm (rowI_of hown hln.symm hni)
                    have Hfirm := hide hfirm
                    clear hown hln hni hfirm
                    clear t0 t1 t2 t3 t4 t5 t6 tl lc ec
                    replace HS := hide (HS.out.keep hb)
                    clear hb
                    have t0 := (HP.out.keep HS.out.low).cell 0
                    have t1 := (HP.out.keep HS.out.low).cell 1
                    have t2 := (HP.out.keep HS.out.low).cell 2
                    have t3 := (HP.out.keep HS.out.low).cell 3
                    have t4 := (HP.out.keep HS.out.low).cell 4
                    have t5 := (HP.out.keep HS.out.low).cell 5
                    have t6 := (HP.out.keep HS.out.low).cell 6
                    have tl := (HP.out.keep HS.out.low).lt
                    simp only [List.getElem?_cons_zero, List.getElem?_cons_succ] at t0 t1 t2 t3 t4 t5 t6
                    have lc := cellOf_lowH HS.out.low Lc.out
                    have ec := cellOf_lowH HS.out.low Ec.out
                    refine hK.out _ _ ?_ (fun hHeld2 => ?_)
                    · (try dsimp only); exact ⟨t0, t1, t2, t3, t4, t5, t6, lc, ec⟩
                    clear hK K2 hHeld
                    try simp only [Act.put, List.setIfInBounds_toArray, List.set_cons_zero, List.set_cons_succ]
                    have hHeld := hHeld2; clear hHeld2
                    refine wpAnyH_ready (rs := [9]) (by kernel_rfl) (by simp) ?_
                    refine AllReadyH.cons rfl (fun K2 hK => ?_) AllReadyH.nil
                    go_simp
                    have hA := (Below.refl w12.heap.size w12).alloc (Nat.le_refl _) (.cells #[.slice A4 ln c4] 22)
                    refine hK.out _ _ ?_ (fun hHeld2 => ?_)
                    · (try dsimp only); exact ⟨cellOf_lowH hA t0, cellOf_lowH hA t1, cellOf_lowH hA t2, cellOf_lowH hA t3, cellOf_lowH hA t4, cellOf_lowH hA t5, cellOf_lowH hA t6, cellOf_lowH hA lc, cellOf_lowH hA ec⟩
                    clear hK K2 hHeld hA
                    try simp only [Act.put, List.setIfInBounds_toArray, List.set_cons_zero, List.set_cons_succ]
                    have hHeld := hHeld2; clear hHeld2
                    refine wpAnyH_ready (rs := [10]) (by kernel_rfl) (by simp) ?_
                    refine AllReadyH.cons rfl (fun K2 hK => ?_) AllReadyH.nil
                    refine step_pushE (E := Enc.sl Enc.int) rfl _ _ 42 rfl W1.heap.size 22 i1 (.slice none 0 0) 24 Tryz.underlying42 hi1 hy0 hy1 hy2 rfl (by decide) (A := Y) (n := nn) (c := cy) (by first | rfl | (go_simp; done)) HS.out.af (fun r hr => .inr (.inl hr)) [.slice A4 ln c4] nx (by intro u hu; simp at hu; subst hu; rfl) (by first | rfl | (go_simp; done)) Hfirm.out (by omega) (by omega) HS.out.low.size ?_
                    intro O13 oc13 w13 hown13 hch13 hat13
                    have HS13 := hide (HS.out.pushY hown13 hch13 hat13)
                    clear hown13 hch13 hat13 Hfirm HS t0 t1 t2 t3 t4 t5 t6 tl lc ec
                    have HS := hide HS13.out
                    clear HS13
                    have t0 := (HP.out.keep HS.out.low).cell 0
                    have t1 := (HP.out.keep HS.out.low).cell 1
                    have t2 := (HP.out.keep HS.out.low).cell 2
                    have t3 := (HP.out.keep HS.out.low).cell 3
                    have t4 := (HP.out.keep HS.out.low).cell 4
                    have t5 := (HP.out.keep HS.out.low).cell 5
                    have t6 := (HP.out.keep HS.out.low).cell 6
                    have tl := (HP.out.keep HS.out.low).lt
                    simp only [List.getElem?_cons_zero, List.getElem?_cons_succ] at t0 t1 t2 t3 t4 t5 t6
                    have lc := cellOf_lowH HS.out.low Lc.out
                    have ec := cellOf_lowH HS.out.low Ec.out
                    refine hK.out _ _ ?_ (fun hHeld2 => ?_)
                    · (try dsimp only); exact ⟨t0, t1, t2, t3, t4, t5, t6, lc, ec⟩
                    clear hK K2 hHeld
                    try simp only [Act.put, List.setIfInBounds_toArray, List.set_cons_zero, List.set_cons_succ]
                    have hHeld := hHeld2; clear hHeld2
                    refine takeC (i := 11) (v := ?_) (some 9) rfl rfl (by kernel_rfl) (by kernel_rfl) (by kernel_rfl) (fun _ _ _ h => h) (Or.inl ⟨by rfl, ?_⟩) (by assumption) ?_
                    rotate_left
                    · intro w hSw; (try dsimp only at hSw); obtain ⟨s0, s1, s2, s3, s4, s5, s6, s7, s8⟩ := hSw; first | (go_simp; done) | (go_simp; with_reducible rfl)
                    try simp only [Act.put, List.setIfInBounds_toArray, List.set_cons_zero, List.set_cons_succ]
                    refine wpAnyH_done (by kernel_rfl) ?_ _
                    have hfin := HS.out
                    have hnx := Hnx.out
                    rw [← Hnxe.out] at hnx
                    have hm1 : (nextM T ((levL T n).take i) ++ nextU T p s (q + 1)).map Prod.fst = (nextM T ((levL T n).take i) ++ nextU T p s q).map Prod.fst ++ [p ++ [(q : Int)]] := by
                      rw [hnx, ← List.append_assoc, List.map_append]
                      rfl
                    have hm2 : (nextM T ((levL T n).take i) ++ nextU T p s (q + 1)).map Prod.snd = (nextM T ((levL T n).take i) ++ nextU T p s q).map Prod.snd ++ [nx] := by
                      rw [hnx, ← List.append_assoc, List.map_append]
                      rfl
                    rw [← hm1, ← hm2] at hfin
                    have Hfin := hide hfin
                    clear hfin hnx hm1 hm2 HS
                    go_wp2_with fail
                    go_roundw
                    case rel => exact ⟨q + 1, nn + 1, O10, O13, oc10, oc13, _, _, rfl, rfl, by go_num, by omega, Hfin.out⟩
                    case measure => simp [intOf]; omega
                · obtain rfl : nO = q := by omega
                  have hnx := nextM_take (T := T) Hps.out
                  rw [Hol.out] at hnx
                  have hS1 := HS.out
                  rw [← hnx] at hS1
                  have HS1 := hide hS1
                  clear hnx hS1 HS
                  have hqOi : ¬ (nO : Int) < (nO : Int) := by omega
                  go_wp2_with fail
                  go_roundw
                  case rel => exact ⟨i + 1, nn, X, Y, cx, cy, vs, us, rfl, rfl, by go_num, by omega, HS1.out, Hno.out⟩
                  case measure => simp [intOf]; omega
        · obtain rfl : nl = i := by omega
          have hno1 := Hno.out.next (by rw [Hlen.out]; exact Nat.le_refl _)
          have htk : (levL T n).take nl = levL T n := List.take_of_length_le (by rw [Hlen.out]; exact Nat.le_refl _)
          have hS1 := HS.out
          rw [htk] at hS1
          have HS1 := hide hS1
          have Hno1 := hide hno1
          clear hno1 htk hS1 HS
          go_wp2_with fail
          go_roundw
          case rel => exact ⟨n + 1, nn, X, Y, cx, cy, rfl, rfl, by go_num, by omega, HB.out.trans (HS1.out.low.mono HB.out.size), HP.out.keep HS1.out.low, HS1.out.nx.rd, HS1.out.af.rd, Hno1.out⟩
          case measure => simp [intOf]; omega
    · have hnl : ¬ (n : Int) ≤ (lim : Int) := by omega
      go_wp2_with fail
      go_ret
      exact ⟨HB.out, -1, rfl, Hno.out.none (by omega)⟩
end Go.Proofs.YtmjiiddncbhgpaaGreat
