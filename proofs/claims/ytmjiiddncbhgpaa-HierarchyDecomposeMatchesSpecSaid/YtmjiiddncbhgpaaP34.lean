/- The law HierarchyDecomposeMatchesSpec of the package hierarchy holds, without a condition., part 34: La38. -/
import Derived.Test.YtmjiiddncbhgpaaP1
import Derived.Test.YtmjiiddncbhgpaaP2
import Derived.Test.YtmjiiddncbhgpaaP3
import Derived.Test.YtmjiiddncbhgpaaP4
import Derived.Test.YtmjiiddncbhgpaaP5
import Derived.Test.YtmjiiddncbhgpaaP6
import Derived.Test.YtmjiiddncbhgpaaP7
import Derived.Test.YtmjiiddncbhgpaaP8
import Derived.Test.YtmjiiddncbhgpaaP9
import Derived.Test.YtmjiiddncbhgpaaP10
import Derived.Test.YtmjiiddncbhgpaaP11
import Derived.Test.YtmjiiddncbhgpaaP12
import Derived.Test.YtmjiiddncbhgpaaP13
import Derived.Test.YtmjiiddncbhgpaaP14
import Derived.Test.YtmjiiddncbhgpaaP15
import Derived.Test.YtmjiiddncbhgpaaP16
import Derived.Test.YtmjiiddncbhgpaaP17
import Derived.Test.YtmjiiddncbhgpaaP18
import Derived.Test.YtmjiiddncbhgpaaP19
import Derived.Test.YtmjiiddncbhgpaaP20
import Derived.Test.YtmjiiddncbhgpaaP21
import Derived.Test.YtmjiiddncbhgpaaP22
import Derived.Test.YtmjiiddncbhgpaaP23
import Derived.Test.YtmjiiddncbhgpaaP24
import Derived.Test.YtmjiiddncbhgpaaP25
import Derived.Test.YtmjiiddncbhgpaaP26
import Derived.Test.YtmjiiddncbhgpaaP27
import Derived.Test.YtmjiiddncbhgpaaP28
import Derived.Test.YtmjiiddncbhgpaaP29
import Derived.Test.YtmjiiddncbhgpaaP30
import Derived.Test.YtmjiiddncbhgpaaP31
import Derived.Test.YtmjiiddncbhgpaaP32
import Derived.Test.YtmjiiddncbhgpaaP33
import Derived.BigQuiet
import Derived.BigRegionIn
import Derived.ChangeOld
import Derived.Deep.AppendLies
import Derived.Deep.DeepCutAuto
import Derived.Deep.Draws
import Derived.Deep.Fields
import Derived.Deep.LoopGhost
import Derived.Deep.QuietTactic
import Derived.Deep.RegionHeld3
import Derived.Deep.Slices
import Derived.DeepKeys4
import Derived.Ground.Names2Prog
import Derived.Ground.SlgnProg
import Derived.Ground.SlsfProg
import Derived.IntWalk
import Derived.Laws.AppendOwnNone
import Derived.Laws.BitsAllLaws
import Derived.Laws.OwnMore
import Derived.Laws.StructEq
import Derived.Lib.Hide
import Derived.Lib.SlicesCompact
import Derived.LoopIn
import Derived.LoopNIn
import Derived.Maps.AppendAt
import Derived.Maps.OwnIn
import Derived.Maps.OwnOps
import Derived.Maps.OwnSet
import Derived.OpenShut
import Derived.OrdersHeld
import Derived.OrdersIn
import Derived.OwnWalkIn
import Derived.ProofKit
import Derived.RangeFuncBound
import Derived.RangeFuncCalls
import Derived.RangeFuncKeeps
import Derived.RangeFuncLeaves
import Derived.RangeFuncNested
import Derived.Shelf.Abstract
import Derived.Shelf.RegionOpen
import Derived.Shelf.SlSortCmp.Whole1
import Derived.Shelf.Slices.Cells
import Derived.Shelf.Slices.Clone
import Derived.Shelf.Slices.CompactI
import Derived.Shelf.Slices.Empties
import Derived.Shelf.Slices.In.SortNone
import Derived.Shelf.Slices.SearchI
import Derived.Shelf.Sort.Plain
import Derived.Sort.CutIn
import Derived.Sort.OwnSortedInts
import Derived.StillTail
import Derived.StillTailTactics
import Derived.TacticsInMore
import Derived.Test.YtmjiiddncbhgpaaProg
import Derived.Test.YtmjiiddncbhgpaaRows
import Derived.WalkKit
import Derived.WideKeyEntry
namespace Go.Proofs.Ytmjiiddncbhgpaa
set_option linter.unusedVariables false
set_option linter.unusedSimpArgs false
open Go.RowKit
theorem stepsFault_ok {k : Nat} {l : List Int} (h : (stepsFault k l).1 = 0) : stepsFault k l = (0, 0) ∧ l.length ≤ 60 ∧ ∀ x ∈ l, (0 : Int) ≤ x ∧ x < k := by
  unfold stepsFault at h ⊢
  split at h
  · cases h
  · rename_i h1
    rw [if_neg h1]
    split at h
    · cases h
    · rename_i h2
      rw [if_neg h2]
      refine ⟨rfl, by omega, fun x hx => ?_⟩
      have : ¬ outB k x = true := fun e => h2 (List.any_eq_true.2 ⟨x, hx, e⟩)
      unfold outB at this
      simp only [Bool.or_eq_true, decide_eq_true_eq] at this
      omega
set_option maxRecDepth 100000 in
set_option maxHeartbeats 6400000 in
theorem decLaw_ct (h : Hy) (b : HA) (A : Option Addr) (n c : Nat) (plan : List Int) (w : World) (hh : HyR w b h) (hp : Rd Enc.int w A n c plan) :
    Calls Try.prog 4 #[.agg #[.int .i64 h.T.facts, .slice b.a.I b.a.nI b.a.cI, .slice b.a.G b.a.nG b.a.cG, .slice b.a.O b.a.nO b.a.cO, .int .i64 h.tasks, .slice b.M b.nM b.cM, .slice b.L b.nL b.cL], .slice A n c] w (Gives w (.bool true)) := by
  have hva := fun W hW => hvalidate_ct b h W hW
  have hrf := fun W hW => RHierFault_ct b h W hW
  have hde := fun W hW hl => Decompose_ct b h A n c plan W hW hl
  have hst := fun W hW hm => RSteps_ct b.a.nO A n c plan W hW hm
  have hre := fun N K hok W hW hl hn hx => Refines_ct b h N K hok A n c plan W hW hl hn hx
  have hol := hh.task.ops.len
  have hon := hh.task.ops.low
  have hpl := hp.len
  have hpw := hp.low
  obtain ⟨⟨I, nI, cI, G, nG, cG, O, nO, cO⟩, M, nM, cM, L, nL, cL⟩ := b
  simp only at hva hrf hde hst hre hol hon ⊢
  have hdf : decFault h plan = if (hierFault h).1 ≠ 0 then hierFault h else stepsFault nO plan := by rw [← hol]; rfl
  have hok0 := fun e => hierFault_ok (h := h) e
  rcases hq : hierFault h with ⟨ec, ei⟩
  rw [hq] at hva hrf hdf hok0
  rcases hqs : stepsFault nO plan with ⟨sc, si⟩
  rw [hqs] at hst hdf
  have H := hide hh
  have HP := hide hp
  have Hva := hide hva
  have Hrf := hide hrf
  have Hde := hide hde
  have Hst := hide hst
  have Hre := hide hre
  have Hol := hide hol
  have Hpl := hide hpl
  have Hdf := hide hdf
  have Hok0 := hide hok0
  have Hqs := hide hqs
  clear hh hp hva hrf hde hst hre hol hpl hdf hq hqs hok0
  have Hbl := hide (Below.refl w.heap.size w)
  go_enter Try.func4, Try.ntmps4
  go_upto_region 1 with (fail)
  obtain ⟨B0, hB0⟩ : ∃ B0, B0 = w.heap.size := ⟨_, rfl⟩
  have HB0 := hide hB0
  clear hB0
  have s_0 : B0 ≤ w.heap.size := Nat.le_trans (Nat.le_of_eq HB0.out) Hbl.out.size
  have hyh_ := Blk.new (w) 37 [.int .i64 h.T.facts, .slice I nI cI, .slice G nG cG, .slice O nO cO, .int .i64 h.tasks, .slice M nM cM, .slice L nL cL]
  have hbW : Below (w).heap.size (w) ((w).alloc (.cells #[.int .i64 h.T.facts, .slice I nI cI, .slice G nG cG, .slice O nO cO, .int .i64 h.tasks, .slice M nM cM, .slice L nL cL] 37)) := (Below.refl _ _).alloc (Nat.le_refl _) _
  obtain ⟨w0, hW⟩ : ∃ W, W = (w).alloc (.cells #[.int .i64 h.T.facts, .slice I nI cI, .slice G nG cG, .slice O nO cO, .int .i64 h.tasks, .slice M nM cM, .slice L nL cL] 37) := ⟨_, rfl⟩
  rw [← hW] at hyh_ hbW ⊢
  replace Hbl := hide (Hbl.out.trans (hbW.mono Hbl.out.size))
  have Hh_ := hide hyh_
  clear hW hbW hyh_
  generalize w.heap.size = gH at Hh_ s_0 ⊢
  have h_0 := Hh_.out.cell 0
  have h_1 := Hh_.out.cell 1
  have h_2 := Hh_.out.cell 2
  have h_3 := Hh_.out.cell 3
  have h_4 := Hh_.out.cell 4
  have h_5 := Hh_.out.cell 5
  have h_6 := Hh_.out.cell 6
  have h_l := Hh_.out.lt
  simp only [List.getElem?_cons_zero, List.getElem?_cons_succ] at h_0 h_1 h_2 h_3 h_4 h_5 h_6
  have a_h_ : B0 ≤ gH := by omega
  clear s_0
  go_wp2_with fail
  with_reducible refine (Hrf.out w0 (H.out.keep Hbl.out)).mono ?_
  rintro e w1 ⟨rfl, hb⟩
  clear h_0 h_1 h_2 h_3 h_4 h_5 h_6 h_l
  replace Hh_ := hide (Hh_.out.keep hb)
  replace Hbl := hide (Hbl.out.trans (hb.mono Hbl.out.size))
  clear hb
  have h_0 := Hh_.out.cell 0
  have h_1 := Hh_.out.cell 1
  have h_2 := Hh_.out.cell 2
  have h_3 := Hh_.out.cell 3
  have h_4 := Hh_.out.cell 4
  have h_5 := Hh_.out.cell 5
  have h_6 := Hh_.out.cell 6
  have h_l := Hh_.out.lt
  simp only [List.getElem?_cons_zero, List.getElem?_cons_succ] at h_0 h_1 h_2 h_3 h_4 h_5 h_6
  unfold fault
  go_upto_region 2 with (fail)
  have n_h__f : ¬ gH = w1.heap.size := by omega
  have n_f_h_ : ¬ w1.heap.size = gH := by omega
  have s_h_ : gH < w1.heap.size := h_l
  have s_0 : B0 ≤ w1.heap.size := Nat.le_trans (Nat.le_of_eq HB0.out) Hbl.out.size
  have hyf := Blk.new (w1) 29 [.int .i64 ec, .int .i64 ei]
  have hbW : Below (w1).heap.size (w1) ((w1).alloc (.cells #[.int .i64 ec, .int .i64 ei] 29)) := (Below.refl _ _).alloc (Nat.le_refl _) _
  obtain ⟨w2, hW⟩ : ∃ W, W = (w1).alloc (.cells #[.int .i64 ec, .int .i64 ei] 29) := ⟨_, rfl⟩
  rw [← hW] at hyf hbW ⊢
  replace Hh_ := hide (Hh_.out.keep hbW)
  replace Hbl := hide (Hbl.out.trans (hbW.mono Hbl.out.size))
  have Hf := hide hyf
  clear hW hbW hyf
  generalize w1.heap.size = gf at Hf n_h__f n_f_h_ s_h_ s_0 ⊢
  have h_0 := Hh_.out.cell 0
  have h_1 := Hh_.out.cell 1
  have h_2 := Hh_.out.cell 2
  have h_3 := Hh_.out.cell 3
  have h_4 := Hh_.out.cell 4
  have h_5 := Hh_.out.cell 5
  have h_6 := Hh_.out.cell 6
  have h_l := Hh_.out.lt
  have f0 := Hf.out.cell 0
  have f1 := Hf.out.cell 1
  have fl := Hf.out.lt
  simp only [List.getElem?_cons_zero, List.getElem?_cons_succ] at h_0 h_1 h_2 h_3 h_4 h_5 h_6 f0 f1
  clear s_h_
  have a_f : B0 ≤ gf := by omega
  clear s_0
  refine wp_region_held_drew (S := (fun w' => w'.cell? ⟨gH, 0, none⟩ = some (.int .i64 h.T.facts) ∧ w'.cell? ⟨gH, 1, none⟩ = some (.slice I nI cI) ∧ w'.cell? ⟨gH, 2, none⟩ = some (.slice G nG cG) ∧ w'.cell? ⟨gH, 3, none⟩ = some (.slice O nO cO) ∧ w'.cell? ⟨gH, 4, none⟩ = some (.int .i64 h.tasks) ∧ w'.cell? ⟨gH, 5, none⟩ = some (.slice M nM cM) ∧ w'.cell? ⟨gH, 6, none⟩ = some (.slice L nL cL) ∧ w'.cell? ⟨gf, 0, none⟩ = some (.int .i64 ec) ∧ w'.cell? ⟨gf, 1, none⟩ = some (.int .i64 ei))) (by kernel_rfl) ?_ (fun hHeld => ?_)
  · (try dsimp only); exact ⟨h_0, h_1, h_2, h_3, h_4, h_5, h_6, f0, f1⟩
  obtain ⟨w3, hW⟩ : ∃ W, W = w2.drew := ⟨_, rfl⟩
  have hb : Below w2.heap.size w2 w3 := by rw [hW]; exact (Below.refl _ _).drew
  rw [← hW] at hHeld ⊢
  clear hW
  clear h_0 h_1 h_2 h_3 h_4 h_5 h_6 f0 f1 h_l fl
  replace Hh_ := hide (Hh_.out.keep hb)
  replace Hf := hide (Hf.out.keep hb)
  replace Hbl := hide (Hbl.out.trans (hb.mono Hbl.out.size))
  clear hb
  have h_0 := Hh_.out.cell 0
  have h_1 := Hh_.out.cell 1
  have h_2 := Hh_.out.cell 2
  have h_3 := Hh_.out.cell 3
  have h_4 := Hh_.out.cell 4
  have h_5 := Hh_.out.cell 5
  have h_6 := Hh_.out.cell 6
  have h_l := Hh_.out.lt
  have f0 := Hf.out.cell 0
  have f1 := Hf.out.cell 1
  have fl := Hf.out.lt
  simp only [List.getElem?_cons_zero, List.getElem?_cons_succ] at h_0 h_1 h_2 h_3 h_4 h_5 h_6 f0 f1
  refine wpAnyH_ready (rs := [0]) (by kernel_rfl) (by simp) ?_
  refine AllReadyH.cons rfl (fun K hK => ?_) AllReadyH.nil
  go_simp
  with_reducible refine (hierExample_ct w3).mono ?_
  rintro e w4 ⟨rfl, hb⟩
  clear h_0 h_1 h_2 h_3 h_4 h_5 h_6 f0 f1 h_l fl
  replace Hh_ := hide (Hh_.out.keep hb)
  replace Hf := hide (Hf.out.keep hb)
  replace Hbl := hide (Hbl.out.trans (hb.mono Hbl.out.size))
  clear hb
  have h_0 := Hh_.out.cell 0
  have h_1 := Hh_.out.cell 1
  have h_2 := Hh_.out.cell 2
  have h_3 := Hh_.out.cell 3
  have h_4 := Hh_.out.cell 4
  have h_5 := Hh_.out.cell 5
  have h_6 := Hh_.out.cell 6
  have h_l := Hh_.out.lt
  have f0 := Hf.out.cell 0
  have f1 := Hf.out.cell 1
  have fl := Hf.out.lt
  simp only [List.getElem?_cons_zero, List.getElem?_cons_succ] at h_0 h_1 h_2 h_3 h_4 h_5 h_6 f0 f1
  refine hK.out _ _ ?_ (fun hHeld2 => ?_)
  · (try dsimp only); exact ⟨h_0, h_1, h_2, h_3, h_4, h_5, h_6, f0, f1⟩
  clear hK K hHeld
  try simp only [Act.put, List.setIfInBounds_toArray, List.set_cons_zero, List.set_cons_succ]
  have hHeld := hHeld2; clear hHeld2
  refine takeC (i := 1) (v := ?_) (some 11) rfl rfl (by kernel_rfl) (by kernel_rfl) (by kernel_rfl) (fun _ _ _ h => h) (Or.inl ⟨by rfl, ?_⟩) (by assumption) ?_
  rotate_left
  · intro w hSw; (try dsimp only at hSw); obtain ⟨s1, s2, s3, s4, s5, s6, s7, s8, s9⟩ := hSw; first | (go_simp; done) | (go_simp; with_reducible rfl)
  try simp only [Act.put, List.setIfInBounds_toArray, List.set_cons_zero, List.set_cons_succ]
  refine takeC (i := 2) (v := ?_) (some 12) rfl rfl (by kernel_rfl) (by kernel_rfl) (by kernel_rfl) (fun _ _ _ h => h) (Or.inl ⟨by rfl, ?_⟩) (by assumption) ?_
  rotate_left
  · intro w hSw; (try dsimp only at hSw); obtain ⟨s1, s2, s3, s4, s5, s6, s7, s8, s9⟩ := hSw; first | (go_simp; done) | (go_simp; with_reducible rfl)
  try simp only [Act.put, List.setIfInBounds_toArray, List.set_cons_zero, List.set_cons_succ]
  refine takeC (i := 3) (v := ?_) (some 13) rfl rfl (by kernel_rfl) (by kernel_rfl) (by kernel_rfl) (fun _ _ _ h => h) (Or.inl ⟨by rfl, ?_⟩) (by assumption) ?_
  rotate_left
  · intro w hSw; (try dsimp only at hSw); obtain ⟨s1, s2, s3, s4, s5, s6, s7, s8, s9⟩ := hSw; first | (go_simp; done) | (go_simp; with_reducible rfl)
  try simp only [Act.put, List.setIfInBounds_toArray, List.set_cons_zero, List.set_cons_succ]
  refine takeC (i := 5) (v := ?_) (some 15) rfl rfl (by kernel_rfl) (by kernel_rfl) (by kernel_rfl) (fun _ _ _ h => h) (Or.inl ⟨by rfl, ?_⟩) (by assumption) ?_
  rotate_left
  · intro w hSw; (try dsimp only at hSw); obtain ⟨s1, s2, s3, s4, s5, s6, s7, s8, s9⟩ := hSw; first | (go_simp; done) | (go_simp; with_reducible rfl)
  try simp only [Act.put, List.setIfInBounds_toArray, List.set_cons_zero, List.set_cons_succ]
  refine wpAnyH_ready (rs := [4]) (by kernel_rfl) (by simp) ?_
  refine AllReadyH.cons rfl (fun K hK => ?_) AllReadyH.nil
  go_simp
  with_reducible refine (Hva.out w4 (H.out.keep Hbl.out)).mono ?_
  rintro e w5 ⟨rfl, hb⟩
  unfold fault
  clear h_0 h_1 h_2 h_3 h_4 h_5 h_6 f0 f1 h_l fl
  replace Hh_ := hide (Hh_.out.keep hb)
  replace Hf := hide (Hf.out.keep hb)
  replace Hbl := hide (Hbl.out.trans (hb.mono Hbl.out.size))
  clear hb
  have h_0 := Hh_.out.cell 0
  have h_1 := Hh_.out.cell 1
  have h_2 := Hh_.out.cell 2
  have h_3 := Hh_.out.cell 3
  have h_4 := Hh_.out.cell 4
  have h_5 := Hh_.out.cell 5
  have h_6 := Hh_.out.cell 6
  have h_l := Hh_.out.lt
  have f0 := Hf.out.cell 0
  have f1 := Hf.out.cell 1
  have fl := Hf.out.lt
  simp only [List.getElem?_cons_zero, List.getElem?_cons_succ] at h_0 h_1 h_2 h_3 h_4 h_5 h_6 f0 f1
  refine hK.out _ _ ?_ (fun hHeld2 => ?_)
  · (try dsimp only); exact ⟨h_0, h_1, h_2, h_3, h_4, h_5, h_6, f0, f1⟩
  clear hK K hHeld
  try simp only [Act.put, List.setIfInBounds_toArray, List.set_cons_zero, List.set_cons_succ]
  have hHeld := hHeld2; clear hHeld2
  refine takeC (i := 6) (v := ?_) (some 16) rfl rfl (by kernel_rfl) (by kernel_rfl) (by kernel_rfl) (fun _ _ _ h => h) (Or.inl ⟨by rfl, ?_⟩) (by assumption) ?_
  rotate_left
  · intro w hSw; (try dsimp only at hSw); obtain ⟨s1, s2, s3, s4, s5, s6, s7, s8, s9⟩ := hSw; first | (go_simp; done) | (go_simp; with_reducible rfl)
  try simp only [Act.put, List.setIfInBounds_toArray, List.set_cons_zero, List.set_cons_succ]
  refine takeC (i := 7) (v := ?_) (some 17) rfl rfl (by kernel_rfl) (by kernel_rfl) (by kernel_rfl) (fun _ _ _ h => h) (Or.inl ⟨by rfl, ?_⟩) (by assumption) ?_
  rotate_left
  · intro w hSw; (try dsimp only at hSw); obtain ⟨s1, s2, s3, s4, s5, s6, s7, s8, s9⟩ := hSw; first | (go_simp; done) | (go_simp; with_reducible rfl)
  try simp only [Act.put, List.setIfInBounds_toArray, List.set_cons_zero, List.set_cons_succ]
  refine wpAnyH_done (by kernel_rfl) ?_ _
  by_cases hec : ec = 0
  rotate_left
  · have hne : (ec == 0) = false := by rw [beq_eq_false_iff_ne]; exact hec
    have hne2 : (ec != 0) = true := by simpa using hec
    go_wp2_with fail
    with_reducible refine (Hde.out w5 (H.out.keep Hbl.out) (HP.out.keep Hbl.out)).mono ?_
    rintro e w6 ⟨hb, bb, rfl, hiff⟩
    have hdf := Hdf.out
    rw [if_pos hec] at hdf
    rw [hdf] at hiff ⊢
    have hbf : bb = false := by
      cases bb with
      | false => rfl
      | true => exact absurd (hiff.1 rfl).1 hec
    subst hbf
    clear hiff hdf
    unfold fault
    clear h_0 h_1 h_2 h_3 h_4 h_5 h_6 f0 f1 h_l fl
    replace Hh_ := hide (Hh_.out.keep hb)
    replace Hf := hide (Hf.out.keep hb)
    replace Hbl := hide (Hbl.out.trans (hb.mono Hbl.out.size))
    clear hb
    have h_0 := Hh_.out.cell 0
    have h_1 := Hh_.out.cell 1
    have h_2 := Hh_.out.cell 2
    have h_3 := Hh_.out.cell 3
    have h_4 := Hh_.out.cell 4
    have h_5 := Hh_.out.cell 5
    have h_6 := Hh_.out.cell 6
    have h_l := Hh_.out.lt
    have f0 := Hf.out.cell 0
    have f1 := Hf.out.cell 1
    have fl := Hf.out.lt
    simp only [List.getElem?_cons_zero, List.getElem?_cons_succ] at h_0 h_1 h_2 h_3 h_4 h_5 h_6 f0 f1
    go_upto_region 7 with (fail)
    have s_h_ : gH < w6.heap.size := h_l
    have s_f : gf < w6.heap.size := fl
    have s_0 : B0 ≤ w6.heap.size := Nat.le_trans (Nat.le_of_eq HB0.out) Hbl.out.size
    have hyd := Blk.new (w6) 29 [.int .i64 ec, .int .i64 ei]
    have hbW : Below (w6).heap.size (w6) ((w6).alloc (.cells #[.int .i64 ec, .int .i64 ei] 29)) := (Below.refl _ _).alloc (Nat.le_refl _) _
    obtain ⟨w7, hW⟩ : ∃ W, W = (w6).alloc (.cells #[.int .i64 ec, .int .i64 ei] 29) := ⟨_, rfl⟩
    rw [← hW] at hyd hbW ⊢
    replace Hh_ := hide (Hh_.out.keep hbW)
    replace Hf := hide (Hf.out.keep hbW)
    replace Hbl := hide (Hbl.out.trans (hbW.mono Hbl.out.size))
    have Hd := hide hyd
    clear hW hbW hyd
    generalize w6.heap.size = gd at Hd s_h_ s_f s_0 ⊢
    have h_0 := Hh_.out.cell 0
    have h_1 := Hh_.out.cell 1
    have h_2 := Hh_.out.cell 2
    have h_3 := Hh_.out.cell 3
    have h_4 := Hh_.out.cell 4
    have h_5 := Hh_.out.cell 5
    have h_6 := Hh_.out.cell 6
    have h_l := Hh_.out.lt
    have f0 := Hf.out.cell 0
    have f1 := Hf.out.cell 1
    have fl := Hf.out.lt
    have d0 := Hd.out.cell 0
    have d1 := Hd.out.cell 1
    have dl := Hd.out.lt
    simp only [List.getElem?_cons_zero, List.getElem?_cons_succ] at h_0 h_1 h_2 h_3 h_4 h_5 h_6 f0 f1 d0 d1
    clear s_h_
    clear s_f
    have a_d : B0 ≤ gd := by omega
    clear s_0
    go_wp2_with fail
    go_ret
    exact ⟨ret_bool (by simp), Hbl.out⟩
  subst hec
  obtain ⟨N, KK, hok, hz⟩ := Hok0.out rfl
  obtain ⟨_, e2⟩ := Prod.mk.inj hz
  subst e2
  clear hz
  have Hok := hide hok
  clear hok
  by_cases h10 : 10 < n ∧ n ≤ 60
  · obtain ⟨h10, h60⟩ := h10
    have h10i : (10 : Int) < (n : Int) := by omega
    have h60i : (n : Int) ≤ 60 := by omega
    go_wp2_with fail
    go_ret
    exact ⟨rfl, Hbl.out⟩
  have hdf := Hdf.out
  rw [if_neg (by simp)] at hdf
  by_cases hsc : sc = 0
  rotate_left
  · have hne : (sc == 0) = false := by rw [beq_eq_false_iff_ne]; exact hsc
    have hne2 : (sc != 0) = true := by simpa using hsc
    have h10i : ¬ (10 : Int) < (n : Int) ∨ ¬ (n : Int) ≤ 60 := by omega
    have hfin : ∀ bb : Bool, (bb = true ↔ (sc = 0 ∧ RefP h plan)) → bb = false := fun bb hb => by
      cases bb with
      | false => rfl
      | true => exact absurd (hb.1 rfl).1 hsc
    rcases h10i with h10i | h10i
    · skip
      go_wp2_with fail
      with_reducible refine (Hde.out w5 (H.out.keep Hbl.out) (HP.out.keep Hbl.out)).mono ?_
      rintro e w6 ⟨hb, bb, rfl, hiff⟩
      rw [hdf] at hiff ⊢
      have Hiff := hide hiff
      clear hiff hdf
      unfold fault
      clear h_0 h_1 h_2 h_3 h_4 h_5 h_6 f0 f1 h_l fl
      replace Hh_ := hide (Hh_.out.keep hb)
      replace Hf := hide (Hf.out.keep hb)
      replace Hbl := hide (Hbl.out.trans (hb.mono Hbl.out.size))
      clear hb
      have h_0 := Hh_.out.cell 0
      have h_1 := Hh_.out.cell 1
      have h_2 := Hh_.out.cell 2
      have h_3 := Hh_.out.cell 3
      have h_4 := Hh_.out.cell 4
      have h_5 := Hh_.out.cell 5
      have h_6 := Hh_.out.cell 6
      have h_l := Hh_.out.lt
      have f0 := Hf.out.cell 0
      have f1 := Hf.out.cell 1
      have fl := Hf.out.lt
      simp only [List.getElem?_cons_zero, List.getElem?_cons_succ] at h_0 h_1 h_2 h_3 h_4 h_5 h_6 f0 f1
      go_upto_region 7 with (fail)
      have n_h__d : ¬ gH = w6.heap.size := by omega
      have n_d_h_ : ¬ w6.heap.size = gH := by omega
      have n_f_d : ¬ gf = w6.heap.size := by omega
      have n_d_f : ¬ w6.heap.size = gf := by omega
      have s_h_ : gH < w6.heap.size := h_l
      have s_f : gf < w6.heap.size := fl
      have s_0 : B0 ≤ w6.heap.size := Nat.le_trans (Nat.le_of_eq HB0.out) Hbl.out.size
      have hyd := Blk.new (w6) 29 [.int .i64 sc, .int .i64 si]
      have hbW : Below (w6).heap.size (w6) ((w6).alloc (.cells #[.int .i64 sc, .int .i64 si] 29)) := (Below.refl _ _).alloc (Nat.le_refl _) _
      obtain ⟨w7, hW⟩ : ∃ W, W = (w6).alloc (.cells #[.int .i64 sc, .int .i64 si] 29) := ⟨_, rfl⟩
      rw [← hW] at hyd hbW ⊢
      replace Hh_ := hide (Hh_.out.keep hbW)
      replace Hf := hide (Hf.out.keep hbW)
      replace Hbl := hide (Hbl.out.trans (hbW.mono Hbl.out.size))
      have Hd := hide hyd
      clear hW hbW hyd
      generalize w6.heap.size = gd at Hd n_h__d n_d_h_ n_f_d n_d_f s_h_ s_f s_0 ⊢
      have h_0 := Hh_.out.cell 0
      have h_1 := Hh_.out.cell 1
      have h_2 := Hh_.out.cell 2
      have h_3 := Hh_.out.cell 3
      have h_4 := Hh_.out.cell 4
      have h_5 := Hh_.out.cell 5
      have h_6 := Hh_.out.cell 6
      have h_l := Hh_.out.lt
      have f0 := Hf.out.cell 0
      have f1 := Hf.out.cell 1
      have fl := Hf.out.lt
      have d0 := Hd.out.cell 0
      have d1 := Hd.out.cell 1
      have dl := Hd.out.lt
      simp only [List.getElem?_cons_zero, List.getElem?_cons_succ] at h_0 h_1 h_2 h_3 h_4 h_5 h_6 f0 f1 d0 d1
      clear s_h_
      clear s_f
      have a_d : B0 ≤ gd := by omega
      clear s_0
      go_wp2_with fail
      with_reducible refine (Hst.out w7 (HP.out.keep Hbl.out) (by omega)).mono ?_
      rintro e w8 ⟨rfl, hb⟩
      clear h_0 h_1 h_2 h_3 h_4 h_5 h_6 f0 f1 d0 d1 h_l fl dl
      replace Hh_ := hide (Hh_.out.keep hb)
      replace Hf := hide (Hf.out.keep hb)
      replace Hd := hide (Hd.out.keep hb)
      replace Hbl := hide (Hbl.out.trans (hb.mono Hbl.out.size))
      clear hb
      unfold fault
      have h_0 := Hh_.out.cell 0
      have h_1 := Hh_.out.cell 1
      have h_2 := Hh_.out.cell 2
      have h_3 := Hh_.out.cell 3
      have h_4 := Hh_.out.cell 4
      have h_5 := Hh_.out.cell 5
      have h_6 := Hh_.out.cell 6
      have h_l := Hh_.out.lt
      have f0 := Hf.out.cell 0
      have f1 := Hf.out.cell 1
      have fl := Hf.out.lt
      have d0 := Hd.out.cell 0
      have d1 := Hd.out.cell 1
      have dl := Hd.out.lt
      simp only [List.getElem?_cons_zero, List.getElem?_cons_succ] at h_0 h_1 h_2 h_3 h_4 h_5 h_6 f0 f1 d0 d1
      have ff0 := Hf.out.frozen 0
      have ff1 := Hf.out.frozen 1
      have hbf := hfin bb Hiff.out
      subst hbf
      go_wp2_with fail
      go_ret
      refine ⟨ret_bool (by simp), ?_⟩
      have hbx := HB0.out
      repeat' (first | (with_reducible exact Hbl.out) | (with_reducible refine Below.drew ?_) | (with_reducible refine below_setH ?_ ?_ _ _) | omega)
    · skip
      have h10j : (10 : Int) < (n : Int) := by omega
      go_wp2_with fail
      with_reducible refine (Hde.out w5 (H.out.keep Hbl.out) (HP.out.keep Hbl.out)).mono ?_
      rintro e w6 ⟨hb, bb, rfl, hiff⟩
      rw [hdf] at hiff ⊢
      have Hiff := hide hiff
      clear hiff hdf
      unfold fault
      clear h_0 h_1 h_2 h_3 h_4 h_5 h_6 f0 f1 h_l fl
      replace Hh_ := hide (Hh_.out.keep hb)
      replace Hf := hide (Hf.out.keep hb)
      replace Hbl := hide (Hbl.out.trans (hb.mono Hbl.out.size))
      clear hb
      have h_0 := Hh_.out.cell 0
      have h_1 := Hh_.out.cell 1
      have h_2 := Hh_.out.cell 2
      have h_3 := Hh_.out.cell 3
      have h_4 := Hh_.out.cell 4
      have h_5 := Hh_.out.cell 5
      have h_6 := Hh_.out.cell 6
      have h_l := Hh_.out.lt
      have f0 := Hf.out.cell 0
      have f1 := Hf.out.cell 1
      have fl := Hf.out.lt
      simp only [List.getElem?_cons_zero, List.getElem?_cons_succ] at h_0 h_1 h_2 h_3 h_4 h_5 h_6 f0 f1
      go_upto_region 7 with (fail)
      have n_h__d : ¬ gH = w6.heap.size := by omega
      have n_d_h_ : ¬ w6.heap.size = gH := by omega
      have n_f_d : ¬ gf = w6.heap.size := by omega
      have n_d_f : ¬ w6.heap.size = gf := by omega
      have s_h_ : gH < w6.heap.size := h_l
      have s_f : gf < w6.heap.size := fl
      have s_0 : B0 ≤ w6.heap.size := Nat.le_trans (Nat.le_of_eq HB0.out) Hbl.out.size
      have hyd := Blk.new (w6) 29 [.int .i64 sc, .int .i64 si]
      have hbW : Below (w6).heap.size (w6) ((w6).alloc (.cells #[.int .i64 sc, .int .i64 si] 29)) := (Below.refl _ _).alloc (Nat.le_refl _) _
      obtain ⟨w7, hW⟩ : ∃ W, W = (w6).alloc (.cells #[.int .i64 sc, .int .i64 si] 29) := ⟨_, rfl⟩
      rw [← hW] at hyd hbW ⊢
      replace Hh_ := hide (Hh_.out.keep hbW)
      replace Hf := hide (Hf.out.keep hbW)
      replace Hbl := hide (Hbl.out.trans (hbW.mono Hbl.out.size))
      have Hd := hide hyd
      clear hW hbW hyd
      generalize w6.heap.size = gd at Hd n_h__d n_d_h_ n_f_d n_d_f s_h_ s_f s_0 ⊢
      have h_0 := Hh_.out.cell 0
      have h_1 := Hh_.out.cell 1
      have h_2 := Hh_.out.cell 2
      have h_3 := Hh_.out.cell 3
      have h_4 := Hh_.out.cell 4
      have h_5 := Hh_.out.cell 5
      have h_6 := Hh_.out.cell 6
      have h_l := Hh_.out.lt
      have f0 := Hf.out.cell 0
      have f1 := Hf.out.cell 1
      have fl := Hf.out.lt
      have d0 := Hd.out.cell 0
      have d1 := Hd.out.cell 1
      have dl := Hd.out.lt
      simp only [List.getElem?_cons_zero, List.getElem?_cons_succ] at h_0 h_1 h_2 h_3 h_4 h_5 h_6 f0 f1 d0 d1
      clear s_h_
      clear s_f
      have a_d : B0 ≤ gd := by omega
      clear s_0
      go_wp2_with fail
      with_reducible refine (Hst.out w7 (HP.out.keep Hbl.out) (by omega)).mono ?_
      rintro e w8 ⟨rfl, hb⟩
      clear h_0 h_1 h_2 h_3 h_4 h_5 h_6 f0 f1 d0 d1 h_l fl dl
      replace Hh_ := hide (Hh_.out.keep hb)
      replace Hf := hide (Hf.out.keep hb)
      replace Hd := hide (Hd.out.keep hb)
      replace Hbl := hide (Hbl.out.trans (hb.mono Hbl.out.size))
      clear hb
      unfold fault
      have h_0 := Hh_.out.cell 0
      have h_1 := Hh_.out.cell 1
      have h_2 := Hh_.out.cell 2
      have h_3 := Hh_.out.cell 3
      have h_4 := Hh_.out.cell 4
      have h_5 := Hh_.out.cell 5
      have h_6 := Hh_.out.cell 6
      have h_l := Hh_.out.lt
      have f0 := Hf.out.cell 0
      have f1 := Hf.out.cell 1
      have fl := Hf.out.lt
      have d0 := Hd.out.cell 0
      have d1 := Hd.out.cell 1
      have dl := Hd.out.lt
      simp only [List.getElem?_cons_zero, List.getElem?_cons_succ] at h_0 h_1 h_2 h_3 h_4 h_5 h_6 f0 f1 d0 d1
      have ff0 := Hf.out.frozen 0
      have ff1 := Hf.out.frozen 1
      have hbf := hfin bb Hiff.out
      subst hbf
      go_wp2_with fail
      go_ret
      refine ⟨ret_bool (by simp), ?_⟩
      have hbx := HB0.out
      repeat' (first | (with_reducible exact Hbl.out) | (with_reducible refine Below.drew ?_) | (with_reducible refine below_setH ?_ ?_ _ _) | omega)
  subst hsc
  have hs0 := stepsFault_ok (k := nO) (l := plan) (by rw [Hqs.out])
  rw [Hqs.out] at hs0
  obtain ⟨hz, h60, hrng⟩ := hs0
  obtain ⟨_, e2⟩ := Prod.mk.inj hz
  subst e2
  rw [Hpl.out] at h60
  have hn10 : n ≤ 10 := by omega
  have h10i : ¬ (10 : Int) < (n : Int) := by omega
  have Hrng := hide hrng
  clear hz hrng
  go_wp2_with fail
  with_reducible refine (Hde.out w5 (H.out.keep Hbl.out) (HP.out.keep Hbl.out)).mono ?_
  rintro e w6 ⟨hb, bb, rfl, hiff⟩
  rw [hdf] at hiff ⊢
  have Hiff := hide hiff
  clear hiff hdf
  unfold fault
  clear h_0 h_1 h_2 h_3 h_4 h_5 h_6 f0 f1 h_l fl
  replace Hh_ := hide (Hh_.out.keep hb)
  replace Hf := hide (Hf.out.keep hb)
  replace Hbl := hide (Hbl.out.trans (hb.mono Hbl.out.size))
  clear hb
  have h_0 := Hh_.out.cell 0
  have h_1 := Hh_.out.cell 1
  have h_2 := Hh_.out.cell 2
  have h_3 := Hh_.out.cell 3
  have h_4 := Hh_.out.cell 4
  have h_5 := Hh_.out.cell 5
  have h_6 := Hh_.out.cell 6
  have h_l := Hh_.out.lt
  have f0 := Hf.out.cell 0
  have f1 := Hf.out.cell 1
  have fl := Hf.out.lt
  simp only [List.getElem?_cons_zero, List.getElem?_cons_succ] at h_0 h_1 h_2 h_3 h_4 h_5 h_6 f0 f1
  go_upto_region 7 with (fail)
  have n_h__d : ¬ gH = w6.heap.size := by omega
  have n_d_h_ : ¬ w6.heap.size = gH := by omega
  have n_f_d : ¬ gf = w6.heap.size := by omega
  have n_d_f : ¬ w6.heap.size = gf := by omega
  have s_h_ : gH < w6.heap.size := h_l
  have s_f : gf < w6.heap.size := fl
  have s_0 : B0 ≤ w6.heap.size := Nat.le_trans (Nat.le_of_eq HB0.out) Hbl.out.size
  have hyd := Blk.new (w6) 29 [.int .i64 0, .int .i64 0]
  have hbW : Below (w6).heap.size (w6) ((w6).alloc (.cells #[.int .i64 0, .int .i64 0] 29)) := (Below.refl _ _).alloc (Nat.le_refl _) _
  obtain ⟨w7, hW⟩ : ∃ W, W = (w6).alloc (.cells #[.int .i64 0, .int .i64 0] 29) := ⟨_, rfl⟩
  rw [← hW] at hyd hbW ⊢
  replace Hh_ := hide (Hh_.out.keep hbW)
  replace Hf := hide (Hf.out.keep hbW)
  replace Hbl := hide (Hbl.out.trans (hbW.mono Hbl.out.size))
  have Hd := hide hyd
  clear hW hbW hyd
  generalize w6.heap.size = gd at Hd n_h__d n_d_h_ n_f_d n_d_f s_h_ s_f s_0 ⊢
  have h_0 := Hh_.out.cell 0
  have h_1 := Hh_.out.cell 1
  have h_2 := Hh_.out.cell 2
  have h_3 := Hh_.out.cell 3
  have h_4 := Hh_.out.cell 4
  have h_5 := Hh_.out.cell 5
  have h_6 := Hh_.out.cell 6
  have h_l := Hh_.out.lt
  have f0 := Hf.out.cell 0
  have f1 := Hf.out.cell 1
  have fl := Hf.out.lt
  have d0 := Hd.out.cell 0
  have d1 := Hd.out.cell 1
  have dl := Hd.out.lt
  simp only [List.getElem?_cons_zero, List.getElem?_cons_succ] at h_0 h_1 h_2 h_3 h_4 h_5 h_6 f0 f1 d0 d1
  clear s_h_
  clear s_f
  have a_d : B0 ≤ gd := by omega
  clear s_0
  go_wp2_with fail
  with_reducible refine (Hst.out w7 (HP.out.keep Hbl.out) (by omega)).mono ?_
  rintro e w8 ⟨rfl, hb⟩
  clear h_0 h_1 h_2 h_3 h_4 h_5 h_6 f0 f1 d0 d1 h_l fl dl
  replace Hh_ := hide (Hh_.out.keep hb)
  replace Hf := hide (Hf.out.keep hb)
  replace Hd := hide (Hd.out.keep hb)
  replace Hbl := hide (Hbl.out.trans (hb.mono Hbl.out.size))
  clear hb
  unfold fault
  have h_0 := Hh_.out.cell 0
  have h_1 := Hh_.out.cell 1
  have h_2 := Hh_.out.cell 2
  have h_3 := Hh_.out.cell 3
  have h_4 := Hh_.out.cell 4
  have h_5 := Hh_.out.cell 5
  have h_6 := Hh_.out.cell 6
  have h_l := Hh_.out.lt
  have f0 := Hf.out.cell 0
  have f1 := Hf.out.cell 1
  have fl := Hf.out.lt
  have d0 := Hd.out.cell 0
  have d1 := Hd.out.cell 1
  have dl := Hd.out.lt
  simp only [List.getElem?_cons_zero, List.getElem?_cons_succ] at h_0 h_1 h_2 h_3 h_4 h_5 h_6 f0 f1 d0 d1
  have ff0 := Hf.out.frozen 0
  have ff1 := Hf.out.frozen 1
  go_upto_region 9 with (fail)
  clear ff0 ff1
  have hyb := ((Hf.out.set 0 (.int .i64 0)).set 1 (.int .i64 0))
  simp only [List.set_cons_zero, List.set_cons_succ] at hyb
  have hbW := (below_set ((below_set (Below.refl B0 w8) (g := gf) a_f 0 (.int .i64 0))) (g := gf) a_f 1 (.int .i64 0))
  have hcW := ((Chg.refl (fun x => x = gf) w8).trans (Chg.set _ (gf) 0 (.int .i64 0))).trans (Chg.set _ (gf) 1 (.int .i64 0))
  obtain ⟨w9, hW⟩ : ∃ W, W = ((w8).setCell ⟨gf, 0, none⟩ (.int .i64 0)).setCell ⟨gf, 1, none⟩ (.int .i64 0) := ⟨_, rfl⟩
  rw [← hW] at hyb hbW hcW ⊢
  replace Hf := hide hyb
  clear hW hyb
  clear h_0 h_1 h_2 h_3 h_4 h_5 h_6 f0 f1 d0 d1 h_l fl dl
  replace Hh_ := hide (hcW.blk Hh_.out (by exact n_h__f))
  replace Hd := hide (hcW.blk Hd.out (by exact n_d_f))
  replace Hbl := hide (Hbl.out.trans (hbW.mono (Nat.le_of_eq HB0.out.symm)))
  clear hbW hcW
  have h_0 := Hh_.out.cell 0
  have h_1 := Hh_.out.cell 1
  have h_2 := Hh_.out.cell 2
  have h_3 := Hh_.out.cell 3
  have h_4 := Hh_.out.cell 4
  have h_5 := Hh_.out.cell 5
  have h_6 := Hh_.out.cell 6
  have h_l := Hh_.out.lt
  have f0 := Hf.out.cell 0
  have f1 := Hf.out.cell 1
  have fl := Hf.out.lt
  have d0 := Hd.out.cell 0
  have d1 := Hd.out.cell 1
  have dl := Hd.out.lt
  simp only [List.getElem?_cons_zero, List.getElem?_cons_succ] at h_0 h_1 h_2 h_3 h_4 h_5 h_6 f0 f1 d0 d1
  go_upto_region 11 with (fail)
  go_wp2_with fail
  have hxr : ∀ x ∈ plan, (0 : Int) ≤ x ∧ x < (h.T.ops.length : Nat) := fun x hx => by
    have h1 := Hrng.out x hx
    have h2 := Hol.out
    omega
  have hct := Hre.out N KK Hok.out w9 (H.out.keep Hbl.out) (HP.out.keep Hbl.out) (by omega) hxr
  clear hxr
  with_reducible refine hct.mono ?_
  clear hct
  rintro e w10 ⟨hb, b2, rfl, hiff2⟩
  have hbe : bb = b2 := by
    rw [Bool.eq_iff_iff, Hiff.out, hiff2]
    simp
  subst hbe
  clear hiff2
  clear h_0 h_1 h_2 h_3 h_4 h_5 h_6 f0 f1 d0 d1 h_l fl dl
  replace Hh_ := hide (Hh_.out.keep hb)
  replace Hf := hide (Hf.out.keep hb)
  replace Hd := hide (Hd.out.keep hb)
  replace Hbl := hide (Hbl.out.trans (hb.mono Hbl.out.size))
  clear hb
  have h_0 := Hh_.out.cell 0
  have h_1 := Hh_.out.cell 1
  have h_2 := Hh_.out.cell 2
  have h_3 := Hh_.out.cell 3
  have h_4 := Hh_.out.cell 4
  have h_5 := Hh_.out.cell 5
  have h_6 := Hh_.out.cell 6
  have h_l := Hh_.out.lt
  have f0 := Hf.out.cell 0
  have f1 := Hf.out.cell 1
  have fl := Hf.out.lt
  have d0 := Hd.out.cell 0
  have d1 := Hd.out.cell 1
  have dl := Hd.out.lt
  simp only [List.getElem?_cons_zero, List.getElem?_cons_succ] at h_0 h_1 h_2 h_3 h_4 h_5 h_6 f0 f1 d0 d1
  go_wp2_with fail
  go_ret
  exact ⟨ret_bool (by simp), Hbl.out⟩
end Go.Proofs.Ytmjiiddncbhgpaa
