/- What the laws ask for, part 11: Hz5. -/
import Derived.Test.YtemiecammmbjdaaG2
import Derived.Test.YtemiecammmbjdaaG3
import Derived.Test.YtemiecammmbjdaaG5
import Derived.Test.YtemiecammmbjdaaG6
import Derived.Test.YtemiecammmbjdaaG7
import Derived.Test.YtemiecammmbjdaaG8
import Derived.Test.YtemiecammmbjdaaG9
import Derived.BigQuiet
import Derived.Deep.AppendLies
import Derived.Deep.DeepCutAuto
import Derived.Deep.Draws
import Derived.Deep.Fields
import Derived.Deep.LoopGhost
import Derived.Deep.QuietTactic
import Derived.Deep.RegionHeld3
import Derived.Deep.Slices
import Derived.Ground.Names2Prog
import Derived.Ground.SlgnProg
import Derived.Ground.SlsfProg
import Derived.IntWalk
import Derived.Laws.AppendOwnNone
import Derived.Laws.OwnMore
import Derived.Lib.Hide
import Derived.Lib.SlicesCompact
import Derived.Maps.AppendAt
import Derived.Shelf.Slices.Cells
import Derived.Shelf.Slices.Clone
import Derived.Shelf.Slices.CompactI
import Derived.Shelf.Slices.Empties
import Derived.Shelf.Slices.In.SortNone
import Derived.Shelf.Slices.SearchI
import Derived.Shelf.Sort.Plain
import Derived.Sort.OwnSortedInts
import Derived.Test.YtemiecammmbjdaaProg
import Derived.WalkKit
namespace Go.Proofs.Ytemiecammmbjdaa
set_option linter.unusedVariables false
set_option linter.unusedSimpArgs false
open Go.RowKit
/-- the formula of a task and a number of steps, or the fault -/
def cnfR (T : Tsk) (s : Int) : Int × List (List Int) × Int × Int :=
  if (taskFault T).1 ≠ 0 then (0, [], taskFault T) else if s < 0 ∨ 4 < s then (0, [], 3, -8) else
  if 80 < sizeV T.facts.toNat s.toNat T.ops.length ∨ 20 < T.ops.length then (0, [], 10, -3) else (sizeV T.facts.toNat s.toNat T.ops.length, encC T T.facts.toNat s.toNat, 0, 0)
def CnfP (w : World) (r : Int × List (List Int) × Int × Int) (e : Ending) (w' : World) : Prop :=
  Below w.heap.size w w' ∧ ∃ (A : Option Addr) (n c : Nat), e = .returned (.tuple #[.agg #[.int .i64 r.1, .slice A n c], fault r.2.2.1 r.2.2.2]) ∧ (∀ ad, A = some ad → ∃ b off, ad = ⟨b, off, none⟩) ∧ ∀ w'', Chg (fun b => b < w.heap.size) w' w'' → Rd (Enc.sl Enc.int) w'' A n c r.2.1
theorem cnfP_nil {w w' : World} (h : Below w.heap.size w w') (c i : Int) : CnfP w (0, [], c, i) (.returned (.tuple #[.agg #[.int .i64 0, .slice none 0 0], fault c i])) w' := ⟨h, none, 0, 0, rfl, fun _ e => (by cases e), fun _ _ => Rd.nil_ _ _⟩
theorem sizeV_low {N S n : Nat} (hN : N ≤ 24) (hS : S ≤ 10) (hn : n ≤ 100) : 0 ≤ sizeV N S n ∧ sizeV N S n ≤ 2000 := by
  have h1 := Nat.mul_le_mul (show S + 1 ≤ 11 by omega) hN
  have h2 := Nat.mul_le_mul hS hn
  have e1 : ((S : Int) + 1) * (N : Int) = (((S + 1) * N : Nat) : Int) := by rw [Int.natCast_mul]; simp
  have e2 : (S : Int) * (n : Int) = ((S * n : Nat) : Int) := by rw [Int.natCast_mul]
  unfold sizeV
  rw [e1, e2]
  omega
set_option maxRecDepth 100000 in
set_option maxHeartbeats 6400000 in
theorem cnf_ct (a : TA) (T : Tsk) (s : Int) (w : World) (h : TkR w a T) (hs : I64s s) :
    Calls Try.prog 16 #[.agg #[.int .i64 T.facts, .slice a.I a.nI a.cI, .slice a.G a.nG a.cG, .slice a.O a.nO a.cO], .int .i64 s] w (CnfP w (cnfR T s)) := by
  have hval := SValidate_ct a T
  have hva := fun N S w h1 h2 h3 => variables_ct a N S w h1 h2 h3
  have hcl := fun N S w h1 h2 h3 h4 => clauses_ct a T N S w h1 h2 h3 h4
  obtain ⟨I, nI, cI, G, nG, cG, O, nO, cO⟩ := a
  simp only at hval hva hcl ⊢
  rcases hq : taskFault T with ⟨ec, ei⟩
  rw [hq] at hval
  have H := hide h
  have hlO := h.ops.len
  have hlow := h.ops.low
  simp only at hlO hlow
  have HlO := hide hlO
  have Hq := hide hq
  have Hval := hide hval
  have Hva := hide hva
  have Hcl := hide hcl
  clear h hlO hq hval hva hcl
  have Hbl := hide (Below.refl w.heap.size w)
  go_enter Try.func16, Try.ntmps16
  go_upto_region 1 with (fail)
  obtain ⟨B0, hB0⟩ : ∃ B0, B0 = w.heap.size := ⟨_, rfl⟩
  have HB0 := hide hB0
  clear hB0
  have s_0 : B0 ≤ w.heap.size := Nat.le_trans (Nat.le_of_eq HB0.out) Hbl.out.size
  have hyt := Blk.new (w) 25 [.int .i64 T.facts, .slice I nI cI, .slice G nG cG, .slice O nO cO]
  have hyr := Blk.new ((w).alloc (.cells #[.int .i64 T.facts, .slice I nI cI, .slice G nG cG, .slice O nO cO] 25)) 36 [.int .i64 0, .slice none 0 0]
  replace hyt := hyt.alloc (.cells #[.int .i64 0, .slice none 0 0] 36)
  have hyf := Blk.new (((w).alloc (.cells #[.int .i64 T.facts, .slice I nI cI, .slice G nG cG, .slice O nO cO] 25)).alloc (.cells #[.int .i64 0, .slice none 0 0] 36)) 28 [.int .i64 0, .int .i64 0]
  replace hyt := hyt.alloc (.cells #[.int .i64 0, .int .i64 0] 28)
  replace hyr := hyr.alloc (.cells #[.int .i64 0, .int .i64 0] 28)
  have hbW := below_three w (.cells #[.int .i64 T.facts, .slice I nI cI, .slice G nG cG, .slice O nO cO] 25) (.cells #[.int .i64 0, .slice none 0 0] 36) (.cells #[.int .i64 0, .int .i64 0] 28)
  simp only [World.size_alloc] at hyr hyf
  obtain ⟨w0, hW⟩ : ∃ W, W = (((w).alloc (.cells #[.int .i64 T.facts, .slice I nI cI, .slice G nG cG, .slice O nO cO] 25)).alloc (.cells #[.int .i64 0, .slice none 0 0] 36)).alloc (.cells #[.int .i64 0, .int .i64 0] 28) := ⟨_, rfl⟩
  rw [← hW] at hyt hyr hyf hbW ⊢
  replace Hbl := hide (Hbl.out.trans (hbW.mono Hbl.out.size))
  have Ht := hide hyt
  have Hr := hide hyr
  have Hf := hide hyf
  clear hW hbW hyt hyr hyf
  generalize w.heap.size = gT at Ht Hr Hf s_0 ⊢
  have t0 := Ht.out.cell 0
  have t1 := Ht.out.cell 1
  have t2 := Ht.out.cell 2
  have t3 := Ht.out.cell 3
  have tl := Ht.out.lt
  have r0 := Hr.out.cell 0
  have r1 := Hr.out.cell 1
  have rl := Hr.out.lt
  have f0 := Hf.out.cell 0
  have f1 := Hf.out.cell 1
  have fl := Hf.out.lt
  simp only [List.getElem?_cons_zero, List.getElem?_cons_succ] at t0 t1 t2 t3 r0 r1 f0 f1
  have a_t : B0 ≤ gT := by omega
  have a_r : B0 ≤ gT + 1 := by omega
  have a_f : B0 ≤ gT + 1 + 1 := by omega
  clear s_0
  have n_t_r : ¬ gT = gT + 1 := by omega
  have n_t_f : ¬ gT = gT + 1 + 1 := by omega
  have n_r_t : ¬ gT + 1 = gT := by omega
  have n_r_f : ¬ gT + 1 = gT + 1 + 1 := by omega
  have n_f_t : ¬ gT + 1 + 1 = gT := by omega
  have n_f_r : ¬ gT + 1 + 1 = gT + 1 := by omega
  go_wp2_with fail
  with_reducible refine (Hval.out w0 (H.out.keep Hbl.out)).mono ?_
  rintro e w1 ⟨rfl, hb⟩
  clear t0 t1 t2 t3 r0 r1 f0 f1 tl rl fl
  replace Ht := hide (Ht.out.keep hb)
  replace Hr := hide (Hr.out.keep hb)
  replace Hf := hide (Hf.out.keep hb)
  replace Hbl := hide (Hbl.out.trans (hb.mono Hbl.out.size))
  clear hb
  unfold fault
  have t0 := Ht.out.cell 0
  have t1 := Ht.out.cell 1
  have t2 := Ht.out.cell 2
  have t3 := Ht.out.cell 3
  have tl := Ht.out.lt
  have r0 := Hr.out.cell 0
  have r1 := Hr.out.cell 1
  have rl := Hr.out.lt
  have f0 := Hf.out.cell 0
  have f1 := Hf.out.cell 1
  have fl := Hf.out.lt
  simp only [List.getElem?_cons_zero, List.getElem?_cons_succ] at t0 t1 t2 t3 r0 r1 f0 f1
  go_upto_region 2 with (fail)
  have n_t_p : ¬ gT = w1.heap.size := by omega
  have n_p_t : ¬ w1.heap.size = gT := by omega
  have n_r_p : ¬ gT + 1 = w1.heap.size := by omega
  have n_p_r : ¬ w1.heap.size = gT + 1 := by omega
  have n_f_p : ¬ gT + 1 + 1 = w1.heap.size := by omega
  have n_p_f : ¬ w1.heap.size = gT + 1 + 1 := by omega
  have s_t : gT < w1.heap.size := tl
  have s_r : gT + 1 < w1.heap.size := rl
  have s_f : gT + 1 + 1 < w1.heap.size := fl
  have s_0 : B0 ≤ w1.heap.size := Nat.le_trans (Nat.le_of_eq HB0.out) Hbl.out.size
  have hyp := Blk.new (w1) 28 [.int .i64 ec, .int .i64 ei]
  have hbW : Below (w1).heap.size (w1) ((w1).alloc (.cells #[.int .i64 ec, .int .i64 ei] 28)) := (Below.refl _ _).alloc (Nat.le_refl _) _
  obtain ⟨w2, hW⟩ : ∃ W, W = (w1).alloc (.cells #[.int .i64 ec, .int .i64 ei] 28) := ⟨_, rfl⟩
  rw [← hW] at hyp hbW ⊢
  replace Ht := hide (Ht.out.keep hbW)
  replace Hr := hide (Hr.out.keep hbW)
  replace Hf := hide (Hf.out.keep hbW)
  replace Hbl := hide (Hbl.out.trans (hbW.mono Hbl.out.size))
  have Hp := hide hyp
  clear hW hbW hyp
  generalize w1.heap.size = gp at Hp n_t_p n_p_t n_r_p n_p_r n_f_p n_p_f s_t s_r s_f s_0 ⊢
  have t0 := Ht.out.cell 0
  have t1 := Ht.out.cell 1
  have t2 := Ht.out.cell 2
  have t3 := Ht.out.cell 3
  have tl := Ht.out.lt
  have r0 := Hr.out.cell 0
  have r1 := Hr.out.cell 1
  have rl := Hr.out.lt
  have f0 := Hf.out.cell 0
  have f1 := Hf.out.cell 1
  have fl := Hf.out.lt
  have p0 := Hp.out.cell 0
  have p1 := Hp.out.cell 1
  have pl := Hp.out.lt
  simp only [List.getElem?_cons_zero, List.getElem?_cons_succ] at t0 t1 t2 t3 r0 r1 f0 f1 p0 p1
  clear s_t
  clear s_r
  clear s_f
  have a_p : B0 ≤ gp := by omega
  clear s_0
  by_cases hec : ec = 0
  · subst hec
    have hz := taskFault_zero (T := T) (by rw [Hq.out])
    rw [Hq.out] at hz
    obtain ⟨_, e2⟩ := Prod.mk.inj hz
    subst e2
    obtain ⟨N, hok⟩ := taskFault_ok (T := T) (by rw [Hq.out])
    have hN := hok.low
    have hfN := hok.facts
    have hfT : T.facts.toNat = N := by omega
    have Hok := hide hok
    have HfT := hide hfT
    have HfN := hide hfN
    clear hz hok hfT hfN
    by_cases hs0 : s < 0
    · skip
      have rf0 := Hr.out.frozen 0
      have rf1 := Hr.out.frozen 1
      have ff0 := Hf.out.frozen 0
      have ff1 := Hf.out.frozen 1
      go_wp2_with fail
      refine bodyPost_ret (v := .tuple #[.agg #[.int .i64 0, .slice none 0 0], fault 3 (-8)]) (by simp [results, Try.results16, go_sem, fault, r0, r1, rl, f0, f1, fl, n_r_f, n_f_r]) rfl ?_
      have hres : cnfR T s = (0, [], 3, (-8)) := by
        unfold cnfR
        rw [Hq.out, if_neg (by simp)]
        rw [if_pos (.inl hs0)]
      rw [hres]
      have hbx := HB0.out
      refine cnfP_nil ?_ _ _
      repeat' (first | (with_reducible exact Hbl.out) | (with_reducible refine Below.drew ?_) | (with_reducible refine below_set ?_ ?_ _ _) | (have := HB0.out; omega))
    by_cases hs4 : 4 < s
    · skip
      have rf0 := Hr.out.frozen 0
      have rf1 := Hr.out.frozen 1
      have ff0 := Hf.out.frozen 0
      have ff1 := Hf.out.frozen 1
      go_wp2_with fail
      refine bodyPost_ret (v := .tuple #[.agg #[.int .i64 0, .slice none 0 0], fault 3 (-8)]) (by simp [results, Try.results16, go_sem, fault, r0, r1, rl, f0, f1, fl, n_r_f, n_f_r]) rfl ?_
      have hres : cnfR T s = (0, [], 3, (-8)) := by
        unfold cnfR
        rw [Hq.out, if_neg (by simp)]
        rw [if_pos (.inr hs4)]
      rw [hres]
      have hbx := HB0.out
      refine cnfP_nil ?_ _ _
      repeat' (first | (with_reducible exact Hbl.out) | (with_reducible refine Below.drew ?_) | (with_reducible refine below_set ?_ ?_ _ _) | (have := HB0.out; omega))
    obtain ⟨S, rfl⟩ : ∃ S : Nat, s = (S : Int) := ⟨s.toNat, by omega⟩
    have hS : S ≤ 4 := by omega
    have hxc : ¬ ((S : Int) < 0 ∨ 4 < (S : Int)) := by omega
    have hfc : T.facts = (N : Int) := HfN.out
    have Hfc := hide hfc
    rw [hfc] at t0
    go_upto_region 7 with (fail)
    have n_t_e : ¬ gT = w2.heap.size := by omega
    have n_e_t : ¬ w2.heap.size = gT := by omega
    have n_r_e : ¬ gT + 1 = w2.heap.size := by omega
    have n_e_r : ¬ w2.heap.size = gT + 1 := by omega
    have n_f_e : ¬ gT + 1 + 1 = w2.heap.size := by omega
    have n_e_f : ¬ w2.heap.size = gT + 1 + 1 := by omega
    have n_p_e : ¬ gp = w2.heap.size := by omega
    have n_e_p : ¬ w2.heap.size = gp := by omega
    have s_t : gT < w2.heap.size := tl
    have s_r : gT + 1 < w2.heap.size := rl
    have s_f : gT + 1 + 1 < w2.heap.size := fl
    have s_p : gp < w2.heap.size := pl
    have s_0 : B0 ≤ w2.heap.size := Nat.le_trans (Nat.le_of_eq HB0.out) Hbl.out.size
    have hye := Blk.new (w2) 76 [.int .i64 N, .slice I nI cI, .slice G nG cG, .slice O nO cO, .int .i64 S]
    have hbW : Below (w2).heap.size (w2) ((w2).alloc (.cells #[.int .i64 N, .slice I nI cI, .slice G nG cG, .slice O nO cO, .int .i64 S] 76)) := (Below.refl _ _).alloc (Nat.le_refl _) _
    obtain ⟨w3, hW⟩ : ∃ W, W = (w2).alloc (.cells #[.int .i64 N, .slice I nI cI, .slice G nG cG, .slice O nO cO, .int .i64 S] 76) := ⟨_, rfl⟩
    rw [← hW] at hye hbW ⊢
    replace Ht := hide (Ht.out.keep hbW)
    replace Hr := hide (Hr.out.keep hbW)
    replace Hf := hide (Hf.out.keep hbW)
    replace Hp := hide (Hp.out.keep hbW)
    replace Hbl := hide (Hbl.out.trans (hbW.mono Hbl.out.size))
    have He := hide hye
    clear hW hbW hye
    generalize w2.heap.size = gE at He n_t_e n_e_t n_r_e n_e_r n_f_e n_e_f n_p_e n_e_p s_t s_r s_f s_p s_0 ⊢
    have t0 := Ht.out.cell 0
    have t1 := Ht.out.cell 1
    have t2 := Ht.out.cell 2
    have t3 := Ht.out.cell 3
    have tl := Ht.out.lt
    have r0 := Hr.out.cell 0
    have r1 := Hr.out.cell 1
    have rl := Hr.out.lt
    have f0 := Hf.out.cell 0
    have f1 := Hf.out.cell 1
    have fl := Hf.out.lt
    have p0 := Hp.out.cell 0
    have p1 := Hp.out.cell 1
    have pl := Hp.out.lt
    have e0 := He.out.cell 0
    have e1 := He.out.cell 1
    have e2 := He.out.cell 2
    have e3 := He.out.cell 3
    have e4 := He.out.cell 4
    have el := He.out.lt
    simp only [List.getElem?_cons_zero, List.getElem?_cons_succ] at t0 t1 t2 t3 r0 r1 f0 f1 p0 p1 e0 e1 e2 e3 e4
    clear s_t
    clear s_r
    clear s_f
    clear s_p
    have a_e : B0 ≤ gE := by omega
    clear s_0
    clear hfc
    by_cases h20 : 20 < nO
    · skip
      have h40 := Hok.out.few
      rw [HlO.out] at h40
      have hct := Hva.out N S w3 hN (by omega) (by omega)
      obtain ⟨sz, hsz⟩ : ∃ z, z = sizeV N S nO := ⟨_, rfl⟩
      rw [← hsz] at hct
      have hlw := sizeV_low (n := nO) hN (show S ≤ 10 by omega) (by omega)
      rw [← hsz] at hlw
      obtain ⟨sz0, sz1⟩ := hlw
      have Hsz := hide hsz
      clear hsz h40
      go_wp2_with fail
      with_reducible refine (hct).mono ?_
      rintro e w4 ⟨rfl, hb⟩
      clear t0 t1 t2 t3 r0 r1 f0 f1 p0 p1 e0 e1 e2 e3 e4 tl rl fl pl el
      replace Ht := hide (Ht.out.keep hb)
      replace Hr := hide (Hr.out.keep hb)
      replace Hf := hide (Hf.out.keep hb)
      replace Hp := hide (Hp.out.keep hb)
      replace He := hide (He.out.keep hb)
      replace Hbl := hide (Hbl.out.trans (hb.mono Hbl.out.size))
      clear hb
      clear hct
      have t0 := Ht.out.cell 0
      have t1 := Ht.out.cell 1
      have t2 := Ht.out.cell 2
      have t3 := Ht.out.cell 3
      have tl := Ht.out.lt
      have r0 := Hr.out.cell 0
      have r1 := Hr.out.cell 1
      have rl := Hr.out.lt
      have f0 := Hf.out.cell 0
      have f1 := Hf.out.cell 1
      have fl := Hf.out.lt
      have p0 := Hp.out.cell 0
      have p1 := Hp.out.cell 1
      have pl := Hp.out.lt
      have e0 := He.out.cell 0
      have e1 := He.out.cell 1
      have e2 := He.out.cell 2
      have e3 := He.out.cell 3
      have e4 := He.out.cell 4
      have el := He.out.lt
      simp only [List.getElem?_cons_zero, List.getElem?_cons_succ] at t0 t1 t2 t3 r0 r1 f0 f1 p0 p1 e0 e1 e2 e3 e4
      by_cases h80 : 80 < sz
      · skip
        have rf0 := Hr.out.frozen 0
        have rf1 := Hr.out.frozen 1
        have ff0 := Hf.out.frozen 0
        have ff1 := Hf.out.frozen 1
        go_wp2_with fail
        refine bodyPost_ret (v := .tuple #[.agg #[.int .i64 0, .slice none 0 0], fault 10 (-3)]) (by simp [results, Try.results16, go_sem, fault, r0, r1, rl, f0, f1, fl, n_r_f, n_f_r]) rfl ?_
        have hres : cnfR T (S : Int) = (0, [], 10, (-3)) := by
          unfold cnfR
          rw [Hq.out, if_neg (by simp)]
          rw [if_neg hxc, HfT.out, Int.toNat_natCast, HlO.out]
          rw [if_pos (.inr h20)]
        rw [hres]
        have hbx := HB0.out
        refine cnfP_nil ?_ _ _
        repeat' (first | (with_reducible exact Hbl.out) | (with_reducible refine Below.drew ?_) | (with_reducible refine below_set ?_ ?_ _ _) | (have := HB0.out; omega))
      · skip
        have rf0 := Hr.out.frozen 0
        have rf1 := Hr.out.frozen 1
        have ff0 := Hf.out.frozen 0
        have ff1 := Hf.out.frozen 1
        go_wp2_with fail
        refine bodyPost_ret (v := .tuple #[.agg #[.int .i64 0, .slice none 0 0], fault 10 (-3)]) (by simp [results, Try.results16, go_sem, fault, r0, r1, rl, f0, f1, fl, n_r_f, n_f_r]) rfl ?_
        have hres : cnfR T (S : Int) = (0, [], 10, (-3)) := by
          unfold cnfR
          rw [Hq.out, if_neg (by simp)]
          rw [if_neg hxc, HfT.out, Int.toNat_natCast, HlO.out]
          rw [if_pos (.inr h20)]
        rw [hres]
        have hbx := HB0.out
        refine cnfP_nil ?_ _ _
        repeat' (first | (with_reducible exact Hbl.out) | (with_reducible refine Below.drew ?_) | (with_reducible refine below_set ?_ ?_ _ _) | (have := HB0.out; omega))
    · skip
      have h40 := Hok.out.few
      rw [HlO.out] at h40
      have hct := Hva.out N S w3 hN (by omega) (by omega)
      obtain ⟨sz, hsz⟩ : ∃ z, z = sizeV N S nO := ⟨_, rfl⟩
      rw [← hsz] at hct
      have hlw := sizeV_low (n := nO) hN (show S ≤ 10 by omega) (by omega)
      rw [← hsz] at hlw
      obtain ⟨sz0, sz1⟩ := hlw
      have Hsz := hide hsz
      clear hsz h40
      go_wp2_with fail
      with_reducible refine (hct).mono ?_
      rintro e w4 ⟨rfl, hb⟩
      clear t0 t1 t2 t3 r0 r1 f0 f1 p0 p1 e0 e1 e2 e3 e4 tl rl fl pl el
      replace Ht := hide (Ht.out.keep hb)
      replace Hr := hide (Hr.out.keep hb)
      replace Hf := hide (Hf.out.keep hb)
      replace Hp := hide (Hp.out.keep hb)
      replace He := hide (He.out.keep hb)
      replace Hbl := hide (Hbl.out.trans (hb.mono Hbl.out.size))
      clear hb
      clear hct
      have t0 := Ht.out.cell 0
      have t1 := Ht.out.cell 1
      have t2 := Ht.out.cell 2
      have t3 := Ht.out.cell 3
      have tl := Ht.out.lt
      have r0 := Hr.out.cell 0
      have r1 := Hr.out.cell 1
      have rl := Hr.out.lt
      have f0 := Hf.out.cell 0
      have f1 := Hf.out.cell 1
      have fl := Hf.out.lt
      have p0 := Hp.out.cell 0
      have p1 := Hp.out.cell 1
      have pl := Hp.out.lt
      have e0 := He.out.cell 0
      have e1 := He.out.cell 1
      have e2 := He.out.cell 2
      have e3 := He.out.cell 3
      have e4 := He.out.cell 4
      have el := He.out.lt
      simp only [List.getElem?_cons_zero, List.getElem?_cons_succ] at t0 t1 t2 t3 r0 r1 f0 f1 p0 p1 e0 e1 e2 e3 e4
      by_cases h80 : 80 < sz
      · skip
        have rf0 := Hr.out.frozen 0
        have rf1 := Hr.out.frozen 1
        have ff0 := Hf.out.frozen 0
        have ff1 := Hf.out.frozen 1
        go_wp2_with fail
        refine bodyPost_ret (v := .tuple #[.agg #[.int .i64 0, .slice none 0 0], fault 10 (-3)]) (by simp [results, Try.results16, go_sem, fault, r0, r1, rl, f0, f1, fl, n_r_f, n_f_r]) rfl ?_
        have hres : cnfR T (S : Int) = (0, [], 10, (-3)) := by
          unfold cnfR
          rw [Hq.out, if_neg (by simp)]
          rw [if_neg hxc, HfT.out, Int.toNat_natCast, HlO.out]
          rw [if_pos (.inl (by rw [← Hsz.out]; exact h80))]
        rw [hres]
        have hbx := HB0.out
        refine cnfP_nil ?_ _ _
        repeat' (first | (with_reducible exact Hbl.out) | (with_reducible refine Below.drew ?_) | (with_reducible refine below_set ?_ ?_ _ _) | (have := HB0.out; omega))
      · skip
        have rf0 := Hr.out.frozen 0
        have rf1 := Hr.out.frozen 1
        have ff0 := Hf.out.frozen 0
        have ff1 := Hf.out.frozen 1
        go_upto_region 9 with (fail)
        have s4r : gT + 1 < w4.heap.size := rl
        have s4f : gT + 1 + 1 < w4.heap.size := fl
        have s40 := Hbl.out.size
        have hpc := hide (show ∀ V, Below w4.heap.size w4 V → Blk 76 V gE [.int .i64 N, .slice I nI cI, .slice G nG cG, .slice O nO cO, .int .i64 S] ∧ Blk 36 V (gT + 1) [.int .i64 0, .slice none 0 0] ∧ Blk 28 V (gT + 1 + 1) [.int .i64 0, .int .i64 0] from fun V hV => ⟨He.out.keep hV, Hr.out.keep hV, Hf.out.keep hV⟩)
        have hva2 := hide (show ∀ V, Below w4.heap.size w4 V → Calls Try.prog 31 #[.agg #[.int .i64 N, .slice I nI cI, .slice G nG cG, .slice O nO cO, .int .i64 S]] V (Gives V (.int .i64 sz)) from fun V _ => by rw [Hsz.out]; exact Hva.out N S V hN (by omega) (by omega))
        have hcl2 := hide (show ∀ V, Below w4.heap.size w4 V → Calls Try.prog 32 #[.agg #[.int .i64 N, .slice I nI cI, .slice G nG cG, .slice O nO cO, .int .i64 S]] V (RowsQ V (encC T N S)) from fun V hV => by
          have := Hcl.out N S V (H.out.keep (Hbl.out.trans (hV.mono Hbl.out.size))) Hok.out (by rw [HlO.out]; omega) hS
          rw [Hfc.out] at this
          exact this)
        go_region_held3 (fun w' => w'.cell? ⟨gE, 0, none⟩ = some (.int .i64 N) ∧ w'.cell? ⟨gE, 1, none⟩ = some (.slice I nI cI) ∧ w'.cell? ⟨gE, 2, none⟩ = some (.slice G nG cG) ∧ w'.cell? ⟨gE, 3, none⟩ = some (.slice O nO cO) ∧ w'.cell? ⟨gE, 4, none⟩ = some (.int .i64 S)) (first | go_keep) (first
          | (go_at_call 31
             refine (hva2.out _ (by exact (Below.refl _ _).drew)).mono ?_
             rintro e wq ⟨rfl, hbq0⟩
             have hbq : Below w4.heap.size w4 wq := (Below.refl _ _).drew.trans hbq0
             clear hbq0
             obtain ⟨hE, _, _⟩ := hpc.out wq hbq
             obtain ⟨k0, k1, k2, k3, k4⟩ := cell5 hE
             clear hE)
          | (go_at_call 32
             refine (hcl2.out _ (by exact hbq)).mono ?_
             rintro e wz ⟨hbz0, A, c, rfl, hplain, hrows⟩
             have hsq := hbq.size
             have hbz : Below w4.heap.size w4 wz := hbq.trans (hbz0.mono hsq)
             obtain ⟨hE, hR, hF⟩ := hpc.out wz hbz
             obtain ⟨m0, m1, m2, m3, m4⟩ := cell5 hE
             have z0 := hR.cell 0
             have z1 := hR.cell 1
             have zf0 := hR.frozen 0
             have zf1 := hR.frozen 1
             have y0 := hF.cell 0
             have y1 := hF.cell 1
             have yf0 := hF.frozen 0
             have yf1 := hF.frozen 1
             have zl := hR.lt
             have yl := hF.lt
             simp only [List.getElem?_cons_zero, List.getElem?_cons_succ] at z0 z1 y0 y1
             clear hE hR hF))
        all_goals go_wp2_with fail
        refine bodyPost_ret (v := .tuple #[.agg #[.int .i64 sz, .slice A (encC T N S).length c], fault 0 0]) (by simp [results, Try.results16, go_sem, fault, z0, z1, zl, y0, y1, yl, n_r_f, n_f_r]) rfl ?_
        have hres : cnfR T (S : Int) = (sz, encC T N S, 0, 0) := by
          unfold cnfR
          rw [Hq.out, if_neg (by simp), if_neg hxc, HfT.out, Int.toNat_natCast, HlO.out, if_neg (by rw [← Hsz.out]; omega), ← Hsz.out]
        rw [hres]
        have hbx := HB0.out
        replace Hbl := hide (Hbl.out.trans (hbz.mono Hbl.out.size))
        refine ⟨?_, A, _, c, rfl, hplain, fun w'' hc => ?_⟩
        · repeat' (first | (with_reducible exact Hbl.out) | (with_reducible refine Below.drew ?_) | (with_reducible refine below_set ?_ ?_ _ _) | (have := HB0.out; omega))
        · refine hrows w'' ((((((Chg.set _ (gT + 1) 0 _).trans (Chg.set _ (gT + 1) 1 _)).mono (fun b e => ?_)).trans (((Chg.set _ (gT + 1 + 1) 0 _).trans (Chg.set _ (gT + 1 + 1) 1 _)).mono (fun b e => ?_))).trans (hc.mono (fun b e => ?_))))
          · show b < wq.heap.size
            omega
          · show b < wq.heap.size
            omega
          · show b < wq.heap.size
            omega
  · have hne : (ec != 0) = true := by simpa using hec
    have hne2 : (ec == 0) = false := by simpa using hec
    have rf0 := Hr.out.frozen 0
    have rf1 := Hr.out.frozen 1
    have ff0 := Hf.out.frozen 0
    have ff1 := Hf.out.frozen 1
    go_wp2_with fail
    go_region
    all_goals go_wp2_with fail
    all_goals refine bodyPost_ret (v := .tuple #[.agg #[.int .i64 0, .slice none 0 0], fault ec ei]) (by simp [results, Try.results16, go_sem, fault, r0, r1, rl, f0, f1, fl, n_r_f, n_f_r]) rfl ?_
    have hres : cnfR T s = (0, [], ec, ei) := by
      unfold cnfR
      rw [Hq.out, if_pos hec]
    rw [hres]
    have hbx := HB0.out
    refine cnfP_nil ?_ _ _
    repeat' (first | (with_reducible exact Hbl.out) | (with_reducible refine Below.drew ?_) | (with_reducible refine below_set ?_ ?_ _ _) | (have := HB0.out; omega))
set_option maxRecDepth 100000 in
set_option maxHeartbeats 6400000 in
theorem Encode_ct (a : TA) (T : Tsk) (s : Int) (r : Int × List (List Int) × Int × Int) (w : World) (h : TkR w a T) (hs : I64s s) (hr : cnfR T s = r) :
    Calls Try.prog 9 #[.agg #[.int .i64 T.facts, .slice a.I a.nI a.cI, .slice a.G a.nG a.cG, .slice a.O a.nO a.cO], .int .i64 s] w (CnfP w r) := by
  have hcn := cnf_ct a T s
  obtain ⟨I, nI, cI, G, nG, cG, O, nO, cO⟩ := a
  obtain ⟨V, cs, ec, ei⟩ := r
  rw [hr] at hcn
  simp only at hcn ⊢
  have H := hide h
  have Hcn := hide hcn
  clear h hcn hr
  have Hbl := hide (Below.refl w.heap.size w)
  go_enter Try.func9, Try.ntmps9
  go_upto_region 1 with (fail)
  obtain ⟨B0, hB0⟩ : ∃ B0, B0 = w.heap.size := ⟨_, rfl⟩
  have HB0 := hide hB0
  clear hB0
  have s_0 : B0 ≤ w.heap.size := Nat.le_trans (Nat.le_of_eq HB0.out) Hbl.out.size
  have hyt := Blk.new (w) 25 [.int .i64 T.facts, .slice I nI cI, .slice G nG cG, .slice O nO cO]
  have hyr := Blk.new ((w).alloc (.cells #[.int .i64 T.facts, .slice I nI cI, .slice G nG cG, .slice O nO cO] 25)) 36 [.int .i64 0, .slice none 0 0]
  replace hyt := hyt.alloc (.cells #[.int .i64 0, .slice none 0 0] 36)
  have hyf := Blk.new (((w).alloc (.cells #[.int .i64 T.facts, .slice I nI cI, .slice G nG cG, .slice O nO cO] 25)).alloc (.cells #[.int .i64 0, .slice none 0 0] 36)) 28 [.int .i64 0, .int .i64 0]
  replace hyt := hyt.alloc (.cells #[.int .i64 0, .int .i64 0] 28)
  replace hyr := hyr.alloc (.cells #[.int .i64 0, .int .i64 0] 28)
  have hbW := below_three w (.cells #[.int .i64 T.facts, .slice I nI cI, .slice G nG cG, .slice O nO cO] 25) (.cells #[.int .i64 0, .slice none 0 0] 36) (.cells #[.int .i64 0, .int .i64 0] 28)
  simp only [World.size_alloc] at hyr hyf
  obtain ⟨w0, hW⟩ : ∃ W, W = (((w).alloc (.cells #[.int .i64 T.facts, .slice I nI cI, .slice G nG cG, .slice O nO cO] 25)).alloc (.cells #[.int .i64 0, .slice none 0 0] 36)).alloc (.cells #[.int .i64 0, .int .i64 0] 28) := ⟨_, rfl⟩
  rw [← hW] at hyt hyr hyf hbW ⊢
  replace Hbl := hide (Hbl.out.trans (hbW.mono Hbl.out.size))
  have Ht := hide hyt
  have Hr := hide hyr
  have Hf := hide hyf
  clear hW hbW hyt hyr hyf
  generalize w.heap.size = gT at Ht Hr Hf s_0 ⊢
  have t0 := Ht.out.cell 0
  have t1 := Ht.out.cell 1
  have t2 := Ht.out.cell 2
  have t3 := Ht.out.cell 3
  have tl := Ht.out.lt
  have r0 := Hr.out.cell 0
  have r1 := Hr.out.cell 1
  have rl := Hr.out.lt
  have f0 := Hf.out.cell 0
  have f1 := Hf.out.cell 1
  have fl := Hf.out.lt
  simp only [List.getElem?_cons_zero, List.getElem?_cons_succ] at t0 t1 t2 t3 r0 r1 f0 f1
  have a_t : B0 ≤ gT := by omega
  have a_r : B0 ≤ gT + 1 := by omega
  have a_f : B0 ≤ gT + 1 + 1 := by omega
  clear s_0
  have n_t_r : ¬ gT = gT + 1 := by omega
  have n_t_f : ¬ gT = gT + 1 + 1 := by omega
  have n_r_t : ¬ gT + 1 = gT := by omega
  have n_r_f : ¬ gT + 1 = gT + 1 + 1 := by omega
  have n_f_t : ¬ gT + 1 + 1 = gT := by omega
  have n_f_r : ¬ gT + 1 + 1 = gT + 1 := by omega
  go_wp2_with fail
  have s0r : gT + 1 < w0.heap.size := rl
  have s0f : gT + 1 + 1 < w0.heap.size := fl
  have s00 := Hbl.out.size
  with_reducible refine (Hcn.out w0 (H.out.keep Hbl.out) hs).mono ?_
  rintro e w1 ⟨hb, A, n, c, rfl, hplain, hrows⟩
  unfold fault
  clear t0 t1 t2 t3 r0 r1 f0 f1 tl rl fl
  replace Ht := hide (Ht.out.keep hb)
  replace Hr := hide (Hr.out.keep hb)
  replace Hf := hide (Hf.out.keep hb)
  replace Hbl := hide (Hbl.out.trans (hb.mono Hbl.out.size))
  clear hb
  have t0 := Ht.out.cell 0
  have t1 := Ht.out.cell 1
  have t2 := Ht.out.cell 2
  have t3 := Ht.out.cell 3
  have tl := Ht.out.lt
  have r0 := Hr.out.cell 0
  have r1 := Hr.out.cell 1
  have rl := Hr.out.lt
  have f0 := Hf.out.cell 0
  have f1 := Hf.out.cell 1
  have fl := Hf.out.lt
  simp only [List.getElem?_cons_zero, List.getElem?_cons_succ] at t0 t1 t2 t3 r0 r1 f0 f1
  have rf0 := Hr.out.frozen 0
  have rf1 := Hr.out.frozen 1
  have ff0 := Hf.out.frozen 0
  have ff1 := Hf.out.frozen 1
  go_wp2_with fail
  refine bodyPost_ret (v := .tuple #[.agg #[.int .i64 V, .slice A n c], fault ec ei]) (by simp [results, Try.results9, go_sem, fault, r0, r1, rl, f0, f1, fl, n_r_f, n_f_r]) rfl ?_
  have hbx := HB0.out
  refine ⟨?_, A, _, c, rfl, hplain, fun w'' hc => ?_⟩
  · repeat' (first | (with_reducible exact Hbl.out) | (with_reducible refine Below.drew ?_) | (with_reducible refine below_set ?_ ?_ _ _) | (have := HB0.out; omega))
  · refine hrows w'' ((((((Chg.set _ (gT + 1) 0 _).trans (Chg.set _ (gT + 1) 1 _)).mono (fun b e => ?_)).trans (((Chg.set _ (gT + 1 + 1) 0 _).trans (Chg.set _ (gT + 1 + 1) 1 _)).mono (fun b e => ?_))).trans (hc.mono (fun b e => ?_))))
    · show b < w0.heap.size
      omega
    · show b < w0.heap.size
      omega
    · show b < w0.heap.size
      omega
end Go.Proofs.Ytemiecammmbjdaa
