/- A task with macros, by the package macros. -/
import Derived.Test.YtnfeknfakkdbhaaMc8
import Derived.Test.YtnfeknfakkdbhaaMc6
namespace Go.Proofs.Ytnfeknfakkdbhaa
set_option linter.unusedVariables false
set_option linter.unusedSimpArgs false
open Go.RowKit

set_option maxRecDepth 100000 in
set_option maxHeartbeats 12800000 in
theorem extend_ct (a : TA) (T : Tsk) (B : Option Addr) (m d : Nat) (ms : List (List Int)) (w : World) (h : TkR w a T) (hl : Rd (Enc.sl Enc.int) w B m d ms) :
    Calls Try.prog 64 #[.agg #[.int .i64 T.facts, .slice a.I a.nI a.cI, .slice a.G a.nG a.cG, .slice a.O a.nO a.cO], .slice B m d] w (ExtP w (extendR T ms)) := by
  obtain ⟨I, nI, cI, G, nG, cG, Oo, nO, cO⟩ := a
  have hval := SValidate_ct ⟨I, nI, cI, G, nG, cG, Oo, nO, cO⟩ T
  have hfa := fun B m d l i w h hl => mfault_ct ⟨I, nI, cI, G, nG, cG, Oo, nO, cO⟩ T B m d l i w h hl
  have hco := fun N B m d l w h hok hl => combine_ct ⟨I, nI, cI, G, nG, cG, Oo, nO, cO⟩ T N B m d l w h hok hl
  have hcl := mclone_ct ⟨I, nI, cI, G, nG, cG, Oo, nO, cO⟩ T
  obtain ⟨i1, hi1, hy0, hy1, hy2⟩ := info_parts opInfoT
  simp only at hval hfa hco hcl ⊢
  rcases hq : taskFault T with ⟨ec, ei⟩
  rw [hq] at hval
  have Hq := hide hq
  have hlO := h.ops.len
  have hlI := h.init.len
  have hlG := h.goal.len
  have hlow := h.ops.low
  have hlm := hl.low
  simp only at hlO hlI hlG hlow
  have H := hide h
  have Hl := hide hl
  have Hll := hide hl.len
  have Hval := hide hval
  have Hfa := hide hfa
  have Hco := hide hco
  have Hcl := hide hcl
  have HlO := hide hlO
  have HlI := hide hlI
  have HlG := hide hlG
  clear hval hfa hco hcl h hl hq hlO hlI hlG
  have Hbl := hide (Below.refl w.heap.size w)
  go_enter Try.func64, Try.ntmps64
  go_upto_region 1 with (fail)
  obtain ⟨B0, hB0⟩ : ∃ B0, B0 = w.heap.size := ⟨_, rfl⟩
  have hgR0 : B0 ≤ w.heap.size + 1 := by omega
  have hgF0 : B0 ≤ w.heap.size + 1 + 1 := by omega
  have hgT0 : w.heap.size = B0 := by omega
  have HgT := hide hgT0
  have HB0 := hide hB0
  clear hB0 hgT0
  have hyt := Blk.new (w) 25 [.int .i64 T.facts, .slice I nI cI, .slice G nG cG, .slice Oo nO cO]
  have hyr := Blk.new ((w).alloc (.cells #[.int .i64 T.facts, .slice I nI cI, .slice G nG cG, .slice Oo nO cO] 25)) 25 [.int .i64 0, .slice none 0 0, .slice none 0 0, .slice none 0 0]
  replace hyt := hyt.alloc (.cells #[.int .i64 0, .slice none 0 0, .slice none 0 0, .slice none 0 0] 25)
  have hyf := Blk.new (((w).alloc (.cells #[.int .i64 T.facts, .slice I nI cI, .slice G nG cG, .slice Oo nO cO] 25)).alloc (.cells #[.int .i64 0, .slice none 0 0, .slice none 0 0, .slice none 0 0] 25)) 29 [.int .i64 0, .int .i64 0]
  replace hyt := hyt.alloc (.cells #[.int .i64 0, .int .i64 0] 29)
  replace hyr := hyr.alloc (.cells #[.int .i64 0, .int .i64 0] 29)
  have hbW := below_three w (.cells #[.int .i64 T.facts, .slice I nI cI, .slice G nG cG, .slice Oo nO cO] 25) (.cells #[.int .i64 0, .slice none 0 0, .slice none 0 0, .slice none 0 0] 25) (.cells #[.int .i64 0, .int .i64 0] 29)
  simp only [World.size_alloc] at hyr hyf
  obtain ⟨w0, hW⟩ : ∃ W, W = (((w).alloc (.cells #[.int .i64 T.facts, .slice I nI cI, .slice G nG cG, .slice Oo nO cO] 25)).alloc (.cells #[.int .i64 0, .slice none 0 0, .slice none 0 0, .slice none 0 0] 25)).alloc (.cells #[.int .i64 0, .int .i64 0] 29) := ⟨_, rfl⟩
  rw [← hW] at hyt hyr hyf hbW ⊢
  replace Hbl := hide (Hbl.out.trans (hbW.mono Hbl.out.size))
  have Ht := hide hyt
  have Hr := hide hyr
  have Hf := hide hyf
  clear hW hbW hyt hyr hyf
  generalize w.heap.size = gT at Ht Hr Hf hgR0 hgF0 HgT ⊢
  have t0 := Ht.out.cell 0
  have t1 := Ht.out.cell 1
  have t2 := Ht.out.cell 2
  have t3 := Ht.out.cell 3
  have tl := Ht.out.lt
  have r0 := Hr.out.cell 0
  have r1 := Hr.out.cell 1
  have r2 := Hr.out.cell 2
  have r3 := Hr.out.cell 3
  have rl := Hr.out.lt
  have f0 := Hf.out.cell 0
  have f1 := Hf.out.cell 1
  have fl := Hf.out.lt
  simp only [List.getElem?_cons_zero, List.getElem?_cons_succ] at t0 t1 t2 t3 r0 r1 r2 r3 f0 f1
  have rf0 := Hr.out.frozen 0
  have rf1 := Hr.out.frozen 1
  have rf2 := Hr.out.frozen 2
  have rf3 := Hr.out.frozen 3
  have ff0 := Hf.out.frozen 0
  have ff1 := Hf.out.frozen 1
  have hgne1 : ¬ gT + 1 = gT + 1 + 1 := by omega
  have hgne2 : ¬ gT + 1 + 1 = gT + 1 := by omega
  go_wp2_with fail
  with_reducible refine (Hval.out w0 (H.out.keep Hbl.out)).mono ?_
  rintro e w1 ⟨rfl, hb⟩
  clear t0 t1 t2 t3 r0 r1 r2 r3 f0 f1 tl rl fl
  replace Ht := hide (Ht.out.keep hb)
  replace Hr := hide (Hr.out.keep hb)
  replace Hf := hide (Hf.out.keep hb)
  replace Hbl := hide (Hbl.out.trans (hb.mono Hbl.out.size))
  clear hb
  unfold fault
  have t0 := Ht.out.cell 0
  have t1 := Ht.out.cell 1
  have t2 := Ht.out.cell 2
  have t3 := Ht.out.cell 3
  have tl := Ht.out.lt
  have r0 := Hr.out.cell 0
  have r1 := Hr.out.cell 1
  have r2 := Hr.out.cell 2
  have r3 := Hr.out.cell 3
  have rl := Hr.out.lt
  have f0 := Hf.out.cell 0
  have f1 := Hf.out.cell 1
  have fl := Hf.out.lt
  simp only [List.getElem?_cons_zero, List.getElem?_cons_succ] at t0 t1 t2 t3 r0 r1 r2 r3 f0 f1
  clear rf0 rf1 rf2 rf3 ff0 ff1
  have rf0 := Hr.out.frozen 0
  have rf1 := Hr.out.frozen 1
  have rf2 := Hr.out.frozen 2
  have rf3 := Hr.out.frozen 3
  have ff0 := Hf.out.frozen 0
  have ff1 := Hf.out.frozen 1
  go_upto_region 2 with (fail)
  have hp1 : gT + 1 < w1.heap.size := rl
  have hp2 : gT + 1 + 1 < w1.heap.size := fl
  have hyp := Blk.new (w1) 29 [.int .i64 ec, .int .i64 ei]
  have hbW : Below (w1).heap.size (w1) ((w1).alloc (.cells #[.int .i64 ec, .int .i64 ei] 29)) := (Below.refl _ _).alloc (Nat.le_refl _) _
  obtain ⟨w2, hW⟩ : ∃ W, W = (w1).alloc (.cells #[.int .i64 ec, .int .i64 ei] 29) := ⟨_, rfl⟩
  rw [← hW] at hyp hbW ⊢
  replace Ht := hide (Ht.out.keep hbW)
  replace Hr := hide (Hr.out.keep hbW)
  replace Hf := hide (Hf.out.keep hbW)
  replace Hbl := hide (Hbl.out.trans (hbW.mono Hbl.out.size))
  have Hp := hide hyp
  clear hW hbW hyp
  generalize w1.heap.size = gp at Hp hp1 hp2 ⊢
  have t0 := Ht.out.cell 0
  have t1 := Ht.out.cell 1
  have t2 := Ht.out.cell 2
  have t3 := Ht.out.cell 3
  have tl := Ht.out.lt
  have r0 := Hr.out.cell 0
  have r1 := Hr.out.cell 1
  have r2 := Hr.out.cell 2
  have r3 := Hr.out.cell 3
  have rl := Hr.out.lt
  have f0 := Hf.out.cell 0
  have f1 := Hf.out.cell 1
  have fl := Hf.out.lt
  have p0 := Hp.out.cell 0
  have p1 := Hp.out.cell 1
  have pl := Hp.out.lt
  simp only [List.getElem?_cons_zero, List.getElem?_cons_succ] at t0 t1 t2 t3 r0 r1 r2 r3 f0 f1 p0 p1
  have hpn1 : ¬ gp = gT + 1 := by omega
  have hpn2 : ¬ gT + 1 = gp := by omega
  have hpn3 : ¬ gp = gT + 1 + 1 := by omega
  have hpn4 : ¬ gT + 1 + 1 = gp := by omega
  clear rf0 rf1 rf2 rf3 ff0 ff1
  have rf0 := Hr.out.frozen 0
  have rf1 := Hr.out.frozen 1
  have rf2 := Hr.out.frozen 2
  have rf3 := Hr.out.frozen 3
  have ff0 := Hf.out.frozen 0
  have ff1 := Hf.out.frozen 1
  by_cases hec : ec = 0
  · subst hec
    have hz := taskFault_zero (T := T) (by rw [Hq.out])
    rw [Hq.out] at hz
    obtain ⟨_, e2⟩ := Prod.mk.inj hz
    subst e2
    obtain ⟨N, hok⟩ := taskFault_ok (T := T) (by rw [Hq.out])
    have Hok := hide hok
    clear hz hok
    by_cases h8 : 8 < m
    · skip
      go_wp2_with fail
      refine bodyPost_ret (v := .tuple #[.agg #[.int .i64 0, .slice none 0 0, .slice none 0 0, .slice none 0 0], fault 2 (-8)]) (by simp [results, Try.results64, go_sem, fault, r0, r1, r2, r3, f0, f1, rl, fl, hgne1, hgne2]) rfl ?_
      have hres : extendR T ms = (zeroT, 2, (-8)) := by
        unfold extendR
        rw [Hq.out, if_neg (by simp), if_pos (by rw [Hll.out, HlO.out]; omega)]
      rw [hres]
      have hB := HB0.out
      refine ext_zero ?_ _ _
      repeat' (first | (with_reducible exact Hbl.out) | (with_reducible refine Below.drew ?_) | (with_reducible refine below_set ?_ ?_ _ _) | omega)
    · skip
      by_cases h40 : 40 < nO + m
      · have h40i : (40 : Int) < (nO : Int) + (m : Int) := by omega
        skip
        have hfew := Hok.out.few
        rw [HlO.out] at hfew
        go_wp2_with fail
        refine bodyPost_ret (v := .tuple #[.agg #[.int .i64 0, .slice none 0 0, .slice none 0 0, .slice none 0 0], fault 2 (-8)]) (by simp [results, Try.results64, go_sem, fault, r0, r1, r2, r3, f0, f1, rl, fl, hgne1, hgne2]) rfl ?_
        have hres : extendR T ms = (zeroT, 2, (-8)) := by
          unfold extendR
          rw [Hq.out, if_neg (by simp), if_pos (by rw [Hll.out, HlO.out]; omega)]
        rw [hres]
        have hB := HB0.out
        refine ext_zero ?_ _ _
        repeat' (first | (with_reducible exact Hbl.out) | (with_reducible refine Below.drew ?_) | (with_reducible refine below_set ?_ ?_ _ _) | omega)
      · have h40i : ¬ (40 : Int) < (nO : Int) + (m : Int) := by omega
        have hfew := Hok.out.few
        rw [HlO.out] at hfew
        have hlow24 := Hok.out.low
        have hin := setB_len Hok.out.init
        have hgo := setB_len Hok.out.goal
        rw [HlI.out] at hin
        rw [HlG.out] at hgo
        have hsets : ∀ o ∈ T.ops, o.pre.length ≤ 1000000 ∧ o.add.length ≤ 1000000 ∧ o.del.length ≤ 1000000 := fun o ho => by
          have h1 := setB_len (Hok.out.ops o ho).pre
          have h2 := setB_len (Hok.out.ops o ho).add
          have h3 := setB_len (Hok.out.ops o ho).del
          omega
        have Hsets := hide hsets
        have hq1 : gT + 1 + 1 < w2.heap.size := fl
        clear hsets
        go_wp2_with fail
        with_reducible refine (Hcl.out w2 (H.out.keep Hbl.out) (by omega) (by omega) (by omega) Hsets.out).mono ?_
        rintro e w3 ⟨hb, Bc, AI, eI, AG, eG, O, oc, vs, rfl, hB1, hB2, xi, xg, hown⟩
        clear t0 t1 t2 t3 r0 r1 r2 r3 f0 f1 p0 p1 tl rl fl pl
        clear rf0 rf1 rf2 rf3 ff0 ff1
        replace Ht := hide (Ht.out.keep hb)
        replace Hr := hide (Hr.out.keep hb)
        replace Hf := hide (Hf.out.keep hb)
        replace Hp := hide (Hp.out.keep hb)
        replace Hbl := hide (Hbl.out.trans (hb.mono Hbl.out.size))
        clear hb
        have t0 := Ht.out.cell 0
        have t1 := Ht.out.cell 1
        have t2 := Ht.out.cell 2
        have t3 := Ht.out.cell 3
        have tl := Ht.out.lt
        have r0 := Hr.out.cell 0
        have r1 := Hr.out.cell 1
        have r2 := Hr.out.cell 2
        have r3 := Hr.out.cell 3
        have rl := Hr.out.lt
        have f0 := Hf.out.cell 0
        have f1 := Hf.out.cell 1
        have fl := Hf.out.lt
        have p0 := Hp.out.cell 0
        have p1 := Hp.out.cell 1
        have pl := Hp.out.lt
        simp only [List.getElem?_cons_zero, List.getElem?_cons_succ] at t0 t1 t2 t3 r0 r1 r2 r3 f0 f1 p0 p1
        have rf0 := Hr.out.frozen 0
        have rf1 := Hr.out.frozen 1
        have rf2 := Hr.out.frozen 2
        have rf3 := Hr.out.frozen 3
        have ff0 := Hf.out.frozen 0
        have ff1 := Hf.out.frozen 1
        have Xi := hide xi
        have Xg := hide xg
        have Hown := hide hown
        clear xi xg hown
        go_upto_region 7 with (fail)
        have hS : ExS w (w3.alloc (.cells #[.int .i64 T.facts, .slice AI nI eI, .slice AG nG eG, .slice O nO oc] 25)) T [.int .i64 T.facts, .slice I nI cI, .slice G nG cG, .slice Oo nO cO] ⟨gT, w3.heap.size, Bc, w2.heap.size, AI, nI, eI, AG, nG, eG⟩ (nO + 0) O oc vs T.ops := by
          have hb := (Below.refl w3.heap.size w3).alloc (Nat.le_refl _) (.cells #[.int .i64 T.facts, .slice AI nI eI, .slice AG nG eG, .slice O nO oc] 25)
          refine ⟨Ht.out.keep hb, Hr.out.keep hb, Hf.out.keep hb, Blk.new w3 25 [.int .i64 T.facts, .slice AI nI eI, .slice AG nG eG, .slice O nO oc], Hbl.out.trans (hb.mono Hbl.out.size), (Hown.out.keep hb).less (fun i hi e => ?_), fun r hr e => ?_, Xi.out.keep hb, Xg.out.keep hb, ?_, hq1, hB1, hB2⟩
          · rcases e with e | e | e | e
            · exact .inl e
            · exact .inr (.inl e)
            · exact .inr (.inr (by show w3.heap.size ≤ i; simp only at e; omega))
            · exact .inr (.inr (by simp at e; omega))
          · have := (Hown.out.base hr).2
            simp only at e
            omega
          · show gT = w.heap.size
            exact HgT.out.trans HB0.out
        obtain ⟨w4, hW⟩ : ∃ W, W = w3.alloc (.cells #[.int .i64 T.facts, .slice AI nI eI, .slice AG nG eG, .slice O nO oc] 25) := ⟨_, rfl⟩
        rw [← hW] at hS ⊢
        have hX1 : Bc ≤ w3.heap.size := hB2
        clear hW Ht Hr Hf Hp Xi Xg Hown
        clear t0 t1 t2 t3 r0 r1 r2 r3 f0 f1 p0 p1 tl rl fl pl
        clear rf0 rf1 rf2 rf3 ff0 ff1
        generalize w3.heap.size = gX at hS hX1 ⊢
        generalize w2.heap.size = Bl at hS hB1 hq1
        have HS := hide hS
        have Hst := hide (show extendR T ms = extLoop T T.ops 0 ms by unfold extendR; rw [Hq.out, if_neg (by simp), if_neg (by rw [Hll.out, HlO.out]; omega)])
        clear hS Hbl
        go_wp2_with fail
        go_loopw [38] (fun i wr => ∃ (k : Nat) (O : Option Addr) (oc : Nat) (vs : List Value) (os : List Opr), k ≤ m ∧ i = .int .i64 k ∧ ExS w wr T [.int .i64 T.facts, .slice I nI cI, .slice G nG cG, .slice Oo nO cO] ⟨gT, gX, Bc, Bl, AI, nI, eI, AG, nG, eG⟩ (nO + k) O oc vs os ∧ extendR T ms = extLoop T os k (ms.drop k)) (fun i _ => m - (intOf i).toNat)
        case atStart => exact ⟨0, O, oc, vs, T.ops, by omega, rfl, HS.out, by rw [Hst.out]; rfl⟩
        case round =>
          clear HS Hst
          obtain ⟨k, O, oc, vs, os, hk, rfl, hS, hst⟩ := hrel
          have HS := hide hS
          have Hst := hide hst
          clear hS hst
          obtain ⟨c0, c1, c2, c3⟩ := HS.out.par.cell4
          have r0 := HS.out.res.cell 0
          have r1 := HS.out.res.cell 1
          have r2 := HS.out.res.cell 2
          have r3 := HS.out.res.cell 3
          have rf0 := HS.out.res.frozen 0
          have rf1 := HS.out.res.frozen 1
          have rf2 := HS.out.res.frozen 2
          have rf3 := HS.out.res.frozen 3
          have rl := HS.out.res.lt
          have f0 := HS.out.flt.cell 0
          have f1 := HS.out.flt.cell 1
          have ff0 := HS.out.flt.frozen 0
          have ff1 := HS.out.flt.frozen 1
          have fl := HS.out.flt.lt
          obtain ⟨x0, x1, x2, x3⟩ := HS.out.out.cell4
          have xf3 := HS.out.out.frozen 3
          have xl := HS.out.out.lt
          simp only [zeroTask, List.getElem?_cons_zero, List.getElem?_cons_succ] at c0 c1 c2 c3 r0 r1 r2 r3 rf0 rf1 rf2 rf3 rl f0 f1 ff0 ff1 fl x0 x1 x2 x3 xf3 xl
          by_cases hlt : k < m
          · skip
            obtain ⟨b, off, l, A', n', c', rfl, hx, hcx, hrd⟩ := (Hl.out.keep HS.out.low).sl hlt
            have Hx := hide hx
            have hdrop := drop_cons hx
            have Hrl := hide hrd
            rcases hq2 : seqFault T.ops.length l (-20 - (k : Int)) with ⟨sc, si⟩
            have Hq2 := hide hq2
            have hfa := Hfa.out A' n' c' l (-20 - (k : Int)) wr (H.out.keep HS.out.low) hrd
            rw [hq2] at hfa
            have Hfa1 := hide hfa
            have Hdrop := hide hdrop
            have hwr : IntKind.i64.wrap (-20 - (k : Int)) = -20 - (k : Int) := by rw [IntWalk.i64_in _ (by omega)]
            have hsz0 := HS.out.low.size
            clear hx hrd hq2 hfa hdrop
            go_wp2_with fail
            with_reducible refine (Hfa1.out).mono ?_
            rintro e w5 ⟨rfl, hb⟩
            unfold fault
            replace HS := hide (HS.out.keep hb)
            replace Hrl := hide (Hrl.out.keep hb)
            clear hb hcx
            clear c0 c1 c2 c3 r0 r1 r2 r3 rf0 rf1 rf2 rf3 rl f0 f1 ff0 ff1 fl x0 x1 x2 x3 xf3 xl
            obtain ⟨c0, c1, c2, c3⟩ := HS.out.par.cell4
            have r0 := HS.out.res.cell 0
            have r1 := HS.out.res.cell 1
            have r2 := HS.out.res.cell 2
            have r3 := HS.out.res.cell 3
            have rf0 := HS.out.res.frozen 0
            have rf1 := HS.out.res.frozen 1
            have rf2 := HS.out.res.frozen 2
            have rf3 := HS.out.res.frozen 3
            have rl := HS.out.res.lt
            have f0 := HS.out.flt.cell 0
            have f1 := HS.out.flt.cell 1
            have ff0 := HS.out.flt.frozen 0
            have ff1 := HS.out.flt.frozen 1
            have fl := HS.out.flt.lt
            obtain ⟨x0, x1, x2, x3⟩ := HS.out.out.cell4
            have xf3 := HS.out.out.frozen 3
            have xl := HS.out.out.lt
            simp only [zeroTask, List.getElem?_cons_zero, List.getElem?_cons_succ] at c0 c1 c2 c3 r0 r1 r2 r3 rf0 rf1 rf2 rf3 rl f0 f1 ff0 ff1 fl x0 x1 x2 x3 xf3 xl
            go_upto_region 11 with (fail)
            have hs1 : gT + 1 < w5.heap.size := rl
            have hs2 : gT + 1 + 1 < w5.heap.size := fl
            have hs3 : gX < w5.heap.size := xl
            have hys := Blk.new w5 29 [.int .i64 sc, .int .i64 si]
            have hbW : Below w5.heap.size w5 (w5.alloc (.cells #[.int .i64 sc, .int .i64 si] 29)) := (Below.refl _ _).alloc (Nat.le_refl _) _
            obtain ⟨w6, hW⟩ : ∃ W, W = w5.alloc (.cells #[.int .i64 sc, .int .i64 si] 29) := ⟨_, rfl⟩
            rw [← hW] at hys hbW ⊢
            replace HS := hide (HS.out.keep hbW)
            replace Hrl := hide (Hrl.out.keep hbW)
            have Hs := hide hys
            clear hW hbW hys
            generalize w5.heap.size = gs at Hs hs1 hs2 hs3 ⊢
            have s0 := Hs.out.cell 0
            have s1 := Hs.out.cell 1
            have sl := Hs.out.lt
            simp only [List.getElem?_cons_zero, List.getElem?_cons_succ] at s0 s1
            have hsn1 : ¬ gs = gT + 1 := by omega
            have hsn2 : ¬ gT + 1 = gs := by omega
            have hsn3 : ¬ gs = gT + 1 + 1 := by omega
            have hsn4 : ¬ gT + 1 + 1 = gs := by omega
            clear c0 c1 c2 c3 r0 r1 r2 r3 rf0 rf1 rf2 rf3 rl f0 f1 ff0 ff1 fl x0 x1 x2 x3 xf3 xl
            obtain ⟨c0, c1, c2, c3⟩ := HS.out.par.cell4
            have r0 := HS.out.res.cell 0
            have r1 := HS.out.res.cell 1
            have r2 := HS.out.res.cell 2
            have r3 := HS.out.res.cell 3
            have rf0 := HS.out.res.frozen 0
            have rf1 := HS.out.res.frozen 1
            have rf2 := HS.out.res.frozen 2
            have rf3 := HS.out.res.frozen 3
            have rl := HS.out.res.lt
            have f0 := HS.out.flt.cell 0
            have f1 := HS.out.flt.cell 1
            have ff0 := HS.out.flt.frozen 0
            have ff1 := HS.out.flt.frozen 1
            have fl := HS.out.flt.lt
            obtain ⟨x0, x1, x2, x3⟩ := HS.out.out.cell4
            have xf3 := HS.out.out.frozen 3
            have xl := HS.out.out.lt
            simp only [zeroTask, List.getElem?_cons_zero, List.getElem?_cons_succ] at c0 c1 c2 c3 r0 r1 r2 r3 rf0 rf1 rf2 rf3 rl f0 f1 ff0 ff1 fl x0 x1 x2 x3 xf3 xl
            by_cases hsc : sc = 0
            · subst hsc
              obtain ⟨hz, hl1, hl6, hrng⟩ := seqFault_ok (k := T.ops.length) (l := l) (i := -20 - (k : Int)) (by rw [Hq2.out])
              rw [Hq2.out] at hz
              obtain ⟨_, e2⟩ := Prod.mk.inj hz
              subst e2
              rw [Hrl.out.len] at hl1 hl6
              have Hrng := hide hrng
              clear hz hrng
              go_wp2_with fail
              with_reducible refine (Hco.out N A' n' c' l w6 (H.out.keep HS.out.low) Hok.out Hrl.out (by omega) Hrng.out).mono ?_
              rintro e w7 ⟨hb, hcs⟩
              have hxl6 : gX < w6.heap.size := xl
              have hO6 : ∀ r, blkA O = some r → r ≤ w6.heap.size := fun r hr => Nat.le_of_lt (HS.out.own.base hr).2
              replace HS := hide (HS.out.keep hb)
              replace Hs := hide (Hs.out.keep hb)
              clear hb s0 s1 sl
              clear c0 c1 c2 c3 r0 r1 r2 r3 rf0 rf1 rf2 rf3 rl f0 f1 ff0 ff1 fl x0 x1 x2 x3 xf3 xl
              obtain ⟨c0, c1, c2, c3⟩ := HS.out.par.cell4
              have r0 := HS.out.res.cell 0
              have r1 := HS.out.res.cell 1
              have r2 := HS.out.res.cell 2
              have r3 := HS.out.res.cell 3
              have rf0 := HS.out.res.frozen 0
              have rf1 := HS.out.res.frozen 1
              have rf2 := HS.out.res.frozen 2
              have rf3 := HS.out.res.frozen 3
              have rl := HS.out.res.lt
              have f0 := HS.out.flt.cell 0
              have f1 := HS.out.flt.cell 1
              have ff0 := HS.out.flt.frozen 0
              have ff1 := HS.out.flt.frozen 1
              have fl := HS.out.flt.lt
              obtain ⟨x0, x1, x2, x3⟩ := HS.out.out.cell4
              have xf3 := HS.out.out.frozen 3
              have xl := HS.out.out.lt
              simp only [zeroTask, List.getElem?_cons_zero, List.getElem?_cons_succ] at c0 c1 c2 c3 r0 r1 r2 r3 rf0 rf1 rf2 rf3 rl f0 f1 ff0 ff1 fl x0 x1 x2 x3 xf3 xl
              rcases hcs with ⟨hnone, rfl⟩ | ⟨o, A1, n1, c1', A2, n2, c2', A3, n3, c3', hsome, rfl, q1, q2, q3, hso⟩
              · have Hnone := hide hnone
                clear hnone
                go_upto_region 14 with (fail)
                have hv1 : gT + 1 < w7.heap.size := rl
                have hv2 : gT + 1 + 1 < w7.heap.size := fl
                have hv3 : gX < w7.heap.size := xl
                have hyv := Blk.new w7 27 [.slice none 0 0, .slice none 0 0, .slice none 0 0, .int .i64 0]
                have hbW : Below w7.heap.size w7 (w7.alloc (.cells #[.slice none 0 0, .slice none 0 0, .slice none 0 0, .int .i64 0] 27)) := (Below.refl _ _).alloc (Nat.le_refl _) _
                obtain ⟨w8, hW⟩ : ∃ W, W = w7.alloc (.cells #[.slice none 0 0, .slice none 0 0, .slice none 0 0, .int .i64 0] 27) := ⟨_, rfl⟩
                rw [← hW] at hyv hbW ⊢
                replace HS := hide (HS.out.keep hbW)

                have Hv := hide hyv
                clear hW hbW hyv
                generalize w7.heap.size = gv at Hv hv1 hv2 hv3 ⊢
                have v0 := Hv.out.cell 0
                have v1 := Hv.out.cell 1
                have v2 := Hv.out.cell 2
                have v3 := Hv.out.cell 3
                have vl := Hv.out.lt
                simp only [List.getElem?_cons_zero, List.getElem?_cons_succ] at v0 v1 v2 v3
                have hvn1 : ¬ gv = gT + 1 := by omega
                have hvn2 : ¬ gT + 1 = gv := by omega
                have hvn3 : ¬ gv = gT + 1 + 1 := by omega
                have hvn4 : ¬ gT + 1 + 1 = gv := by omega
                clear c0 c1 c2 c3 r0 r1 r2 r3 rf0 rf1 rf2 rf3 rl f0 f1 ff0 ff1 fl x0 x1 x2 x3 xf3 xl
                obtain ⟨c0, c1, c2, c3⟩ := HS.out.par.cell4
                have r0 := HS.out.res.cell 0
                have r1 := HS.out.res.cell 1
                have r2 := HS.out.res.cell 2
                have r3 := HS.out.res.cell 3
                have rf0 := HS.out.res.frozen 0
                have rf1 := HS.out.res.frozen 1
                have rf2 := HS.out.res.frozen 2
                have rf3 := HS.out.res.frozen 3
                have rl := HS.out.res.lt
                have f0 := HS.out.flt.cell 0
                have f1 := HS.out.flt.cell 1
                have ff0 := HS.out.flt.frozen 0
                have ff1 := HS.out.flt.frozen 1
                have fl := HS.out.flt.lt
                obtain ⟨x0, x1, x2, x3⟩ := HS.out.out.cell4
                have xf3 := HS.out.out.frozen 3
                have xl := HS.out.out.lt
                simp only [zeroTask, List.getElem?_cons_zero, List.getElem?_cons_succ] at c0 c1 c2 c3 r0 r1 r2 r3 rf0 rf1 rf2 rf3 rl f0 f1 ff0 ff1 fl x0 x1 x2 x3 xf3 xl
                go_wp2_with fail
                refine bodyPost_ret (v := .tuple #[.agg #[.int .i64 0, .slice none 0 0, .slice none 0 0, .slice none 0 0], fault 11 (-20 - (k : Int))]) (by simp [results, Try.results64, go_sem, fault, r0, r1, r2, r3, f0, f1, rl, fl, hgne1, hgne2]) rfl ?_
                have hres : extendR T ms = (zeroT, 11, (-20 - (k : Int))) := by
                  rw [Hst.out, Hdrop.out]
                  unfold extLoop
                  rw [Hq2.out, if_neg (by simp)]
                  rw [show combF zeroOp (l.map (opAt T.ops)) = none from Hnone.out]
                rw [hres]
                have hB := HB0.out
                refine ext_zero ?_ _ _
                repeat' (first | (with_reducible exact HS.out.low) | (with_reducible refine Below.drew ?_) | (with_reducible refine below_set ?_ ?_ _ _) | omega)
              · have Hsome := hide hsome
                have hc0 := hso
                have Q1 := hide q1
                have Q2 := hide q2
                have Q3 := hide q3
                clear hsome hso q1 q2 q3 hc0
                go_upto_region 14 with (fail)
                have hv1 : gT + 1 < w7.heap.size := rl
                have hv2 : gT + 1 + 1 < w7.heap.size := fl
                have hv3 : gX < w7.heap.size := xl
                have hyv := Blk.new w7 27 [.slice A1 n1 c1', .slice A2 n2 c2', .slice A3 n3 c3', .int .i64 o.cost]
                have hbW : Below w7.heap.size w7 (w7.alloc (.cells #[.slice A1 n1 c1', .slice A2 n2 c2', .slice A3 n3 c3', .int .i64 o.cost] 27)) := (Below.refl _ _).alloc (Nat.le_refl _) _
                obtain ⟨w8, hW⟩ : ∃ W, W = w7.alloc (.cells #[.slice A1 n1 c1', .slice A2 n2 c2', .slice A3 n3 c3', .int .i64 o.cost] 27) := ⟨_, rfl⟩
                rw [← hW] at hyv hbW ⊢
                replace HS := hide (HS.out.keep hbW)
                replace Q1 := hide (Q1.out.keep hbW)
                replace Q2 := hide (Q2.out.keep hbW)
                replace Q3 := hide (Q3.out.keep hbW)
                have Hv := hide hyv
                clear hW hbW hyv
                generalize w7.heap.size = gv at Hv hv1 hv2 hv3 ⊢
                have v0 := Hv.out.cell 0
                have v1 := Hv.out.cell 1
                have v2 := Hv.out.cell 2
                have v3 := Hv.out.cell 3
                have vl := Hv.out.lt
                simp only [List.getElem?_cons_zero, List.getElem?_cons_succ] at v0 v1 v2 v3
                have hvn1 : ¬ gv = gT + 1 := by omega
                have hvn2 : ¬ gT + 1 = gv := by omega
                have hvn3 : ¬ gv = gT + 1 + 1 := by omega
                have hvn4 : ¬ gT + 1 + 1 = gv := by omega
                clear c0 c1 c2 c3 r0 r1 r2 r3 rf0 rf1 rf2 rf3 rl f0 f1 ff0 ff1 fl x0 x1 x2 x3 xf3 xl
                obtain ⟨c0, c1, c2, c3⟩ := HS.out.par.cell4
                have r0 := HS.out.res.cell 0
                have r1 := HS.out.res.cell 1
                have r2 := HS.out.res.cell 2
                have r3 := HS.out.res.cell 3
                have rf0 := HS.out.res.frozen 0
                have rf1 := HS.out.res.frozen 1
                have rf2 := HS.out.res.frozen 2
                have rf3 := HS.out.res.frozen 3
                have rl := HS.out.res.lt
                have f0 := HS.out.flt.cell 0
                have f1 := HS.out.flt.cell 1
                have ff0 := HS.out.flt.frozen 0
                have ff1 := HS.out.flt.frozen 1
                have fl := HS.out.flt.lt
                obtain ⟨x0, x1, x2, x3⟩ := HS.out.out.cell4
                have xf3 := HS.out.out.frozen 3
                have xl := HS.out.out.lt
                simp only [zeroTask, List.getElem?_cons_zero, List.getElem?_cons_succ] at c0 c1 c2 c3 r0 r1 r2 r3 rf0 rf1 rf2 rf3 rl f0 f1 ff0 ff1 fl x0 x1 x2 x3 xf3 xl
                by_cases hbig : 100 < o.cost
                · skip
                  go_wp2_with fail
                  refine bodyPost_ret (v := .tuple #[.agg #[.int .i64 0, .slice none 0 0, .slice none 0 0, .slice none 0 0], fault 10 (-20 - (k : Int))]) (by simp [results, Try.results64, go_sem, fault, r0, r1, r2, r3, f0, f1, rl, fl, hgne1, hgne2]) rfl ?_
                  have hres : extendR T ms = (zeroT, 10, (-20 - (k : Int))) := by
                    rw [Hst.out, Hdrop.out]
                    unfold extLoop
                    rw [Hq2.out, if_neg (by simp)]
                    rw [show combF zeroOp (l.map (opAt T.ops)) = some o from Hsome.out]
                    simp only
                    rw [if_pos hbig]
                  rw [hres]
                  have hB := HB0.out
                  refine ext_zero ?_ _ _
                  repeat' (first | (with_reducible exact HS.out.low) | (with_reducible refine Below.drew ?_) | (with_reducible refine below_set ?_ ?_ _ _) | omega)
                · skip
                  have hnext : extendR T ms = extLoop T (os ++ [o]) (k + 1) (ms.drop (k + 1)) := by
                    rw [Hst.out, Hdrop.out]
                    conv => lhs; unfold extLoop
                    rw [Hq2.out, if_neg (by simp)]
                    rw [show combF zeroOp (l.map (opAt T.ops)) = some o from Hsome.out]
                    simp only
                    rw [if_neg hbig]
                  have Hnext := hide hnext
                  have hcost : I64s o.cost := by
                    have := comb_small Hok.out Hrng.out (by rw [Hrl.out.len]; exact hl6) Hsome.out
                    unfold I64s
                    omega
                  have hfirm := HS.out.firm (X := w6.heap.size) (by show gX ≤ w6.heap.size; omega) hO6 Q1.out Q2.out Q3.out hcost
                  have Hfirm := hide hfirm
                  clear hnext hfirm hcost
                  go_wp2_with
                    (at_builtin
                     refine wpList_pushE rfl _ _ 23 rfl Bc 27 i1 _ 80 Try.underlying23 hi1 hy0 hy1 hy2 rfl (by decide) rfl HS.out.own (fun r hr => .inl hr) [.slice A1 n1 c1', .slice A2 n2 c2', .slice A3 n3 c3', .int .i64 o.cost] o (by intro u hu; simp at hu; rcases hu with hu | hu | hu | hu <;> subst hu <;> rfl) rfl Hfirm.out (by omega) (by omega) (by omega) ?_
                     intro O6 oc6 w9 hown6 hch6 hat6
                     have hs9 := HS.out.push hown6 hch6 hat6
                     have Hs9 := hide hs9
                     have hx9 := hch6.blk HS.out.out (fun e => HS.out.ne _ e rfl)
                     clear c0 c1 c2 c3 r0 r1 r2 r3 rf0 rf1 rf2 rf3 rl f0 f1 ff0 ff1 fl x0 x1 x2 x3 xf3 xl hown6 hch6 hat6 hs9
                     have x3 := hx9.cell 3
                     have xf3 := hx9.frozen 3
                     have xl := hx9.lt
                     simp only [List.getElem?_cons_zero, List.getElem?_cons_succ] at x3 xf3 xl
                     clear hx9)
                  go_roundw
                  case rel => exact ⟨k + 1, O6, oc6, _, os ++ [o], by omega, by go_num, Hs9.out, Hnext.out⟩
                  case measure => simp [intOf]; omega
            · have hne : (sc != 0) = true := by simpa using hsc
              go_wp2_with fail
              go_region
              all_goals go_wp2_with fail
              all_goals refine bodyPost_ret (v := .tuple #[.agg #[.int .i64 0, .slice none 0 0, .slice none 0 0, .slice none 0 0], fault sc si]) (by simp [results, Try.results64, go_sem, fault, r0, r1, r2, r3, f0, f1, rl, fl, hgne1, hgne2]) rfl ?_
              have hres : extendR T ms = (zeroT, sc, si) := by
                rw [Hst.out, Hdrop.out]
                unfold extLoop
                rw [Hq2.out, if_pos hsc]
              rw [hres]
              have hB := HB0.out
              refine ext_zero ?_ _ _
              repeat' (first | (with_reducible exact HS.out.low) | (with_reducible refine Below.drew ?_) | (with_reducible refine below_set ?_ ?_ _ _) | omega)
          · obtain rfl : k = m := by omega
            have hres : extendR T ms = (⟨T.facts, T.init, T.goal, os⟩, 0, 0) := by
              rw [Hst.out, List.drop_of_length_le (by rw [Hll.out]; omega)]
              rfl
            have Hres := hide hres
            clear hres
            go_wp2_with fail
            refine bodyPost_ret (v := .tuple #[.agg #[.int .i64 T.facts, .slice AI nI eI, .slice AG nG eG, .slice O (nO + k) oc], fault 0 0]) (by simp [results, Try.results64, go_sem, fault, r0, r1, r2, r3, f0, f1, rl, fl, hgne1, hgne2]) rfl ?_
            rw [Hres.out]
            refine HS.out.done H.out.facts ?_
            exact ((((((Chg.set _ (gT + 1) 0 _).trans (Chg.set _ (gT + 1) 1 _)).trans (Chg.set _ (gT + 1) 2 _)).trans (Chg.set _ (gT + 1) 3 _)).mono (M' := fun b => b = gT + 1 ∨ b = gT + 1 + 1) (fun b e => .inl e)).trans (((Chg.set _ (gT + 1 + 1) 0 _).trans (Chg.set _ (gT + 1 + 1) 1 _)).mono (fun b e => .inr e)))
  · have hne : (ec != 0) = true := by simpa using hec
    go_wp2_with fail
    go_region
    all_goals go_wp2_with fail
    all_goals refine bodyPost_ret (v := .tuple #[.agg #[.int .i64 0, .slice none 0 0, .slice none 0 0, .slice none 0 0], fault ec ei]) (by simp [results, Try.results64, go_sem, fault, r0, r1, r2, r3, f0, f1, rl, fl, hgne1, hgne2]) rfl ?_
    have hres : extendR T ms = (zeroT, ec, ei) := by
      unfold extendR
      rw [Hq.out, if_pos hec]
    rw [hres]
    have hB := HB0.out
    refine ext_zero ?_ _ _
    repeat' (first | (with_reducible exact Hbl.out) | (with_reducible refine Below.drew ?_) | (with_reducible refine below_set ?_ ?_ _ _) | omega)
end Go.Proofs.Ytnfeknfakkdbhaa
