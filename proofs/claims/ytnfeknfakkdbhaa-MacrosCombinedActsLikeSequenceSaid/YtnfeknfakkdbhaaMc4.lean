/- Combine. -/
import Derived.Test.YtnfeknfakkdbhaaMc3
namespace Go.Proofs.Ytnfeknfakkdbhaa
set_option linter.unusedVariables false
set_option linter.unusedSimpArgs false
open Go.RowKit

set_option maxRecDepth 100000 in
set_option maxHeartbeats 6400000 in
theorem Combine_ct (a : TA) (T : Tsk) (B : Option Addr) (m d : Nat) (l : List Int) (w : World) (h : TkR w a T) (hl : Rd Enc.int w B m d l) :
    Calls Try.prog 15 #[.agg #[.int .i64 T.facts, .slice a.I a.nI a.cI, .slice a.G a.nG a.cG, .slice a.O a.nO a.cO], .slice B m d] w (CombineP w (combineR T l)) := by
  obtain ⟨I, nI, cI, G, nG, cG, Oo, nO, cO⟩ := a
  have hval := SValidate_ct ⟨I, nI, cI, G, nG, cG, Oo, nO, cO⟩ T
  have hfa := mfault_ct ⟨I, nI, cI, G, nG, cG, Oo, nO, cO⟩ T B m d l (-8)
  have hco := fun N w h hok hl => combine_ct ⟨I, nI, cI, G, nG, cG, Oo, nO, cO⟩ T N B m d l w h hok hl
  simp only at hval hfa hco ⊢
  rcases hq : taskFault T with ⟨ec, ei⟩
  rw [hq] at hval
  rcases hq2 : seqFault T.ops.length l (-8) with ⟨sc, si⟩
  rw [hq2] at hfa
  have Hq := hide hq
  have Hq2 := hide hq2
  have H := hide h
  have Hl := hide hl
  have Hll := hide hl.len
  have Hval := hide hval
  have Hfa := hide hfa
  have Hco := hide hco
  clear hval hfa hco h hl hq hq2
  have Hbl := hide (Below.refl w.heap.size w)
  go_enter Try.func15, Try.ntmps15
  go_upto_region 1 with (fail)
  obtain ⟨B0, hB0⟩ : ∃ B0, B0 = w.heap.size := ⟨_, rfl⟩
  have hgR0 : B0 ≤ w.heap.size + 1 := by omega
  have hgF0 : B0 ≤ w.heap.size + 1 + 1 := by omega
  have HB0 := hide hB0
  clear hB0
  have hyt := Blk.new (w) 25 [.int .i64 T.facts, .slice I nI cI, .slice G nG cG, .slice Oo nO cO]
  have hyr := Blk.new ((w).alloc (.cells #[.int .i64 T.facts, .slice I nI cI, .slice G nG cG, .slice Oo nO cO] 25)) 27 [.slice none 0 0, .slice none 0 0, .slice none 0 0, .int .i64 0]
  replace hyt := hyt.alloc (.cells #[.slice none 0 0, .slice none 0 0, .slice none 0 0, .int .i64 0] 27)
  have hyf := Blk.new (((w).alloc (.cells #[.int .i64 T.facts, .slice I nI cI, .slice G nG cG, .slice Oo nO cO] 25)).alloc (.cells #[.slice none 0 0, .slice none 0 0, .slice none 0 0, .int .i64 0] 27)) 29 [.int .i64 0, .int .i64 0]
  replace hyt := hyt.alloc (.cells #[.int .i64 0, .int .i64 0] 29)
  replace hyr := hyr.alloc (.cells #[.int .i64 0, .int .i64 0] 29)
  have hbW := below_three w (.cells #[.int .i64 T.facts, .slice I nI cI, .slice G nG cG, .slice Oo nO cO] 25) (.cells #[.slice none 0 0, .slice none 0 0, .slice none 0 0, .int .i64 0] 27) (.cells #[.int .i64 0, .int .i64 0] 29)
  simp only [World.size_alloc] at hyr hyf
  obtain ⟨w0, hW⟩ : ∃ W, W = (((w).alloc (.cells #[.int .i64 T.facts, .slice I nI cI, .slice G nG cG, .slice Oo nO cO] 25)).alloc (.cells #[.slice none 0 0, .slice none 0 0, .slice none 0 0, .int .i64 0] 27)).alloc (.cells #[.int .i64 0, .int .i64 0] 29) := ⟨_, rfl⟩
  rw [← hW] at hyt hyr hyf hbW ⊢
  replace Hbl := hide (Hbl.out.trans (hbW.mono Hbl.out.size))
  have Ht := hide hyt
  have Hr := hide hyr
  have Hf := hide hyf
  clear hW hbW hyt hyr hyf
  generalize w.heap.size = gT at Ht Hr Hf hgR0 hgF0 ⊢
  have t0 := Ht.out.cell 0
  have t1 := Ht.out.cell 1
  have t2 := Ht.out.cell 2
  have t3 := Ht.out.cell 3
  have tl := Ht.out.lt
  have r0 := Hr.out.cell 0
  have r1 := Hr.out.cell 1
  have r2 := Hr.out.cell 2
  have r3 := Hr.out.cell 3
  have rl := Hr.out.lt
  have f0 := Hf.out.cell 0
  have f1 := Hf.out.cell 1
  have fl := Hf.out.lt
  simp only [List.getElem?_cons_zero, List.getElem?_cons_succ] at t0 t1 t2 t3 r0 r1 r2 r3 f0 f1
  have rf0 := Hr.out.frozen 0
  have rf1 := Hr.out.frozen 1
  have rf2 := Hr.out.frozen 2
  have rf3 := Hr.out.frozen 3
  have ff0 := Hf.out.frozen 0
  have ff1 := Hf.out.frozen 1
  have hgne1 : ¬ gT + 1 = gT + 1 + 1 := by omega
  have hgne2 : ¬ gT + 1 + 1 = gT + 1 := by omega
  go_wp2_with fail
  with_reducible refine (Hval.out w0 (H.out.keep Hbl.out)).mono ?_
  rintro e w1 ⟨rfl, hb⟩
  clear t0 t1 t2 t3 r0 r1 r2 r3 f0 f1 tl rl fl
  replace Ht := hide (Ht.out.keep hb)
  replace Hr := hide (Hr.out.keep hb)
  replace Hf := hide (Hf.out.keep hb)
  replace Hbl := hide (Hbl.out.trans (hb.mono Hbl.out.size))
  clear hb
  unfold fault
  have t0 := Ht.out.cell 0
  have t1 := Ht.out.cell 1
  have t2 := Ht.out.cell 2
  have t3 := Ht.out.cell 3
  have tl := Ht.out.lt
  have r0 := Hr.out.cell 0
  have r1 := Hr.out.cell 1
  have r2 := Hr.out.cell 2
  have r3 := Hr.out.cell 3
  have rl := Hr.out.lt
  have f0 := Hf.out.cell 0
  have f1 := Hf.out.cell 1
  have fl := Hf.out.lt
  simp only [List.getElem?_cons_zero, List.getElem?_cons_succ] at t0 t1 t2 t3 r0 r1 r2 r3 f0 f1
  clear rf0 rf1 rf2 rf3 ff0 ff1
  have rf0 := Hr.out.frozen 0
  have rf1 := Hr.out.frozen 1
  have rf2 := Hr.out.frozen 2
  have rf3 := Hr.out.frozen 3
  have ff0 := Hf.out.frozen 0
  have ff1 := Hf.out.frozen 1
  go_upto_region 2 with (fail)
  have hp1 : gT + 1 < w1.heap.size := rl
  have hp2 : gT + 1 + 1 < w1.heap.size := fl
  have hyp := Blk.new (w1) 29 [.int .i64 ec, .int .i64 ei]
  have hbW : Below (w1).heap.size (w1) ((w1).alloc (.cells #[.int .i64 ec, .int .i64 ei] 29)) := (Below.refl _ _).alloc (Nat.le_refl _) _
  obtain ⟨w2, hW⟩ : ∃ W, W = (w1).alloc (.cells #[.int .i64 ec, .int .i64 ei] 29) := ⟨_, rfl⟩
  rw [← hW] at hyp hbW ⊢
  replace Ht := hide (Ht.out.keep hbW)
  replace Hr := hide (Hr.out.keep hbW)
  replace Hf := hide (Hf.out.keep hbW)
  replace Hbl := hide (Hbl.out.trans (hbW.mono Hbl.out.size))
  have Hp := hide hyp
  clear hW hbW hyp
  generalize w1.heap.size = gp at Hp hp1 hp2 ⊢
  have t0 := Ht.out.cell 0
  have t1 := Ht.out.cell 1
  have t2 := Ht.out.cell 2
  have t3 := Ht.out.cell 3
  have tl := Ht.out.lt
  have r0 := Hr.out.cell 0
  have r1 := Hr.out.cell 1
  have r2 := Hr.out.cell 2
  have r3 := Hr.out.cell 3
  have rl := Hr.out.lt
  have f0 := Hf.out.cell 0
  have f1 := Hf.out.cell 1
  have fl := Hf.out.lt
  have p0 := Hp.out.cell 0
  have p1 := Hp.out.cell 1
  have pl := Hp.out.lt
  simp only [List.getElem?_cons_zero, List.getElem?_cons_succ] at t0 t1 t2 t3 r0 r1 r2 r3 f0 f1 p0 p1
  have hpn1 : ¬ gp = gT + 1 := by omega
  have hpn2 : ¬ gT + 1 = gp := by omega
  have hpn3 : ¬ gp = gT + 1 + 1 := by omega
  have hpn4 : ¬ gT + 1 + 1 = gp := by omega
  clear rf0 rf1 rf2 rf3 ff0 ff1
  have rf0 := Hr.out.frozen 0
  have rf1 := Hr.out.frozen 1
  have rf2 := Hr.out.frozen 2
  have rf3 := Hr.out.frozen 3
  have ff0 := Hf.out.frozen 0
  have ff1 := Hf.out.frozen 1
  by_cases hec : ec = 0
  · subst hec
    have hz := taskFault_zero (T := T) (by rw [Hq.out])
    rw [Hq.out] at hz
    obtain ⟨_, e2⟩ := Prod.mk.inj hz
    subst e2
    obtain ⟨N, hok⟩ := taskFault_ok (T := T) (by rw [Hq.out])
    have Hok := hide hok
    clear hz hok
    go_wp2_with fail
    with_reducible refine (Hfa.out w2 (H.out.keep Hbl.out) (Hl.out.keep Hbl.out)).mono ?_
    rintro e w3 ⟨rfl, hb⟩
    clear t0 t1 t2 t3 r0 r1 r2 r3 f0 f1 p0 p1 tl rl fl pl
    replace Ht := hide (Ht.out.keep hb)
    replace Hr := hide (Hr.out.keep hb)
    replace Hf := hide (Hf.out.keep hb)
    replace Hp := hide (Hp.out.keep hb)
    replace Hbl := hide (Hbl.out.trans (hb.mono Hbl.out.size))
    clear hb
    unfold fault
    have t0 := Ht.out.cell 0
    have t1 := Ht.out.cell 1
    have t2 := Ht.out.cell 2
    have t3 := Ht.out.cell 3
    have tl := Ht.out.lt
    have r0 := Hr.out.cell 0
    have r1 := Hr.out.cell 1
    have r2 := Hr.out.cell 2
    have r3 := Hr.out.cell 3
    have rl := Hr.out.lt
    have f0 := Hf.out.cell 0
    have f1 := Hf.out.cell 1
    have fl := Hf.out.lt
    have p0 := Hp.out.cell 0
    have p1 := Hp.out.cell 1
    have pl := Hp.out.lt
    simp only [List.getElem?_cons_zero, List.getElem?_cons_succ] at t0 t1 t2 t3 r0 r1 r2 r3 f0 f1 p0 p1
    clear rf0 rf1 rf2 rf3 ff0 ff1
    have rf0 := Hr.out.frozen 0
    have rf1 := Hr.out.frozen 1
    have rf2 := Hr.out.frozen 2
    have rf3 := Hr.out.frozen 3
    have ff0 := Hf.out.frozen 0
    have ff1 := Hf.out.frozen 1
    go_upto_region 5 with (fail)
    have hs1 : gT + 1 < w3.heap.size := rl
    have hs2 : gT + 1 + 1 < w3.heap.size := fl
    have hys := Blk.new (w3) 29 [.int .i64 sc, .int .i64 si]
    have hbW : Below (w3).heap.size (w3) ((w3).alloc (.cells #[.int .i64 sc, .int .i64 si] 29)) := (Below.refl _ _).alloc (Nat.le_refl _) _
    obtain ⟨w4, hW⟩ : ∃ W, W = (w3).alloc (.cells #[.int .i64 sc, .int .i64 si] 29) := ⟨_, rfl⟩
    rw [← hW] at hys hbW ⊢
    replace Ht := hide (Ht.out.keep hbW)
    replace Hr := hide (Hr.out.keep hbW)
    replace Hf := hide (Hf.out.keep hbW)
    replace Hp := hide (Hp.out.keep hbW)
    replace Hbl := hide (Hbl.out.trans (hbW.mono Hbl.out.size))
    have Hs := hide hys
    clear hW hbW hys
    generalize w3.heap.size = gs at Hs hs1 hs2 ⊢
    have t0 := Ht.out.cell 0
    have t1 := Ht.out.cell 1
    have t2 := Ht.out.cell 2
    have t3 := Ht.out.cell 3
    have tl := Ht.out.lt
    have r0 := Hr.out.cell 0
    have r1 := Hr.out.cell 1
    have r2 := Hr.out.cell 2
    have r3 := Hr.out.cell 3
    have rl := Hr.out.lt
    have f0 := Hf.out.cell 0
    have f1 := Hf.out.cell 1
    have fl := Hf.out.lt
    have p0 := Hp.out.cell 0
    have p1 := Hp.out.cell 1
    have pl := Hp.out.lt
    have s0 := Hs.out.cell 0
    have s1 := Hs.out.cell 1
    have sl := Hs.out.lt
    simp only [List.getElem?_cons_zero, List.getElem?_cons_succ] at t0 t1 t2 t3 r0 r1 r2 r3 f0 f1 p0 p1 s0 s1
    have hsn1 : ¬ gs = gT + 1 := by omega
    have hsn2 : ¬ gT + 1 = gs := by omega
    have hsn3 : ¬ gs = gT + 1 + 1 := by omega
    have hsn4 : ¬ gT + 1 + 1 = gs := by omega
    clear rf0 rf1 rf2 rf3 ff0 ff1
    have rf0 := Hr.out.frozen 0
    have rf1 := Hr.out.frozen 1
    have rf2 := Hr.out.frozen 2
    have rf3 := Hr.out.frozen 3
    have ff0 := Hf.out.frozen 0
    have ff1 := Hf.out.frozen 1
    by_cases hsc : sc = 0
    · subst hsc
      obtain ⟨hz, hl1, hl6, hrng⟩ := seqFault_ok (k := T.ops.length) (l := l) (i := -8) (by rw [Hq2.out])
      rw [Hq2.out] at hz
      obtain ⟨_, e2⟩ := Prod.mk.inj hz
      subst e2
      rw [Hll.out] at hl1 hl6
      have Hrng := hide hrng
      clear hz hrng
      go_wp2_with fail
      with_reducible refine (Hco.out N w4 (H.out.keep Hbl.out) Hok.out (Hl.out.keep Hbl.out) (by omega) Hrng.out).mono ?_
      rintro e w5 ⟨hb, hcs⟩
      have hX4 : gT + 1 + 1 < w4.heap.size := fl
      clear t0 t1 t2 t3 r0 r1 r2 r3 f0 f1 p0 p1 s0 s1 tl rl fl pl sl
      clear rf0 rf1 rf2 rf3 ff0 ff1
      replace Ht := hide (Ht.out.keep hb)
      replace Hr := hide (Hr.out.keep hb)
      replace Hf := hide (Hf.out.keep hb)
      replace Hp := hide (Hp.out.keep hb)
      replace Hs := hide (Hs.out.keep hb)
      replace Hbl := hide (Hbl.out.trans (hb.mono Hbl.out.size))
      clear hb
      have t0 := Ht.out.cell 0
      have t1 := Ht.out.cell 1
      have t2 := Ht.out.cell 2
      have t3 := Ht.out.cell 3
      have tl := Ht.out.lt
      have r0 := Hr.out.cell 0
      have r1 := Hr.out.cell 1
      have r2 := Hr.out.cell 2
      have r3 := Hr.out.cell 3
      have rl := Hr.out.lt
      have f0 := Hf.out.cell 0
      have f1 := Hf.out.cell 1
      have fl := Hf.out.lt
      have p0 := Hp.out.cell 0
      have p1 := Hp.out.cell 1
      have pl := Hp.out.lt
      have s0 := Hs.out.cell 0
      have s1 := Hs.out.cell 1
      have sl := Hs.out.lt
      simp only [List.getElem?_cons_zero, List.getElem?_cons_succ] at t0 t1 t2 t3 r0 r1 r2 r3 f0 f1 p0 p1 s0 s1
      have rf0 := Hr.out.frozen 0
      have rf1 := Hr.out.frozen 1
      have rf2 := Hr.out.frozen 2
      have rf3 := Hr.out.frozen 3
      have ff0 := Hf.out.frozen 0
      have ff1 := Hf.out.frozen 1
      rcases hcs with ⟨hnone, rfl⟩ | ⟨o, A1, n1, c1, A2, n2, c2, A3, n3, c3, hsome, rfl, x1, x2, x3, hso⟩
      · have Hnone := hide hnone
        clear hnone
        go_upto_region 8 with (fail)
        have hv1 : gT + 1 < w5.heap.size := rl
        have hv2 : gT + 1 + 1 < w5.heap.size := fl
        have hyv := Blk.new (w5) 27 [.slice none 0 0, .slice none 0 0, .slice none 0 0, .int .i64 0]
        have hbW : Below (w5).heap.size (w5) ((w5).alloc (.cells #[.slice none 0 0, .slice none 0 0, .slice none 0 0, .int .i64 0] 27)) := (Below.refl _ _).alloc (Nat.le_refl _) _
        obtain ⟨w6, hW⟩ : ∃ W, W = (w5).alloc (.cells #[.slice none 0 0, .slice none 0 0, .slice none 0 0, .int .i64 0] 27) := ⟨_, rfl⟩
        rw [← hW] at hyv hbW ⊢
        replace Ht := hide (Ht.out.keep hbW)
        replace Hr := hide (Hr.out.keep hbW)
        replace Hf := hide (Hf.out.keep hbW)
        replace Hp := hide (Hp.out.keep hbW)
        replace Hs := hide (Hs.out.keep hbW)
        replace Hbl := hide (Hbl.out.trans (hbW.mono Hbl.out.size))
        have Hv := hide hyv
        clear hW hbW hyv
        generalize w5.heap.size = gv at Hv hv1 hv2 ⊢
        have t0 := Ht.out.cell 0
        have t1 := Ht.out.cell 1
        have t2 := Ht.out.cell 2
        have t3 := Ht.out.cell 3
        have tl := Ht.out.lt
        have r0 := Hr.out.cell 0
        have r1 := Hr.out.cell 1
        have r2 := Hr.out.cell 2
        have r3 := Hr.out.cell 3
        have rl := Hr.out.lt
        have f0 := Hf.out.cell 0
        have f1 := Hf.out.cell 1
        have fl := Hf.out.lt
        have p0 := Hp.out.cell 0
        have p1 := Hp.out.cell 1
        have pl := Hp.out.lt
        have s0 := Hs.out.cell 0
        have s1 := Hs.out.cell 1
        have sl := Hs.out.lt
        have v0 := Hv.out.cell 0
        have v1 := Hv.out.cell 1
        have v2 := Hv.out.cell 2
        have v3 := Hv.out.cell 3
        have vl := Hv.out.lt
        simp only [List.getElem?_cons_zero, List.getElem?_cons_succ] at t0 t1 t2 t3 r0 r1 r2 r3 f0 f1 p0 p1 s0 s1 v0 v1 v2 v3
        clear rf0 rf1 rf2 rf3 ff0 ff1
        have rf0 := Hr.out.frozen 0
        have rf1 := Hr.out.frozen 1
        have rf2 := Hr.out.frozen 2
        have rf3 := Hr.out.frozen 3
        have ff0 := Hf.out.frozen 0
        have ff1 := Hf.out.frozen 1
        have hvn1 : ¬ gv = gT + 1 := by omega
        have hvn2 : ¬ gT + 1 = gv := by omega
        have hvn3 : ¬ gv = gT + 1 + 1 := by omega
        have hvn4 : ¬ gT + 1 + 1 = gv := by omega
        go_wp2_with fail
        refine bodyPost_ret (v := .tuple #[.agg #[.slice none 0 0, .slice none 0 0, .slice none 0 0, .int .i64 0], .bool false, fault 0 0]) (by simp [results, Try.results15, go_sem, fault, r0, r1, r2, r3, f0, f1, rl, fl, hgne1, hgne2]) rfl ?_
        have hres : combineR T l = (zeroOp, false, 0, 0) := by
          unfold combineR
          rw [Hq.out, if_neg (by simp), Hq2.out, if_neg (by simp)]
          rw [show combF zeroOp (l.map (opAt T.ops)) = none from Hnone.out]
        rw [hres]
        have hB := HB0.out
        refine ⟨?_, _, rfl, ?_⟩
        · repeat' (first | (with_reducible exact Hbl.out) | (with_reducible refine Below.drew ?_) | (with_reducible refine below_set ?_ ?_ _ _) | omega)
        · exact OpN.zero _ _
      · have Hsome := hide hsome
        have X1 := hide x1
        have X2 := hide x2
        have X3 := hide x3
        clear hsome x1 x2 x3 hso
        go_upto_region 8 with (fail)
        have hv1 : gT + 1 < w5.heap.size := rl
        have hv2 : gT + 1 + 1 < w5.heap.size := fl
        have hyv := Blk.new (w5) 27 [.slice A1 n1 c1, .slice A2 n2 c2, .slice A3 n3 c3, .int .i64 o.cost]
        have hbW : Below (w5).heap.size (w5) ((w5).alloc (.cells #[.slice A1 n1 c1, .slice A2 n2 c2, .slice A3 n3 c3, .int .i64 o.cost] 27)) := (Below.refl _ _).alloc (Nat.le_refl _) _
        obtain ⟨w6, hW⟩ : ∃ W, W = (w5).alloc (.cells #[.slice A1 n1 c1, .slice A2 n2 c2, .slice A3 n3 c3, .int .i64 o.cost] 27) := ⟨_, rfl⟩
        rw [← hW] at hyv hbW ⊢
        replace Ht := hide (Ht.out.keep hbW)
        replace Hr := hide (Hr.out.keep hbW)
        replace Hf := hide (Hf.out.keep hbW)
        replace Hp := hide (Hp.out.keep hbW)
        replace Hs := hide (Hs.out.keep hbW)
        replace X1 := hide (X1.out.keep hbW)
        replace X2 := hide (X2.out.keep hbW)
        replace X3 := hide (X3.out.keep hbW)
        replace Hbl := hide (Hbl.out.trans (hbW.mono Hbl.out.size))
        have Hv := hide hyv
        clear hW hbW hyv
        generalize w5.heap.size = gv at Hv hv1 hv2 ⊢
        have t0 := Ht.out.cell 0
        have t1 := Ht.out.cell 1
        have t2 := Ht.out.cell 2
        have t3 := Ht.out.cell 3
        have tl := Ht.out.lt
        have r0 := Hr.out.cell 0
        have r1 := Hr.out.cell 1
        have r2 := Hr.out.cell 2
        have r3 := Hr.out.cell 3
        have rl := Hr.out.lt
        have f0 := Hf.out.cell 0
        have f1 := Hf.out.cell 1
        have fl := Hf.out.lt
        have p0 := Hp.out.cell 0
        have p1 := Hp.out.cell 1
        have pl := Hp.out.lt
        have s0 := Hs.out.cell 0
        have s1 := Hs.out.cell 1
        have sl := Hs.out.lt
        have v0 := Hv.out.cell 0
        have v1 := Hv.out.cell 1
        have v2 := Hv.out.cell 2
        have v3 := Hv.out.cell 3
        have vl := Hv.out.lt
        simp only [List.getElem?_cons_zero, List.getElem?_cons_succ] at t0 t1 t2 t3 r0 r1 r2 r3 f0 f1 p0 p1 s0 s1 v0 v1 v2 v3
        clear rf0 rf1 rf2 rf3 ff0 ff1
        have rf0 := Hr.out.frozen 0
        have rf1 := Hr.out.frozen 1
        have rf2 := Hr.out.frozen 2
        have rf3 := Hr.out.frozen 3
        have ff0 := Hf.out.frozen 0
        have ff1 := Hf.out.frozen 1
        have hvn1 : ¬ gv = gT + 1 := by omega
        have hvn2 : ¬ gT + 1 = gv := by omega
        have hvn3 : ¬ gv = gT + 1 + 1 := by omega
        have hvn4 : ¬ gT + 1 + 1 = gv := by omega
        by_cases hbig : 100 < o.cost
        · skip
          go_wp2_with fail
          refine bodyPost_ret (v := .tuple #[.agg #[.slice none 0 0, .slice none 0 0, .slice none 0 0, .int .i64 0], .bool false, fault 10 (-9)]) (by simp [results, Try.results15, go_sem, fault, r0, r1, r2, r3, f0, f1, rl, fl, hgne1, hgne2]) rfl ?_
          have hres : combineR T l = (zeroOp, false, 10, (-9)) := by
            unfold combineR
            rw [Hq.out, if_neg (by simp), Hq2.out, if_neg (by simp)]
            rw [show combF zeroOp (l.map (opAt T.ops)) = some o from Hsome.out]
            simp only
            rw [if_pos hbig]
          rw [hres]
          have hB := HB0.out
          refine ⟨?_, _, rfl, ?_⟩
          · repeat' (first | (with_reducible exact Hbl.out) | (with_reducible refine Below.drew ?_) | (with_reducible refine below_set ?_ ?_ _ _) | omega)
          · exact OpN.zero _ _
        · skip
          go_wp2_with fail
          refine bodyPost_ret (v := .tuple #[.agg #[.slice A1 n1 c1, .slice A2 n2 c2, .slice A3 n3 c3, .int .i64 o.cost], .bool true, fault 0 0]) (by simp [results, Try.results15, go_sem, fault, r0, r1, r2, r3, f0, f1, rl, fl, hgne1, hgne2]) rfl ?_
          have hres : combineR T l = (o, true, 0, 0) := by
            unfold combineR
            rw [Hq.out, if_neg (by simp), Hq2.out, if_neg (by simp)]
            rw [show combF zeroOp (l.map (opAt T.ops)) = some o from Hsome.out]
            simp only
            rw [if_neg (by omega)]
          rw [hres]
          have hB := HB0.out
          refine ⟨?_, _, rfl, ?_⟩
          · repeat' (first | (with_reducible exact Hbl.out) | (with_reducible refine Below.drew ?_) | (with_reducible refine below_set ?_ ?_ _ _) | omega)
          · have hle : w.heap.size ≤ w4.heap.size := by omega
            refine ⟨A1, n1, c1, A2, n2, c2, A3, n3, c3, rfl, ?_, ?_, ?_⟩
            · refine RdN.less (X := w4.heap.size) ?_ hle
              repeat' (first | (with_reducible exact X1.out) | (with_reducible refine RdN.set ?_ ?_ _ _) | omega)
            · refine RdN.less (X := w4.heap.size) ?_ hle
              repeat' (first | (with_reducible exact X2.out) | (with_reducible refine RdN.set ?_ ?_ _ _) | omega)
            · refine RdN.less (X := w4.heap.size) ?_ hle
              repeat' (first | (with_reducible exact X3.out) | (with_reducible refine RdN.set ?_ ?_ _ _) | omega)
    · have hne : (sc != 0) = true := by simpa using hsc
      go_wp2_with fail
      go_region
      all_goals go_wp2_with fail
      all_goals refine bodyPost_ret (v := .tuple #[.agg #[.slice none 0 0, .slice none 0 0, .slice none 0 0, .int .i64 0], .bool false, fault sc si]) (by simp [results, Try.results15, go_sem, fault, r0, r1, r2, r3, f0, f1, rl, fl, hgne1, hgne2]) rfl ?_
      have hres : combineR T l = (zeroOp, false, sc, si) := by
        unfold combineR
        rw [Hq.out, if_neg (by simp), Hq2.out, if_pos hsc]
      rw [hres]
      have hB := HB0.out
      refine ⟨?_, _, rfl, ?_⟩
      · repeat' (first | (with_reducible exact Hbl.out) | (with_reducible refine Below.drew ?_) | (with_reducible refine below_set ?_ ?_ _ _) | omega)
      · exact OpN.zero _ _
  · have hne : (ec != 0) = true := by simpa using hec
    go_wp2_with fail
    go_region
    all_goals go_wp2_with fail
    all_goals refine bodyPost_ret (v := .tuple #[.agg #[.slice none 0 0, .slice none 0 0, .slice none 0 0, .int .i64 0], .bool false, fault ec ei]) (by simp [results, Try.results15, go_sem, fault, r0, r1, r2, r3, f0, f1, rl, fl, hgne1, hgne2]) rfl ?_
    have hres : combineR T l = (zeroOp, false, ec, ei) := by
      unfold combineR
      rw [Hq.out, if_pos hec]
    rw [hres]
    have hB := HB0.out
    refine ⟨?_, _, rfl, ?_⟩
    · repeat' (first | (with_reducible exact Hbl.out) | (with_reducible refine Below.drew ?_) | (with_reducible refine below_set ?_ ?_ _ _) | omega)
    · exact OpN.zero _ _
end Go.Proofs.Ytnfeknfakkdbhaa
