/- Extend. -/
import Derived.Test.YtnfeknfakkdbhaaMc9
namespace Go.Proofs.Ytnfeknfakkdbhaa
set_option linter.unusedVariables false
set_option linter.unusedSimpArgs false
open Go.RowKit

set_option maxRecDepth 100000 in
set_option maxHeartbeats 6400000 in
theorem Extend_ct (a : TA) (T : Tsk) (B : Option Addr) (m d : Nat) (ms : List (List Int)) (w : World) (h : TkR w a T) (hl : Rd (Enc.sl Enc.int) w B m d ms) :
    Calls Try.prog 22 #[.agg #[.int .i64 T.facts, .slice a.I a.nI a.cI, .slice a.G a.nG a.cG, .slice a.O a.nO a.cO], .slice B m d] w (ExtP w (extendR T ms)) := by
  obtain ⟨I, nI, cI, G, nG, cG, Oo, nO, cO⟩ := a
  have hex := extend_ct ⟨I, nI, cI, G, nG, cG, Oo, nO, cO⟩ T B m d ms
  simp only at hex ⊢
  obtain ⟨r, hr⟩ : ∃ r, r = extendR T ms := ⟨_, rfl⟩
  rw [← hr] at hex ⊢
  clear hr
  obtain ⟨⟨T0, T1, T2, T3⟩, rc, ri⟩ := r
  have H := hide h
  have Hl := hide hl
  have Hex := hide hex
  clear hex h hl
  have Hbl := hide (Below.refl w.heap.size w)
  go_enter Try.func22, Try.ntmps22
  go_upto_region 1 with (fail)
  obtain ⟨B0, hB0⟩ : ∃ B0, B0 = w.heap.size := ⟨_, rfl⟩
  have hgR0 : B0 ≤ w.heap.size + 1 := by omega
  have hgF0 : B0 ≤ w.heap.size + 1 + 1 := by omega
  have hgT0 : w.heap.size = B0 := by omega
  have HgT := hide hgT0
  have HB0 := hide hB0
  clear hB0 hgT0
  have hyt := Blk.new (w) 25 [.int .i64 T.facts, .slice I nI cI, .slice G nG cG, .slice Oo nO cO]
  have hyr := Blk.new ((w).alloc (.cells #[.int .i64 T.facts, .slice I nI cI, .slice G nG cG, .slice Oo nO cO] 25)) 25 [.int .i64 0, .slice none 0 0, .slice none 0 0, .slice none 0 0]
  replace hyt := hyt.alloc (.cells #[.int .i64 0, .slice none 0 0, .slice none 0 0, .slice none 0 0] 25)
  have hyf := Blk.new (((w).alloc (.cells #[.int .i64 T.facts, .slice I nI cI, .slice G nG cG, .slice Oo nO cO] 25)).alloc (.cells #[.int .i64 0, .slice none 0 0, .slice none 0 0, .slice none 0 0] 25)) 29 [.int .i64 0, .int .i64 0]
  replace hyt := hyt.alloc (.cells #[.int .i64 0, .int .i64 0] 29)
  replace hyr := hyr.alloc (.cells #[.int .i64 0, .int .i64 0] 29)
  have hbW := below_three w (.cells #[.int .i64 T.facts, .slice I nI cI, .slice G nG cG, .slice Oo nO cO] 25) (.cells #[.int .i64 0, .slice none 0 0, .slice none 0 0, .slice none 0 0] 25) (.cells #[.int .i64 0, .int .i64 0] 29)
  simp only [World.size_alloc] at hyr hyf
  obtain ⟨w0, hW⟩ : ∃ W, W = (((w).alloc (.cells #[.int .i64 T.facts, .slice I nI cI, .slice G nG cG, .slice Oo nO cO] 25)).alloc (.cells #[.int .i64 0, .slice none 0 0, .slice none 0 0, .slice none 0 0] 25)).alloc (.cells #[.int .i64 0, .int .i64 0] 29) := ⟨_, rfl⟩
  rw [← hW] at hyt hyr hyf hbW ⊢
  replace Hbl := hide (Hbl.out.trans (hbW.mono Hbl.out.size))
  have Ht := hide hyt
  have Hr := hide hyr
  have Hf := hide hyf
  clear hW hbW hyt hyr hyf
  generalize w.heap.size = gT at Ht Hr Hf hgR0 hgF0 HgT ⊢
  have t0 := Ht.out.cell 0
  have t1 := Ht.out.cell 1
  have t2 := Ht.out.cell 2
  have t3 := Ht.out.cell 3
  have tl := Ht.out.lt
  have r0 := Hr.out.cell 0
  have r1 := Hr.out.cell 1
  have r2 := Hr.out.cell 2
  have r3 := Hr.out.cell 3
  have rl := Hr.out.lt
  have f0 := Hf.out.cell 0
  have f1 := Hf.out.cell 1
  have fl := Hf.out.lt
  simp only [List.getElem?_cons_zero, List.getElem?_cons_succ] at t0 t1 t2 t3 r0 r1 r2 r3 f0 f1
  have hgne1 : ¬ gT + 1 = gT + 1 + 1 := by omega
  have hgne2 : ¬ gT + 1 + 1 = gT + 1 := by omega
  have hW1 : gT + 1 + 1 < w0.heap.size := fl
  have hW0 : w.heap.size < w0.heap.size := by have h1 := HgT.out; have h2 := HB0.out; omega
  go_wp2_with fail
  with_reducible refine (Hex.out w0 (H.out.keep Hbl.out) (Hl.out.keep Hbl.out)).mono ?_
  rintro e w1 ⟨hb, ⟨J1, j1, k1, J2, j2, k2, J3, j3, k3⟩, rfl, htk⟩
  clear t0 t1 t2 t3 r0 r1 r2 r3 f0 f1 tl rl fl
  replace Ht := hide (Ht.out.keep hb)
  replace Hr := hide (Hr.out.keep hb)
  replace Hf := hide (Hf.out.keep hb)
  replace Hbl := hide (Hbl.out.trans (hb.mono Hbl.out.size))
  clear hb
  have Htk := hide htk
  clear htk
  unfold taskV fault
  simp only
  have t0 := Ht.out.cell 0
  have t1 := Ht.out.cell 1
  have t2 := Ht.out.cell 2
  have t3 := Ht.out.cell 3
  have tl := Ht.out.lt
  have r0 := Hr.out.cell 0
  have r1 := Hr.out.cell 1
  have r2 := Hr.out.cell 2
  have r3 := Hr.out.cell 3
  have rl := Hr.out.lt
  have f0 := Hf.out.cell 0
  have f1 := Hf.out.cell 1
  have fl := Hf.out.lt
  simp only [List.getElem?_cons_zero, List.getElem?_cons_succ] at t0 t1 t2 t3 r0 r1 r2 r3 f0 f1
  have rf0 := Hr.out.frozen 0
  have rf1 := Hr.out.frozen 1
  have rf2 := Hr.out.frozen 2
  have rf3 := Hr.out.frozen 3
  have ff0 := Hf.out.frozen 0
  have ff1 := Hf.out.frozen 1
  go_wp2_with fail
  refine bodyPost_ret (v := .tuple #[.agg #[.int .i64 T0, .slice J1 j1 k1, .slice J2 j2 k2, .slice J3 j3 k3], fault rc ri]) (by simp [results, Try.results22, go_sem, fault, r0, r1, r2, r3, f0, f1, rl, fl, hgne1, hgne2]) rfl ?_
  have hB := HB0.out
  refine ⟨?_, ⟨J1, j1, k1, J2, j2, k2, J3, j3, k3⟩, rfl, ?_⟩
  · repeat' (first | (with_reducible exact Hbl.out) | (with_reducible refine Below.drew ?_) | (with_reducible refine below_set ?_ ?_ _ _) | omega)
  · intro w2 hk
    have hlt : w.heap.size < w0.heap.size := hW0
    have hgt : gT + 1 + 1 < w0.heap.size := hW1
    have hB1 := HgT.out
    refine Htk.out w2 (Chg.trans ?_ (hk.mono fun b e => by omega))
    exact ((((((Chg.set _ (gT + 1) 0 _).trans (Chg.set _ (gT + 1) 1 _)).trans (Chg.set _ (gT + 1) 2 _)).trans (Chg.set _ (gT + 1) 3 _)).mono (M' := fun b => b < w0.heap.size) (fun b e => by omega)).trans (((Chg.set _ (gT + 1 + 1) 0 _).trans (Chg.set _ (gT + 1 + 1) 1 _)).mono (fun b e => by omega)))
end Go.Proofs.Ytnfeknfakkdbhaa
