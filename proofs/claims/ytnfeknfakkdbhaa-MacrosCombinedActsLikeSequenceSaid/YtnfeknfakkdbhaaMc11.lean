/- Expand. -/
import Derived.Test.YtnfeknfakkdbhaaMj
namespace Go.Proofs.Ytnfeknfakkdbhaa
set_option linter.unusedVariables false
set_option linter.unusedSimpArgs false
open Go.RowKit

set_option maxRecDepth 100000 in
set_option maxHeartbeats 6400000 in
theorem Expand_ct (a : TA) (T : Tsk) (Bm : Option Addr) (mm dm : Nat) (ms : List (List Int)) (B : Option Addr) (m d : Nat) (l : List Int) (w : World) (h : TkR w a T) (hms : Rd (Enc.sl Enc.int) w Bm mm dm ms) (hl : Rd Enc.int w B m d l) :
    Calls Try.prog 23 #[.agg #[.int .i64 T.facts, .slice a.I a.nI a.cI, .slice a.G a.nG a.cG, .slice a.O a.nO a.cO], .slice Bm mm dm, .slice B m d] w (ExpandP w (expandR T ms l)) := by
  obtain ⟨i1, hi1, hy0, hy1, hy2⟩ := info_parts intInfoT
  obtain ⟨I, nI, cI, G, nG, cG, Oo, nO, cO⟩ := a
  have hex := extend_ct ⟨I, nI, cI, G, nG, cG, Oo, nO, cO⟩ T Bm mm dm ms
  simp only at hex ⊢
  rcases hq : extendR T ms with ⟨⟨T0, T1, T2, T3⟩, rc, ri⟩
  rw [hq] at hex
  have hok := extend_ok (T := T) (ms := ms)
  rw [hq] at hok
  simp only at hok
  have hlO := h.ops.len
  have hlow := h.ops.low
  have hlm := hms.low
  have hll := hl.low
  simp only at hlO hlow
  have Hq := hide hq
  have Hok := hide hok
  have HlO := hide hlO
  have H := hide h
  have Hms := hide hms
  have Hlm := hide hms.len
  have Hl := hide hl
  have Hll := hide hl.len
  have Hex := hide hex
  clear hq hok hlO hex h hl hms
  have Hbl := hide (Below.refl w.heap.size w)
  go_enter Try.func23, Try.ntmps23
  go_upto_region 1 with (fail)
  obtain ⟨B0, hB0⟩ : ∃ B0, B0 = w.heap.size := ⟨_, rfl⟩
  have hgF0 : B0 ≤ w.heap.size + 1 := by omega
  have HB0 := hide hB0
  clear hB0
  have hyt := Blk.new (w) 25 [.int .i64 T.facts, .slice I nI cI, .slice G nG cG, .slice Oo nO cO]
  have hyf := Blk.new ((w).alloc (.cells #[.int .i64 T.facts, .slice I nI cI, .slice G nG cG, .slice Oo nO cO] 25)) 29 [.int .i64 0, .int .i64 0]
  replace hyt := hyt.alloc (.cells #[.int .i64 0, .int .i64 0] 29)
  have hbW := below_two w (.cells #[.int .i64 T.facts, .slice I nI cI, .slice G nG cG, .slice Oo nO cO] 25) (.cells #[.int .i64 0, .int .i64 0] 29)
  simp only [World.size_alloc] at hyf
  obtain ⟨w0, hW⟩ : ∃ W, W = ((w).alloc (.cells #[.int .i64 T.facts, .slice I nI cI, .slice G nG cG, .slice Oo nO cO] 25)).alloc (.cells #[.int .i64 0, .int .i64 0] 29) := ⟨_, rfl⟩
  rw [← hW] at hyt hyf hbW ⊢
  replace Hbl := hide (Hbl.out.trans (hbW.mono Hbl.out.size))
  have Ht := hide hyt
  have Hf := hide hyf
  clear hW hbW hyt hyf
  generalize w.heap.size = gT at Ht Hf hgF0 ⊢
  have t0 := Ht.out.cell 0
  have t1 := Ht.out.cell 1
  have t2 := Ht.out.cell 2
  have t3 := Ht.out.cell 3
  have tl := Ht.out.lt
  have f0 := Hf.out.cell 0
  have f1 := Hf.out.cell 1
  have fl := Hf.out.lt
  simp only [List.getElem?_cons_zero, List.getElem?_cons_succ] at t0 t1 t2 t3 f0 f1
  have ff0 := Hf.out.frozen 0
  have ff1 := Hf.out.frozen 1
  go_wp2_with fail
  with_reducible refine (Hex.out w0 (H.out.keep Hbl.out) (Hms.out.keep Hbl.out)).mono ?_
  rintro e w1 ⟨hb, ⟨J1, j1, k1, J2, j2, k2, J3, j3, k3⟩, rfl, htk⟩
  clear t0 t1 t2 t3 f0 f1 tl fl
  replace Ht := hide (Ht.out.keep hb)
  replace Hf := hide (Hf.out.keep hb)
  replace Hbl := hide (Hbl.out.trans (hb.mono Hbl.out.size))
  clear hb
  have hjl := (htk w1 (Chg.refl _ _)).ops.len
  have hjw := (htk w1 (Chg.refl _ _)).ops.low
  simp only at hjl hjw
  clear htk
  unfold taskV fault
  simp only
  have t0 := Ht.out.cell 0
  have t1 := Ht.out.cell 1
  have t2 := Ht.out.cell 2
  have t3 := Ht.out.cell 3
  have tl := Ht.out.lt
  have f0 := Hf.out.cell 0
  have f1 := Hf.out.cell 1
  have fl := Hf.out.lt
  simp only [List.getElem?_cons_zero, List.getElem?_cons_succ] at t0 t1 t2 t3 f0 f1
  clear ff0 ff1
  have ff0 := Hf.out.frozen 0
  have ff1 := Hf.out.frozen 1
  go_upto_region 2 with (fail)
  have hx1 : gT + 1 < w1.heap.size := fl
  have hx2 : B0 ≤ w1.heap.size + 1 := by have := Hbl.out.size; have := HB0.out; omega
  have Hjl := hide hjl
  clear hjl
  have hyx := Blk.new (w1) 25 [.int .i64 T0, .slice J1 j1 k1, .slice J2 j2 k2, .slice J3 j3 k3]
  have hye := Blk.new ((w1).alloc (.cells #[.int .i64 T0, .slice J1 j1 k1, .slice J2 j2 k2, .slice J3 j3 k3] 25)) 29 [.int .i64 rc, .int .i64 ri]
  replace hyx := hyx.alloc (.cells #[.int .i64 rc, .int .i64 ri] 29)
  have hbW := below_two w1 (.cells #[.int .i64 T0, .slice J1 j1 k1, .slice J2 j2 k2, .slice J3 j3 k3] 25) (.cells #[.int .i64 rc, .int .i64 ri] 29)
  simp only [World.size_alloc] at hye
  obtain ⟨w2, hW⟩ : ∃ W, W = ((w1).alloc (.cells #[.int .i64 T0, .slice J1 j1 k1, .slice J2 j2 k2, .slice J3 j3 k3] 25)).alloc (.cells #[.int .i64 rc, .int .i64 ri] 29) := ⟨_, rfl⟩
  rw [← hW] at hyx hye hbW ⊢
  replace Ht := hide (Ht.out.keep hbW)
  replace Hf := hide (Hf.out.keep hbW)
  replace Hbl := hide (Hbl.out.trans (hbW.mono Hbl.out.size))
  have Hx := hide hyx
  have He := hide hye
  clear hW hbW hyx hye
  generalize w1.heap.size = gX at Hx He hx1 hx2 ⊢
  have t0 := Ht.out.cell 0
  have t1 := Ht.out.cell 1
  have t2 := Ht.out.cell 2
  have t3 := Ht.out.cell 3
  have tl := Ht.out.lt
  have f0 := Hf.out.cell 0
  have f1 := Hf.out.cell 1
  have fl := Hf.out.lt
  have x0 := Hx.out.cell 0
  have x1 := Hx.out.cell 1
  have x2 := Hx.out.cell 2
  have x3 := Hx.out.cell 3
  have xl := Hx.out.lt
  have e0 := He.out.cell 0
  have e1 := He.out.cell 1
  have el := He.out.lt
  simp only [List.getElem?_cons_zero, List.getElem?_cons_succ] at t0 t1 t2 t3 f0 f1 x0 x1 x2 x3 e0 e1
  have hxn1 : ¬ gX + 1 = gT + 1 := by omega
  have hxn2 : ¬ gT + 1 = gX + 1 := by omega
  clear ff0 ff1
  have ff0 := Hf.out.frozen 0
  have ff1 := Hf.out.frozen 1
  have ef0 := He.out.frozen 0
  have ef1 := He.out.frozen 1
  by_cases hec : rc = 0
  · subst hec
    obtain ⟨e2, e3, e4, e5, e6⟩ := Hok.out rfl
    obtain ⟨_, e2⟩ := Prod.mk.inj e2
    subst e2
    rw [Hjl.out] at e3
    have E5 := hide e5
    rw [HlO.out] at e3 e6
    rw [Hlm.out] at e3 e4
    have E3 := hide e3
    clear e5 e3
    rcases hq2 : stepsFault j3 l with ⟨sc, si⟩
    have hst := Steps_ct j3 B m d l
    rw [hq2] at hst
    have Hq2 := hide hq2
    have Hst := hide hst
    clear hq2 hst
    go_wp2_with fail
    with_reducible refine (Hst.out w2 (Hl.out.keep Hbl.out) hjw).mono ?_
    rintro e w3 ⟨rfl, hb⟩
    clear t0 t1 t2 t3 f0 f1 x0 x1 x2 x3 e0 e1 tl fl xl el
    replace Ht := hide (Ht.out.keep hb)
    replace Hf := hide (Hf.out.keep hb)
    replace Hx := hide (Hx.out.keep hb)
    replace He := hide (He.out.keep hb)
    replace Hbl := hide (Hbl.out.trans (hb.mono Hbl.out.size))
    clear hb
    unfold fault
    have t0 := Ht.out.cell 0
    have t1 := Ht.out.cell 1
    have t2 := Ht.out.cell 2
    have t3 := Ht.out.cell 3
    have tl := Ht.out.lt
    have f0 := Hf.out.cell 0
    have f1 := Hf.out.cell 1
    have fl := Hf.out.lt
    have x0 := Hx.out.cell 0
    have x1 := Hx.out.cell 1
    have x2 := Hx.out.cell 2
    have x3 := Hx.out.cell 3
    have xl := Hx.out.lt
    have e0 := He.out.cell 0
    have e1 := He.out.cell 1
    have el := He.out.lt
    simp only [List.getElem?_cons_zero, List.getElem?_cons_succ] at t0 t1 t2 t3 f0 f1 x0 x1 x2 x3 e0 e1
    clear ff0 ff1 ef0 ef1
    have ff0 := Hf.out.frozen 0
    have ff1 := Hf.out.frozen 1
    have ef0 := He.out.frozen 0
    have ef1 := He.out.frozen 1
    go_upto_region 4 with (fail)
    have he9 := (He.out.set 0 (.int .i64 sc)).set 1 (.int .i64 si)
    simp only [List.set_cons_zero, List.set_cons_succ] at he9
    have hf9 := (Hf.out.far (p := ⟨gX + 1, 0, none⟩) (by show gT + 1 ≠ gX + 1; omega) (.int .i64 sc)).far (p := ⟨gX + 1, 1, none⟩) (by show gT + 1 ≠ gX + 1; omega) (.int .i64 si)
    have ht9 := (Ht.out.far (p := ⟨gX + 1, 0, none⟩) (by show gT ≠ gX + 1; omega) (.int .i64 sc)).far (p := ⟨gX + 1, 1, none⟩) (by show gT ≠ gX + 1; omega) (.int .i64 si)
    have hb9 := below_set (below_set Hbl.out (g := gX + 1) (by have := HB0.out; omega) 0 (.int .i64 sc)) (g := gX + 1) (by have := HB0.out; omega) 1 (.int .i64 si)
    obtain ⟨w5, hW⟩ : ∃ W, W = (w3.setCell ⟨gX + 1, 0, none⟩ (.int .i64 sc)).setCell ⟨gX + 1, 1, none⟩ (.int .i64 si) := ⟨_, rfl⟩
    rw [← hW] at he9 hf9 ht9 hb9 ⊢
    clear hW
    clear t0 t1 t2 t3 f0 f1 x0 x1 x2 x3 e0 e1 tl fl xl el
    clear ff0 ff1 ef0 ef1
    clear Hx
    replace He := hide he9
    replace Hf := hide hf9
    replace Ht := hide ht9
    replace Hbl := hide hb9
    clear he9 hf9 ht9 hb9
    have t0 := Ht.out.cell 0
    have t1 := Ht.out.cell 1
    have t2 := Ht.out.cell 2
    have t3 := Ht.out.cell 3
    have tl := Ht.out.lt
    have f0 := Hf.out.cell 0
    have f1 := Hf.out.cell 1
    have fl := Hf.out.lt
    have e0 := He.out.cell 0
    have e1 := He.out.cell 1
    have el := He.out.lt
    simp only [List.getElem?_cons_zero, List.getElem?_cons_succ] at t0 t1 t2 t3 f0 f1 e0 e1
    have ff0 := Hf.out.frozen 0
    have ff1 := Hf.out.frozen 1
    have ef0 := He.out.frozen 0
    have ef1 := He.out.frozen 1
    by_cases hsc : sc = 0
    · subst hsc
      obtain ⟨hz, hl60, hrng⟩ := steps_ok (n := j3) (l := l) (by rw [Hq2.out])
      rw [Hq2.out] at hz
      obtain ⟨_, e2⟩ := Prod.mk.inj hz
      subst e2
      rw [Hll.out] at hl60
      have Hrng := hide hrng
      clear hz hrng
      have hlt5 : gT + 1 < w5.heap.size := fl
      go_wp2_with fail
      go_loopw [10, 33] (fun o i wr => ∃ (k : Nat) (O : Option Addr) (q oc : Nat) (vs : List Value), k ≤ m ∧ i = .int .i64 k ∧ o = .slice O q oc ∧ OwnE Enc.int 3 w5.heap.size (fun b => w5.heap.size ≤ b) wr O q oc vs (expandF nO ms (l.take k)) ∧ Below w5.heap.size w5 wr) (fun _ i _ => m - (intOf i).toNat)
      case atStart => exact ⟨0, none, 0, 0, [], by omega, rfl, rfl, OwnE.nil _ _ _ _ _, Below.refl _ _⟩
      case round =>
        obtain ⟨k, O, q, oc, vs, hk, rfl, rfl, hown, hb⟩ := hrel
        have hqk : q ≤ 6 * k := by
          rw [← hown.len]
          have := expand_len (n := nO) E5.out (l.take k)
          rw [List.length_take] at this
          omega
        replace Ht := hide (Ht.out.keep hb)
        replace Hf := hide (Hf.out.keep hb)
        clear He
        clear t0 t1 t2 t3 f0 f1 e0 e1 tl fl el
        clear ff0 ff1 ef0 ef1
        have t0 := Ht.out.cell 0
        have t1 := Ht.out.cell 1
        have t2 := Ht.out.cell 2
        have t3 := Ht.out.cell 3
        have tl := Ht.out.lt
        have f0 := Hf.out.cell 0
        have f1 := Hf.out.cell 1
        have fl := Hf.out.lt
        simp only [List.getElem?_cons_zero, List.getElem?_cons_succ] at t0 t1 t2 t3 f0 f1
        have ff0 := Hf.out.frozen 0
        have ff1 := Hf.out.frozen 1
        have Hown := hide hown
        have Hb := hide hb
        have hsz1 : w5.heap.size ≤ wr.heap.size := hb.size
        clear hown hb
        by_cases hlt : k < m
        · obtain ⟨b, off, x, rfl, hx, hx1, hx2, hcx⟩ := (Hl.out.keep (Hbl.out.trans (Hb.out.mono Hbl.out.size))).int hlt
          have hxr := Hrng.out x (List.mem_of_getElem? hx)
          obtain ⟨p, rfl⟩ : ∃ p : Nat, x = (p : Int) := ⟨x.toNat, by omega⟩
          have hst := expand_succ (n := nO) (ms := ms) hx
          by_cases hp : p < nO
          · rw [piece_low (by omega)] at hst
            have Hst1 := hide hst
            have hpi : (p : Int) < (nO : Int) := by omega
            clear hst hx hxr
            go_wp2_with
              (at_builtin
               refine wpList_pushE rfl _ _ 22 rfl w5.heap.size 3 i1 (.int .i64 0) 8 Try.underlying22 hi1 hy0 hy1 hy2 rfl (by decide) rfl Hown.out (fun r hr => (Hown.out.base hr).1) [.int .i64 p] p (by intro u hu; simp at hu; subst hu; rfl) rfl (firm_int (by omega) (by omega)) (by omega) (by omega) hsz1 ?_
               intro O6 oc6 w6  hown6 hch6 hat6
               have hown6 := hown6.less (M' := fun b => w5.heap.size ≤ b) (fun i _ e => .inl e)
               have hb6 := row_below Hb.out hsz1 hch6 (fun r hr => (Hown.out.base hr).1)
               have Hown6 := hide hown6
               have Hb6 := hide hb6
               clear hown6 hch6 hat6 hb6)
            go_roundw
            case rel => exact ⟨k + 1, O6, q + 1, oc6, _, by omega, by go_num, rfl, by rw [Hst1.out]; exact Hown6.out, Hb6.out⟩
            case measure => simp [intOf]; omega
          · obtain ⟨j, rfl⟩ : ∃ j, p = nO + j := ⟨p - nO, by omega⟩
            have hj : j < mm := by have := E3.out; omega
            obtain ⟨b2, off2, q2, A2, n2, c2, rfl, hq2, hcq, hrq⟩ := (Hms.out.keep (Hbl.out.trans (Hb.out.mono Hbl.out.size))).sl hj
            rw [piece_high hq2] at hst
            have hn2 : n2 ≤ 6 := by rw [← hrq.len]; exact E5.out _ (List.mem_of_getElem? hq2)
            have Hst1 := hide hst
            have Hrq := hide hrq
            have hwr : IntKind.i64.wrap (((nO + j : Nat) : Int) - (nO : Int)) = (j : Int) := by rw [IntWalk.i64_in _ (by omega)]; omega
            have hpi : ¬ ((nO + j : Nat) : Int) < (nO : Int) := by omega
            clear hst hx hxr hq2 hrq
            go_wp2_with
              (at_builtin
               refine wpList_appendE rfl _ _ 22 rfl w5.heap.size 3 i1 (.int .i64 0) 8 Try.underlying22 hi1 hy0 hy1 hy2 rfl (by decide) (fun _ _ _ h => one_int h) rfl Hown.out (fun r hr => (Hown.out.base hr).1) Hrq.out (Below.refl _ _) (fun us y hok _ => ?_) rfl (by omega) (by omega) hsz1 ?_
               · obtain ⟨e1, e2, e3⟩ := hok
                 subst e1
                 exact firm_int e2 e3
               intro O6 oc6 w6 vs6 hown6 hch6 hat6
               have hown6 := hown6.less (M' := fun b => w5.heap.size ≤ b) (fun i _ e => .inl e)
               have hb6 := row_below Hb.out hsz1 hch6 (fun r hr => (Hown.out.base hr).1)
               have Hown6 := hide hown6
               have Hb6 := hide hb6
               clear hown6 hch6 hat6 hb6)
            go_roundw
            case rel => exact ⟨k + 1, O6, q + n2, oc6, _, by omega, by go_num, rfl, by rw [Hst1.out]; exact Hown6.out, Hb6.out⟩
            case measure => simp [intOf]; omega
        · obtain rfl : k = m := by omega
          have hown := Hown.out
          rw [List.take_of_length_le (by rw [Hll.out]; omega)] at hown
          have hq := hown.len
          have Hown9 := hide hown
          have Hlq := hide hq
          replace Hbl := hide (Hbl.out.trans (Hb.out.mono Hbl.out.size))
          clear hown hq Hown
          by_cases h60 : 60 < q
          · skip
            go_wp2_with fail
            refine bodyPost_ret (v := .tuple #[.slice none 0 0, fault 10 (-9)]) (by simp [results, Try.results23, go_sem, fault, f0, f1, fl]) rfl ?_
            have hres : expandR T ms l = ([], 10, (-9)) := by
              unfold expandR
              rw [Hq.out]
              simp only
              rw [if_neg (by simp), Hjl.out, Hq2.out, if_neg (by simp), HlO.out, Hlq.out, if_pos h60]
            rw [hres]
            have hB := HB0.out
            refine expandP_nil ?_ _ _
            repeat' (first | (with_reducible exact Hbl.out) | (with_reducible refine Below.drew ?_) | (with_reducible refine below_set ?_ ?_ _ _) | omega)
          · skip
            go_wp2_with fail
            refine bodyPost_ret (v := .tuple #[.slice O q oc, fault 0 0]) (by simp [results, Try.results23, go_sem, fault, f0, f1, fl]) rfl ?_
            have hres : expandR T ms l = (expandF nO ms l, 0, 0) := by
              unfold expandR
              rw [Hq.out]
              simp only
              rw [if_neg (by simp), Hjl.out, Hq2.out, if_neg (by simp), HlO.out, Hlq.out, if_neg h60]
            rw [hres]
            have hB := HB0.out
            refine ⟨?_, O, q, oc, rfl, ?_⟩
            · repeat' (first | (with_reducible exact Hbl.out) | (with_reducible refine Below.drew ?_) | (with_reducible refine below_set ?_ ?_ _ _) | omega)
            · intro w9 hk9
              have hrm : RdM (fun b => b < w5.heap.size) wr O q oc (expandF nO ms l) := RdM.own Hown9.out.ints (fun r hr e => by have := (Hown9.out.base hr).1; omega) Hlq.out (rd_ints Hown9.out.rd)
              refine hrm w9 (Chg.trans ?_ (hk9.mono fun b e => by omega))
              exact ((Chg.set _ (gT + 1) 0 _).trans (Chg.set _ (gT + 1) 1 _)).mono (fun b e => by omega)
    · have hne : (sc != 0) = true := by simpa using hsc
      go_wp2_with fail
      go_region
      all_goals go_wp2_with fail
      all_goals refine bodyPost_ret (v := .tuple #[.slice none 0 0, fault sc si]) (by simp [results, Try.results23, go_sem, fault, f0, f1, fl]) rfl ?_
      have hres : expandR T ms l = ([], sc, si) := by
        unfold expandR
        rw [Hq.out]
        simp only
        rw [if_neg (by simp), Hjl.out, Hq2.out, if_pos hsc]
      rw [hres]
      have hB := HB0.out
      refine expandP_nil ?_ _ _
      repeat' (first | (with_reducible exact Hbl.out) | (with_reducible refine Below.drew ?_) | (with_reducible refine below_set ?_ ?_ _ _) | omega)
  · have hne : (rc != 0) = true := by simpa using hec
    have hne2 : (rc == 0) = false := by simpa using hec
    go_wp2_with fail
    go_region
    all_goals go_wp2_with fail
    all_goals refine bodyPost_ret (v := .tuple #[.slice none 0 0, fault rc ri]) (by simp [results, Try.results23, go_sem, fault, f0, f1, fl]) rfl ?_
    have hres : expandR T ms l = ([], rc, ri) := by
      unfold expandR
      rw [Hq.out]
      simp only
      rw [if_pos hec]
    rw [hres]
    have hB := HB0.out
    refine expandP_nil ?_ _ _
    repeat' (first | (with_reducible exact Hbl.out) | (with_reducible refine Below.drew ?_) | (with_reducible refine below_set ?_ ?_ _ _) | omega)
end Go.Proofs.Ytnfeknfakkdbhaa
