/- Combined: the walk. -/
import Derived.Test.YtnfeknfakkdbhaaCu
import Derived.Test.YtnfeknfakkdbhaaCw
import Derived.Test.YtnfeknfakkdbhaaMc8
namespace Go.Proofs.Ytnfeknfakkdbhaa
set_option linter.unusedVariables false
set_option linter.unusedSimpArgs false
open Go.RowKit

set_option maxRecDepth 100000 in
set_option maxHeartbeats 6400000 in
theorem Combined_ct (a : TA) (T : Tsk) (N : Nat) (B : Option Addr) (m d : Nat) (l : List Int) (w : World) (h : TkR w a T) (hok : OkT T N) (hl : Rd Enc.int w B m d l) (hm : m ≤ 6) (hr : ∀ x ∈ l, 0 ≤ x ∧ x < T.ops.length) :
    Calls Try.prog 19 #[.agg #[.int .i64 T.facts, .slice a.I a.nI a.cI, .slice a.G a.nG a.cG, .slice a.O a.nO a.cO], .slice B m d] w (CombP N w (combF zeroOp (l.map (opAt T.ops)))) := by
  obtain ⟨i1, hi1, hy0, hy1, hy2⟩ := info_parts intInfoT
  obtain ⟨I, nI, cI, G, nG, cG, O, nO, cO⟩ := a
  have H := hide h
  have hlo := h.ops.low
  have Hlo := hide h.ops.len
  have Hf := hide hok.facts
  have hN := hok.low
  simp only at hlo ⊢
  have Hl := hide hl
  have Hll := hide hl.len
  have Hr := hide hr
  have Hok := hide hok
  obtain ⟨T0, T1, T2, T3⟩ := T
  have hT0 : T0 = (N : Int) := hok.facts
  subst hT0
  simp only at *
  have Hset := hide (show ∀ o ∈ l.map (opAt T3), SetOp N o ∧ meetB o.add o.del = false from fun o ho => by
    obtain ⟨x, hx, rfl⟩ := List.mem_map.1 ho
    have := hok.ops _ (opAt_mem (hr x hx).1 (hr x hx).2)
    exact ⟨this.sets, this.apart⟩)
  have Hcost := hide (show ∀ o ∈ T3, 0 ≤ o.cost ∧ o.cost ≤ 100 from fun o ho => ⟨(hok.ops o ho).low, (hok.ops o ho).high⟩)
  clear h hl hr hok
  go_enter Try.func19, Try.ntmps19
  go_upto_region 2 with (fail)
  have hT := ((Blk.new w 25 [.int .i64 N, .slice I nI cI, .slice G nG cG, .slice O nO cO]).alloc (.cells #[.slice none 0 0, .slice none 0 0, .slice none 0 0, .int .i64 0] 27)).alloc (.cells #[.slice none 0 0, .slice none 0 0, .slice none 0 0, .int .i64 0] 27)
  have hR := (Blk.new (w.alloc (.cells #[.int .i64 N, .slice I nI cI, .slice G nG cG, .slice O nO cO] 25)) 27 [.slice none 0 0, .slice none 0 0, .slice none 0 0, .int .i64 0]).alloc (.cells #[.slice none 0 0, .slice none 0 0, .slice none 0 0, .int .i64 0] 27)
  have hO := Blk.new ((w.alloc (.cells #[.int .i64 N, .slice I nI cI, .slice G nG cG, .slice O nO cO] 25)).alloc (.cells #[.slice none 0 0, .slice none 0 0, .slice none 0 0, .int .i64 0] 27)) 27 [.slice none 0 0, .slice none 0 0, .slice none 0 0, .int .i64 0]
  have hbl := below_three w (.cells #[.int .i64 N, .slice I nI cI, .slice G nG cG, .slice O nO cO] 25) (.cells #[.slice none 0 0, .slice none 0 0, .slice none 0 0, .int .i64 0] 27) (.cells #[.slice none 0 0, .slice none 0 0, .slice none 0 0, .int .i64 0] 27)
  simp only [World.size_alloc] at hR hO
  obtain ⟨W0, hW0⟩ : ∃ W0, W0 = ((w.alloc (.cells #[.int .i64 N, .slice I nI cI, .slice G nG cG, .slice O nO cO] 25)).alloc (.cells #[.slice none 0 0, .slice none 0 0, .slice none 0 0, .int .i64 0] 27)).alloc (.cells #[.slice none 0 0, .slice none 0 0, .slice none 0 0, .int .i64 0] 27) := ⟨_, rfl⟩
  rw [← hW0] at hT hR hO hbl ⊢
  obtain ⟨gT, hgT⟩ : ∃ g, g = w.heap.size := ⟨_, rfl⟩
  rw [← hgT] at hT hR hO ⊢
  have hS : CmS w W0 [.int .i64 N, .slice I nI cI, .slice G nG cG, .slice O nO cO] gT W0.heap.size ⟨none, 0, 0, [], []⟩ ⟨none, 0, 0, [], []⟩ ⟨none, 0, 0, [], []⟩ :=
    ⟨hT, hR, hO, hbl, ⟨OwnE.nil _ _ _ _ _, OwnE.nil _ _ _ _ _, OwnE.nil _ _ _ _ _, (fun _ e => (by cases e)), (fun _ e => (by cases e)), (fun _ e => (by cases e)), Nat.le_refl _⟩, hgT, hO.lt⟩
  have HS := hide hS
  clear hW0 hgT hT hR hO hbl hS
  obtain ⟨H0, hH0⟩ : ∃ H0, H0 = W0.heap.size := ⟨_, rfl⟩
  rw [← hH0] at HS
  clear hH0
  go_wp2_with fail
  go_loopw [7] (fun i wr => ∃ (p : Nat) (r s t : Ro), p ≤ N ∧ i = .int .i64 p ∧ CmS w wr [.int .i64 N, .slice I nI cI, .slice G nG cG, .slice O nO cO] gT H0 r s t ∧ r.l = (combTo (l.map (opAt T3)) p).pre ∧ s.l = (combTo (l.map (opAt T3)) p).add ∧ t.l = (combTo (l.map (opAt T3)) p).del ∧ ∀ q : Nat, q < p → ∃ s', fr (l.map (opAt T3)) (q : Int) = some s') (fun i _ => N - (intOf i).toNat)
  case atStart => exact ⟨0, _, _, _, by omega, rfl, HS.out, rfl, rfl, rfl, fun q hq => by omega⟩
  case round =>
    clear HS
    obtain ⟨p, r, s, t, hp, rfl, hS, hl1, hl2, hl3, hall⟩ := hrel
    have HS := hide hS
    have Hl1 := hide hl1
    have Hl2 := hide hl2
    have Hl3 := hide hl3
    have Hall := hide hall
    obtain ⟨c0, c1, c2, c3⟩ := hS.par.cell4
    clear hS hl1 hl2 hl3 hall
    by_cases hlt : p < N
    · go_wp2_with fail
      obtain ⟨wo, rfl⟩ : ∃ V, V = wr := ⟨_, rfl⟩
      go_loopw [8, 9, 10] (fun now ch i wq => ∃ (j : Nat) (st : FS) (r' : Ro), j ≤ m ∧ i = .int .i64 j ∧ now = .int .i64 st.now ∧ ch = .bool st.ch ∧ factRun (p : Int) ⟨0, false, false⟩ ((l.map (opAt T3)).take j) = some st ∧ CmS w wq [.int .i64 N, .slice I nI cI, .slice G nG cG, .slice O nO cO] gT H0 r' s t ∧
        r'.l = (combTo (l.map (opAt T3)) p).pre ++ (if st.pr = true then [(p : Int)] else []) ∧ (st.now = -1 ∨ st.now = 0 ∨ st.now = 1) ∧ (st.now = 0 → st.pr = false)) (fun _ _ i _ => m - (intOf i).toNat)
      case atStart => exact ⟨0, ⟨0, false, false⟩, r, by omega, rfl, rfl, rfl, rfl, HS.out, by rw [Hl1.out]; simp, .inr (.inl rfl), fun _ => rfl⟩
      case round =>
        clear HS c0 c1 c2 c3
        obtain ⟨j, ⟨now, ch, pr⟩, r', hj, rfl, rfl, rfl, hrun, hS, hl1, hone, hz⟩ := hrel
        simp only at hrun hl1 hone hz ⊢
        have HS := hide hS
        have Hrun := hide hrun
        have HL1 := hide hl1
        obtain ⟨c0, c1, c2, c3⟩ := hS.par.cell4
        have Hlow := hide hS.low
        clear hS hrun hl1
        by_cases hjm : j < m
        · obtain ⟨b, off, x, rfl, hx, hx1, hx2, hcx⟩ := (Hl.out.keep Hlow.out).int hjm
          have hxr := Hr.out x (List.mem_of_getElem? hx)
          obtain ⟨q, rfl⟩ : ∃ q : Nat, x = (q : Int) := ⟨x.toNat, by omega⟩
          have hq : q < nO := by have := Hlo.out; omega
          obtain ⟨b', off', o, B1, m1, d1, B2, m2, d2, B3, m3, d3, rfl, hoq, g0, g1, g2, g3, r1, r2, r3, r4⟩ := H.out.ops.op hq
          have hlt0 : b' < w.heap.size := World.block_lt_of_cell? w _ g0
          rw [← (olds Hlow.out).1 _ _ hlt0] at g0 g1 g2 g3
          clear hlt0
          have HP := hide (fun W (hb : Below w.heap.size w W) => Has_ct B1 m1 d1 o.pre (p : Int) W (r1.keep hb))
          have HA := hide (fun W (hb : Below w.heap.size w W) => Has_ct B2 m2 d2 o.add (p : Int) W (r2.keep hb))
          have HD := hide (fun W (hb : Below w.heap.size w W) => Has_ct B3 m3 d3 o.del (p : Int) W (r3.keep hb))
          have Ho := hide (show (l.map (opAt T3))[j]? = some o by rw [List.getElem?_map, hx]; exact congrArg some (opAt_eq hoq))
          clear hx hoq r1 r2 r3 r4 hxr
          have hlt1 : b < wr.heap.size := World.block_lt_of_cell? wr _ hcx
          have hlt2 : b' < wr.heap.size := World.block_lt_of_cell? wr _ g0
          have hlt3 : gT < wr.heap.size := HS.out.par.lt
          go_upto_region 10 with (fail)
          go_region
          go_wp2_with fail
          have hbA : Below wr.heap.size wr ((wr.alloc (.cells #[.slice B1 m1 d1, .slice B2 m2 d2, .slice B3 m3 d3, .int .i64 o.cost] 27)).drew) := ((Below.refl _ _).alloc (Nat.le_refl _) _).drew
          have hB1 : Blk 27 ((wr.alloc (.cells #[.slice B1 m1 d1, .slice B2 m2 d2, .slice B3 m3 d3, .int .i64 o.cost] 27)).drew) wr.heap.size [.slice B1 m1 d1, .slice B2 m2 d2, .slice B3 m3 d3, .int .i64 o.cost] := (Blk.new wr 27 [.slice B1 m1 d1, .slice B2 m2 d2, .slice B3 m3 d3, .int .i64 o.cost]).keep ((Below.refl _ _).drew)
          have HrA := hide (show ∀ q, blkA r'.A = some q → q < wr.heap.size from fun q hq => (HS.out.rows.r1.base hq).2)
          have hgx : gT + 1 + 1 < wr.heap.size := HS.out.out.lt
          obtain ⟨w1, hw1⟩ : ∃ W, W = ((wr.alloc (.cells #[.slice B1 m1 d1, .slice B2 m2 d2, .slice B3 m3 d3, .int .i64 o.cost] 27)).drew) := ⟨_, rfl⟩
          rw [← hw1] at hbA hB1 ⊢
          replace HS := hide (HS.out.keep hbA)
          have HB := hide hB1
          clear hw1 hbA hB1 Hlow c0 c1 c2 c3 g0 g1 g2 g3 hcx hlt1 hlt2 hlt3
          generalize wr.heap.size = gO at HB HrA hgx ⊢
          have HP1 := HP.out _ HS.out.low
          have hpn : r'.n ≤ 25 := by
            rw [← HS.out.rows.r1.len, HL1.out, List.length_append]
            have := combTo_pre (l.map (opAt T3)) p
            split <;> simp <;> omega
          by_cases hp : hasB o.pre (p : Int) = true
          · rw [hp] at HP1
            rcases hone with rfl | rfl | rfl
            · skip
              have hstop := run_stop Hrun.out Ho.out (step_stop hp (by show (-1 : Int) < 0; decide))
              have hnone : combF zeroOp (l.map (opAt T3)) = none := comb_stops (N := N) Hset.out hstop
              have Hnone := hide hnone
              clear hstop hnone
              have o0 := HB.out.cell 0
              simp only [List.getElem?_cons_zero, List.getElem?_cons_succ] at o0
              go_wp2_with fail
              with_reducible refine HP1.mono ?_
              rintro e w3 ⟨rfl, rfl⟩
              have z0 := HS.out.res.cell 0
              have z1 := HS.out.res.cell 1
              have z2 := HS.out.res.cell 2
              have z3 := HS.out.res.cell 3
              have zf0 := HS.out.res.frozen 0
              have zf1 := HS.out.res.frozen 1
              have zf2 := HS.out.res.frozen 2
              have zf3 := HS.out.res.frozen 3
              have zl := HS.out.res.lt
              simp only [zeroOpV, List.getElem?_cons_zero, List.getElem?_cons_succ] at z0 z1 z2 z3 zf0 zf1 zf2 zf3 zl
              have hg1 := HS.out.g1
              have HG1 := hide hg1
              clear hg1
              go_wp2_with fail
              refine bodyPost_ret (v := .tuple #[.agg #[.slice none 0 0, .slice none 0 0, .slice none 0 0, .int .i64 0], .bool false]) (by simp [results, Try.results19, go_sem, z0, z1, z2, z3, zl]) rfl ⟨?_, .inl ⟨Hnone.out, rfl⟩⟩
              have hg1 := HG1.out
              exact below_set (below_set (below_set (below_set HS.out.low (g := gT + 1) (by omega) 0 _) (g := gT + 1) (by omega) 1 _) (g := gT + 1) (by omega) 2 _) (g := gT + 1) (by omega) 3 _
            · skip
              have hgo : ¬ (hasB o.pre (p : Int) = true ∧ (0 : Int) < 0) := by omega
              obtain rfl := hz rfl
              have o0 := HB.out.cell 0
              simp only [List.getElem?_cons_zero, List.getElem?_cons_succ] at o0
              go_wp2_with fail
              with_reducible refine HP1.mono ?_
              rintro e w3 ⟨rfl, rfl⟩
              obtain ⟨c0, c1, c2, c3⟩ := HS.out.par.cell4
              have x0 := HS.out.out.cell 0
              have x1 := HS.out.out.cell 1
              have x2 := HS.out.out.cell 2
              have xf0 := HS.out.out.frozen 0
              have xf1 := HS.out.out.frozen 1
              have xf2 := HS.out.out.frozen 2
              have xl := HS.out.out.lt
              simp only [List.getElem?_cons_zero, List.getElem?_cons_succ] at x0 x1 x2 xf0 xf1 xf2 xl
              clear o0
              have hgn1 : ¬ gO = gT + 1 + 1 := by omega
              have hgn2 : ¬ gT + 1 + 1 = gO := by omega
              go_wp2_with
                (at_builtin
                 refine wpList_pushE rfl _ _ 22 rfl H0 3 i1 (.int .i64 0) 8 Try.underlying22 hi1 hy0 hy1 hy2 rfl (by decide) rfl HS.out.rows.r1 (fun q hq => (HS.out.rows.r1.base hq).1) [.int .i64 p] p (by intro u hu; simp at hu; subst hu; rfl) rfl (firm_int (by omega) (by omega)) (by omega) (by omega) HS.out.rows.size ?_
                 intro O6 oc6 w6 hown6 hch6 hat6
                 have hs9 := HS.out.push1 hown6 hch6 hat6
                 obtain ⟨hx1, hx2, hx9, hx3⟩ := HS.out.grown (fun q hq => (HS.out.rows.r1.base hq).1) hch6
                 have Hs9 := hide hs9
                 have hB9 := hch6.blk HB.out (fun e => by have := HrA.out _ e; omega)
                 have o1 := hB9.cell 1
                 have o2 := hB9.cell 2
                 simp only [List.getElem?_cons_zero, List.getElem?_cons_succ] at o1 o2
                 clear hB9
                 clear x0 x1 x2 xf0 xf1 xf2 xl c0 c1 c2 c3 hown6 hat6 hs9 hx1 hx2 hx3
                 have x0 := hx9.cell 0
                 have xf0 := hx9.frozen 0
                 have xl := hx9.lt
                 simp only [List.getElem?_cons_zero, List.getElem?_cons_succ] at x0 xf0 xl
                 clear hx9 hch6)
              clear x0 xf0 xl
              have HL9 := hide (show r'.l ++ [(p : Int)] = (combTo (l.map (opAt T3)) p).pre ++ (if true = true then [(p : Int)] else []) by rw [HL1.out]; simp)
              have HA2 := HA.out _ Hs9.out.low
              have HD2 := HD.out _ Hs9.out.low
              have hgo2 := step_go (s := ⟨0, ch, false⟩) hgo
              clear HA HD
              by_cases ha : hasB o.add (p : Int) = true
              · rw [ha] at HA2 hgo2
                by_cases hd : hasB o.del (p : Int) = true
                · rw [hd] at HD2 hgo2
                  have hnext := run_next (s' := ⟨(-1), true, true⟩) Hrun.out Ho.out (by rw [hgo2, hp]; simp)
                  have Hnext := hide hnext
                  clear hnext hgo2 ha hd
                  skip
                  with_reducible refine HA2.mono ?_
                  rintro e w3 ⟨rfl, rfl⟩
                  go_wp2_with fail
                  with_reducible refine HD2.mono ?_
                  rintro e w3 ⟨rfl, rfl⟩
                  go_wp2_with fail
                  go_roundw
                  case rel => exact ⟨j + 1, ⟨(-1), true, true⟩, ⟨O6, _, oc6, _, _⟩, by omega, by go_num, rfl, rfl, Hnext.out, Hs9.out, HL9.out, (by dsimp only; omega), (by simp)⟩
                  case measure => simp [intOf]; omega
                · have hd : hasB o.del (p : Int) = false := by simpa using hd
                  rw [hd] at HD2 hgo2
                  have hnext := run_next (s' := ⟨1, true, true⟩) Hrun.out Ho.out (by rw [hgo2, hp]; simp)
                  have Hnext := hide hnext
                  clear hnext hgo2 ha hd
                  skip
                  with_reducible refine HA2.mono ?_
                  rintro e w3 ⟨rfl, rfl⟩
                  go_wp2_with fail
                  with_reducible refine HD2.mono ?_
                  rintro e w3 ⟨rfl, rfl⟩
                  go_wp2_with fail
                  go_roundw
                  case rel => exact ⟨j + 1, ⟨1, true, true⟩, ⟨O6, _, oc6, _, _⟩, by omega, by go_num, rfl, rfl, Hnext.out, Hs9.out, HL9.out, (by dsimp only; omega), (by simp)⟩
                  case measure => simp [intOf]; omega
              · have ha : hasB o.add (p : Int) = false := by simpa using ha
                rw [ha] at HA2 hgo2
                by_cases hd : hasB o.del (p : Int) = true
                · rw [hd] at HD2 hgo2
                  have hnext := run_next (s' := ⟨(-1), true, true⟩) Hrun.out Ho.out (by rw [hgo2, hp]; simp)
                  have Hnext := hide hnext
                  clear hnext hgo2 ha hd
                  skip
                  with_reducible refine HA2.mono ?_
                  rintro e w3 ⟨rfl, rfl⟩
                  go_wp2_with fail
                  with_reducible refine HD2.mono ?_
                  rintro e w3 ⟨rfl, rfl⟩
                  go_wp2_with fail
                  go_roundw
                  case rel => exact ⟨j + 1, ⟨(-1), true, true⟩, ⟨O6, _, oc6, _, _⟩, by omega, by go_num, rfl, rfl, Hnext.out, Hs9.out, HL9.out, (by dsimp only; omega), (by simp)⟩
                  case measure => simp [intOf]; omega
                · have hd : hasB o.del (p : Int) = false := by simpa using hd
                  rw [hd] at HD2 hgo2
                  have hnext := run_next (s' := ⟨1, ch, true⟩) Hrun.out Ho.out (by rw [hgo2, hp]; simp)
                  have Hnext := hide hnext
                  clear hnext hgo2 ha hd
                  skip
                  with_reducible refine HA2.mono ?_
                  rintro e w3 ⟨rfl, rfl⟩
                  go_wp2_with fail
                  with_reducible refine HD2.mono ?_
                  rintro e w3 ⟨rfl, rfl⟩
                  go_wp2_with fail
                  go_roundw
                  case rel => exact ⟨j + 1, ⟨1, ch, true⟩, ⟨O6, _, oc6, _, _⟩, by omega, by go_num, rfl, rfl, Hnext.out, Hs9.out, HL9.out, (by dsimp only; omega), (by simp)⟩
                  case measure => simp [intOf]; omega
            · skip
              have hgo : ¬ (hasB o.pre (p : Int) = true ∧ (1 : Int) < 0) := by omega
              have o0 := HB.out.cell 0
              simp only [List.getElem?_cons_zero, List.getElem?_cons_succ] at o0
              go_wp2_with fail
              with_reducible refine HP1.mono ?_
              rintro e w3 ⟨rfl, rfl⟩
              have o1 := HB.out.cell 1
              have o2 := HB.out.cell 2
              simp only [List.getElem?_cons_zero, List.getElem?_cons_succ] at o1 o2
              have HA2 := HA.out _ HS.out.low
              have HD2 := HD.out _ HS.out.low
              have hgo2 := step_go (s := ⟨1, ch, pr⟩) hgo
              clear HA HD
              by_cases ha : hasB o.add (p : Int) = true
              · rw [ha] at HA2 hgo2
                by_cases hd : hasB o.del (p : Int) = true
                · rw [hd] at HD2 hgo2
                  have hnext := run_next (s' := ⟨(-1), true, pr⟩) Hrun.out Ho.out (by rw [hgo2, hp]; simp)
                  have Hnext := hide hnext
                  clear hnext hgo2 ha hd
                  go_wp2_with fail
                  with_reducible refine HA2.mono ?_
                  rintro e w3 ⟨rfl, rfl⟩
                  go_wp2_with fail
                  with_reducible refine HD2.mono ?_
                  rintro e w3 ⟨rfl, rfl⟩
                  go_wp2_with fail
                  go_roundw
                  case rel => exact ⟨j + 1, ⟨(-1), true, pr⟩, r', by omega, by go_num, rfl, rfl, Hnext.out, HS.out, HL1.out, (by dsimp only; omega), (by simp)⟩
                  case measure => simp [intOf]; omega
                · have hd : hasB o.del (p : Int) = false := by simpa using hd
                  rw [hd] at HD2 hgo2
                  have hnext := run_next (s' := ⟨1, true, pr⟩) Hrun.out Ho.out (by rw [hgo2, hp]; simp)
                  have Hnext := hide hnext
                  clear hnext hgo2 ha hd
                  go_wp2_with fail
                  with_reducible refine HA2.mono ?_
                  rintro e w3 ⟨rfl, rfl⟩
                  go_wp2_with fail
                  with_reducible refine HD2.mono ?_
                  rintro e w3 ⟨rfl, rfl⟩
                  go_wp2_with fail
                  go_roundw
                  case rel => exact ⟨j + 1, ⟨1, true, pr⟩, r', by omega, by go_num, rfl, rfl, Hnext.out, HS.out, HL1.out, (by dsimp only; omega), (by simp)⟩
                  case measure => simp [intOf]; omega
              · have ha : hasB o.add (p : Int) = false := by simpa using ha
                rw [ha] at HA2 hgo2
                by_cases hd : hasB o.del (p : Int) = true
                · rw [hd] at HD2 hgo2
                  have hnext := run_next (s' := ⟨(-1), true, pr⟩) Hrun.out Ho.out (by rw [hgo2, hp]; simp)
                  have Hnext := hide hnext
                  clear hnext hgo2 ha hd
                  go_wp2_with fail
                  with_reducible refine HA2.mono ?_
                  rintro e w3 ⟨rfl, rfl⟩
                  go_wp2_with fail
                  with_reducible refine HD2.mono ?_
                  rintro e w3 ⟨rfl, rfl⟩
                  go_wp2_with fail
                  go_roundw
                  case rel => exact ⟨j + 1, ⟨(-1), true, pr⟩, r', by omega, by go_num, rfl, rfl, Hnext.out, HS.out, HL1.out, (by dsimp only; omega), (by simp)⟩
                  case measure => simp [intOf]; omega
                · have hd : hasB o.del (p : Int) = false := by simpa using hd
                  rw [hd] at HD2 hgo2
                  have hnext := run_next (s' := ⟨1, ch, pr⟩) Hrun.out Ho.out (by rw [hgo2, hp]; simp)
                  have Hnext := hide hnext
                  clear hnext hgo2 ha hd
                  go_wp2_with fail
                  with_reducible refine HA2.mono ?_
                  rintro e w3 ⟨rfl, rfl⟩
                  go_wp2_with fail
                  with_reducible refine HD2.mono ?_
                  rintro e w3 ⟨rfl, rfl⟩
                  go_wp2_with fail
                  go_roundw
                  case rel => exact ⟨j + 1, ⟨1, ch, pr⟩, r', by omega, by go_num, rfl, rfl, Hnext.out, HS.out, HL1.out, (by dsimp only; omega), (by simp)⟩
                  case measure => simp [intOf]; omega
          · have hp : hasB o.pre (p : Int) = false := by simpa using hp
            rw [hp] at HP1
            have hgo : ¬ (hasB o.pre (p : Int) = true ∧ now < 0) := by rw [hp]; simp
            have o0 := HB.out.cell 0
            simp only [List.getElem?_cons_zero, List.getElem?_cons_succ] at o0
            go_wp2_with fail
            with_reducible refine HP1.mono ?_
            rintro e w3 ⟨rfl, rfl⟩
            have o1 := HB.out.cell 1
            have o2 := HB.out.cell 2
            simp only [List.getElem?_cons_zero, List.getElem?_cons_succ] at o1 o2
            have HA2 := HA.out _ HS.out.low
            have HD2 := HD.out _ HS.out.low
            have hgo2 := step_go (s := ⟨now, ch, pr⟩) hgo
            clear HA HD
            by_cases ha : hasB o.add (p : Int) = true
            · rw [ha] at HA2 hgo2
              by_cases hd : hasB o.del (p : Int) = true
              · rw [hd] at HD2 hgo2
                have hnext := run_next (s' := ⟨(-1), true, pr⟩) Hrun.out Ho.out (by rw [hgo2, hp]; simp)
                have Hnext := hide hnext
                clear hnext hgo2 ha hd
                go_wp2_with fail
                with_reducible refine HA2.mono ?_
                rintro e w3 ⟨rfl, rfl⟩
                go_wp2_with fail
                with_reducible refine HD2.mono ?_
                rintro e w3 ⟨rfl, rfl⟩
                go_wp2_with fail
                go_roundw
                case rel => exact ⟨j + 1, ⟨(-1), true, pr⟩, r', by omega, by go_num, rfl, rfl, Hnext.out, HS.out, HL1.out, (by dsimp only; omega), (by first | exact hz | simp)⟩
                case measure => simp [intOf]; omega
              · have hd : hasB o.del (p : Int) = false := by simpa using hd
                rw [hd] at HD2 hgo2
                have hnext := run_next (s' := ⟨1, true, pr⟩) Hrun.out Ho.out (by rw [hgo2, hp]; simp)
                have Hnext := hide hnext
                clear hnext hgo2 ha hd
                go_wp2_with fail
                with_reducible refine HA2.mono ?_
                rintro e w3 ⟨rfl, rfl⟩
                go_wp2_with fail
                with_reducible refine HD2.mono ?_
                rintro e w3 ⟨rfl, rfl⟩
                go_wp2_with fail
                go_roundw
                case rel => exact ⟨j + 1, ⟨1, true, pr⟩, r', by omega, by go_num, rfl, rfl, Hnext.out, HS.out, HL1.out, (by dsimp only; omega), (by first | exact hz | simp)⟩
                case measure => simp [intOf]; omega
            · have ha : hasB o.add (p : Int) = false := by simpa using ha
              rw [ha] at HA2 hgo2
              by_cases hd : hasB o.del (p : Int) = true
              · rw [hd] at HD2 hgo2
                have hnext := run_next (s' := ⟨(-1), true, pr⟩) Hrun.out Ho.out (by rw [hgo2, hp]; simp)
                have Hnext := hide hnext
                clear hnext hgo2 ha hd
                go_wp2_with fail
                with_reducible refine HA2.mono ?_
                rintro e w3 ⟨rfl, rfl⟩
                go_wp2_with fail
                with_reducible refine HD2.mono ?_
                rintro e w3 ⟨rfl, rfl⟩
                go_wp2_with fail
                go_roundw
                case rel => exact ⟨j + 1, ⟨(-1), true, pr⟩, r', by omega, by go_num, rfl, rfl, Hnext.out, HS.out, HL1.out, (by dsimp only; omega), (by first | exact hz | simp)⟩
                case measure => simp [intOf]; omega
              · have hd : hasB o.del (p : Int) = false := by simpa using hd
                rw [hd] at HD2 hgo2
                have hnext := run_next (s' := ⟨now, ch, pr⟩) Hrun.out Ho.out (by rw [hgo2, hp]; simp)
                have Hnext := hide hnext
                clear hnext hgo2 ha hd
                go_wp2_with fail
                with_reducible refine HA2.mono ?_
                rintro e w3 ⟨rfl, rfl⟩
                go_wp2_with fail
                with_reducible refine HD2.mono ?_
                rintro e w3 ⟨rfl, rfl⟩
                go_wp2_with fail
                go_roundw
                case rel => exact ⟨j + 1, ⟨now, ch, pr⟩, r', by omega, by go_num, rfl, rfl, Hnext.out, HS.out, HL1.out, (by dsimp only; omega), (by first | exact hz | simp)⟩
                case measure => simp [intOf]; omega
        · obtain rfl : j = m := by omega
          have hfr : fr (l.map (opAt T3)) (p : Int) = some ⟨now, ch, pr⟩ := by
            have := Hrun.out
            rwa [List.take_of_length_le (by rw [List.length_map, Hll.out]; omega)] at this
          obtain ⟨e1, e2, e3⟩ := combTo_succ hfr
          have Hall9 := hide (fr_next Hall.out hfr)
          rw [← HL1.out] at e1
          rw [← Hl2.out] at e2
          rw [← Hl3.out] at e3
          have hsn : s.n ≤ 25 := by
            rw [← HS.out.rows.r2.len, Hl2.out]
            have := combTo_add (l.map (opAt T3)) p
            omega
          have htn : t.n ≤ 25 := by
            rw [← HS.out.rows.r3.len, Hl3.out]
            have := combTo_del (l.map (opAt T3)) p
            omega
          have E1 := hide e1
          clear e1 hfr Hrun hz
          obtain ⟨c0, c1, c2, c3⟩ := HS.out.par.cell4
          have x0 := HS.out.out.cell 0
          have x1 := HS.out.out.cell 1
          have x2 := HS.out.out.cell 2
          have xf0 := HS.out.out.frozen 0
          have xf1 := HS.out.out.frozen 1
          have xf2 := HS.out.out.frozen 2
          have xl := HS.out.out.lt
          simp only [List.getElem?_cons_zero, List.getElem?_cons_succ] at x0 x1 x2 xf0 xf1 xf2 xl
          by_cases hcc : ch = true ∧ 0 < now
          · obtain ⟨rfl, hpos⟩ := hcc
            have hnn : ¬ now < 0 := by omega
            simp only [Bool.true_and, decide_eq_true hpos, decide_eq_false hnn] at e2 e3
            have E2 := hide (show s.l ++ [(p : Int)] = (combTo (l.map (opAt T3)) (p + 1)).add by rw [e2]; simp)
            have E3 := hide (show t.l = (combTo (l.map (opAt T3)) (p + 1)).del by rw [e3]; simp)
            clear e2 e3
            go_wp2_with
              (at_builtin
               refine wpList_pushE rfl _ _ 22 rfl H0 3 i1 (.int .i64 0) 8 Try.underlying22 hi1 hy0 hy1 hy2 rfl (by decide) rfl HS.out.rows.rot.r1 (fun q hq => (HS.out.rows.rot.r1.base hq).1) [.int .i64 p] p (by intro u hu; simp at hu; subst hu; rfl) rfl (firm_int (by omega) (by omega)) (by omega) (by omega) HS.out.rows.size ?_
               intro O6 oc6 w6 hown6 hch6 hat6
               have hs9 := HS.out.push2 hown6 hch6 hat6
               obtain ⟨hx1, hx2, hx9, hx3⟩ := HS.out.grown (fun q hq => (HS.out.rows.rot.r1.base hq).1) hch6
               have Hs9 := hide hs9
               skip
               clear x0 x1 x2 xf0 xf1 xf2 xl c0 c1 c2 c3 hown6 hat6 hs9 hx1 hx2 hx3
               have x1 := hx9.cell 1
               have xf1 := hx9.frozen 1
               have xl := hx9.lt
               simp only [List.getElem?_cons_zero, List.getElem?_cons_succ] at x1 xf1 xl
               clear hx9 hch6)
            go_roundw
            case rel => exact ⟨p + 1, r', ⟨O6, _, oc6, _, _⟩, t, by omega, by go_num, Hs9.out, E1.out.symm, E2.out, E3.out, Hall9.out⟩
            case measure => simp [intOf]; omega
          · by_cases hcd : ch = true ∧ now < 0
            · obtain ⟨rfl, hneg⟩ := hcd
              have hnn : ¬ 0 < now := by omega
              simp only [Bool.true_and, decide_eq_true hneg, decide_eq_false hnn] at e2 e3
              have E2 := hide (show s.l = (combTo (l.map (opAt T3)) (p + 1)).add by rw [e2]; simp)
              have E3 := hide (show t.l ++ [(p : Int)] = (combTo (l.map (opAt T3)) (p + 1)).del by rw [e3]; simp)
              clear e2 e3 hcc
              go_wp2_with
                (at_builtin
                 refine wpList_pushE rfl _ _ 22 rfl H0 3 i1 (.int .i64 0) 8 Try.underlying22 hi1 hy0 hy1 hy2 rfl (by decide) rfl HS.out.rows.rot.rot.r1 (fun q hq => (HS.out.rows.rot.rot.r1.base hq).1) [.int .i64 p] p (by intro u hu; simp at hu; subst hu; rfl) rfl (firm_int (by omega) (by omega)) (by omega) (by omega) HS.out.rows.size ?_
                 intro O6 oc6 w6 hown6 hch6 hat6
                 have hs9 := HS.out.push3 hown6 hch6 hat6
                 obtain ⟨hx1, hx2, hx9, hx3⟩ := HS.out.grown (fun q hq => (HS.out.rows.rot.rot.r1.base hq).1) hch6
                 have Hs9 := hide hs9
                 skip
                 clear x0 x1 x2 xf0 xf1 xf2 xl c0 c1 c2 c3 hown6 hat6 hs9 hx1 hx2 hx3
                 have x2 := hx9.cell 2
                 have xf2 := hx9.frozen 2
                 have xl := hx9.lt
                 simp only [List.getElem?_cons_zero, List.getElem?_cons_succ] at x2 xf2 xl
                 clear hx9 hch6)
              go_roundw
              case rel => exact ⟨p + 1, r', s, ⟨O6, _, oc6, _, _⟩, by omega, by go_num, Hs9.out, E1.out.symm, E2.out, E3.out, Hall9.out⟩
              case measure => simp [intOf]; omega
            · have E2 := hide (show s.l = (combTo (l.map (opAt T3)) (p + 1)).add by rw [e2, if_neg (by simpa using hcc)]; simp)
              have E3 := hide (show t.l = (combTo (l.map (opAt T3)) (p + 1)).del by rw [e3, if_neg (by simpa using hcd)]; simp)
              clear e2 e3
              cases ch with
              | false =>
                go_wp2_with fail
                go_roundw
                case rel => exact ⟨p + 1, r', s, t, by omega, by go_num, HS.out, E1.out.symm, E2.out, E3.out, Hall9.out⟩
                case measure => simp [intOf]; omega
              | true =>
                obtain rfl : now = 0 := by
                  have h1 : ¬ 0 < now := fun e => hcc ⟨rfl, e⟩
                  have h2 : ¬ now < 0 := fun e => hcd ⟨rfl, e⟩
                  omega
                go_wp2_with fail
                go_roundw
                case rel => exact ⟨p + 1, r', s, t, by omega, by go_num, HS.out, E1.out.symm, E2.out, E3.out, Hall9.out⟩
                case measure => simp [intOf]; omega
    · obtain rfl : p = N := by omega
      have hsome := comb_goes (N := p) Hset.out Hall.out
      have Hsome := hide hsome
      have hbT := Below.mono HS.out.low (Nat.le_refl _)
      have HC := hide (CostOf_ct ⟨I, nI, cI, G, nG, cG, O, nO, cO⟩ ⟨p, T1, T2, T3⟩ B m d l wr (H.out.keep HS.out.low) Hcost.out (Hl.out.keep HS.out.low) (by omega) Hr.out)
      clear hsome hbT
      go_wp2_with fail
      refine HC.out.mono ?_
      rintro e w3 ⟨rfl, hb⟩
      replace HS := hide (HS.out.keep hb)
      clear hb c0 c1 c2 c3
      have hg2 := HS.out.g1
      have HG1 := hide hg2
      clear hg2
      have z0 := HS.out.res.cell 0
      have z1 := HS.out.res.cell 1
      have z2 := HS.out.res.cell 2
      have z3 := HS.out.res.cell 3
      have zf0 := HS.out.res.frozen 0
      have zf1 := HS.out.res.frozen 1
      have zf2 := HS.out.res.frozen 2
      have zf3 := HS.out.res.frozen 3
      have zl := HS.out.res.lt
      simp only [zeroOpV, List.getElem?_cons_zero, List.getElem?_cons_succ] at z0 z1 z2 z3 zf0 zf1 zf2 zf3 zl
      have x0 := HS.out.out.cell 0
      have x1 := HS.out.out.cell 1
      have x2 := HS.out.out.cell 2
      have x3 := HS.out.out.cell 3
      have xf3 := HS.out.out.frozen 3
      have xl := HS.out.out.lt
      simp only [List.getElem?_cons_zero, List.getElem?_cons_succ] at x0 x1 x2 x3 xf3 xl
      have hgn1 : ¬ gT + 1 = gT + 1 + 1 := by omega
      have hgn2 : ¬ gT + 1 + 1 = gT + 1 := by omega
      go_wp2_with fail
      refine bodyPost_ret (v := .tuple #[.agg #[.slice r.A r.n r.c, .slice s.A s.n s.c, .slice t.A t.n t.c, .int .i64 (costF T3 l)], .bool true]) (by simp [results, Try.results19, go_sem, z0, z1, z2, z3, zl]) rfl ⟨?_, .inr ⟨combTo (l.map (opAt T3)) p, r.A, r.n, r.c, s.A, s.n, s.c, t.A, t.n, t.c, Hsome.out, ?_, ?_, ?_, ?_, ?_⟩⟩
      · have hg1 := HG1.out
        exact below_set (below_set (below_set (below_set (below_set HS.out.low (g := gT + 1 + 1) (by omega) 3 _) (g := gT + 1) (by omega) 0 _) (g := gT + 1) (by omega) 1 _) (g := gT + 1) (by omega) 2 _) (g := gT + 1) (by omega) 3 _
      · have hcst : costF T3 l = (combTo (l.map (opAt T3)) p).cost := by
          unfold costF combTo
          rw [List.map_map]
          rfl
        rw [hcst]
      · have hset9 := (combF_sets _ zeroOp _ (zero_sets p) (fun o ho => (Hset.out o ho).1) Hsome.out).1
        have hg1 := HG1.out
        have hg3 := HS.out.g2
        have key := RdN.own (X := gT + 1 + 1) HS.out.rows.r1.ints hg3 HS.out.rows.r1.len (fun x hx => by
          rw [Hl1.out] at hx
          have := (setB_iff.1 hset9.pre).2 x hx
          omega)
        rw [← Hl1.out]
        exact (((((key.set (Y := gT + 1 + 1) (by omega) 3 _).set (Y := gT + 1) (by omega) 0 _).set (Y := gT + 1) (by omega) 1 _).set (Y := gT + 1) (by omega) 2 _).set (Y := gT + 1) (by omega) 3 _).less (by omega)
      · have hset9 := (combF_sets _ zeroOp _ (zero_sets p) (fun o ho => (Hset.out o ho).1) Hsome.out).1
        have hg1 := HG1.out
        have hg3 := HS.out.g2
        have key := RdN.own (X := gT + 1 + 1) HS.out.rows.r2.ints hg3 HS.out.rows.r2.len (fun x hx => by
          rw [Hl2.out] at hx
          have := (setB_iff.1 hset9.add).2 x hx
          omega)
        rw [← Hl2.out]
        exact (((((key.set (Y := gT + 1 + 1) (by omega) 3 _).set (Y := gT + 1) (by omega) 0 _).set (Y := gT + 1) (by omega) 1 _).set (Y := gT + 1) (by omega) 2 _).set (Y := gT + 1) (by omega) 3 _).less (by omega)
      · have hset9 := (combF_sets _ zeroOp _ (zero_sets p) (fun o ho => (Hset.out o ho).1) Hsome.out).1
        have hg1 := HG1.out
        have hg3 := HS.out.g2
        have key := RdN.own (X := gT + 1 + 1) HS.out.rows.r3.ints hg3 HS.out.rows.r3.len (fun x hx => by
          rw [Hl3.out] at hx
          have := (setB_iff.1 hset9.del).2 x hx
          omega)
        rw [← Hl3.out]
        exact (((((key.set (Y := gT + 1 + 1) (by omega) 3 _).set (Y := gT + 1) (by omega) 0 _).set (Y := gT + 1) (by omega) 1 _).set (Y := gT + 1) (by omega) 2 _).set (Y := gT + 1) (by omega) 3 _).less (by omega)
      · exact (combF_sets _ zeroOp _ (zero_sets p) (fun o ho => (Hset.out o ho).1) Hsome.out).1
end Go.Proofs.Ytnfeknfakkdbhaa
