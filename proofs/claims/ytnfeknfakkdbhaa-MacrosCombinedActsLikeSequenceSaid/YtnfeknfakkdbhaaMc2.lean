/- A sequence of operators as one, by the package macros. -/
import Derived.Test.YtnfeknfakkdbhaaMc1
import Derived.Deep.DeepCutAuto
import Derived.Deep.RegionHeld3
namespace Go.Proofs.Ytnfeknfakkdbhaa
set_option linter.unusedVariables false
set_option linter.unusedSimpArgs false
open Go.RowKit

/-- what combine hands back -/
def CombP (n : Nat) (w : World) (r : Option Opr) (e : Ending) (w' : World) : Prop :=
  Below w.heap.size w w' ∧ ((r = none ∧ e = .returned (.tuple #[.agg #[.slice none 0 0, .slice none 0 0, .slice none 0 0, .int .i64 0], .bool false])) ∨
    ∃ (o : Opr) (A1 : Option Addr) (n1 c1 : Nat) (A2 : Option Addr) (n2 c2 : Nat) (A3 : Option Addr) (n3 c3 : Nat), r = some o ∧ e = .returned (.tuple #[.agg #[.slice A1 n1 c1, .slice A2 n2 c2, .slice A3 n3 c3, .int .i64 o.cost], .bool true]) ∧
      RdN w.heap.size w' A1 n1 c1 o.pre ∧ RdN w.heap.size w' A2 n2 c2 o.add ∧ RdN w.heap.size w' A3 n3 c3 o.del ∧ SetOp n o)
set_option maxRecDepth 100000 in
set_option maxHeartbeats 6400000 in
theorem combine_ct (a : TA) (T : Tsk) (N : Nat) (B : Option Addr) (m d : Nat) (l : List Int) (w : World) (h : TkR w a T) (hok : OkT T N) (hl : Rd Enc.int w B m d l) (hm : m ≤ 1000) (hr : ∀ x ∈ l, 0 ≤ x ∧ x < T.ops.length) :
    Calls Try.prog 58 #[.agg #[.int .i64 T.facts, .slice a.I a.nI a.cI, .slice a.G a.nG a.cG, .slice a.O a.nO a.cO], .slice B m d] w (CombP N w (combF ⟨[], [], [], 0⟩ (l.map (opAt T.ops)))) := by
  obtain ⟨I, nI, cI, G, nG, cG, O, nO, cO⟩ := a
  obtain ⟨⟨hf1, hf2⟩, hi, hg, ho⟩ := h
  simp only at hi hg ho ⊢
  have hlo := ho.low
  have Hlo := hide ho.len
  have Ho := hide ho
  have Hl := hide hl
  have Hll := hide hl.len
  have Hr := hide hr
  have Hok := hide hok
  clear hi hg ho hl hr hok
  go_enter Try.func58, Try.ntmps58
  go_upto_region 2 with (fail)
  have hT := ((Blk.new w 25 [.int .i64 T.facts, .slice I nI cI, .slice G nG cG, .slice O nO cO]).alloc (.cells #[.slice none 0 0, .slice none 0 0, .slice none 0 0, .int .i64 0] 27)).alloc (.cells #[.slice none 0 0, .slice none 0 0, .slice none 0 0, .int .i64 0] 27)
  have hR := (Blk.new (w.alloc (.cells #[.int .i64 T.facts, .slice I nI cI, .slice G nG cG, .slice O nO cO] 25)) 27 [.slice none 0 0, .slice none 0 0, .slice none 0 0, .int .i64 0]).alloc (.cells #[.slice none 0 0, .slice none 0 0, .slice none 0 0, .int .i64 0] 27)
  have hO := Blk.new ((w.alloc (.cells #[.int .i64 T.facts, .slice I nI cI, .slice G nG cG, .slice O nO cO] 25)).alloc (.cells #[.slice none 0 0, .slice none 0 0, .slice none 0 0, .int .i64 0] 27)) 27 [.slice none 0 0, .slice none 0 0, .slice none 0 0, .int .i64 0]
  have hbl := below_three w (.cells #[.int .i64 T.facts, .slice I nI cI, .slice G nG cG, .slice O nO cO] 25) (.cells #[.slice none 0 0, .slice none 0 0, .slice none 0 0, .int .i64 0] 27) (.cells #[.slice none 0 0, .slice none 0 0, .slice none 0 0, .int .i64 0] 27)
  simp only [World.size_alloc] at hR hO
  obtain ⟨W0, hW0⟩ : ∃ W0, W0 = ((w.alloc (.cells #[.int .i64 T.facts, .slice I nI cI, .slice G nG cG, .slice O nO cO] 25)).alloc (.cells #[.slice none 0 0, .slice none 0 0, .slice none 0 0, .int .i64 0] 27)).alloc (.cells #[.slice none 0 0, .slice none 0 0, .slice none 0 0, .int .i64 0] 27) := ⟨_, rfl⟩
  rw [← hW0] at hT hR hO hbl ⊢
  obtain ⟨gT, hgT⟩ : ∃ g, g = w.heap.size := ⟨_, rfl⟩
  obtain ⟨gR, hgR⟩ : ∃ g, g = w.heap.size + 1 := ⟨_, rfl⟩
  obtain ⟨gO, hgO⟩ : ∃ g, g = w.heap.size + 1 + 1 := ⟨_, rfl⟩
  rw [← hgO, ← hgR, ← hgT]
  rw [← hgT] at hT
  rw [← hgR] at hR
  rw [← hgO] at hO
  have hTR : gT < gR := by omega
  have hRO : gR < gO := by omega
  have hRO1 : gR + 1 = gO := by omega
  have hwT : w.heap.size ≤ gT := by omega
  have HT := hide hT
  have HR := hide hR
  have HOut := hide hO
  have Hbl := hide hbl
  clear hW0 hgT hgR hgO hT hR hO hbl
  go_wp2_with fail
  go_loopw [12] (fun i wr => ∃ (k : Nat) (cur : Opr) (A1 : Option Addr) (n1 c1 : Nat) (A2 : Option Addr) (n2 c2 : Nat) (A3 : Option Addr) (n3 c3 : Nat), k ≤ m ∧ i = .int .i64 k ∧ Blk 25 wr gT [.int .i64 T.facts, .slice I nI cI, .slice G nG cG, .slice O nO cO] ∧
    Blk 27 wr gR [.slice none 0 0, .slice none 0 0, .slice none 0 0, .int .i64 0] ∧ Blk 27 wr gO [.slice A1 n1 c1, .slice A2 n2 c2, .slice A3 n3 c3, .int .i64 cur.cost] ∧
    RdN gO wr A1 n1 c1 cur.pre ∧ RdN gO wr A2 n2 c2 cur.add ∧ RdN gO wr A3 n3 c3 cur.del ∧ SetOp N cur ∧ 0 ≤ cur.cost ∧ cur.cost ≤ 100 * (k : Int) ∧ Below w.heap.size w wr ∧ combF ⟨[], [], [], 0⟩ (l.map (opAt T.ops)) = combF cur ((l.drop k).map (opAt T.ops))) (fun i _ => m - (intOf i).toNat)
  case atStart => exact ⟨0, ⟨[], [], [], 0⟩, none, 0, 0, none, 0, 0, none, 0, 0, by omega, rfl, HT.out, HR.out, HOut.out, RdN.nil _ _, RdN.nil _ _, RdN.nil _ _, ⟨by simp [setB], by simp [setB], by simp [setB]⟩, by simp, by simp, Hbl.out, by simp⟩
  case round =>
    clear HT HR HOut Hbl
    obtain ⟨k, cur, A1, n1, c1, A2, n2, c2, A3, n3, c3, hk, rfl, hT, hR, hO, x1, x2, x3, hset, hc0, hc1, hbl, hrel⟩ := hrel
    obtain ⟨t0, t1, t2, t3⟩ := hT.cell4
    have HT := hide hT
    have HR := hide hR
    have HOut := hide hO
    have X1 := hide x1
    have X2 := hide x2
    have X3 := hide x3
    have Hset := hide hset
    have Hbl := hide hbl
    have Hrel := hide hrel
    clear hT hR hO x1 x2 x3 hset hbl hrel
    by_cases hlt : k < m
    · obtain ⟨b, off, x, rfl, hx, hx1, hx2, hcx⟩ := (Hl.out.keep Hbl.out).int hlt
      have hxr := Hr.out x (List.mem_of_getElem? hx)
      obtain ⟨q, rfl⟩ : ∃ q : Nat, x = (q : Int) := ⟨x.toNat, by omega⟩
      have hq : q < nO := by have := Hlo.out; omega
      obtain ⟨b', off', o, B1, m1, d1, B2, m2, d2, B3, m3, d3, rfl, hoq, g0, g1, g2, g3, r1, r2, r3, r4⟩ := Ho.out.op hq
      replace g0 := (Hbl.out.cell (p := ⟨b', off' + q * 4, none⟩) (World.block_lt_of_cell? w _ g0)).trans g0
      replace g1 := (Hbl.out.cell (p := ⟨b', off' + q * 4 + 1, none⟩) (World.block_lt_of_cell? w _ g1)).trans g1
      replace g2 := (Hbl.out.cell (p := ⟨b', off' + q * 4 + 2, none⟩) (World.block_lt_of_cell? w _ g2)).trans g2
      replace g3 := (Hbl.out.cell (p := ⟨b', off' + q * 4 + 3, none⟩) (World.block_lt_of_cell? w _ g3)).trans g3
      have hoo := Hok.out.ops o (List.mem_of_getElem? hoq)
      have Hoo := hide hoo
      have ho1 := hoo.low
      have ho2 := hoo.high
      have Hd := hide (show (l.drop k).map (opAt T.ops) = o :: (l.drop (k + 1)).map (opAt T.ops) by rw [drop_cons hx, List.map_cons, opAt_eq hoq])
      have htO := HOut.out.lt
      have htR := HR.out.lt
      have htT := HT.out.lt
      clear hx hoq r4 hxr hoo
      go_upto_region 6 with (fail)
      have hY := Blk.new wr 27 [.slice B1 m1 d1, .slice B2 m2 d2, .slice B3 m3 d3, .int .i64 o.cost]
      have hb := (Below.refl wr.heap.size wr).alloc (Nat.le_refl _) (.cells #[.slice B1 m1 d1, .slice B2 m2 d2, .slice B3 m3 d3, .int .i64 o.cost] 27)
      obtain ⟨w3, hw3⟩ : ∃ w3, w3 = wr.alloc (.cells #[.slice B1 m1 d1, .slice B2 m2 d2, .slice B3 m3 d3, .int .i64 o.cost] 27) := ⟨_, rfl⟩
      rw [← hw3] at hY hb ⊢
      have hOY : gO < wr.heap.size := htO
      replace HT := hide (HT.out.keep hb)
      replace HR := hide (HR.out.keep hb)
      replace HOut := hide (HOut.out.keep hb)
      replace X1 := hide (X1.out.keep hb)
      replace X2 := hide (X2.out.keep hb)
      replace X3 := hide (X3.out.keep hb)
      replace Hbl := hide (Hbl.out.trans (hb.mono Hbl.out.size))
      have Y1 := hide (RdX.old (X := gO) r1 Hbl.out (by omega))
      have Y2 := hide (RdX.old (X := gO) r2 Hbl.out (by omega))
      have Y3 := hide (RdX.old (X := gO) r3 Hbl.out (by omega))
      clear hw3 hb g0 g1 g2 g3 t0 t1 t2 t3 r1 r2 r3
      generalize wr.heap.size = gY at hY hOY ⊢
      have HY := hide hY
      obtain ⟨z0, z1, z2, z3⟩ := HY.out.cell4
      obtain ⟨o0, o1, o2, o3⟩ := HOut.out.cell4
      have zl := HY.out.lt
      clear hY htO htR htT
      have hms := Meets_ct B1 A3 m1 d1 n3 c3 o.pre cur.del w3 Y1.out.rd X3.out.rd (up_le (setB_iff.1 Hset.out.del).1) (by have := setB_len Hset.out.del; have := Hok.out.low; have := X3.out.rd.len; omega)
      rcases em : meetB o.pre cur.del with _ | _
      · rw [em] at hms
        have hstep : combF cur (o :: (l.drop (k + 1)).map (opAt T.ops)) = combF (combStep cur o) ((l.drop (k + 1)).map (opAt T.ops)) := by rw [combF, if_neg (by simp [em])]
        have Hstep := hide hstep
        clear em hstep
        go_wp2_with fail
        refine hms.mono ?_
        rintro e w4 ⟨rfl, hb⟩
        clear hms z0 z1 z2 z3 o0 o1 o2 o3 zl
        replace HT := hide (HT.out.keep hb)
        replace HR := hide (HR.out.keep hb)
        replace HOut := hide (HOut.out.keep hb)
        replace HY := hide (HY.out.keep hb)
        replace X1 := hide (X1.out.keep hb)
        replace X2 := hide (X2.out.keep hb)
        replace X3 := hide (X3.out.keep hb)
        replace Y1 := hide (Y1.out.keep hb)
        replace Y2 := hide (Y2.out.keep hb)
        replace Y3 := hide (Y3.out.keep hb)
        replace Hbl := hide (Hbl.out.trans (hb.mono Hbl.out.size))
        clear hb
        obtain ⟨z0, z1, z2, z3⟩ := HY.out.cell4
        obtain ⟨o0, o1, o2, o3⟩ := HOut.out.cell4
        have zl := HY.out.lt
        have l1 : m1 ≤ 24 := by have := setB_len Hoo.out.pre; have := Hok.out.low; have := Y1.out.rd.len; omega
        have l2 : m2 ≤ 24 := by have := setB_len Hoo.out.add; have := Hok.out.low; have := Y2.out.rd.len; omega
        have l3 : m3 ≤ 24 := by have := setB_len Hoo.out.del; have := Hok.out.low; have := Y3.out.rd.len; omega
        have k1 : n1 ≤ 24 := by have := setB_len Hset.out.pre; have := Hok.out.low; have := X1.out.rd.len; omega
        have k2 : n2 ≤ 24 := by have := setB_len Hset.out.add; have := Hok.out.low; have := X2.out.rd.len; omega
        have k3 : n3 ≤ 24 := by have := setB_len Hset.out.del; have := Hok.out.low; have := X3.out.rd.len; omega
        have hnY : ¬ gO = gY := by omega
        have hnY2 : ¬ gY = gO := by omega
        have hu0 : setB N (updF o.pre [] cur.add) = true := updF_set (setB_iff.1 Hoo.out.pre).2 (by simp)
        obtain ⟨u, hu⟩ : ∃ u, u = updF o.pre [] cur.add := ⟨_, rfl⟩
        rw [← hu] at hu0
        have lu : u.length ≤ 24 := by have := setB_len hu0; have := Hok.out.low; omega
        have Hu := hide hu
        have Hu0 := hide hu0
        clear hu hu0
        go_wp2_with fail
        refine wp_region_held_drew (S := (fun w' => w'.cell? ⟨gO, 1, none⟩ = some (.slice A2 n2 c2) ∧ w'.cell? ⟨gY, 0, none⟩ = some (.slice B1 m1 d1))) (by kernel_rfl) ?_ (fun hHeld => ?_)
        · (try dsimp only); exact ⟨o1, z0⟩
        refine takeM (i := 0) (v := ?_) (some 27) rfl rfl (by kernel_rfl) (by kernel_rfl) (by kernel_rfl) (fun _ _ _ h => h) (Or.inl ⟨by rfl, ?_⟩) (by assumption) ?_
        rotate_left
        · intro w hSw; (try dsimp only at hSw); obtain ⟨s1, s2⟩ := hSw; first | (go_simp; done) | (go_simp; with_reducible rfl)
        try simp only [Act.put, List.setIfInBounds_toArray, List.set_cons_zero, List.set_cons_succ]
        refine takeM (i := 2) (v := ?_) (some 29) rfl rfl (by kernel_rfl) (by kernel_rfl) (by kernel_rfl) (fun _ _ _ h => h) (Or.inl ⟨by rfl, ?_⟩) (by assumption) ?_
        rotate_left
        · intro w hSw; (try dsimp only at hSw); obtain ⟨s1, s2⟩ := hSw; first | (go_simp; done) | (go_simp; with_reducible rfl)
        try simp only [Act.put, List.setIfInBounds_toArray, List.set_cons_zero, List.set_cons_succ]
        refine takeM (i := 3) (v := ?_) (some 30) rfl rfl (by kernel_rfl) (by kernel_rfl) (by kernel_rfl) (fun _ _ _ h => h) (Or.inl ⟨by rfl, ?_⟩) (by assumption) ?_
        rotate_left
        · intro w hSw; (try dsimp only at hSw); obtain ⟨s1, s2⟩ := hSw; first | (go_simp; done) | (go_simp; with_reducible rfl)
        try simp only [Act.put, List.setIfInBounds_toArray, List.set_cons_zero, List.set_cons_succ]
        refine takeM (i := 4) (v := ?_) (some 31) rfl rfl (by kernel_rfl) (by kernel_rfl) (by kernel_rfl) (fun _ _ _ h => h) (Or.inl ⟨by rfl, ?_⟩) (by assumption) ?_
        rotate_left
        · intro w hSw; (try dsimp only at hSw); obtain ⟨s1, s2⟩ := hSw; first | (go_simp; done) | (go_simp; with_reducible rfl)
        try simp only [Act.put, List.setIfInBounds_toArray, List.set_cons_zero, List.set_cons_succ]
        refine takeM (i := 5) (v := ?_) (some 32) rfl rfl (by kernel_rfl) (by kernel_rfl) (by kernel_rfl) (fun _ _ _ h => h) (Or.inl ⟨by rfl, ?_⟩) (by assumption) ?_
        rotate_left
        · intro w hSw; (try dsimp only at hSw); obtain ⟨s1, s2⟩ := hSw; first | (go_simp; done) | (go_simp; with_reducible rfl)
        try simp only [Act.put, List.setIfInBounds_toArray, List.set_cons_zero, List.set_cons_succ]
        refine wpAnyH_ready (rs := [1, 6]) (by kernel_rfl) (by simp) ?_
        refine AllReadyH.cons rfl (fun K hK => ?_) (AllReadyH.cons rfl (fun K hK => ?_) AllReadyH.nil)
        · skip
          go_simp
          refine hK.out _ _ ?_ (fun hHeld2 => ?_)
          · (try dsimp only); exact ⟨o1, z0⟩
          clear hK K hHeld
          try simp only [Act.put, List.setIfInBounds_toArray, List.set_cons_zero, List.set_cons_succ]
          have hHeld := hHeld2; clear hHeld2
          refine wpAnyH_ready (rs := [6]) (by kernel_rfl) (by simp) ?_
          refine AllReadyH.cons rfl (fun K hK => ?_) AllReadyH.nil
          go_simp
          with_reducible refine (Update_ct B1 none A2 m1 d1 0 0 n2 c2 o.pre [] cur.add _ (Y1.out.rd.qt (Qt.refl _).drew) (Rd.nil_ _ _) (X2.out.rd.qt (Qt.refl _).drew) (by omega) (by omega) (by omega) (up_le (setB_iff.1 Hset.out.add).1)).mono ?_
          rintro e wu ⟨hbu, Au, cu, rfl, hou⟩
          rw [← Hu.out] at hou ⊢
          have Hou := hide hou
          have Hbu := hide hbu
          obtain ⟨p0, p1, p2, p3⟩ := ((HOut.out.qt (Qt.refl w4).drew).keep hbu).cell4
          obtain ⟨q0, q1, q2, q3⟩ := ((HY.out.qt (Qt.refl w4).drew).keep hbu).cell4
          have pl := ((HOut.out.qt (Qt.refl w4).drew).keep hbu).lt
          clear hou hbu p2 p3 q1 q2 q3
          refine hK.out _ _ ?_ (fun hHeld2 => ?_)
          · (try dsimp only); exact ⟨p1, q0⟩
          clear hK K hHeld
          try simp only [Act.put, List.setIfInBounds_toArray, List.set_cons_zero, List.set_cons_succ]
          have hHeld := hHeld2; clear hHeld2
          refine wpAnyH_ready (rs := [7]) (by kernel_rfl) (by simp) ?_
          refine AllReadyH.cons rfl (fun K hK => ?_) AllReadyH.nil
          go_simp
          with_reducible refine (Union_ct A1 Au n1 c1 u.length cu cur.pre u wu ((X1.out.rd.qt (Qt.refl w4).drew).keep Hbu.out) (own_rd Hou.out rfl (set_small Hu0.out (by have := Hok.out.low; omega))) (by omega) (by omega)).mono ?_
          rintro e wv ⟨hbv, Av, cv, rfl, hov⟩
          have Hov := hide hov
          have Hbv := hide hbv
          have HOv := hide (((HOut.out.qt (Qt.refl w4).drew).keep Hbu.out).keep hbv)
          have HYv := hide (((HY.out.qt (Qt.refl w4).drew).keep Hbu.out).keep hbv)
          obtain ⟨v0, v1, v2, v3⟩ := HOv.out.cell4
          obtain ⟨x0, x1, x2, x3⟩ := HYv.out.cell4
          have hfz := HOv.out.frozen 0
          have hlz := HOv.out.lt
          clear hov hbv v2 v3 x1 x2 x3
          refine hK.out _ _ ?_ (fun hHeld2 => ?_)
          · (try dsimp only); exact ⟨v1, x0⟩
          clear hK K hHeld
          try simp only [Act.put, List.setIfInBounds_toArray, List.set_cons_zero, List.set_cons_succ]
          have hHeld := hHeld2; clear hHeld2
          refine takeM (i := 8) (v := ?_) (some 35) rfl rfl (by kernel_rfl) (by kernel_rfl) (by kernel_rfl) (fun _ _ _ h => h) (Or.inl ⟨by rfl, ?_⟩) (by assumption) ?_
          rotate_left
          · intro w hSw; (try dsimp only at hSw); obtain ⟨s1, s2⟩ := hSw; first | (go_simp; done) | (go_simp; with_reducible rfl)
          try simp only [Act.put, List.setIfInBounds_toArray, List.set_cons_zero, List.set_cons_succ]
          have hsO := HOv.out.set 0 (.slice Av (updF cur.pre u []).length cv)
          have hsY := HYv.out.far (p := ⟨gO, 0, none⟩) (by show gY ≠ gO; omega) (.slice Av (updF cur.pre u []).length cv)
          simp only [List.set_cons_zero] at hsO
          have hs1 := hsO.cell 1
          have hs2 := hsY.cell 0
          simp only [List.getElem?_cons_zero, List.getElem?_cons_succ] at hs1 hs2
          have HsO := hide hsO
          have HsY := hide hsY
          clear hsO hsY
          refine wpAnyH_ready (rs := [9]) (by kernel_rfl) (by simp) ?_
          refine AllReadyH.cons rfl (fun K hK => ?_) AllReadyH.nil
          go_simp
          refine hK.out _ _ ?_ (fun hHeld2 => ?_)
          · (try dsimp only); exact ⟨hs1, hs2⟩
          clear hK K hHeld
          try simp only [Act.put, List.setIfInBounds_toArray, List.set_cons_zero, List.set_cons_succ]
          have hHeld := hHeld2; clear hHeld2
          refine wpAnyH_done (by kernel_rfl) ?_ _
          have hch := fun (g : Nat) (t : TypeId) (cs : List Value) (h : Blk t w4 g cs) (hne : g ≠ gO) => (((h.qt (Qt.refl w4).drew).keep Hbu.out).keep Hbv.out).far (p := ⟨gO, 0, none⟩) hne (.slice Av (updF cur.pre u []).length cv)
          have hx9 := fun (A : Option Addr) (n c : Nat) (l : List Int) (h : RdX gO w4 A n c l) => (((h.keep ((Qt.refl w4).drew.below _)).keep Hbu.out).keep Hbv.out).set 0 (.slice Av (updF cur.pre u []).length cv)
          replace HT := hide (hch gT _ _ HT.out (by omega))
          replace HR := hide (hch gR _ _ HR.out (by omega))
          have hx8 := fun (A : Option Addr) (n c : Nat) (l : List Int) (h : RdN gO w4 A n c l) => (((h.keep ((Qt.refl w4).drew.below _)).keep Hbu.out).keep Hbv.out).set (Nat.le_refl gO) 0 (.slice Av (updF cur.pre u []).length cv)
          replace X2 := hide (hx8 _ _ _ _ X2.out)
          replace X3 := hide (hx8 _ _ _ _ X3.out)
          replace Y1 := hide (hx9 _ _ _ _ Y1.out)
          replace Y2 := hide (hx9 _ _ _ _ Y2.out)
          replace Y3 := hide (hx9 _ _ _ _ Y3.out)
          have hsp : setB N (updF cur.pre u []) = true := updF_set (setB_iff.1 Hset.out.pre).2 (setB_iff.1 Hu0.out).2
          have hx1 : RdN gO wv Av (updF cur.pre u []).length cv (updF cur.pre u [])   := RdN.own Hov.out (Nat.lt_of_lt_of_le pl (Nat.le_refl _)) rfl (set_small hsp (by have := Hok.out.low; omega))
          replace X1 := hide (hx1.set (Nat.le_refl gO) 0 (.slice Av (updF cur.pre u []).length cv))
          have hbl9 := below_set (((Hbl.out.drew).trans (Hbu.out.mono (by have := Hbl.out.size; exact this))).trans (Hbv.out.mono (by have := Hbl.out.size; have := Hbu.out.size; exact Nat.le_trans Hbl.out.size Hbu.out.size))) (g := gO) (by omega) 0 (.slice Av (updF cur.pre u []).length cv)
          replace Hbl := hide hbl9
          obtain ⟨pp, hpp⟩ : ∃ pp, pp = updF cur.pre u [] := ⟨_, rfl⟩
          rw [← hpp] at HsO HsY HT HR X1 X2 X3 Y1 Y2 Y3 Hbl hsp ⊢
          obtain ⟨w5, hw5⟩ : ∃ w5, w5 = wv.setCell ⟨gO, 0, none⟩ (.slice Av pp.length cv) := ⟨_, rfl⟩
          rw [← hw5] at HsO HsY HT HR X1 X2 X3 Y1 Y2 Y3 Hbl ⊢
          have Hpp := hide hpp
          have Hsp := hide hsp
          clear hw5 hpp hsp hx1 hbl9 hch hx9 hx8 HOv HYv Hov Hou Hbu Hbv HOut HY hs1 hs2 v0 v1 x0 hfz hlz z0 z1 z2 z3 o0 o1 o2 o3 zl
          clear p0 p1 q0 pl
          have HOut := HsO
          have HY := HsY
          clear HsO HsY hHeld
          obtain ⟨z0, z1, z2, z3⟩ := HY.out.cell4
          obtain ⟨o0, o1, o2, o3⟩ := HOut.out.cell4
          have zl := HY.out.lt
          have ol := HOut.out.lt
          have ofz := HOut.out.frozen 1
          go_wp2_with fail
          with_reducible refine (Update_ct A2 B2 B3 n2 c2 m2 d2 m3 d3 cur.add o.add o.del w5 X2.out.rd Y2.out.rd Y3.out.rd (by omega) (by omega) (by omega) (up_le (setB_iff.1 Hoo.out.del).1)).mono ?_
          rintro e w6 ⟨hb, Aw, cw, rfl, how⟩
          have hs9 : setB N (updF cur.add o.add o.del) = true := (combStep_sets Hset.out Hoo.out.sets).add
          have hx1 : RdN gO w6 Aw (updF cur.add o.add o.del).length cw (updF cur.add o.add o.del)   := RdN.own how ol rfl (set_small hs9 (by have := Hok.out.low; omega))
          have hO9 := (HOut.out.keep hb).set 1 (.slice Aw (updF cur.add o.add o.del).length cw)
          simp only [List.set_cons_zero, List.set_cons_succ] at hO9
          have hY9 := (HY.out.keep hb).far (p := ⟨gO, 1, none⟩) (by show gY ≠ gO; omega) (.slice Aw (updF cur.add o.add o.del).length cw)
          have hT9 := (HT.out.keep hb).far (p := ⟨gO, 1, none⟩) (by show gT ≠ gO; omega) (.slice Aw (updF cur.add o.add o.del).length cw)
          have hR9 := (HR.out.keep hb).far (p := ⟨gO, 1, none⟩) (by show gR ≠ gO; omega) (.slice Aw (updF cur.add o.add o.del).length cw)
          have hb9 := below_set (Hbl.out.trans (hb.mono Hbl.out.size)) (g := gO) (by omega) 1 (.slice Aw (updF cur.add o.add o.del).length cw)
          clear z0 z1 z2 z3 o0 o1 o2 o3 zl ol ofz
          obtain ⟨o0, o1, o2, o3⟩ := (HOut.out.keep hb).cell4
          have ofz := (HOut.out.keep hb).frozen 1
          have ol := (HOut.out.keep hb).lt
          replace X1 := hide ((X1.out.keep hb).set (Nat.le_refl gO) 1 (.slice Aw (updF cur.add o.add o.del).length cw))
          replace X2 := hide ((X2.out.keep hb).set (Nat.le_refl gO) 1 (.slice Aw (updF cur.add o.add o.del).length cw))
          replace X3 := hide ((X3.out.keep hb).set (Nat.le_refl gO) 1 (.slice Aw (updF cur.add o.add o.del).length cw))
          replace Y1 := hide ((Y1.out.keep hb).set 1 (.slice Aw (updF cur.add o.add o.del).length cw))
          replace Y2 := hide ((Y2.out.keep hb).set 1 (.slice Aw (updF cur.add o.add o.del).length cw))
          replace Y3 := hide ((Y3.out.keep hb).set 1 (.slice Aw (updF cur.add o.add o.del).length cw))
          replace X2 := hide (hx1.set (Nat.le_refl gO) 1 (.slice Aw (updF cur.add o.add o.del).length cw))
          have HO9 := hide hO9
          have HY9 := hide hY9
          replace HT := hide hT9
          replace HR := hide hR9
          replace Hbl := hide hb9
          clear hs9 hx1 hO9 hY9 hT9 hR9 hb9 hb how
          go_upto_region 10 with (fail)
          obtain ⟨w7, hw9⟩ : ∃ w9, w9 = w6.setCell ⟨gO, 1, none⟩ (.slice Aw (updF cur.add o.add o.del).length cw) := ⟨_, rfl⟩
          rw [← hw9] at HO9 HY9 HT HR X1 X2 X3 Y1 Y2 Y3 Hbl ⊢
          clear hw9 HOut HY o0 o1 o2 o3 ofz ol
          have HOut := HO9
          have HY := HY9
          clear HO9 HY9
          obtain ⟨z0, z1, z2, z3⟩ := HY.out.cell4
          obtain ⟨o0, o1, o2, o3⟩ := HOut.out.cell4
          have zl := HY.out.lt
          have ol := HOut.out.lt
          have ofz := HOut.out.frozen 2
          go_wp2_with fail
          with_reducible refine (Update_ct A3 B3 B2 n3 c3 m3 d3 m2 d2 cur.del o.del o.add w7 X3.out.rd Y3.out.rd Y2.out.rd (by omega) (by omega) (by omega) (up_le (setB_iff.1 Hoo.out.add).1)).mono ?_
          rintro e w8 ⟨hb, Ax, cx, rfl, hox⟩
          have hs9 : setB N (updF cur.del o.del o.add) = true := (combStep_sets Hset.out Hoo.out.sets).del
          have hx1 : RdN gO w8 Ax (updF cur.del o.del o.add).length cx (updF cur.del o.del o.add)   := RdN.own hox ol rfl (set_small hs9 (by have := Hok.out.low; omega))
          have hO9 := (HOut.out.keep hb).set 2 (.slice Ax (updF cur.del o.del o.add).length cx)
          simp only [List.set_cons_zero, List.set_cons_succ] at hO9
          have hY9 := (HY.out.keep hb).far (p := ⟨gO, 2, none⟩) (by show gY ≠ gO; omega) (.slice Ax (updF cur.del o.del o.add).length cx)
          have hT9 := (HT.out.keep hb).far (p := ⟨gO, 2, none⟩) (by show gT ≠ gO; omega) (.slice Ax (updF cur.del o.del o.add).length cx)
          have hR9 := (HR.out.keep hb).far (p := ⟨gO, 2, none⟩) (by show gR ≠ gO; omega) (.slice Ax (updF cur.del o.del o.add).length cx)
          have hb9 := below_set (Hbl.out.trans (hb.mono Hbl.out.size)) (g := gO) (by omega) 2 (.slice Ax (updF cur.del o.del o.add).length cx)
          clear z0 z1 z2 z3 o0 o1 o2 o3 zl ol ofz
          obtain ⟨o0, o1, o2, o3⟩ := (HOut.out.keep hb).cell4
          have ofz := (HOut.out.keep hb).frozen 2
          have ol := (HOut.out.keep hb).lt
          replace X1 := hide ((X1.out.keep hb).set (Nat.le_refl gO) 2 (.slice Ax (updF cur.del o.del o.add).length cx))
          replace X2 := hide ((X2.out.keep hb).set (Nat.le_refl gO) 2 (.slice Ax (updF cur.del o.del o.add).length cx))
          replace X3 := hide ((X3.out.keep hb).set (Nat.le_refl gO) 2 (.slice Ax (updF cur.del o.del o.add).length cx))
          replace Y1 := hide ((Y1.out.keep hb).set 2 (.slice Ax (updF cur.del o.del o.add).length cx))
          replace Y2 := hide ((Y2.out.keep hb).set 2 (.slice Ax (updF cur.del o.del o.add).length cx))
          replace Y3 := hide ((Y3.out.keep hb).set 2 (.slice Ax (updF cur.del o.del o.add).length cx))
          replace X3 := hide (hx1.set (Nat.le_refl gO) 2 (.slice Ax (updF cur.del o.del o.add).length cx))
          have HO9 := hide hO9
          have HY9 := hide hY9
          replace HT := hide hT9
          replace HR := hide hR9
          replace Hbl := hide hb9
          clear hs9 hx1 hO9 hY9 hT9 hR9 hb9 hb hox
          go_upto_region 11 with (fail)
          obtain ⟨w9, hw9⟩ : ∃ w9, w9 = w8.setCell ⟨gO, 2, none⟩ (.slice Ax (updF cur.del o.del o.add).length cx) := ⟨_, rfl⟩
          rw [← hw9] at HO9 HY9 HT HR X1 X2 X3 Y1 Y2 Y3 Hbl ⊢
          clear hw9 HOut HY o0 o1 o2 o3 ofz ol
          have HOut := HO9
          have HY := HY9
          clear HO9 HY9
          obtain ⟨z0, z1, z2, z3⟩ := HY.out.cell4
          obtain ⟨o0, o1, o2, o3⟩ := HOut.out.cell4
          have zl := HY.out.lt
          have ol := HOut.out.lt
          have ofz := HOut.out.frozen 3
          go_wp2_with fail
          go_roundw
          case rel =>
            refine ⟨k + 1, combStep cur o, Av, pp.length, cv, Aw, (updF cur.add o.add o.del).length, cw, Ax, (updF cur.del o.del o.add).length, cx, by omega, by go_num, HT.out.far (p := ⟨gO, 3, none⟩) (by show gT ≠ gO; omega) _, HR.out.far (p := ⟨gO, 3, none⟩) (by show gR ≠ gO; omega) _, ?_, ?_, ?_, ?_, combStep_sets Hset.out Hoo.out.sets, ?_, ?_, below_set Hbl.out (g := gO) (by omega) 3 _, ?_⟩
            · exact HOut.out.set 3 (.int .i64 (cur.cost + o.cost))
            · have := X1.out.set (Nat.le_refl gO) 3 (.int .i64 (cur.cost + o.cost))
              rw [Hpp.out, Hu.out] at this ⊢
              exact this
            · exact X2.out.set (Nat.le_refl gO) 3 _
            · exact X3.out.set (Nat.le_refl gO) 3 _
            · show 0 ≤ cur.cost + o.cost
              omega
            · show cur.cost + o.cost ≤ 100 * ((k + 1 : Nat) : Int)
              omega
            · rw [Hrel.out, Hd.out, Hstep.out]
          case measure => simp [intOf]; omega
        · skip
          go_simp
          with_reducible refine (Update_ct B1 none A2 m1 d1 0 0 n2 c2 o.pre [] cur.add _ (Y1.out.rd.qt (Qt.refl _).drew) (Rd.nil_ _ _) (X2.out.rd.qt (Qt.refl _).drew) (by omega) (by omega) (by omega) (up_le (setB_iff.1 Hset.out.add).1)).mono ?_
          rintro e wu ⟨hbu, Au, cu, rfl, hou⟩
          rw [← Hu.out] at hou ⊢
          have Hou := hide hou
          have Hbu := hide hbu
          obtain ⟨p0, p1, p2, p3⟩ := ((HOut.out.qt (Qt.refl w4).drew).keep hbu).cell4
          obtain ⟨q0, q1, q2, q3⟩ := ((HY.out.qt (Qt.refl w4).drew).keep hbu).cell4
          have pl := ((HOut.out.qt (Qt.refl w4).drew).keep hbu).lt
          clear hou hbu p2 p3 q1 q2 q3
          refine hK.out _ _ ?_ (fun hHeld2 => ?_)
          · (try dsimp only); exact ⟨p1, q0⟩
          clear hK K hHeld
          try simp only [Act.put, List.setIfInBounds_toArray, List.set_cons_zero, List.set_cons_succ]
          have hHeld := hHeld2; clear hHeld2
          refine wpAnyH_ready (rs := [1]) (by kernel_rfl) (by simp) ?_
          refine AllReadyH.cons rfl (fun K hK => ?_) AllReadyH.nil
          go_simp
          refine hK.out _ _ ?_ (fun hHeld2 => ?_)
          · (try dsimp only); exact ⟨p1, q0⟩
          clear hK K hHeld
          try simp only [Act.put, List.setIfInBounds_toArray, List.set_cons_zero, List.set_cons_succ]
          have hHeld := hHeld2; clear hHeld2
          refine wpAnyH_ready (rs := [7]) (by kernel_rfl) (by simp) ?_
          refine AllReadyH.cons rfl (fun K hK => ?_) AllReadyH.nil
          go_simp
          with_reducible refine (Union_ct A1 Au n1 c1 u.length cu cur.pre u wu ((X1.out.rd.qt (Qt.refl w4).drew).keep Hbu.out) (own_rd Hou.out rfl (set_small Hu0.out (by have := Hok.out.low; omega))) (by omega) (by omega)).mono ?_
          rintro e wv ⟨hbv, Av, cv, rfl, hov⟩
          have Hov := hide hov
          have Hbv := hide hbv
          have HOv := hide (((HOut.out.qt (Qt.refl w4).drew).keep Hbu.out).keep hbv)
          have HYv := hide (((HY.out.qt (Qt.refl w4).drew).keep Hbu.out).keep hbv)
          obtain ⟨v0, v1, v2, v3⟩ := HOv.out.cell4
          obtain ⟨x0, x1, x2, x3⟩ := HYv.out.cell4
          have hfz := HOv.out.frozen 0
          have hlz := HOv.out.lt
          clear hov hbv v2 v3 x1 x2 x3
          refine hK.out _ _ ?_ (fun hHeld2 => ?_)
          · (try dsimp only); exact ⟨v1, x0⟩
          clear hK K hHeld
          try simp only [Act.put, List.setIfInBounds_toArray, List.set_cons_zero, List.set_cons_succ]
          have hHeld := hHeld2; clear hHeld2
          refine takeM (i := 8) (v := ?_) (some 35) rfl rfl (by kernel_rfl) (by kernel_rfl) (by kernel_rfl) (fun _ _ _ h => h) (Or.inl ⟨by rfl, ?_⟩) (by assumption) ?_
          rotate_left
          · intro w hSw; (try dsimp only at hSw); obtain ⟨s1, s2⟩ := hSw; first | (go_simp; done) | (go_simp; with_reducible rfl)
          try simp only [Act.put, List.setIfInBounds_toArray, List.set_cons_zero, List.set_cons_succ]
          have hsO := HOv.out.set 0 (.slice Av (updF cur.pre u []).length cv)
          have hsY := HYv.out.far (p := ⟨gO, 0, none⟩) (by show gY ≠ gO; omega) (.slice Av (updF cur.pre u []).length cv)
          simp only [List.set_cons_zero] at hsO
          have hs1 := hsO.cell 1
          have hs2 := hsY.cell 0
          simp only [List.getElem?_cons_zero, List.getElem?_cons_succ] at hs1 hs2
          have HsO := hide hsO
          have HsY := hide hsY
          clear hsO hsY
          refine wpAnyH_ready (rs := [9]) (by kernel_rfl) (by simp) ?_
          refine AllReadyH.cons rfl (fun K hK => ?_) AllReadyH.nil
          go_simp
          refine hK.out _ _ ?_ (fun hHeld2 => ?_)
          · (try dsimp only); exact ⟨hs1, hs2⟩
          clear hK K hHeld
          try simp only [Act.put, List.setIfInBounds_toArray, List.set_cons_zero, List.set_cons_succ]
          have hHeld := hHeld2; clear hHeld2
          refine wpAnyH_done (by kernel_rfl) ?_ _
          have hch := fun (g : Nat) (t : TypeId) (cs : List Value) (h : Blk t w4 g cs) (hne : g ≠ gO) => (((h.qt (Qt.refl w4).drew).keep Hbu.out).keep Hbv.out).far (p := ⟨gO, 0, none⟩) hne (.slice Av (updF cur.pre u []).length cv)
          have hx9 := fun (A : Option Addr) (n c : Nat) (l : List Int) (h : RdX gO w4 A n c l) => (((h.keep ((Qt.refl w4).drew.below _)).keep Hbu.out).keep Hbv.out).set 0 (.slice Av (updF cur.pre u []).length cv)
          replace HT := hide (hch gT _ _ HT.out (by omega))
          replace HR := hide (hch gR _ _ HR.out (by omega))
          have hx8 := fun (A : Option Addr) (n c : Nat) (l : List Int) (h : RdN gO w4 A n c l) => (((h.keep ((Qt.refl w4).drew.below _)).keep Hbu.out).keep Hbv.out).set (Nat.le_refl gO) 0 (.slice Av (updF cur.pre u []).length cv)
          replace X2 := hide (hx8 _ _ _ _ X2.out)
          replace X3 := hide (hx8 _ _ _ _ X3.out)
          replace Y1 := hide (hx9 _ _ _ _ Y1.out)
          replace Y2 := hide (hx9 _ _ _ _ Y2.out)
          replace Y3 := hide (hx9 _ _ _ _ Y3.out)
          have hsp : setB N (updF cur.pre u []) = true := updF_set (setB_iff.1 Hset.out.pre).2 (setB_iff.1 Hu0.out).2
          have hx1 : RdN gO wv Av (updF cur.pre u []).length cv (updF cur.pre u [])   := RdN.own Hov.out (Nat.lt_of_lt_of_le pl (Nat.le_refl _)) rfl (set_small hsp (by have := Hok.out.low; omega))
          replace X1 := hide (hx1.set (Nat.le_refl gO) 0 (.slice Av (updF cur.pre u []).length cv))
          have hbl9 := below_set (((Hbl.out.drew).trans (Hbu.out.mono (by have := Hbl.out.size; exact this))).trans (Hbv.out.mono (by have := Hbl.out.size; have := Hbu.out.size; exact Nat.le_trans Hbl.out.size Hbu.out.size))) (g := gO) (by omega) 0 (.slice Av (updF cur.pre u []).length cv)
          replace Hbl := hide hbl9
          obtain ⟨pp, hpp⟩ : ∃ pp, pp = updF cur.pre u [] := ⟨_, rfl⟩
          rw [← hpp] at HsO HsY HT HR X1 X2 X3 Y1 Y2 Y3 Hbl hsp ⊢
          obtain ⟨w5, hw5⟩ : ∃ w5, w5 = wv.setCell ⟨gO, 0, none⟩ (.slice Av pp.length cv) := ⟨_, rfl⟩
          rw [← hw5] at HsO HsY HT HR X1 X2 X3 Y1 Y2 Y3 Hbl ⊢
          have Hpp := hide hpp
          have Hsp := hide hsp
          clear hw5 hpp hsp hx1 hbl9 hch hx9 hx8 HOv HYv Hov Hou Hbu Hbv HOut HY hs1 hs2 v0 v1 x0 hfz hlz z0 z1 z2 z3 o0 o1 o2 o3 zl
          clear p0 p1 q0 pl
          have HOut := HsO
          have HY := HsY
          clear HsO HsY hHeld
          obtain ⟨z0, z1, z2, z3⟩ := HY.out.cell4
          obtain ⟨o0, o1, o2, o3⟩ := HOut.out.cell4
          have zl := HY.out.lt
          have ol := HOut.out.lt
          have ofz := HOut.out.frozen 1
          go_wp2_with fail
          with_reducible refine (Update_ct A2 B2 B3 n2 c2 m2 d2 m3 d3 cur.add o.add o.del w5 X2.out.rd Y2.out.rd Y3.out.rd (by omega) (by omega) (by omega) (up_le (setB_iff.1 Hoo.out.del).1)).mono ?_
          rintro e w6 ⟨hb, Aw, cw, rfl, how⟩
          have hs9 : setB N (updF cur.add o.add o.del) = true := (combStep_sets Hset.out Hoo.out.sets).add
          have hx1 : RdN gO w6 Aw (updF cur.add o.add o.del).length cw (updF cur.add o.add o.del)   := RdN.own how ol rfl (set_small hs9 (by have := Hok.out.low; omega))
          have hO9 := (HOut.out.keep hb).set 1 (.slice Aw (updF cur.add o.add o.del).length cw)
          simp only [List.set_cons_zero, List.set_cons_succ] at hO9
          have hY9 := (HY.out.keep hb).far (p := ⟨gO, 1, none⟩) (by show gY ≠ gO; omega) (.slice Aw (updF cur.add o.add o.del).length cw)
          have hT9 := (HT.out.keep hb).far (p := ⟨gO, 1, none⟩) (by show gT ≠ gO; omega) (.slice Aw (updF cur.add o.add o.del).length cw)
          have hR9 := (HR.out.keep hb).far (p := ⟨gO, 1, none⟩) (by show gR ≠ gO; omega) (.slice Aw (updF cur.add o.add o.del).length cw)
          have hb9 := below_set (Hbl.out.trans (hb.mono Hbl.out.size)) (g := gO) (by omega) 1 (.slice Aw (updF cur.add o.add o.del).length cw)
          clear z0 z1 z2 z3 o0 o1 o2 o3 zl ol ofz
          obtain ⟨o0, o1, o2, o3⟩ := (HOut.out.keep hb).cell4
          have ofz := (HOut.out.keep hb).frozen 1
          have ol := (HOut.out.keep hb).lt
          replace X1 := hide ((X1.out.keep hb).set (Nat.le_refl gO) 1 (.slice Aw (updF cur.add o.add o.del).length cw))
          replace X2 := hide ((X2.out.keep hb).set (Nat.le_refl gO) 1 (.slice Aw (updF cur.add o.add o.del).length cw))
          replace X3 := hide ((X3.out.keep hb).set (Nat.le_refl gO) 1 (.slice Aw (updF cur.add o.add o.del).length cw))
          replace Y1 := hide ((Y1.out.keep hb).set 1 (.slice Aw (updF cur.add o.add o.del).length cw))
          replace Y2 := hide ((Y2.out.keep hb).set 1 (.slice Aw (updF cur.add o.add o.del).length cw))
          replace Y3 := hide ((Y3.out.keep hb).set 1 (.slice Aw (updF cur.add o.add o.del).length cw))
          replace X2 := hide (hx1.set (Nat.le_refl gO) 1 (.slice Aw (updF cur.add o.add o.del).length cw))
          have HO9 := hide hO9
          have HY9 := hide hY9
          replace HT := hide hT9
          replace HR := hide hR9
          replace Hbl := hide hb9
          clear hs9 hx1 hO9 hY9 hT9 hR9 hb9 hb how
          go_upto_region 10 with (fail)
          obtain ⟨w7, hw9⟩ : ∃ w9, w9 = w6.setCell ⟨gO, 1, none⟩ (.slice Aw (updF cur.add o.add o.del).length cw) := ⟨_, rfl⟩
          rw [← hw9] at HO9 HY9 HT HR X1 X2 X3 Y1 Y2 Y3 Hbl ⊢
          clear hw9 HOut HY o0 o1 o2 o3 ofz ol
          have HOut := HO9
          have HY := HY9
          clear HO9 HY9
          obtain ⟨z0, z1, z2, z3⟩ := HY.out.cell4
          obtain ⟨o0, o1, o2, o3⟩ := HOut.out.cell4
          have zl := HY.out.lt
          have ol := HOut.out.lt
          have ofz := HOut.out.frozen 2
          go_wp2_with fail
          with_reducible refine (Update_ct A3 B3 B2 n3 c3 m3 d3 m2 d2 cur.del o.del o.add w7 X3.out.rd Y3.out.rd Y2.out.rd (by omega) (by omega) (by omega) (up_le (setB_iff.1 Hoo.out.add).1)).mono ?_
          rintro e w8 ⟨hb, Ax, cx, rfl, hox⟩
          have hs9 : setB N (updF cur.del o.del o.add) = true := (combStep_sets Hset.out Hoo.out.sets).del
          have hx1 : RdN gO w8 Ax (updF cur.del o.del o.add).length cx (updF cur.del o.del o.add)   := RdN.own hox ol rfl (set_small hs9 (by have := Hok.out.low; omega))
          have hO9 := (HOut.out.keep hb).set 2 (.slice Ax (updF cur.del o.del o.add).length cx)
          simp only [List.set_cons_zero, List.set_cons_succ] at hO9
          have hY9 := (HY.out.keep hb).far (p := ⟨gO, 2, none⟩) (by show gY ≠ gO; omega) (.slice Ax (updF cur.del o.del o.add).length cx)
          have hT9 := (HT.out.keep hb).far (p := ⟨gO, 2, none⟩) (by show gT ≠ gO; omega) (.slice Ax (updF cur.del o.del o.add).length cx)
          have hR9 := (HR.out.keep hb).far (p := ⟨gO, 2, none⟩) (by show gR ≠ gO; omega) (.slice Ax (updF cur.del o.del o.add).length cx)
          have hb9 := below_set (Hbl.out.trans (hb.mono Hbl.out.size)) (g := gO) (by omega) 2 (.slice Ax (updF cur.del o.del o.add).length cx)
          clear z0 z1 z2 z3 o0 o1 o2 o3 zl ol ofz
          obtain ⟨o0, o1, o2, o3⟩ := (HOut.out.keep hb).cell4
          have ofz := (HOut.out.keep hb).frozen 2
          have ol := (HOut.out.keep hb).lt
          replace X1 := hide ((X1.out.keep hb).set (Nat.le_refl gO) 2 (.slice Ax (updF cur.del o.del o.add).length cx))
          replace X2 := hide ((X2.out.keep hb).set (Nat.le_refl gO) 2 (.slice Ax (updF cur.del o.del o.add).length cx))
          replace X3 := hide ((X3.out.keep hb).set (Nat.le_refl gO) 2 (.slice Ax (updF cur.del o.del o.add).length cx))
          replace Y1 := hide ((Y1.out.keep hb).set 2 (.slice Ax (updF cur.del o.del o.add).length cx))
          replace Y2 := hide ((Y2.out.keep hb).set 2 (.slice Ax (updF cur.del o.del o.add).length cx))
          replace Y3 := hide ((Y3.out.keep hb).set 2 (.slice Ax (updF cur.del o.del o.add).length cx))
          replace X3 := hide (hx1.set (Nat.le_refl gO) 2 (.slice Ax (updF cur.del o.del o.add).length cx))
          have HO9 := hide hO9
          have HY9 := hide hY9
          replace HT := hide hT9
          replace HR := hide hR9
          replace Hbl := hide hb9
          clear hs9 hx1 hO9 hY9 hT9 hR9 hb9 hb hox
          go_upto_region 11 with (fail)
          obtain ⟨w9, hw9⟩ : ∃ w9, w9 = w8.setCell ⟨gO, 2, none⟩ (.slice Ax (updF cur.del o.del o.add).length cx) := ⟨_, rfl⟩
          rw [← hw9] at HO9 HY9 HT HR X1 X2 X3 Y1 Y2 Y3 Hbl ⊢
          clear hw9 HOut HY o0 o1 o2 o3 ofz ol
          have HOut := HO9
          have HY := HY9
          clear HO9 HY9
          obtain ⟨z0, z1, z2, z3⟩ := HY.out.cell4
          obtain ⟨o0, o1, o2, o3⟩ := HOut.out.cell4
          have zl := HY.out.lt
          have ol := HOut.out.lt
          have ofz := HOut.out.frozen 3
          go_wp2_with fail
          go_roundw
          case rel =>
            refine ⟨k + 1, combStep cur o, Av, pp.length, cv, Aw, (updF cur.add o.add o.del).length, cw, Ax, (updF cur.del o.del o.add).length, cx, by omega, by go_num, HT.out.far (p := ⟨gO, 3, none⟩) (by show gT ≠ gO; omega) _, HR.out.far (p := ⟨gO, 3, none⟩) (by show gR ≠ gO; omega) _, ?_, ?_, ?_, ?_, combStep_sets Hset.out Hoo.out.sets, ?_, ?_, below_set Hbl.out (g := gO) (by omega) 3 _, ?_⟩
            · exact HOut.out.set 3 (.int .i64 (cur.cost + o.cost))
            · have := X1.out.set (Nat.le_refl gO) 3 (.int .i64 (cur.cost + o.cost))
              rw [Hpp.out, Hu.out] at this ⊢
              exact this
            · exact X2.out.set (Nat.le_refl gO) 3 _
            · exact X3.out.set (Nat.le_refl gO) 3 _
            · show 0 ≤ cur.cost + o.cost
              omega
            · show cur.cost + o.cost ≤ 100 * ((k + 1 : Nat) : Int)
              omega
            · rw [Hrel.out, Hd.out, Hstep.out]
          case measure => simp [intOf]; omega
      · rw [em] at hms
        have hnone : combF cur (o :: (l.drop (k + 1)).map (opAt T.ops)) = none := by rw [combF, if_pos em]
        have Hnone := hide hnone
        clear em hnone
        go_wp2_with fail
        refine hms.mono ?_
        rintro e w4 ⟨rfl, hb⟩
        clear hms z0 z1 z2 z3 o0 o1 o2 o3 zl
        replace HR := hide (HR.out.keep hb)
        replace Hbl := hide (Hbl.out.trans (hb.mono Hbl.out.size))
        clear hb
        obtain ⟨a0, a1, a2, a3⟩ := HR.out.cell4
        have e0 := HR.out.frozen 0
        have e1 := HR.out.frozen 1
        have e2 := HR.out.frozen 2
        have e3 := HR.out.frozen 3
        have al := HR.out.lt
        go_wp2_with fail
        refine bodyPost_ret (v := .tuple #[.agg #[.slice none 0 0, .slice none 0 0, .slice none 0 0, .int .i64 0], .bool false]) (by simp [results, Try.results58, go_sem, a0, a1, a2, a3, al]) rfl ⟨?_, .inl ⟨by rw [Hrel.out, Hd.out, Hnone.out], rfl⟩⟩
        exact ((((Hbl.out.setCell (by show w.heap.size ≤ gR; omega) _).setCell (by show w.heap.size ≤ gR; omega) _).setCell (by show w.heap.size ≤ gR; omega) _).setCell (by show w.heap.size ≤ gR; omega) _)
    · obtain rfl : k = m := by omega
      obtain ⟨o0, o1, o2, o3⟩ := HOut.out.cell4
      obtain ⟨a0, a1, a2, a3⟩ := HR.out.cell4
      have e0 := HR.out.frozen 0
      have e1 := HR.out.frozen 1
      have e2 := HR.out.frozen 2
      have e3 := HR.out.frozen 3
      have al := HR.out.lt
      have hne : ¬ gR = gO := by omega
      have hne2 : ¬ gO = gR := by omega
      go_wp2_with fail
      refine bodyPost_ret (v := .tuple #[.agg #[.slice A1 n1 c1, .slice A2 n2 c2, .slice A3 n3 c3, .int .i64 cur.cost], .bool true]) (by simp [results, Try.results58, go_sem, a0, a1, a2, a3, al]) rfl ⟨?_, .inr ⟨cur, A1, n1, c1, A2, n2, c2, A3, n3, c3, by rw [Hrel.out, List.drop_of_length_le (by rw [Hll.out]; omega)]; rfl, rfl, ?_, ?_, ?_, Hset.out⟩⟩
      · exact below_set (below_set (below_set (below_set Hbl.out (g := gR) (by omega) 0 _) (g := gR) (by omega) 1 _) (g := gR) (by omega) 2 _) (g := gR) (by omega) 3 _
      · exact ((((X1.out.set (Y := gR) (by omega) 0 _).set (Y := gR) (by omega) 1 _).set (Y := gR) (by omega) 2 _).set (Y := gR) (by omega) 3 _).less (by omega)
      · exact ((((X2.out.set (Y := gR) (by omega) 0 _).set (Y := gR) (by omega) 1 _).set (Y := gR) (by omega) 2 _).set (Y := gR) (by omega) 3 _).less (by omega)
      · exact ((((X3.out.set (Y := gR) (by omega) 0 _).set (Y := gR) (by omega) 1 _).set (Y := gR) (by omega) 2 _).set (Y := gR) (by omega) 3 _).less (by omega)
end Go.Proofs.Ytnfeknfakkdbhaa
