/- What the law asks for, part 7: Mc2 Mc3 Cq Mh Mc5 Mi Mc8 St Mk. -/
import Derived.Test.YtemiecammmbjdaaGreatM1
import Derived.Test.YtemiecammmbjdaaGreatM2
import Derived.Test.YtemiecammmbjdaaGreatM3
import Derived.Test.YtemiecammmbjdaaGreatM4
import Derived.Test.YtemiecammmbjdaaGreatM5
import Derived.Test.YtemiecammmbjdaaGreatM6
import Derived.BigQuiet
import Derived.Deep.AppendLies
import Derived.Deep.DeepCutAuto
import Derived.Deep.Draws
import Derived.Deep.Fields
import Derived.Deep.LoopGhost
import Derived.Deep.QuietTactic
import Derived.Deep.RegionHeld3
import Derived.Deep.Slices
import Derived.Ground.Names2Prog
import Derived.Ground.SlgnProg
import Derived.Ground.SlsfProg
import Derived.IntWalk
import Derived.Laws.AppendOwnNone
import Derived.Laws.OwnMore
import Derived.Lib.Hide
import Derived.Lib.SlicesCompact
import Derived.Maps.AppendAt
import Derived.Shelf.Slices.Cells
import Derived.Shelf.Slices.Clone
import Derived.Shelf.Slices.CompactI
import Derived.Shelf.Slices.Empties
import Derived.Shelf.Slices.In.SortNone
import Derived.Shelf.Slices.SearchI
import Derived.Shelf.Sort.Plain
import Derived.Sort.OwnSortedInts
import Derived.Test.YtemiecammmbjdaaGreatProg
import Derived.WalkKit
namespace Go.Proofs.YtemiecammmbjdaaGreat
set_option linter.unusedVariables false
set_option linter.unusedSimpArgs false
open Go.RowKit
/-- what combine hands back -/
def CombP (n : Nat) (w : World) (r : Option Opr) (e : Ending) (w' : World) : Prop :=
  Below w.heap.size w w' ∧ ((r = none ∧ e = .returned (.tuple #[.agg #[.slice none 0 0, .slice none 0 0, .slice none 0 0, .int .i64 0], .bool false])) ∨
    ∃ (o : Opr) (A1 : Option Addr) (n1 c1 : Nat) (A2 : Option Addr) (n2 c2 : Nat) (A3 : Option Addr) (n3 c3 : Nat), r = some o ∧ e = .returned (.tuple #[.agg #[.slice A1 n1 c1, .slice A2 n2 c2, .slice A3 n3 c3, .int .i64 o.cost], .bool true]) ∧
      RdN w.heap.size w' A1 n1 c1 o.pre ∧ RdN w.heap.size w' A2 n2 c2 o.add ∧ RdN w.heap.size w' A3 n3 c3 o.del ∧ SetOp n o)
set_option maxRecDepth 100000 in
set_option maxHeartbeats 6400000 in
theorem combine_ct (a : TA) (T : Tsk) (N : Nat) (B : Option Addr) (m d : Nat) (l : List Int) (w : World) (h : TkR w a T) (hok : OkT T N) (hl : Rd Enc.int w B m d l) (hm : m ≤ 1000) (hr : ∀ x ∈ l, 0 ≤ x ∧ x < T.ops.length) :
    Calls Tryz.prog 60 #[.agg #[.int .i64 T.facts, .slice a.I a.nI a.cI, .slice a.G a.nG a.cG, .slice a.O a.nO a.cO], .slice B m d] w (CombP N w (combF ⟨[], [], [], 0⟩ (l.map (opAt T.ops)))) := by
  obtain ⟨I, nI, cI, G, nG, cG, O, nO, cO⟩ := a
  obtain ⟨⟨hf1, hf2⟩, hi, hg, ho⟩ := h
  simp only at hi hg ho ⊢
  have hlo := ho.low
  have Hlo := hide ho.len
  have Ho := hide ho
  have Hl := hide hl
  have Hll := hide hl.len
  have Hr := hide hr
  have Hok := hide hok
  clear hi hg ho hl hr hok
  go_enter Tryz.func60, Tryz.ntmps60
  go_upto_region 2 with (fail)
  have hT := ((Blk.new w 25 [.int .i64 T.facts, .slice I nI cI, .slice G nG cG, .slice O nO cO]).alloc (.cells #[.slice none 0 0, .slice none 0 0, .slice none 0 0, .int .i64 0] 72)).alloc (.cells #[.slice none 0 0, .slice none 0 0, .slice none 0 0, .int .i64 0] 72)
  have hR := (Blk.new (w.alloc (.cells #[.int .i64 T.facts, .slice I nI cI, .slice G nG cG, .slice O nO cO] 25)) 72 [.slice none 0 0, .slice none 0 0, .slice none 0 0, .int .i64 0]).alloc (.cells #[.slice none 0 0, .slice none 0 0, .slice none 0 0, .int .i64 0] 72)
  have hO := Blk.new ((w.alloc (.cells #[.int .i64 T.facts, .slice I nI cI, .slice G nG cG, .slice O nO cO] 25)).alloc (.cells #[.slice none 0 0, .slice none 0 0, .slice none 0 0, .int .i64 0] 72)) 72 [.slice none 0 0, .slice none 0 0, .slice none 0 0, .int .i64 0]
  have hbl := below_three w (.cells #[.int .i64 T.facts, .slice I nI cI, .slice G nG cG, .slice O nO cO] 25) (.cells #[.slice none 0 0, .slice none 0 0, .slice none 0 0, .int .i64 0] 72) (.cells #[.slice none 0 0, .slice none 0 0, .slice none 0 0, .int .i64 0] 72)
  simp only [World.size_alloc] at hR hO
  obtain ⟨W0, hW0⟩ : ∃ W0, W0 = ((w.alloc (.cells #[.int .i64 T.facts, .slice I nI cI, .slice G nG cG, .slice O nO cO] 25)).alloc (.cells #[.slice none 0 0, .slice none 0 0, .slice none 0 0, .int .i64 0] 72)).alloc (.cells #[.slice none 0 0, .slice none 0 0, .slice none 0 0, .int .i64 0] 72) := ⟨_, rfl⟩
  rw [← hW0] at hT hR hO hbl ⊢
  obtain ⟨gT, hgT⟩ : ∃ g, g = w.heap.size := ⟨_, rfl⟩
  obtain ⟨gR, hgR⟩ : ∃ g, g = w.heap.size + 1 := ⟨_, rfl⟩
  obtain ⟨gO, hgO⟩ : ∃ g, g = w.heap.size + 1 + 1 := ⟨_, rfl⟩
  rw [← hgO, ← hgR, ← hgT]
  rw [← hgT] at hT
  rw [← hgR] at hR
  rw [← hgO] at hO
  have hTR : gT < gR := by omega
  have hRO : gR < gO := by omega
  have hRO1 : gR + 1 = gO := by omega
  have hwT : w.heap.size ≤ gT := by omega
  have HT := hide hT
  have HR := hide hR
  have HOut := hide hO
  have Hbl := hide hbl
  clear hW0 hgT hgR hgO hT hR hO hbl
  go_wp2_with fail
  go_loopw [12] (fun i wr => ∃ (k : Nat) (cur : Opr) (A1 : Option Addr) (n1 c1 : Nat) (A2 : Option Addr) (n2 c2 : Nat) (A3 : Option Addr) (n3 c3 : Nat), k ≤ m ∧ i = .int .i64 k ∧ Blk 25 wr gT [.int .i64 T.facts, .slice I nI cI, .slice G nG cG, .slice O nO cO] ∧
    Blk 72 wr gR [.slice none 0 0, .slice none 0 0, .slice none 0 0, .int .i64 0] ∧ Blk 72 wr gO [.slice A1 n1 c1, .slice A2 n2 c2, .slice A3 n3 c3, .int .i64 cur.cost] ∧
    RdN gO wr A1 n1 c1 cur.pre ∧ RdN gO wr A2 n2 c2 cur.add ∧ RdN gO wr A3 n3 c3 cur.del ∧ SetOp N cur ∧ 0 ≤ cur.cost ∧ cur.cost ≤ 100 * (k : Int) ∧ Below w.heap.size w wr ∧ combF ⟨[], [], [], 0⟩ (l.map (opAt T.ops)) = combF cur ((l.drop k).map (opAt T.ops))) (fun i _ => m - (intOf i).toNat)
  case atStart => exact ⟨0, ⟨[], [], [], 0⟩, none, 0, 0, none, 0, 0, none, 0, 0, by omega, rfl, HT.out, HR.out, HOut.out, RdN.nil _ _, RdN.nil _ _, RdN.nil _ _, ⟨by simp [setB], by simp [setB], by simp [setB]⟩, by simp, by simp, Hbl.out, by simp⟩
  case round =>
    clear HT HR HOut Hbl
    obtain ⟨k, cur, A1, n1, c1, A2, n2, c2, A3, n3, c3, hk, rfl, hT, hR, hO, x1, x2, x3, hset, hc0, hc1, hbl, hrel⟩ := hrel
    obtain ⟨t0, t1, t2, t3⟩ := hT.cell4
    have HT := hide hT
    have HR := hide hR
    have HOut := hide hO
    have X1 := hide x1
    have X2 := hide x2
    have X3 := hide x3
    have Hset := hide hset
    have Hbl := hide hbl
    have Hrel := hide hrel
    clear hT hR hO x1 x2 x3 hset hbl hrel
    by_cases hlt : k < m
    · obtain ⟨b, off, x, rfl, hx, hx1, hx2, hcx⟩ := (Hl.out.keep Hbl.out).int hlt
      have hxr := Hr.out x (List.mem_of_getElem? hx)
      obtain ⟨q, rfl⟩ : ∃ q : Nat, x = (q : Int) := ⟨x.toNat, by omega⟩
      have hq : q < nO := by have := Hlo.out; omega
      obtain ⟨b', off', o, B1, m1, d1, B2, m2, d2, B3, m3, d3, rfl, hoq, g0, g1, g2, g3, r1, r2, r3, r4⟩ := Ho.out.op hq
      replace g0 := (Hbl.out.cell (p := ⟨b', off' + q * 4, none⟩) (World.block_lt_of_cell? w _ g0)).trans g0
      replace g1 := (Hbl.out.cell (p := ⟨b', off' + q * 4 + 1, none⟩) (World.block_lt_of_cell? w _ g1)).trans g1
      replace g2 := (Hbl.out.cell (p := ⟨b', off' + q * 4 + 2, none⟩) (World.block_lt_of_cell? w _ g2)).trans g2
      replace g3 := (Hbl.out.cell (p := ⟨b', off' + q * 4 + 3, none⟩) (World.block_lt_of_cell? w _ g3)).trans g3
      have hoo := Hok.out.ops o (List.mem_of_getElem? hoq)
      have Hoo := hide hoo
      have ho1 := hoo.low
      have ho2 := hoo.high
      have Hd := hide (show (l.drop k).map (opAt T.ops) = o :: (l.drop (k + 1)).map (opAt T.ops) by rw [drop_cons hx, List.map_cons, opAt_eq hoq])
      have htO := HOut.out.lt
      have htR := HR.out.lt
      have htT := HT.out.lt
      clear hx hoq r4 hxr hoo
      go_upto_region 6 with (fail)
      have hY := Blk.new wr 72 [.slice B1 m1 d1, .slice B2 m2 d2, .slice B3 m3 d3, .int .i64 o.cost]
      have hb := (Below.refl wr.heap.size wr).alloc (Nat.le_refl _) (.cells #[.slice B1 m1 d1, .slice B2 m2 d2, .slice B3 m3 d3, .int .i64 o.cost] 72)
      obtain ⟨w3, hw3⟩ : ∃ w3, w3 = wr.alloc (.cells #[.slice B1 m1 d1, .slice B2 m2 d2, .slice B3 m3 d3, .int .i64 o.cost] 72) := ⟨_, rfl⟩
      rw [← hw3] at hY hb ⊢
      have hOY : gO < wr.heap.size := htO
      replace HT := hide (HT.out.keep hb)
      replace HR := hide (HR.out.keep hb)
      replace HOut := hide (HOut.out.keep hb)
      replace X1 := hide (X1.out.keep hb)
      replace X2 := hide (X2.out.keep hb)
      replace X3 := hide (X3.out.keep hb)
      replace Hbl := hide (Hbl.out.trans (hb.mono Hbl.out.size))
      have Y1 := hide (RdX.old (X := gO) r1 Hbl.out (by omega))
      have Y2 := hide (RdX.old (X := gO) r2 Hbl.out (by omega))
      have Y3 := hide (RdX.old (X := gO) r3 Hbl.out (by omega))
      clear hw3 hb g0 g1 g2 g3 t0 t1 t2 t3 r1 r2 r3
      generalize wr.heap.size = gY at hY hOY ⊢
      have HY := hide hY
      obtain ⟨z0, z1, z2, z3⟩ := HY.out.cell4
      obtain ⟨o0, o1, o2, o3⟩ := HOut.out.cell4
      have zl := HY.out.lt
      clear hY htO htR htT
      have hms := Meets_ct B1 A3 m1 d1 n3 c3 o.pre cur.del w3 Y1.out.rd X3.out.rd (up_le (setB_iff.1 Hset.out.del).1) (by have := setB_len Hset.out.del; have := Hok.out.low; have := X3.out.rd.len; omega)
      rcases em : meetB o.pre cur.del with _ | _
      · rw [em] at hms
        have hstep : combF cur (o :: (l.drop (k + 1)).map (opAt T.ops)) = combF (combStep cur o) ((l.drop (k + 1)).map (opAt T.ops)) := by rw [combF, if_neg (by simp [em])]
        have Hstep := hide hstep
        clear em hstep
        go_wp2_with fail
        refine hms.mono ?_
        rintro e w4 ⟨rfl, hb⟩
        clear hms z0 z1 z2 z3 o0 o1 o2 o3 zl
        replace HT := hide (HT.out.keep hb)
        replace HR := hide (HR.out.keep hb)
        replace HOut := hide (HOut.out.keep hb)
        replace HY := hide (HY.out.keep hb)
        replace X1 := hide (X1.out.keep hb)
        replace X2 := hide (X2.out.keep hb)
        replace X3 := hide (X3.out.keep hb)
        replace Y1 := hide (Y1.out.keep hb)
        replace Y2 := hide (Y2.out.keep hb)
        replace Y3 := hide (Y3.out.keep hb)
        replace Hbl := hide (Hbl.out.trans (hb.mono Hbl.out.size))
        clear hb
        obtain ⟨z0, z1, z2, z3⟩ := HY.out.cell4
        obtain ⟨o0, o1, o2, o3⟩ := HOut.out.cell4
        have zl := HY.out.lt
        have l1 : m1 ≤ 24 := by have := setB_len Hoo.out.pre; have := Hok.out.low; have := Y1.out.rd.len; omega
        have l2 : m2 ≤ 24 := by have := setB_len Hoo.out.add; have := Hok.out.low; have := Y2.out.rd.len; omega
        have l3 : m3 ≤ 24 := by have := setB_len Hoo.out.del; have := Hok.out.low; have := Y3.out.rd.len; omega
        have k1 : n1 ≤ 24 := by have := setB_len Hset.out.pre; have := Hok.out.low; have := X1.out.rd.len; omega
        have k2 : n2 ≤ 24 := by have := setB_len Hset.out.add; have := Hok.out.low; have := X2.out.rd.len; omega
        have k3 : n3 ≤ 24 := by have := setB_len Hset.out.del; have := Hok.out.low; have := X3.out.rd.len; omega
        have hnY : ¬ gO = gY := by omega
        have hnY2 : ¬ gY = gO := by omega
        have hu0 : setB N (updF o.pre [] cur.add) = true := updF_set (setB_iff.1 Hoo.out.pre).2 (by simp)
        obtain ⟨u, hu⟩ : ∃ u, u = updF o.pre [] cur.add := ⟨_, rfl⟩
        rw [← hu] at hu0
        have lu : u.length ≤ 24 := by have := setB_len hu0; have := Hok.out.low; omega
        have Hu := hide hu
        have Hu0 := hide hu0
        clear hu hu0
        go_wp2_with fail
        refine wp_region_held_drew (S := (fun w' => w'.cell? ⟨gO, 1, none⟩ = some (.slice A2 n2 c2) ∧ w'.cell? ⟨gY, 0, none⟩ = some (.slice B1 m1 d1))) (by kernel_rfl) ?_ (fun hHeld => ?_)
        · (try dsimp only); exact ⟨o1, z0⟩
        refine takeM (i := 0) (v := ?_) (some 27) rfl rfl (by kernel_rfl) (by kernel_rfl) (by kernel_rfl) (fun _ _ _ h => h) (Or.inl ⟨by rfl, ?_⟩) (by assumption) ?_
        rotate_left
        · intro w hSw; (try dsimp only at hSw); obtain ⟨s1, s2⟩ := hSw; first | (go_simp; done) | (go_simp; with_reducible rfl)
        try simp only [Act.put, List.setIfInBounds_toArray, List.set_cons_zero, List.set_cons_succ]
        refine takeM (i := 2) (v := ?_) (some 29) rfl rfl (by kernel_rfl) (by kernel_rfl) (by kernel_rfl) (fun _ _ _ h => h) (Or.inl ⟨by rfl, ?_⟩) (by assumption) ?_
        rotate_left
        · intro w hSw; (try dsimp only at hSw); obtain ⟨s1, s2⟩ := hSw; first | (go_simp; done) | (go_simp; with_reducible rfl)
        try simp only [Act.put, List.setIfInBounds_toArray, List.set_cons_zero, List.set_cons_succ]
        refine takeM (i := 3) (v := ?_) (some 30) rfl rfl (by kernel_rfl) (by kernel_rfl) (by kernel_rfl) (fun _ _ _ h => h) (Or.inl ⟨by rfl, ?_⟩) (by assumption) ?_
        rotate_left
        · intro w hSw; (try dsimp only at hSw); obtain ⟨s1, s2⟩ := hSw; first | (go_simp; done) | (go_simp; with_reducible rfl)
        try simp only [Act.put, List.setIfInBounds_toArray, List.set_cons_zero, List.set_cons_succ]
        refine takeM (i := 4) (v := ?_) (some 31) rfl rfl (by kernel_rfl) (by kernel_rfl) (by kernel_rfl) (fun _ _ _ h => h) (Or.inl ⟨by rfl, ?_⟩) (by assumption) ?_
        rotate_left
        · intro w hSw; (try dsimp only at hSw); obtain ⟨s1, s2⟩ := hSw; first | (go_simp; done) | (go_simp; with_reducible rfl)
        try simp only [Act.put, List.setIfInBounds_toArray, List.set_cons_zero, List.set_cons_succ]
        refine takeM (i := 5) (v := ?_) (some 32) rfl rfl (by kernel_rfl) (by kernel_rfl) (by kernel_rfl) (fun _ _ _ h => h) (Or.inl ⟨by rfl, ?_⟩) (by assumption) ?_
        rotate_left
        · intro w hSw; (try dsimp only at hSw); obtain ⟨s1, s2⟩ := hSw; first | (go_simp; done) | (go_simp; with_reducible rfl)
        try simp only [Act.put, List.setIfInBounds_toArray, List.set_cons_zero, List.set_cons_succ]
        refine wpAnyH_ready (rs := [1, 6]) (by kernel_rfl) (by simp) ?_
        refine AllReadyH.cons rfl (fun K hK => ?_) (AllReadyH.cons rfl (fun K hK => ?_) AllReadyH.nil)
        · skip
          go_simp
          refine hK.out _ _ ?_ (fun hHeld2 => ?_)
          · (try dsimp only); exact ⟨o1, z0⟩
          clear hK K hHeld
          try simp only [Act.put, List.setIfInBounds_toArray, List.set_cons_zero, List.set_cons_succ]
          have hHeld := hHeld2; clear hHeld2
          refine wpAnyH_ready (rs := [6]) (by kernel_rfl) (by simp) ?_
          refine AllReadyH.cons rfl (fun K hK => ?_) AllReadyH.nil
          go_simp
          with_reducible refine (Update_ct B1 none A2 m1 d1 0 0 n2 c2 o.pre [] cur.add _ (Y1.out.rd.qt (Qt.refl _).drew) (Rd.nil_ _ _) (X2.out.rd.qt (Qt.refl _).drew) (by omega) (by omega) (by omega) (up_le (setB_iff.1 Hset.out.add).1)).mono ?_
          rintro e wu ⟨hbu, Au, cu, rfl, hou⟩
          rw [← Hu.out] at hou ⊢
          have Hou := hide hou
          have Hbu := hide hbu
          obtain ⟨p0, p1, p2, p3⟩ := ((HOut.out.qt (Qt.refl w4).drew).keep hbu).cell4
          obtain ⟨q0, q1, q2, q3⟩ := ((HY.out.qt (Qt.refl w4).drew).keep hbu).cell4
          have pl := ((HOut.out.qt (Qt.refl w4).drew).keep hbu).lt
          clear hou hbu p2 p3 q1 q2 q3
          refine hK.out _ _ ?_ (fun hHeld2 => ?_)
          · (try dsimp only); exact ⟨p1, q0⟩
          clear hK K hHeld
          try simp only [Act.put, List.setIfInBounds_toArray, List.set_cons_zero, List.set_cons_succ]
          have hHeld := hHeld2; clear hHeld2
          refine wpAnyH_ready (rs := [7]) (by kernel_rfl) (by simp) ?_
          refine AllReadyH.cons rfl (fun K hK => ?_) AllReadyH.nil
          go_simp
          with_reducible refine (Union_ct A1 Au n1 c1 u.length cu cur.pre u wu ((X1.out.rd.qt (Qt.refl w4).drew).keep Hbu.out) (own_rd Hou.out rfl (set_small Hu0.out (by have := Hok.out.low; omega))) (by omega) (by omega)).mono ?_
          rintro e wv ⟨hbv, Av, cv, rfl, hov⟩
          have Hov := hide hov
          have Hbv := hide hbv
          have HOv := hide (((HOut.out.qt (Qt.refl w4).drew).keep Hbu.out).keep hbv)
          have HYv := hide (((HY.out.qt (Qt.refl w4).drew).keep Hbu.out).keep hbv)
          obtain ⟨v0, v1, v2, v3⟩ := HOv.out.cell4
          obtain ⟨x0, x1, x2, x3⟩ := HYv.out.cell4
          have hfz := HOv.out.frozen 0
          have hlz := HOv.out.lt
          clear hov hbv v2 v3 x1 x2 x3
          refine hK.out _ _ ?_ (fun hHeld2 => ?_)
          · (try dsimp only); exact ⟨v1, x0⟩
          clear hK K hHeld
          try simp only [Act.put, List.setIfInBounds_toArray, List.set_cons_zero, List.set_cons_succ]
          have hHeld := hHeld2; clear hHeld2
          refine takeM (i := 8) (v := ?_) (some 35) rfl rfl (by kernel_rfl) (by kernel_rfl) (by kernel_rfl) (fun _ _ _ h => h) (Or.inl ⟨by rfl, ?_⟩) (by assumption) ?_
          rotate_left
          · intro w hSw; (try dsimp only at hSw); obtain ⟨s1, s2⟩ := hSw; first | (go_simp; done) | (go_simp; with_reducible rfl)
          try simp only [Act.put, List.setIfInBounds_toArray, List.set_cons_zero, List.set_cons_succ]
          have hsO := HOv.out.set 0 (.slice Av (updF cur.pre u []).length cv)
          have hsY := HYv.out.far (p := ⟨gO, 0, none⟩) (by show gY ≠ gO; omega) (.slice Av (updF cur.pre u []).length cv)
          simp only [List.set_cons_zero] at hsO
          have hs1 := hsO.cell 1
          have hs2 := hsY.cell 0
          simp only [List.getElem?_cons_zero, List.getElem?_cons_succ] at hs1 hs2
          have HsO := hide hsO
          have HsY := hide hsY
          clear hsO hsY
          refine wpAnyH_ready (rs := [9]) (by kernel_rfl) (by simp) ?_
          refine AllReadyH.cons rfl (fun K hK => ?_) AllReadyH.nil
          go_simp
          refine hK.out _ _ ?_ (fun hHeld2 => ?_)
          · (try dsimp only); exact ⟨hs1, hs2⟩
          clear hK K hHeld
          try simp only [Act.put, List.setIfInBounds_toArray, List.set_cons_zero, List.set_cons_succ]
          have hHeld := hHeld2; clear hHeld2
          refine wpAnyH_done (by kernel_rfl) ?_ _
          have hch := fun (g : Nat) (t : TypeId) (cs : List Value) (h : Blk t w4 g cs) (hne : g ≠ gO) => (((h.qt (Qt.refl w4).drew).keep Hbu.out).keep Hbv.out).far (p := ⟨gO, 0, none⟩) hne (.slice Av (updF cur.pre u []).length cv)
          have hx9 := fun (A : Option Addr) (n c : Nat) (l : List Int) (h : RdX gO w4 A n c l) => (((h.keep ((Qt.refl w4).drew.below _)).keep Hbu.out).keep Hbv.out).set 0 (.slice Av (updF cur.pre u []).length cv)
          replace HT := hide (hch gT _ _ HT.out (by omega))
          replace HR := hide (hch gR _ _ HR.out (by omega))
          have hx8 := fun (A : Option Addr) (n c : Nat) (l : List Int) (h : RdN gO w4 A n c l) => (((h.keep ((Qt.refl w4).drew.below _)).keep Hbu.out).keep Hbv.out).set (Nat.le_refl gO) 0 (.slice Av (updF cur.pre u []).length cv)
          replace X2 := hide (hx8 _ _ _ _ X2.out)
          replace X3 := hide (hx8 _ _ _ _ X3.out)
          replace Y1 := hide (hx9 _ _ _ _ Y1.out)
          replace Y2 := hide (hx9 _ _ _ _ Y2.out)
          replace Y3 := hide (hx9 _ _ _ _ Y3.out)
          have hsp : setB N (updF cur.pre u []) = true := updF_set (setB_iff.1 Hset.out.pre).2 (setB_iff.1 Hu0.out).2
          have hx1 : RdN gO wv Av (updF cur.pre u []).length cv (updF cur.pre u [])   := RdN.own Hov.out (Nat.lt_of_lt_of_le pl (Nat.le_refl _)) rfl (set_small hsp (by have := Hok.out.low; omega))
          replace X1 := hide (hx1.set (Nat.le_refl gO) 0 (.slice Av (updF cur.pre u []).length cv))
          have hbl9 := below_set (((Hbl.out.drew).trans (Hbu.out.mono (by have := Hbl.out.size; exact this))).trans (Hbv.out.mono (by have := Hbl.out.size; have := Hbu.out.size; exact Nat.le_trans Hbl.out.size Hbu.out.size))) (g := gO) (by omega) 0 (.slice Av (updF cur.pre u []).length cv)
          replace Hbl := hide hbl9
          obtain ⟨pp, hpp⟩ : ∃ pp, pp = updF cur.pre u [] := ⟨_, rfl⟩
          rw [← hpp] at HsO HsY HT HR X1 X2 X3 Y1 Y2 Y3 Hbl hsp ⊢
          obtain ⟨w5, hw5⟩ : ∃ w5, w5 = wv.setCell ⟨gO, 0, none⟩ (.slice Av pp.length cv) := ⟨_, rfl⟩
          rw [← hw5] at HsO HsY HT HR X1 X2 X3 Y1 Y2 Y3 Hbl ⊢
          have Hpp := hide hpp
          have Hsp := hide hsp
          clear hw5 hpp hsp hx1 hbl9 hch hx9 hx8 HOv HYv Hov Hou Hbu Hbv HOut HY hs1 hs2 v0 v1 x0 hfz hlz z0 z1 z2 z3 o0 o1 o2 o3 zl
          clear p0 p1 q0 pl
          have HOut := HsO
          have HY := HsY
          clear HsO HsY hHeld
          obtain ⟨z0, z1, z2, z3⟩ := HY.out.cell4
          obtain ⟨o0, o1, o2, o3⟩ := HOut.out.cell4
          have zl := HY.out.lt
          have ol := HOut.out.lt
          have ofz := HOut.out.frozen 1
          go_wp2_with fail
          with_reducible refine (Update_ct A2 B2 B3 n2 c2 m2 d2 m3 d3 cur.add o.add o.del w5 X2.out.rd Y2.out.rd Y3.out.rd (by omega) (by omega) (by omega) (up_le (setB_iff.1 Hoo.out.del).1)).mono ?_
          rintro e w6 ⟨hb, Aw, cw, rfl, how⟩
          have hs9 : setB N (updF cur.add o.add o.del) = true := (combStep_sets Hset.out Hoo.out.sets).add
          have hx1 : RdN gO w6 Aw (updF cur.add o.add o.del).length cw (updF cur.add o.add o.del)   := RdN.own how ol rfl (set_small hs9 (by have := Hok.out.low; omega))
          have hO9 := (HOut.out.keep hb).set 1 (.slice Aw (updF cur.add o.add o.del).length cw)
          simp only [List.set_cons_zero, List.set_cons_succ] at hO9
          have hY9 := (HY.out.keep hb).far (p := ⟨gO, 1, none⟩) (by show gY ≠ gO; omega) (.slice Aw (updF cur.add o.add o.del).length cw)
          have hT9 := (HT.out.keep hb).far (p := ⟨gO, 1, none⟩) (by show gT ≠ gO; omega) (.slice Aw (updF cur.add o.add o.del).length cw)
          have hR9 := (HR.out.keep hb).far (p := ⟨gO, 1, none⟩) (by show gR ≠ gO; omega) (.slice Aw (updF cur.add o.add o.del).length cw)
          have hb9 := below_set (Hbl.out.trans (hb.mono Hbl.out.size)) (g := gO) (by omega) 1 (.slice Aw (updF cur.add o.add o.del).length cw)
          clear z0 z1 z2 z3 o0 o1 o2 o3 zl ol ofz
          obtain ⟨o0, o1, o2, o3⟩ := (HOut.out.keep hb).cell4
          have ofz := (HOut.out.keep hb).frozen 1
          have ol := (HOut.out.keep hb).lt
          replace X1 := hide ((X1.out.keep hb).set (Nat.le_refl gO) 1 (.slice Aw (updF cur.add o.add o.del).length cw))
          replace X2 := hide ((X2.out.keep hb).set (Nat.le_refl gO) 1 (.slice Aw (updF cur.add o.add o.del).length cw))
          replace X3 := hide ((X3.out.keep hb).set (Nat.le_refl gO) 1 (.slice Aw (updF cur.add o.add o.del).length cw))
          replace Y1 := hide ((Y1.out.keep hb).set 1 (.slice Aw (updF cur.add o.add o.del).length cw))
          replace Y2 := hide ((Y2.out.keep hb).set 1 (.slice Aw (updF cur.add o.add o.del).length cw))
          replace Y3 := hide ((Y3.out.keep hb).set 1 (.slice Aw (updF cur.add o.add o.del).length cw))
          replace X2 := hide (hx1.set (Nat.le_refl gO) 1 (.slice Aw (updF cur.add o.add o.del).length cw))
          have HO9 := hide hO9
          have HY9 := hide hY9
          replace HT := hide hT9
          replace HR := hide hR9
          replace Hbl := hide hb9
          clear hs9 hx1 hO9 hY9 hT9 hR9 hb9 hb how
          go_upto_region 10 with (fail)
          obtain ⟨w7, hw9⟩ : ∃ w9, w9 = w6.setCell ⟨gO, 1, none⟩ (.slice Aw (updF cur.add o.add o.del).length cw) := ⟨_, rfl⟩
          rw [← hw9] at HO9 HY9 HT HR X1 X2 X3 Y1 Y2 Y3 Hbl ⊢
          clear hw9 HOut HY o0 o1 o2 o3 ofz ol
          have HOut := HO9
          have HY := HY9
          clear HO9 HY9
          obtain ⟨z0, z1, z2, z3⟩ := HY.out.cell4
          obtain ⟨o0, o1, o2, o3⟩ := HOut.out.cell4
          have zl := HY.out.lt
          have ol := HOut.out.lt
          have ofz := HOut.out.frozen 2
          go_wp2_with fail
          with_reducible refine (Update_ct A3 B3 B2 n3 c3 m3 d3 m2 d2 cur.del o.del o.add w7 X3.out.rd Y3.out.rd Y2.out.rd (by omega) (by omega) (by omega) (up_le (setB_iff.1 Hoo.out.add).1)).mono ?_
          rintro e w8 ⟨hb, Ax, cx, rfl, hox⟩
          have hs9 : setB N (updF cur.del o.del o.add) = true := (combStep_sets Hset.out Hoo.out.sets).del
          have hx1 : RdN gO w8 Ax (updF cur.del o.del o.add).length cx (updF cur.del o.del o.add)   := RdN.own hox ol rfl (set_small hs9 (by have := Hok.out.low; omega))
          have hO9 := (HOut.out.keep hb).set 2 (.slice Ax (updF cur.del o.del o.add).length cx)
          simp only [List.set_cons_zero, List.set_cons_succ] at hO9
          have hY9 := (HY.out.keep hb).far (p := ⟨gO, 2, none⟩) (by show gY ≠ gO; omega) (.slice Ax (updF cur.del o.del o.add).length cx)
          have hT9 := (HT.out.keep hb).far (p := ⟨gO, 2, none⟩) (by show gT ≠ gO; omega) (.slice Ax (updF cur.del o.del o.add).length cx)
          have hR9 := (HR.out.keep hb).far (p := ⟨gO, 2, none⟩) (by show gR ≠ gO; omega) (.slice Ax (updF cur.del o.del o.add).length cx)
          have hb9 := below_set (Hbl.out.trans (hb.mono Hbl.out.size)) (g := gO) (by omega) 2 (.slice Ax (updF cur.del o.del o.add).length cx)
          clear z0 z1 z2 z3 o0 o1 o2 o3 zl ol ofz
          obtain ⟨o0, o1, o2, o3⟩ := (HOut.out.keep hb).cell4
          have ofz := (HOut.out.keep hb).frozen 2
          have ol := (HOut.out.keep hb).lt
          replace X1 := hide ((X1.out.keep hb).set (Nat.le_refl gO) 2 (.slice Ax (updF cur.del o.del o.add).length cx))
          replace X2 := hide ((X2.out.keep hb).set (Nat.le_refl gO) 2 (.slice Ax (updF cur.del o.del o.add).length cx))
          replace X3 := hide ((X3.out.keep hb).set (Nat.le_refl gO) 2 (.slice Ax (updF cur.del o.del o.add).length cx))
          replace Y1 := hide ((Y1.out.keep hb).set 2 (.slice Ax (updF cur.del o.del o.add).length cx))
          replace Y2 := hide ((Y2.out.keep hb).set 2 (.slice Ax (updF cur.del o.del o.add).length cx))
          replace Y3 := hide ((Y3.out.keep hb).set 2 (.slice Ax (updF cur.del o.del o.add).length cx))
          replace X3 := hide (hx1.set (Nat.le_refl gO) 2 (.slice Ax (updF cur.del o.del o.add).length cx))
          have HO9 := hide hO9
          have HY9 := hide hY9
          replace HT := hide hT9
          replace HR := hide hR9
          replace Hbl := hide hb9
          clear hs9 hx1 hO9 hY9 hT9 hR9 hb9 hb hox
          go_upto_region 11 with (fail)
          obtain ⟨w9, hw9⟩ : ∃ w9, w9 = w8.setCell ⟨gO, 2, none⟩ (.slice Ax (updF cur.del o.del o.add).length cx) := ⟨_, rfl⟩
          rw [← hw9] at HO9 HY9 HT HR X1 X2 X3 Y1 Y2 Y3 Hbl ⊢
          clear hw9 HOut HY o0 o1 o2 o3 ofz ol
          have HOut := HO9
          have HY := HY9
          clear HO9 HY9
          obtain ⟨z0, z1, z2, z3⟩ := HY.out.cell4
          obtain ⟨o0, o1, o2, o3⟩ := HOut.out.cell4
          have zl := HY.out.lt
          have ol := HOut.out.lt
          have ofz := HOut.out.frozen 3
          go_wp2_with fail
          go_roundw
          case rel =>
            refine ⟨k + 1, combStep cur o, Av, pp.length, cv, Aw, (updF cur.add o.add o.del).length, cw, Ax, (updF cur.del o.del o.add).length, cx, by omega, by go_num, HT.out.far (p := ⟨gO, 3, none⟩) (by show gT ≠ gO; omega) _, HR.out.far (p := ⟨gO, 3, none⟩) (by show gR ≠ gO; omega) _, ?_, ?_, ?_, ?_, combStep_sets Hset.out Hoo.out.sets, ?_, ?_, below_set Hbl.out (g := gO) (by omega) 3 _, ?_⟩
            · exact HOut.out.set 3 (.int .i64 (cur.cost + o.cost))
            · have := X1.out.set (Nat.le_refl gO) 3 (.int .i64 (cur.cost + o.cost))
              rw [Hpp.out, Hu.out] at this ⊢
              exact this
            · exact X2.out.set (Nat.le_refl gO) 3 _
            · exact X3.out.set (Nat.le_refl gO) 3 _
            · show 0 ≤ cur.cost + o.cost
              omega
            · show cur.cost + o.cost ≤ 100 * ((k + 1 : Nat) : Int)
              omega
            · rw [Hrel.out, Hd.out, Hstep.out]
          case measure => simp [intOf]; omega
        · skip
          go_simp
          with_reducible refine (Update_ct B1 none A2 m1 d1 0 0 n2 c2 o.pre [] cur.add _ (Y1.out.rd.qt (Qt.refl _).drew) (Rd.nil_ _ _) (X2.out.rd.qt (Qt.refl _).drew) (by omega) (by omega) (by omega) (up_le (setB_iff.1 Hset.out.add).1)).mono ?_
          rintro e wu ⟨hbu, Au, cu, rfl, hou⟩
          rw [← Hu.out] at hou ⊢
          have Hou := hide hou
          have Hbu := hide hbu
          obtain ⟨p0, p1, p2, p3⟩ := ((HOut.out.qt (Qt.refl w4).drew).keep hbu).cell4
          obtain ⟨q0, q1, q2, q3⟩ := ((HY.out.qt (Qt.refl w4).drew).keep hbu).cell4
          have pl := ((HOut.out.qt (Qt.refl w4).drew).keep hbu).lt
          clear hou hbu p2 p3 q1 q2 q3
          refine hK.out _ _ ?_ (fun hHeld2 => ?_)
          · (try dsimp only); exact ⟨p1, q0⟩
          clear hK K hHeld
          try simp only [Act.put, List.setIfInBounds_toArray, List.set_cons_zero, List.set_cons_succ]
          have hHeld := hHeld2; clear hHeld2
          refine wpAnyH_ready (rs := [1]) (by kernel_rfl) (by simp) ?_
          refine AllReadyH.cons rfl (fun K hK => ?_) AllReadyH.nil
          go_simp
          refine hK.out _ _ ?_ (fun hHeld2 => ?_)
          · (try dsimp only); exact ⟨p1, q0⟩
          clear hK K hHeld
          try simp only [Act.put, List.setIfInBounds_toArray, List.set_cons_zero, List.set_cons_succ]
          have hHeld := hHeld2; clear hHeld2
          refine wpAnyH_ready (rs := [7]) (by kernel_rfl) (by simp) ?_
          refine AllReadyH.cons rfl (fun K hK => ?_) AllReadyH.nil
          go_simp
          with_reducible refine (Union_ct A1 Au n1 c1 u.length cu cur.pre u wu ((X1.out.rd.qt (Qt.refl w4).drew).keep Hbu.out) (own_rd Hou.out rfl (set_small Hu0.out (by have := Hok.out.low; omega))) (by omega) (by omega)).mono ?_
          rintro e wv ⟨hbv, Av, cv, rfl, hov⟩
          have Hov := hide hov
          have Hbv := hide hbv
          have HOv := hide (((HOut.out.qt (Qt.refl w4).drew).keep Hbu.out).keep hbv)
          have HYv := hide (((HY.out.qt (Qt.refl w4).drew).keep Hbu.out).keep hbv)
          obtain ⟨v0, v1, v2, v3⟩ := HOv.out.cell4
          obtain ⟨x0, x1, x2, x3⟩ := HYv.out.cell4
          have hfz := HOv.out.frozen 0
          have hlz := HOv.out.lt
          clear hov hbv v2 v3 x1 x2 x3
          refine hK.out _ _ ?_ (fun hHeld2 => ?_)
          · (try dsimp only); exact ⟨v1, x0⟩
          clear hK K hHeld
          try simp only [Act.put, List.setIfInBounds_toArray, List.set_cons_zero, List.set_cons_succ]
          have hHeld := hHeld2; clear hHeld2
          refine takeM (i := 8) (v := ?_) (some 35) rfl rfl (by kernel_rfl) (by kernel_rfl) (by kernel_rfl) (fun _ _ _ h => h) (Or.inl ⟨by rfl, ?_⟩) (by assumption) ?_
          rotate_left
          · intro w hSw; (try dsimp only at hSw); obtain ⟨s1, s2⟩ := hSw; first | (go_simp; done) | (go_simp; with_reducible rfl)
          try simp only [Act.put, List.setIfInBounds_toArray, List.set_cons_zero, List.set_cons_succ]
          have hsO := HOv.out.set 0 (.slice Av (updF cur.pre u []).length cv)
          have hsY := HYv.out.far (p := ⟨gO, 0, none⟩) (by show gY ≠ gO; omega) (.slice Av (updF cur.pre u []).length cv)
          simp only [List.set_cons_zero] at hsO
          have hs1 := hsO.cell 1
          have hs2 := hsY.cell 0
          simp only [List.getElem?_cons_zero, List.getElem?_cons_succ] at hs1 hs2
          have HsO := hide hsO
          have HsY := hide hsY
          clear hsO hsY
          refine wpAnyH_ready (rs := [9]) (by kernel_rfl) (by simp) ?_
          refine AllReadyH.cons rfl (fun K hK => ?_) AllReadyH.nil
          go_simp
          refine hK.out _ _ ?_ (fun hHeld2 => ?_)
          · (try dsimp only); exact ⟨hs1, hs2⟩
          clear hK K hHeld
          try simp only [Act.put, List.setIfInBounds_toArray, List.set_cons_zero, List.set_cons_succ]
          have hHeld := hHeld2; clear hHeld2
          refine wpAnyH_done (by kernel_rfl) ?_ _
          have hch := fun (g : Nat) (t : TypeId) (cs : List Value) (h : Blk t w4 g cs) (hne : g ≠ gO) => (((h.qt (Qt.refl w4).drew).keep Hbu.out).keep Hbv.out).far (p := ⟨gO, 0, none⟩) hne (.slice Av (updF cur.pre u []).length cv)
          have hx9 := fun (A : Option Addr) (n c : Nat) (l : List Int) (h : RdX gO w4 A n c l) => (((h.keep ((Qt.refl w4).drew.below _)).keep Hbu.out).keep Hbv.out).set 0 (.slice Av (updF cur.pre u []).length cv)
          replace HT := hide (hch gT _ _ HT.out (by omega))
          replace HR := hide (hch gR _ _ HR.out (by omega))
          have hx8 := fun (A : Option Addr) (n c : Nat) (l : List Int) (h : RdN gO w4 A n c l) => (((h.keep ((Qt.refl w4).drew.below _)).keep Hbu.out).keep Hbv.out).set (Nat.le_refl gO) 0 (.slice Av (updF cur.pre u []).length cv)
          replace X2 := hide (hx8 _ _ _ _ X2.out)
          replace X3 := hide (hx8 _ _ _ _ X3.out)
          replace Y1 := hide (hx9 _ _ _ _ Y1.out)
          replace Y2 := hide (hx9 _ _ _ _ Y2.out)
          replace Y3 := hide (hx9 _ _ _ _ Y3.out)
          have hsp : setB N (updF cur.pre u []) = true := updF_set (setB_iff.1 Hset.out.pre).2 (setB_iff.1 Hu0.out).2
          have hx1 : RdN gO wv Av (updF cur.pre u []).length cv (updF cur.pre u [])   := RdN.own Hov.out (Nat.lt_of_lt_of_le pl (Nat.le_refl _)) rfl (set_small hsp (by have := Hok.out.low; omega))
          replace X1 := hide (hx1.set (Nat.le_refl gO) 0 (.slice Av (updF cur.pre u []).length cv))
          have hbl9 := below_set (((Hbl.out.drew).trans (Hbu.out.mono (by have := Hbl.out.size; exact this))).trans (Hbv.out.mono (by have := Hbl.out.size; have := Hbu.out.size; exact Nat.le_trans Hbl.out.size Hbu.out.size))) (g := gO) (by omega) 0 (.slice Av (updF cur.pre u []).length cv)
          replace Hbl := hide hbl9
          obtain ⟨pp, hpp⟩ : ∃ pp, pp = updF cur.pre u [] := ⟨_, rfl⟩
          rw [← hpp] at HsO HsY HT HR X1 X2 X3 Y1 Y2 Y3 Hbl hsp ⊢
          obtain ⟨w5, hw5⟩ : ∃ w5, w5 = wv.setCell ⟨gO, 0, none⟩ (.slice Av pp.length cv) := ⟨_, rfl⟩
          rw [← hw5] at HsO HsY HT HR X1 X2 X3 Y1 Y2 Y3 Hbl ⊢
          have Hpp := hide hpp
          have Hsp := hide hsp
          clear hw5 hpp hsp hx1 hbl9 hch hx9 hx8 HOv HYv Hov Hou Hbu Hbv HOut HY hs1 hs2 v0 v1 x0 hfz hlz z0 z1 z2 z3 o0 o1 o2 o3 zl
          clear p0 p1 q0 pl
          have HOut := HsO
          have HY := HsY
          clear HsO HsY hHeld
          obtain ⟨z0, z1, z2, z3⟩ := HY.out.cell4
          obtain ⟨o0, o1, o2, o3⟩ := HOut.out.cell4
          have zl := HY.out.lt
          have ol := HOut.out.lt
          have ofz := HOut.out.frozen 1
          go_wp2_with fail
          with_reducible refine (Update_ct A2 B2 B3 n2 c2 m2 d2 m3 d3 cur.add o.add o.del w5 X2.out.rd Y2.out.rd Y3.out.rd (by omega) (by omega) (by omega) (up_le (setB_iff.1 Hoo.out.del).1)).mono ?_
          rintro e w6 ⟨hb, Aw, cw, rfl, how⟩
          have hs9 : setB N (updF cur.add o.add o.del) = true := (combStep_sets Hset.out Hoo.out.sets).add
          have hx1 : RdN gO w6 Aw (updF cur.add o.add o.del).length cw (updF cur.add o.add o.del)   := RdN.own how ol rfl (set_small hs9 (by have := Hok.out.low; omega))
          have hO9 := (HOut.out.keep hb).set 1 (.slice Aw (updF cur.add o.add o.del).length cw)
          simp only [List.set_cons_zero, List.set_cons_succ] at hO9
          have hY9 := (HY.out.keep hb).far (p := ⟨gO, 1, none⟩) (by show gY ≠ gO; omega) (.slice Aw (updF cur.add o.add o.del).length cw)
          have hT9 := (HT.out.keep hb).far (p := ⟨gO, 1, none⟩) (by show gT ≠ gO; omega) (.slice Aw (updF cur.add o.add o.del).length cw)
          have hR9 := (HR.out.keep hb).far (p := ⟨gO, 1, none⟩) (by show gR ≠ gO; omega) (.slice Aw (updF cur.add o.add o.del).length cw)
          have hb9 := below_set (Hbl.out.trans (hb.mono Hbl.out.size)) (g := gO) (by omega) 1 (.slice Aw (updF cur.add o.add o.del).length cw)
          clear z0 z1 z2 z3 o0 o1 o2 o3 zl ol ofz
          obtain ⟨o0, o1, o2, o3⟩ := (HOut.out.keep hb).cell4
          have ofz := (HOut.out.keep hb).frozen 1
          have ol := (HOut.out.keep hb).lt
          replace X1 := hide ((X1.out.keep hb).set (Nat.le_refl gO) 1 (.slice Aw (updF cur.add o.add o.del).length cw))
          replace X2 := hide ((X2.out.keep hb).set (Nat.le_refl gO) 1 (.slice Aw (updF cur.add o.add o.del).length cw))
          replace X3 := hide ((X3.out.keep hb).set (Nat.le_refl gO) 1 (.slice Aw (updF cur.add o.add o.del).length cw))
          replace Y1 := hide ((Y1.out.keep hb).set 1 (.slice Aw (updF cur.add o.add o.del).length cw))
          replace Y2 := hide ((Y2.out.keep hb).set 1 (.slice Aw (updF cur.add o.add o.del).length cw))
          replace Y3 := hide ((Y3.out.keep hb).set 1 (.slice Aw (updF cur.add o.add o.del).length cw))
          replace X2 := hide (hx1.set (Nat.le_refl gO) 1 (.slice Aw (updF cur.add o.add o.del).length cw))
          have HO9 := hide hO9
          have HY9 := hide hY9
          replace HT := hide hT9
          replace HR := hide hR9
          replace Hbl := hide hb9
          clear hs9 hx1 hO9 hY9 hT9 hR9 hb9 hb how
          go_upto_region 10 with (fail)
          obtain ⟨w7, hw9⟩ : ∃ w9, w9 = w6.setCell ⟨gO, 1, none⟩ (.slice Aw (updF cur.add o.add o.del).length cw) := ⟨_, rfl⟩
          rw [← hw9] at HO9 HY9 HT HR X1 X2 X3 Y1 Y2 Y3 Hbl ⊢
          clear hw9 HOut HY o0 o1 o2 o3 ofz ol
          have HOut := HO9
          have HY := HY9
          clear HO9 HY9
          obtain ⟨z0, z1, z2, z3⟩ := HY.out.cell4
          obtain ⟨o0, o1, o2, o3⟩ := HOut.out.cell4
          have zl := HY.out.lt
          have ol := HOut.out.lt
          have ofz := HOut.out.frozen 2
          go_wp2_with fail
          with_reducible refine (Update_ct A3 B3 B2 n3 c3 m3 d3 m2 d2 cur.del o.del o.add w7 X3.out.rd Y3.out.rd Y2.out.rd (by omega) (by omega) (by omega) (up_le (setB_iff.1 Hoo.out.add).1)).mono ?_
          rintro e w8 ⟨hb, Ax, cx, rfl, hox⟩
          have hs9 : setB N (updF cur.del o.del o.add) = true := (combStep_sets Hset.out Hoo.out.sets).del
          have hx1 : RdN gO w8 Ax (updF cur.del o.del o.add).length cx (updF cur.del o.del o.add)   := RdN.own hox ol rfl (set_small hs9 (by have := Hok.out.low; omega))
          have hO9 := (HOut.out.keep hb).set 2 (.slice Ax (updF cur.del o.del o.add).length cx)
          simp only [List.set_cons_zero, List.set_cons_succ] at hO9
          have hY9 := (HY.out.keep hb).far (p := ⟨gO, 2, none⟩) (by show gY ≠ gO; omega) (.slice Ax (updF cur.del o.del o.add).length cx)
          have hT9 := (HT.out.keep hb).far (p := ⟨gO, 2, none⟩) (by show gT ≠ gO; omega) (.slice Ax (updF cur.del o.del o.add).length cx)
          have hR9 := (HR.out.keep hb).far (p := ⟨gO, 2, none⟩) (by show gR ≠ gO; omega) (.slice Ax (updF cur.del o.del o.add).length cx)
          have hb9 := below_set (Hbl.out.trans (hb.mono Hbl.out.size)) (g := gO) (by omega) 2 (.slice Ax (updF cur.del o.del o.add).length cx)
          clear z0 z1 z2 z3 o0 o1 o2 o3 zl ol ofz
          obtain ⟨o0, o1, o2, o3⟩ := (HOut.out.keep hb).cell4
          have ofz := (HOut.out.keep hb).frozen 2
          have ol := (HOut.out.keep hb).lt
          replace X1 := hide ((X1.out.keep hb).set (Nat.le_refl gO) 2 (.slice Ax (updF cur.del o.del o.add).length cx))
          replace X2 := hide ((X2.out.keep hb).set (Nat.le_refl gO) 2 (.slice Ax (updF cur.del o.del o.add).length cx))
          replace X3 := hide ((X3.out.keep hb).set (Nat.le_refl gO) 2 (.slice Ax (updF cur.del o.del o.add).length cx))
          replace Y1 := hide ((Y1.out.keep hb).set 2 (.slice Ax (updF cur.del o.del o.add).length cx))
          replace Y2 := hide ((Y2.out.keep hb).set 2 (.slice Ax (updF cur.del o.del o.add).length cx))
          replace Y3 := hide ((Y3.out.keep hb).set 2 (.slice Ax (updF cur.del o.del o.add).length cx))
          replace X3 := hide (hx1.set (Nat.le_refl gO) 2 (.slice Ax (updF cur.del o.del o.add).length cx))
          have HO9 := hide hO9
          have HY9 := hide hY9
          replace HT := hide hT9
          replace HR := hide hR9
          replace Hbl := hide hb9
          clear hs9 hx1 hO9 hY9 hT9 hR9 hb9 hb hox
          go_upto_region 11 with (fail)
          obtain ⟨w9, hw9⟩ : ∃ w9, w9 = w8.setCell ⟨gO, 2, none⟩ (.slice Ax (updF cur.del o.del o.add).length cx) := ⟨_, rfl⟩
          rw [← hw9] at HO9 HY9 HT HR X1 X2 X3 Y1 Y2 Y3 Hbl ⊢
          clear hw9 HOut HY o0 o1 o2 o3 ofz ol
          have HOut := HO9
          have HY := HY9
          clear HO9 HY9
          obtain ⟨z0, z1, z2, z3⟩ := HY.out.cell4
          obtain ⟨o0, o1, o2, o3⟩ := HOut.out.cell4
          have zl := HY.out.lt
          have ol := HOut.out.lt
          have ofz := HOut.out.frozen 3
          go_wp2_with fail
          go_roundw
          case rel =>
            refine ⟨k + 1, combStep cur o, Av, pp.length, cv, Aw, (updF cur.add o.add o.del).length, cw, Ax, (updF cur.del o.del o.add).length, cx, by omega, by go_num, HT.out.far (p := ⟨gO, 3, none⟩) (by show gT ≠ gO; omega) _, HR.out.far (p := ⟨gO, 3, none⟩) (by show gR ≠ gO; omega) _, ?_, ?_, ?_, ?_, combStep_sets Hset.out Hoo.out.sets, ?_, ?_, below_set Hbl.out (g := gO) (by omega) 3 _, ?_⟩
            · exact HOut.out.set 3 (.int .i64 (cur.cost + o.cost))
            · have := X1.out.set (Nat.le_refl gO) 3 (.int .i64 (cur.cost + o.cost))
              rw [Hpp.out, Hu.out] at this ⊢
              exact this
            · exact X2.out.set (Nat.le_refl gO) 3 _
            · exact X3.out.set (Nat.le_refl gO) 3 _
            · show 0 ≤ cur.cost + o.cost
              omega
            · show cur.cost + o.cost ≤ 100 * ((k + 1 : Nat) : Int)
              omega
            · rw [Hrel.out, Hd.out, Hstep.out]
          case measure => simp [intOf]; omega
      · rw [em] at hms
        have hnone : combF cur (o :: (l.drop (k + 1)).map (opAt T.ops)) = none := by rw [combF, if_pos em]
        have Hnone := hide hnone
        clear em hnone
        go_wp2_with fail
        refine hms.mono ?_
        rintro e w4 ⟨rfl, hb⟩
        clear hms z0 z1 z2 z3 o0 o1 o2 o3 zl
        replace HR := hide (HR.out.keep hb)
        replace Hbl := hide (Hbl.out.trans (hb.mono Hbl.out.size))
        clear hb
        obtain ⟨a0, a1, a2, a3⟩ := HR.out.cell4
        have e0 := HR.out.frozen 0
        have e1 := HR.out.frozen 1
        have e2 := HR.out.frozen 2
        have e3 := HR.out.frozen 3
        have al := HR.out.lt
        go_wp2_with fail
        refine bodyPost_ret (v := .tuple #[.agg #[.slice none 0 0, .slice none 0 0, .slice none 0 0, .int .i64 0], .bool false]) (by simp [results, Tryz.results60, go_sem, a0, a1, a2, a3, al]) rfl ⟨?_, .inl ⟨by rw [Hrel.out, Hd.out, Hnone.out], rfl⟩⟩
        exact ((((Hbl.out.setCell (by show w.heap.size ≤ gR; omega) _).setCell (by show w.heap.size ≤ gR; omega) _).setCell (by show w.heap.size ≤ gR; omega) _).setCell (by show w.heap.size ≤ gR; omega) _)
    · obtain rfl : k = m := by omega
      obtain ⟨o0, o1, o2, o3⟩ := HOut.out.cell4
      obtain ⟨a0, a1, a2, a3⟩ := HR.out.cell4
      have e0 := HR.out.frozen 0
      have e1 := HR.out.frozen 1
      have e2 := HR.out.frozen 2
      have e3 := HR.out.frozen 3
      have al := HR.out.lt
      have hne : ¬ gR = gO := by omega
      have hne2 : ¬ gO = gR := by omega
      go_wp2_with fail
      refine bodyPost_ret (v := .tuple #[.agg #[.slice A1 n1 c1, .slice A2 n2 c2, .slice A3 n3 c3, .int .i64 cur.cost], .bool true]) (by simp [results, Tryz.results60, go_sem, a0, a1, a2, a3, al]) rfl ⟨?_, .inr ⟨cur, A1, n1, c1, A2, n2, c2, A3, n3, c3, by rw [Hrel.out, List.drop_of_length_le (by rw [Hll.out]; omega)]; rfl, rfl, ?_, ?_, ?_, Hset.out⟩⟩
      · exact below_set (below_set (below_set (below_set Hbl.out (g := gR) (by omega) 0 _) (g := gR) (by omega) 1 _) (g := gR) (by omega) 2 _) (g := gR) (by omega) 3 _
      · exact ((((X1.out.set (Y := gR) (by omega) 0 _).set (Y := gR) (by omega) 1 _).set (Y := gR) (by omega) 2 _).set (Y := gR) (by omega) 3 _).less (by omega)
      · exact ((((X2.out.set (Y := gR) (by omega) 0 _).set (Y := gR) (by omega) 1 _).set (Y := gR) (by omega) 2 _).set (Y := gR) (by omega) 3 _).less (by omega)
      · exact ((((X3.out.set (Y := gR) (by omega) 0 _).set (Y := gR) (by omega) 1 _).set (Y := gR) (by omega) 2 _).set (Y := gR) (by omega) 3 _).less (by omega)
end Go.Proofs.YtemiecammmbjdaaGreat
namespace Go.Proofs.YtemiecammmbjdaaGreat
set_option linter.unusedVariables false
set_option linter.unusedSimpArgs false
open Go.RowKit
set_option maxRecDepth 100000 in
set_option maxHeartbeats 800000 in
theorem IndexMF_ct (g : Nat) (p : Int → Bool) (B : Option Addr) (n c : Nat) (xs : List Int) (w : World) (hx : Rd Enc.int w B n c xs)
    (hf : ∀ x ∈ xs, ∀ d, Calls Tryz.prog 93 #[.int .i64 x, .pointer (some ⟨g, 0, none⟩)] (w.drewN d) (Quiet (w.drewN d) (.bool (p x)))) :
    Calls Tryz.prog 106 #[.slice B n c, .func (.func 93) #[] #[.pointer (some ⟨g, 0, none⟩)]] w (Quiet w (.int .i64 (firstP p 0 xs))) := by
  have hsm := hx.low
  have Hl := hide hx.len
  have Hf := hide hf
  clear hf
  go_enter Tryz.func106, Tryz.ntmps106
  go_wp2
  go_loopw [8] (fun i wr => ∃ k : Nat, k ≤ n ∧ i = .int .i64 k ∧ Qt w wr ∧ firstP p 0 xs = firstP p k (xs.drop k)) (fun i _ => n - (intOf i).toNat)
  case atStart => exact ⟨0, by omega, rfl, Qt.refl _, by simp⟩
  case round =>
    obtain ⟨k, hk, rfl, ⟨d, rfl⟩, hrel⟩ := hrel
    by_cases hlt : k < n
    · obtain ⟨b, off, x, rfl, hxx, hxl, hxh, hcx⟩ := hx.int hlt
      rw [drop_cons hxx] at hrel
      have Hfx := hide (Hf.out x (List.mem_of_getElem? hxx) d)
      have Hrel := hide hrel
      clear hrel hxx
      obtain ⟨b, hb⟩ : ∃ b, b = p x := ⟨_, rfl⟩
      rw [← hb] at Hfx
      have Hb := hide hb
      clear hb
      go_wp2_with fail
      refine (Hfx.out).mono ?_
      rintro e w1 ⟨rfl, d1, rfl⟩
      cases b with
      | true =>
        go_wp2
        go_ret
        exact ⟨ret_int (by rw [Hrel.out, firstP, if_pos Hb.out.symm]), d + d1, rfl⟩
      | false =>
        go_wp2
        go_roundw
        case rel => exact ⟨k + 1, by omega, by go_num, ⟨d + d1, rfl⟩, by rw [Hrel.out, firstP, if_neg (by rw [← Hb.out]; simp)]⟩
        case measure => simp [intOf]; omega
    · have Hrel := hide hrel
      clear hrel
      go_wp2
      go_ret
      refine ⟨ret_int ?_, d, rfl⟩
      rw [Hrel.out, List.drop_of_length_le (by rw [Hl.out]; omega), firstP]
set_option maxHeartbeats 400000 in
theorem ContainsMF_ct (g : Nat) (p : Int → Bool) (B : Option Addr) (n c : Nat) (xs : List Int) (w : World) (hx : Rd Enc.int w B n c xs)
    (hf : ∀ x ∈ xs, ∀ d, Calls Tryz.prog 93 #[.int .i64 x, .pointer (some ⟨g, 0, none⟩)] (w.drewN d) (Quiet (w.drewN d) (.bool (p x)))) :
    Calls Tryz.prog 70 #[.slice B n c, .func (.func 93) #[] #[.pointer (some ⟨g, 0, none⟩)]] w (Quiet w (.bool (xs.any p))) := by
  have Hf := hide hf
  clear hf
  go_enter Tryz.func70, Tryz.ntmps70
  go_wp2_with fail
  refine (IndexMF_ct g p B n c xs _ hx Hf.out).mono ?_
  rintro e w1 ⟨rfl, d1, rfl⟩
  go_wp2
  go_ret
  exact ⟨ret_bool (firstP_sign p 0 xs), d1, rfl⟩

def outB (k : Nat) (x : Int) : Bool := decide (x < 0 ∨ (k : Int) ≤ x)
/-- the fault of a sequence over k operators -/
def seqFault (k : Nat) (l : List Int) (i : Int) : Int × Int := if l.length < 1 ∨ 6 < l.length then (9, i) else if l.any (outB k) = true then (3, i) else (0, 0)
theorem seqFault_ok {k : Nat} {l : List Int} {i : Int} (h : (seqFault k l i).1 = 0) : seqFault k l i = (0, 0) ∧ 1 ≤ l.length ∧ l.length ≤ 6 ∧ ∀ x ∈ l, 0 ≤ x ∧ x < k := by
  unfold seqFault at h ⊢
  split
  · rename_i e; rw [if_pos e] at h; cases h
  · rename_i e; rw [if_neg e] at h
    split
    · rename_i e2; rw [if_pos e2] at h; cases h
    · rename_i e2
      refine ⟨rfl, by omega, by omega, fun x hx => ?_⟩
      have := List.any_eq_false.1 (by simpa using e2) x hx
      unfold outB at this
      simp at this
      omega
set_option maxRecDepth 100000 in
set_option maxHeartbeats 800000 in
theorem fault1_ct (g : Nat) (x : Int) (x0 x1 x2 : Value) (O : Option Addr) (nO cO : Nat) (w : World) (hc : w.cell? ⟨g, 3, none⟩ = some (.slice O nO cO)) (hx : -9223372036854775808 ≤ x ∧ x ≤ 9223372036854775807) (hO : nO ≤ 9223372036854775807) :
    Calls Tryz.prog 93 #[.int .i64 x, .pointer (some ⟨g, 0, none⟩)] w (Quiet w (.bool (outB nO x))) := by
  obtain ⟨hx1, hx2⟩ := hx
  by_cases h : x < 0
  · go_enter Tryz.func93, Tryz.ntmps93
    go_wp2
    go_ret
    exact ⟨ret_bool (by unfold outB; rw [eq_comm, decide_eq_true_iff]; omega), Qt.refl _⟩
  · go_enter Tryz.func93, Tryz.ntmps93
    go_wp2
    go_ret
    refine ⟨ret_bool ?_, Qt.refl _⟩
    unfold outB
    rw [Bool.eq_iff_iff, decide_eq_true_iff, decide_eq_true_iff]
    omega
set_option maxRecDepth 100000 in
set_option maxHeartbeats 1600000 in
theorem mfault_ct (a : TA) (T : Tsk) (B : Option Addr) (m d : Nat) (l : List Int) (i : Int) (w : World) (h : TkR w a T) (hl : Rd Enc.int w B m d l) :
    Calls Tryz.prog 59 #[.agg #[.int .i64 T.facts, .slice a.I a.nI a.cI, .slice a.G a.nG a.cG, .slice a.O a.nO a.cO], .slice B m d, .int .i64 i] w (Gives w (fault (seqFault T.ops.length l i).1 (seqFault T.ops.length l i).2)) := by
  obtain ⟨I, nI, cI, G, nG, cG, O, nO, cO⟩ := a
  obtain ⟨_, hi, hg, ho⟩ := h
  simp only at hi hg ho ⊢
  have hlo := ho.low
  have hsm := hl.low
  have hlen := ho.len
  have hX := BxF.new w 25 [.int .i64 T.facts, .slice I nI cI, .slice G nG cG, .slice O nO cO] (.int .i64 0) (.int .i64 0)
  have hbw := below_two w (.cells #[.int .i64 T.facts, .slice I nI cI, .slice G nG cG, .slice O nO cO] 25) (.cells #[.int .i64 0, .int .i64 0] 28)
  rw [hlen]
  have Hlm := hide hl.len
  have HX := hide hX
  have Hbw := hide hbw
  have Hl := hide hl
  clear hX hbw hlen ho hi hg hl
  by_cases h1 : m < 1 ∨ 6 < m
  · have hres : seqFault nO l i = (9, i) := by unfold seqFault; rw [Hlm.out, if_pos h1]
    rw [hres]
    clear hres
    by_cases h2 : m < 1
    · obtain rfl : m = 0 := by omega
      clear h1
      go_enter Tryz.func59, Tryz.ntmps59
      go_wp2_with fail
      exact bodyPost_ret (v := fault 9 i) (by simp [results, Tryz.results59, go_sem, fault]) rfl ⟨rfl, below_two _ _ _⟩
    · have h3 : 6 < m := by omega
      clear h1
      go_enter Tryz.func59, Tryz.ntmps59
      go_wp2_with fail
      exact bodyPost_ret (v := fault 9 i) (by simp [results, Tryz.results59, go_sem, fault]) rfl ⟨rfl, below_two _ _ _⟩
  · have h2 : ¬ m < 1 := by omega
    have h3 : ¬ 6 < m := by omega
    have hmf : ∀ (fn : Fn) (first cap : Array Value) (w : World), (Instr.makeFunc fn first cap).run Tryz.prog w = .ok (.func fn first cap) w := fun _ _ _ _ => rfl
    have hct := ContainsMF_ct w.heap.size (outB nO) B m d l _ (Hl.out.keep Hbw.out) (fun x hx dd => by
      obtain ⟨j, hj⟩ := List.getElem?_of_mem hx
      have hjm : j < m := by rw [← Hlm.out]; exact (List.getElem?_eq_some_iff.1 hj).1
      obtain ⟨_, _, y, _, hy, hy1, hy2, _⟩ := Hl.out.int hjm
      rw [hj] at hy
      obtain rfl := Option.some.inj hy
      exact fault1_ct w.heap.size x (.int .i64 T.facts) (.slice I nI cI) (.slice G nG cG) O nO cO _ (by rw [World.cell?_drewN]; exact HX.out.cell4.2.2.2) ⟨hy1, hy2⟩ hlo)
    have hres : seqFault nO l i = if l.any (outB nO) = true then (3, i) else (0, 0) := by unfold seqFault; rw [Hlm.out, if_neg h1]
    rcases ha : l.any (outB nO) with _ | _
    · rw [ha] at hres hct
      rw [hres, if_neg (by simp)]
      have Hct := hide hct
      clear hres hct ha h1
      go_enter Tryz.func59, Tryz.ntmps59
      go_wp2_with fail
      refine Hct.out.mono ?_
      rintro e w1 ⟨rfl, hq⟩
      obtain ⟨y0, y1, y2, y3, y4, y5⟩ := (HX.out.qt hq).resf
      have Hb := hide (Hbw.out.trans (hq.below _))
      clear hq
      go_wp2_with fail
      exact bodyPost_ret (v := fault 0 0) (by simp [results, Tryz.results59, go_sem, fault, y0, y1, y5]) rfl ⟨rfl, below_res2 Hb.out (by omega) _ _⟩
    · rw [ha] at hres hct
      rw [hres, if_pos rfl]
      have Hct := hide hct
      clear hres hct ha h1
      go_enter Tryz.func59, Tryz.ntmps59
      go_wp2_with fail
      refine Hct.out.mono ?_
      rintro e w1 ⟨rfl, hq⟩
      obtain ⟨y0, y1, y2, y3, y4, y5⟩ := (HX.out.qt hq).resf
      have Hb := hide (Hbw.out.trans (hq.below _))
      clear hq
      go_wp2_with fail
      exact bodyPost_ret (v := fault 3 i) (by simp [results, Tryz.results59, go_sem, fault, y0, y1, y5]) rfl ⟨rfl, below_res2 Hb.out (by omega) _ _⟩
def zeroOp : Opr := ⟨[], [], [], 0⟩
/-- a result's operator -/
def OpN (X : Nat) (w : World) (v : Value) (o : Opr) : Prop := ∃ (A1 : Option Addr) (n1 c1 : Nat) (A2 : Option Addr) (n2 c2 : Nat) (A3 : Option Addr) (n3 c3 : Nat), v = .agg #[.slice A1 n1 c1, .slice A2 n2 c2, .slice A3 n3 c3, .int .i64 o.cost] ∧ RdN X w A1 n1 c1 o.pre ∧ RdN X w A2 n2 c2 o.add ∧ RdN X w A3 n3 c3 o.del
theorem OpN.zero (X : Nat) (w : World) : OpN X w (.agg #[.slice none 0 0, .slice none 0 0, .slice none 0 0, .int .i64 0]) zeroOp := ⟨none, 0, 0, none, 0, 0, none, 0, 0, rfl, RdN.nil _ _, RdN.nil _ _, RdN.nil _ _⟩
/-- what Combine answers -/
def combineR (T : Tsk) (l : List Int) : Opr × Bool × Int × Int :=
  if (taskFault T).1 ≠ 0 then (zeroOp, false, taskFault T) else if (seqFault T.ops.length l (-8)).1 ≠ 0 then (zeroOp, false, seqFault T.ops.length l (-8)) else
    match combF zeroOp (l.map (opAt T.ops)) with
    | none => (zeroOp, false, 0, 0)
    | some o => if 100 < o.cost then (zeroOp, false, 10, -9) else (o, true, 0, 0)
def CombineP (w : World) (r : Opr × Bool × Int × Int) (e : Ending) (w' : World) : Prop :=
  Below w.heap.size w w' ∧ ∃ v, e = .returned (.tuple #[v, .bool r.2.1, fault r.2.2.1 r.2.2.2]) ∧ OpN w.heap.size w' v r.1

end Go.Proofs.YtemiecammmbjdaaGreat
namespace Go.Proofs.YtemiecammmbjdaaGreat
set_option linter.unusedVariables false
set_option linter.unusedSimpArgs false
open Go.RowKit
/-- what is known of a fact: its state, whether it changed, whether it is asked for -/
structure FS where
  now : Int
  ch : Bool
  pr : Bool
def factStep (p : Int) (o : Opr) (s : FS) : Option FS :=
  if hasB o.pre p = true ∧ s.now < 0 then none else
  some ⟨if hasB o.del p = true then -1 else if hasB o.add p = true then 1 else if hasB o.pre p = true ∧ s.now = 0 then 1 else s.now, s.ch || hasB o.add p || hasB o.del p, s.pr || (hasB o.pre p && decide (s.now = 0))⟩
def factRun (p : Int) : FS → List Opr → Option FS
  | s, [] => some s
  | s, o :: os => match factStep p o s with
    | none => none
    | some s' => factRun p s' os
theorem apart_mem {o : Opr} (h : meetB o.add o.del = false) (p : Int) : ¬ (p ∈ o.add ∧ p ∈ o.del) := fun ⟨h1, h2⟩ => by
  have := meetB_iff.2 ⟨p, h1, h2⟩
  rw [h] at this
  cases this
def fr (os : List Opr) (p : Int) : Option FS := factRun p ⟨0, false, false⟩ os
theorem combF_sets {n : Nat} : ∀ (os : List Opr) (out r : Opr), SetOp n out → (∀ o ∈ os, SetOp n o) → combF out os = some r → SetOp n r ∧ r.cost = out.cost + (os.map (·.cost)).sum := by
  intro os
  induction os with
  | nil =>
    intro out r h _ he
    unfold combF at he
    obtain rfl := Option.some.inj he
    exact ⟨h, by simp⟩
  | cons o os ih =>
    intro out r h hs he
    unfold combF at he
    split at he
    · cases he
    · obtain ⟨h1, h2⟩ := ih _ r (combStep_sets h (hs o (List.mem_cons_self ..))) (fun q hq => hs q (List.mem_cons_of_mem _ hq)) he
      refine ⟨h1, ?_⟩
      rw [h2, List.map_cons, List.sum_cons]
      show out.cost + o.cost + _ = _
      omega
theorem zero_sets (n : Nat) : SetOp n zeroOp := ⟨by simp [setB, zeroOp], by simp [setB, zeroOp], by simp [setB, zeroOp]⟩
end Go.Proofs.YtemiecammmbjdaaGreat
namespace Go.Proofs.YtemiecammmbjdaaGreat
set_option linter.unusedVariables false
set_option linter.unusedSimpArgs false
open Go.RowKit
def costF (os : List Opr) (l : List Int) : Int := (l.map fun x => (opAt os x).cost).sum
theorem costF_succ {os : List Opr} {l : List Int} {k : Nat} {x : Int} (h : l[k]? = some x) : costF os (l.take (k + 1)) = costF os (l.take k) + (opAt os x).cost := by
  unfold costF
  rw [List.take_add_one, h]
  simp
end Go.Proofs.YtemiecammmbjdaaGreat
namespace Go.Proofs.YtemiecammmbjdaaGreat
set_option linter.unusedVariables false
set_option linter.unusedSimpArgs false
open Go.RowKit
theorem opInfoT : (Tryz.prog.info? 72).map (fun i => (i.zero, i.size, i.bytes)) = some (some (.agg #[.slice none 0 0, .slice none 0 0, .slice none 0 0, .int .i64 0]), 4, 80) := by kernel_rfl
theorem own_low {w : World} {B B' : Nat} {e : TypeId} {size n : Nat} {v : Value} {xs : List Value} (h : w.ownsRow B e size v n xs) (hB : B' ≤ B) : w.ownsRow B' e size v n xs := by
  refine ⟨h.1, ?_⟩
  rcases h.2 with h3 | ⟨r, cap, cur, e1, hr, hc, rest⟩
  · exact .inl h3
  · exact .inr ⟨r, cap, cur, e1, by omega, hc, rest⟩
/-- one element more in a region that draws -/
theorem step_pushE {α : Type} {E : Enc α} {P : Program} {w : World} {ops : Array Oper} {o : Oper} {a : Act} {K : Act → World → Prop} {Q : Exit → Act → World → Prop} {X : Prop} (hgd : o.guard = none) (s x : Operand) (t : TypeId)
    (ho : o.op = .call { callee := .builtin .append, args := #[s, x], argTypes := #[t, t] })
    (base : Nat) (e : TypeId) (i : TypeInfo) (z : Value) (bytes : Nat) (ht : P.underlying t = some (.slice e)) (hi : P.info? e = some i) (hz : i.zero = some z)
    (hsize : i.size = E.size) (hby : i.bytes = bytes) (hzs : z.cells.size = E.size) (hsz : 0 < E.size)
    {A : Option Addr} {n c : Nat} {M : Nat → Prop} {vs : List Value} {xs : List α} (hs : a.eval s = .slice A n c) (hown : OwnE E e base M w A n c vs xs) (hA : ∀ r, blkA A = some r → M r)
    (us : List Value) (y : α) (h1 : ∀ u ∈ us, u.oneCell' = true) (hx : a.eval x = .slice (some ⟨w.heap.size, 0, none⟩) 1 1) (hf : Firm E M w us y)
    (h63 : n + 1 ≤ 1000000000000) (hbytes : (n + 1) * bytes ≤ 140737488355328) (hbase : base ≤ w.heap.size)
    (h : ∀ O oc w', OwnE E e base (fun b => M b ∨ w.heap.size ≤ b) w' O (n + 1) oc (vs ++ us) (xs ++ [y]) → Chg (fun b => blkA A = some b) w w' → (blkA O = blkA A ∨ blkA O = some (w.heap.size + 1)) → K (a.put o.dst (.slice O (n + 1) oc)) w') :
    if Region.wanted o (yielded ops a.tmps) = true then Oper.wp P o a (w.alloc (.cells us.toArray e)) K Q else X := by
  have hus : us.length = E.size := E.len hf.ok
  have hw : Region.wanted o (yielded ops a.tmps) = true := by simp [Region.wanted, hgd]
  rw [if_pos hw]
  obtain ⟨g, cap', w', hr, h2, h3, h4, h5⟩ := run_append_lies (P := P) (w := w.alloc (.cells us.toArray e)) t o.type base e i z E.size bytes ht hi hz hsize hby hzs hsz _ n vs (hown.own.alloc _) ⟨w.heap.size, 0, none⟩ 1 1 us (by omega) (by
    intro j u hj
    rw [add_plain, Nat.zero_add]
    have := (Blk.new w e us).cell j
    rw [hj] at this
    exact this) h1 (by omega) (by unfold maxLen; omega) hbytes (by simp; omega) (w.heap.size + 1) (by simp)
  unfold Oper.wp execOp
  simp only [ho, resolve, invoke, builtin, Sem.run_bind, Sem.run_pure, Result.andThen_ok, List.map_toArray, List.map_cons, List.map_nil, hs, hx, hr]
  have hg : (w.alloc (.cells us.toArray e)).grownBy w' (blkA A) := by rw [← own_blkA A n c]; exact h3
  have hch : Chg (fun b => blkA A = some b) w w' := (Chg.of_below ((Below.refl w.heap.size w).alloc (Nat.le_refl _) (.cells us.toArray e)) _).trans (Chg.of_grown hg)
  refine h (some ⟨g, 0, none⟩) cap' w' ⟨h2, by rw [List.length_append, hown.len]; rfl, fun j u hj => ?_⟩ hch ?_
  · rcases Nat.lt_or_ge j n with hjn | hjn
    · rw [List.getElem?_append_left (by rw [hown.len]; exact hjn)] at hj
      obtain ⟨us', e1, e2⟩ := hown.elem j u hj
      refine ⟨us', fun k v hk => ?_, e2.chg (hch.mono hA)⟩
      have := e1 k v hk
      rw [List.getElem?_append_left (List.getElem?_eq_some_iff.1 this).1]
      exact this
    · rw [List.getElem?_append_right (by rw [hown.len]; exact hjn), hown.len] at hj
      have hjn2 : j = n := by
        have := (List.getElem?_eq_some_iff.1 hj).1
        simp at this
        omega
      subst hjn2
      simp at hj
      subst hj
      refine ⟨us, fun k v hk => ?_, hf.chg (hch.mono hA)⟩
      rw [List.getElem?_append_right (by rw [hown.vlen]; omega), hown.vlen, Nat.add_sub_cancel_left]
      exact hk
  · rw [own_blkA] at h4
    rcases h4 with h4 | h4
    · exact .inl h4.symm
    · exact .inr (by rw [h4]; rfl)
/-- the rows of a copy that is being made -/
structure CpA where
  gT : Nat
  gO : Nat
  B0 : Nat
  H1 : Nat
  AI : Option Addr
  nI : Nat
  cI : Nat
  AG : Option Addr
  nG : Nat
  cG : Nat
def zeroTask : List Value := [.int .i64 0, .slice none 0 0, .slice none 0 0, .slice none 0 0]
/-- what stands while the operators are copied -/
structure CpS (w W : World) (T : Tsk) (tc : List Value) (a : CpA) (k : Nat) (O : Option Addr) (oc : Nat) (vs : List Value) : Prop where
  par : Blk 25 W a.gT tc
  res : Blk 25 W (a.gT + 1) zeroTask
  out : Blk 25 W a.gO [.int .i64 T.facts, .slice a.AI a.nI a.cI, .slice a.AG a.nG a.cG, .slice O k oc]
  low : Below w.heap.size w W
  own : OwnE Enc.op 72 a.H1 (fun b => blkA O = some b ∨ b < a.H1 ∨ W.heap.size ≤ b) W O k oc vs (T.ops.take k)
  size : a.H1 ≤ W.heap.size
  init : RdM (fun b => b < a.B0 ∨ b = a.gO ∨ a.H1 ≤ b) W a.AI a.nI a.cI T.init
  goal : RdM (fun b => b < a.B0 ∨ b = a.gO ∨ a.H1 ≤ b) W a.AG a.nG a.cG T.goal
  g1 : a.gT = w.heap.size
  g2 : a.gT + 1 < a.B0
  g3 : a.B0 ≤ a.gO
  g4 : a.gO < a.H1
section
variable {w W W' : World} {T : Tsk} {tc : List Value} {a : CpA} {k oc : Nat} {O : Option Addr} {vs : List Value}
theorem CpS.keep (h : CpS w W T tc a k O oc vs) (hb : Below W.heap.size W W') : CpS w W' T tc a k O oc vs :=
  ⟨h.par.keep hb, h.res.keep hb, h.out.keep hb, h.low.trans (hb.mono h.low.size), (h.own.keep hb).less (fun i hi e => by have := hb.size; rcases e with e | e | e; exact .inl e; exact .inr (.inl e); exact .inr (.inr (by omega))), by have := h.size; have := hb.size; omega, h.init.keep hb, h.goal.keep hb, h.g1, h.g2, h.g3, h.g4⟩
theorem CpS.blk (h : CpS w W T tc a k O oc vs) {r : Nat} (hr : blkA O = some r) : a.H1 ≤ r ∧ r < W.heap.size := h.own.base hr
/-- one operator more, and its store -/
theorem CpS.push (h : CpS w W T tc a k O oc vs) {o : Opr} (ho : T.ops[k]? = some o) {us : List Value} {O' : Option Addr} {oc' : Nat}
    (hown : OwnE Enc.op 72 a.H1 (fun b => (blkA O = some b ∨ b < a.H1 ∨ W.heap.size ≤ b) ∨ W.heap.size ≤ b) W' O' (k + 1) oc' (vs ++ us) (T.ops.take k ++ [o])) (hch : Chg (fun b => blkA O = some b) W W') (hat : blkA O' = blkA O ∨ blkA O' = some (W.heap.size + 1)) :
    CpS w (W'.setCell ⟨a.gO, 3, none⟩ (.slice O' (k + 1) oc')) T tc a (k + 1) O' oc' (vs ++ us) := by
  have hO : ∀ r, blkA O = some r → a.H1 ≤ r := fun r hr => (h.blk hr).1
  have g1 := h.g1
  have g2 := h.g2
  have g3 := h.g3
  have g4 := h.g4
  have hsz := hch.size
  have hz := h.size
  have hn : ∀ g, g < a.H1 → ¬ blkA O = some g := fun g hg e => by have := hO g e; omega
  have hout := (hch.blk h.out (hn _ g4)).set 3 (.slice O' (k + 1) oc')
  simp only [List.set_cons_zero, List.set_cons_succ] at hout
  refine ⟨(hch.blk h.par (hn _ (by omega))).far (p := ⟨a.gO, 3, none⟩) (by show a.gT ≠ a.gO; omega) _, (hch.blk h.res (hn _ (by omega))).far (p := ⟨a.gO, 3, none⟩) (by show a.gT + 1 ≠ a.gO; omega) _, hout,
    below_set (row_below h.low h.low.size hch (fun r hr => by have := hO r hr; omega)) (by omega) 3 _, ?_, by have : a.H1 ≤ W'.heap.size := by omega
                                                                                                              simpa using this, ?_, ?_, g1, g2, g3, g4⟩
  · rw [List.take_add_one, ho]
    have h2 : OwnE Enc.op 72 a.H1 (fun b => blkA O' = some b ∨ b < a.H1 ∨ W'.heap.size ≤ b) W' O' (k + 1) oc' (vs ++ us) (T.ops.take k ++ [o]) := hown.less (fun i hi e => by
      rcases e with e | e | e
      · rcases hat with hat | hat
        · exact .inl (.inl (by rw [← hat]; exact e))
        · rw [hat] at e
          injection e with e
          exact .inr (by omega)
      · exact .inl (.inr (.inl e))
      · omega)
    have h3 := h2.chg (M' := fun b => b = a.gO) (Chg.set W' a.gO 3 (.slice O' (k + 1) oc')) (fun i e => .inr (.inl (by omega))) (fun r hr e => by have := (h2.base hr).1; omega)
    refine h3.less (fun i hi e => ?_)
    rcases e with e | e | e
    · exact .inl e
    · exact .inr (.inl e)
    · simp at e
      exact .inr (.inr e)
  · exact (h.init.chg (hch.mono fun b e => .inr (.inr (hO b e)))).set (.inr (.inl rfl)) 3 _
  · exact (h.goal.chg (hch.mono fun b e => .inr (.inr (hO b e)))).set (.inr (.inl rfl)) 3 _
/-- an operator of fresh rows -/
theorem CpS.firm (h : CpS w W T tc a k O oc vs) {b4 : Nat} (h4 : a.H1 ≤ b4) (hO : ∀ r, blkA O = some r → r < b4) {o : Opr} {D1 D2 D3 : Option Addr} {n1 e1 n2 e2 n3 e3 : Nat}
    (r1 : W.ownsRow b4 3 1 (.slice D1 n1 e1) n1 (o.pre.map (Value.int .i64))) (r2 : W.ownsRow b4 3 1 (.slice D2 n2 e2) n2 (o.add.map (Value.int .i64))) (r3 : W.ownsRow b4 3 1 (.slice D3 n3 e3) n3 (o.del.map (Value.int .i64)))
    (l1 : o.pre.length = n1) (l2 : o.add.length = n2) (l3 : o.del.length = n3) (i1 : ∀ x ∈ o.pre, -9223372036854775808 ≤ x ∧ x ≤ 9223372036854775807) (i2 : ∀ x ∈ o.add, -9223372036854775808 ≤ x ∧ x ≤ 9223372036854775807) (i3 : ∀ x ∈ o.del, -9223372036854775808 ≤ x ∧ x ≤ 9223372036854775807) (hc : I64s o.cost) :
    Firm Enc.op (fun b => blkA O = some b ∨ b < a.H1 ∨ W.heap.size ≤ b) W [.slice D1 n1 e1, .slice D2 n2 e2, .slice D3 n3 e3, .int .i64 o.cost] o := by
  have key : ∀ {D : Option Addr} {n e : Nat} {l : List Int}, W.ownsRow b4 3 1 (.slice D n e) n (l.map (Value.int .i64)) → l.length = n → (∀ x ∈ l, -9223372036854775808 ≤ x ∧ x ≤ 9223372036854775807) → RdM (fun b => blkA O = some b ∨ b < a.H1 ∨ W.heap.size ≤ b) W D n e l := fun {D n e l} hr hl hi =>
    RdM.own hr (fun r hr' e => by
      have h1 := own_base hr (by rw [own_blkA]; exact hr')
      have h2 := (own_block hr (r := r) (by rw [own_blkA]; exact hr')).1
      rcases e with e | e | e
      · have := hO r e; omega
      · omega
      · omega) hl hi
  exact fun w' hw => ⟨D1, n1, e1, D2, n2, e2, D3, n3, e3, rfl, key r1 l1 i1 w' hw, key r2 l2 i2 w' hw, key r3 l3 i3 w' hw, hc⟩
end
/-- what a copy of a task is -/
def CloneP (w : World) (T : Tsk) (nI nG nO : Nat) (e : Ending) (w' : World) : Prop :=
  Below w.heap.size w w' ∧ ∃ (B : Nat) (AI : Option Addr) (cI : Nat) (AG : Option Addr) (cG : Nat) (O : Option Addr) (oc : Nat) (vs : List Value), e = .returned (.agg #[.int .i64 T.facts, .slice AI nI cI, .slice AG nG cG, .slice O nO oc]) ∧
    w.heap.size ≤ B ∧ B ≤ w'.heap.size ∧ RdM (fun b => b < w.heap.size ∨ B ≤ b) w' AI nI cI T.init ∧ RdM (fun b => b < w.heap.size ∨ B ≤ b) w' AG nG cG T.goal ∧
    OwnE Enc.op 72 B (fun b => blkA O = some b ∨ b < B ∨ w'.heap.size ≤ b) w' O nO oc vs T.ops
end Go.Proofs.YtemiecammmbjdaaGreat
namespace Go.Proofs.YtemiecammmbjdaaGreat
set_option linter.unusedVariables false
set_option linter.unusedSimpArgs false
open Go.RowKit
def pieceF (n : Nat) (ms : List (List Int)) (x : Int) : List Int := if x < n then [x] else ms.getD (x - n).toNat []
def expandF (n : Nat) (ms : List (List Int)) (l : List Int) : List Int := l.flatMap (pieceF n ms)
theorem expand_succ {n : Nat} {ms : List (List Int)} {l : List Int} {k : Nat} {x : Int} (h : l[k]? = some x) : expandF n ms (l.take (k + 1)) = expandF n ms (l.take k) ++ pieceF n ms x := by
  unfold expandF
  rw [List.take_add_one, h]
  simp
theorem piece_low {n : Nat} {ms : List (List Int)} {x : Int} (h : x < n) : pieceF n ms x = [x] := if_pos h
theorem piece_high {n : Nat} {ms : List (List Int)} {j : Nat} {q : List Int} (h : ms[j]? = some q) : pieceF n ms ((n + j : Nat) : Int) = q := by
  unfold pieceF
  rw [if_neg (by omega)]
  have : (((n + j : Nat) : Int) - (n : Int)).toNat = j := by omega
  rw [this, List.getD_eq_getElem?_getD, h]
  rfl
theorem expand_len {n : Nat} {ms : List (List Int)} (h : ∀ q ∈ ms, q.length ≤ 6) (l : List Int) : (expandF n ms l).length ≤ 6 * l.length := by
  unfold expandF
  induction l with
  | nil => simp
  | cons x l ih =>
    rw [List.flatMap_cons, List.length_append, List.length_cons]
    have : (pieceF n ms x).length ≤ 6 := by
      unfold pieceF
      split
      · simp
      · rw [List.getD_eq_getElem?_getD]
        cases e : ms[(x - n).toNat]? with
        | none => simp
        | some q => exact h q (List.mem_of_getElem? e)
    omega
end Go.Proofs.YtemiecammmbjdaaGreat
namespace Go.Proofs.YtemiecammmbjdaaGreat
set_option linter.unusedVariables false
set_option linter.unusedSimpArgs false
open Go.RowKit
theorem comb_cost : ∀ (ls : List Opr) (out o : Opr), (∀ p ∈ ls, 0 ≤ p.cost ∧ p.cost ≤ 100) → combF out ls = some o → out.cost ≤ o.cost ∧ o.cost ≤ out.cost + 100 * (ls.length : Int) := by
  intro ls
  induction ls with
  | nil =>
    intro out o _ h
    unfold combF at h
    obtain rfl := Option.some.inj h
    simp
  | cons p ls ih =>
    intro out o hp h
    unfold combF at h
    split at h
    · cases h
    · obtain ⟨h1, h2⟩ := ih _ o (fun q hq => hp q (List.mem_cons_of_mem _ hq)) h
      have h3 := hp p (List.mem_cons_self ..)
      have h4 : (combStep out p).cost = out.cost + p.cost := rfl
      rw [h4] at h1 h2
      rw [List.length_cons]
      omega
theorem opAt_mem {os : List Opr} {x : Int} (h0 : 0 ≤ x) (h1 : x < os.length) : opAt os x ∈ os := by
  obtain ⟨k, rfl⟩ : ∃ k : Nat, x = k := ⟨x.toNat, by omega⟩
  have hk : k < os.length := by omega
  rw [opAt_eq (List.getElem?_eq_getElem hk)]
  exact List.getElem_mem _
theorem comb_small {T : Tsk} {N : Nat} (hok : OkT T N) {l : List Int} (hr : ∀ x ∈ l, 0 ≤ x ∧ x < T.ops.length) (hl : l.length ≤ 6) {o : Opr} (h : combF zeroOp (l.map (opAt T.ops)) = some o) : 0 ≤ o.cost ∧ o.cost ≤ 600 := by
  have := comb_cost _ _ o (fun p hp => by
    obtain ⟨x, hx, rfl⟩ := List.mem_map.1 hp
    have := hok.ops _ (opAt_mem (hr x hx).1 (hr x hx).2)
    exact ⟨this.low, this.high⟩) h
  rw [List.length_map] at this
  have hz : zeroOp.cost = 0 := rfl
  omega
def zeroT : Tsk := ⟨0, [], [], []⟩
def extLoop (T : Tsk) : List Opr → Nat → List (List Int) → Tsk × Int × Int
  | os, _, [] => (⟨T.facts, T.init, T.goal, os⟩, 0, 0)
  | os, i, l :: ms =>
    if (seqFault T.ops.length l (-20 - (i : Int))).1 ≠ 0 then (zeroT, seqFault T.ops.length l (-20 - (i : Int))) else
    match combF zeroOp (l.map (opAt T.ops)) with
    | none => (zeroT, 11, -20 - (i : Int))
    | some o => if 100 < o.cost then (zeroT, 10, -20 - (i : Int)) else extLoop T (os ++ [o]) (i + 1) ms
/-- what Extend answers -/
def extendR (T : Tsk) (ms : List (List Int)) : Tsk × Int × Int :=
  if (taskFault T).1 ≠ 0 then (zeroT, taskFault T) else if 8 < ms.length ∨ 40 < T.ops.length + ms.length then (zeroT, 2, -8) else extLoop T T.ops 0 ms
def taskV (T : Tsk) (a : TA) : Value := .agg #[.int .i64 T.facts, .slice a.I a.nI a.cI, .slice a.G a.nG a.cG, .slice a.O a.nO a.cO]
def ExtP (w : World) (r : Tsk × Int × Int) (e : Ending) (w' : World) : Prop :=
  Below w.heap.size w w' ∧ ∃ a : TA, e = .returned (.tuple #[taskV r.1 a, fault r.2.1 r.2.2]) ∧ ∀ w'', Chg (fun b => b < w.heap.size) w' w'' → TkR w'' a r.1
theorem ext_zero {w w' : World} (h : Below w.heap.size w w') (c i : Int) : ExtP w (zeroT, c, i) (.returned (.tuple #[.agg #[.int .i64 0, .slice none 0 0, .slice none 0 0, .slice none 0 0], fault c i])) w' :=
  ⟨h, ⟨none, 0, 0, none, 0, 0, none, 0, 0⟩, rfl, fun _ _ => ⟨by unfold zeroT I64s; simp, Rd.nil_ _ _, Rd.nil_ _ _, Rd.nil_ _ _⟩⟩
structure ExA where
  gT : Nat
  gX : Nat
  B : Nat
  Bl : Nat
  AI : Option Addr
  nI : Nat
  cI : Nat
  AG : Option Addr
  nG : Nat
  cG : Nat
/-- what stands while the macros are added -/
structure ExS (w W : World) (T : Tsk) (tc : List Value) (a : ExA) (n : Nat) (O : Option Addr) (oc : Nat) (vs : List Value) (os : List Opr) : Prop where
  par : Blk 25 W a.gT tc
  res : Blk 25 W (a.gT + 1) zeroTask
  flt : Blk 28 W (a.gT + 1 + 1) [.int .i64 0, .int .i64 0]
  out : Blk 25 W a.gX [.int .i64 T.facts, .slice a.AI a.nI a.cI, .slice a.AG a.nG a.cG, .slice O n oc]
  low : Below w.heap.size w W
  own : OwnE Enc.op 72 a.B (fun b => blkA O = some b ∨ b < a.B ∨ b = a.gX ∨ W.heap.size ≤ b) W O n oc vs os
  ne : ∀ r, blkA O = some r → r ≠ a.gX
  init : RdM (fun b => b < a.Bl ∨ a.B ≤ b) W a.AI a.nI a.cI T.init
  goal : RdM (fun b => b < a.Bl ∨ a.B ≤ b) W a.AG a.nG a.cG T.goal
  g1 : a.gT = w.heap.size
  g2 : a.gT + 1 + 1 < a.Bl
  g3 : a.Bl ≤ a.B
  g4 : a.B ≤ a.gX
section
variable {w W W' : World} {T : Tsk} {tc : List Value} {a : ExA} {n oc : Nat} {O : Option Addr} {vs : List Value} {os : List Opr}
theorem ExS.keep (h : ExS w W T tc a n O oc vs os) (hb : Below W.heap.size W W') : ExS w W' T tc a n O oc vs os :=
  ⟨h.par.keep hb, h.res.keep hb, h.flt.keep hb, h.out.keep hb, h.low.trans (hb.mono h.low.size), (h.own.keep hb).less (fun i hi e => by
    have := hb.size
    rcases e with e | e | e | e
    · exact .inl e
    · exact .inr (.inl e)
    · exact .inr (.inr (.inl e))
    · exact .inr (.inr (.inr (by omega)))), h.ne, h.init.keep hb, h.goal.keep hb, h.g1, h.g2, h.g3, h.g4⟩
/-- one operator more, and its store -/
theorem ExS.push (h : ExS w W T tc a n O oc vs os) {o : Opr} {us : List Value} {O' : Option Addr} {oc' : Nat}
    (hown : OwnE Enc.op 72 a.B (fun b => (blkA O = some b ∨ b < a.B ∨ b = a.gX ∨ W.heap.size ≤ b) ∨ W.heap.size ≤ b) W' O' (n + 1) oc' (vs ++ us) (os ++ [o])) (hch : Chg (fun b => blkA O = some b) W W') (hat : blkA O' = blkA O ∨ blkA O' = some (W.heap.size + 1)) :
    ExS w (W'.setCell ⟨a.gX, 3, none⟩ (.slice O' (n + 1) oc')) T tc a (n + 1) O' oc' (vs ++ us) (os ++ [o]) := by
  have hO : ∀ r, blkA O = some r → a.B ≤ r := fun r hr => (h.own.base hr).1
  have g1 := h.g1
  have g2 := h.g2
  have g3 := h.g3
  have g4 := h.g4
  have hx := h.out.lt
  have hsz := hch.size
  have hn : ∀ g, g < a.B → ¬ blkA O = some g := fun g hg e => by have := hO g e; omega
  have hnX : ¬ blkA O = some a.gX := fun e => h.ne _ e rfl
  have hnX' : ∀ r, blkA O' = some r → r ≠ a.gX := fun r hr e => by
    rcases hat with hat | hat
    · exact h.ne r (by rw [← hat]; exact hr) e
    · rw [hat] at hr
      injection hr with hr
      omega
  have hout := (hch.blk h.out hnX).set 3 (.slice O' (n + 1) oc')
  simp only [List.set_cons_zero, List.set_cons_succ] at hout
  refine ⟨(hch.blk h.par (hn _ (by omega))).far (p := ⟨a.gX, 3, none⟩) (by show a.gT ≠ a.gX; omega) _, (hch.blk h.res (hn _ (by omega))).far (p := ⟨a.gX, 3, none⟩) (by show a.gT + 1 ≠ a.gX; omega) _, (hch.blk h.flt (hn _ (by omega))).far (p := ⟨a.gX, 3, none⟩) (by show a.gT + 1 + 1 ≠ a.gX; omega) _, hout,
    below_set (row_below h.low h.low.size hch (fun r hr => by have := hO r hr; omega)) (by omega) 3 _, ?_, hnX', ?_, ?_, g1, g2, g3, g4⟩
  · have h2 : OwnE Enc.op 72 a.B (fun b => blkA O' = some b ∨ b < a.B ∨ b = a.gX ∨ W'.heap.size ≤ b) W' O' (n + 1) oc' (vs ++ us) (os ++ [o]) := hown.less (fun i hi e => by
      rcases e with e | e | e | e
      · rcases hat with hat | hat
        · exact .inl (.inl (by rw [← hat]; exact e))
        · rw [hat] at e
          injection e with e
          exact .inr (by omega)
      · exact .inl (.inr (.inl e))
      · exact .inl (.inr (.inr (.inl e)))
      · omega)
    have h3 := h2.chg (M' := fun b => b = a.gX) (Chg.set W' a.gX 3 (.slice O' (n + 1) oc')) (fun i e => .inr (.inr (.inl e))) hnX'
    refine h3.less (fun i hi e => ?_)
    rcases e with e | e | e | e
    · exact .inl e
    · exact .inr (.inl e)
    · exact .inr (.inr (.inl e))
    · simp at e
      exact .inr (.inr (.inr e))
  · exact (h.init.chg (hch.mono fun b e => .inr (hO b e))).set (.inr g4) 3 _
  · exact (h.goal.chg (hch.mono fun b e => .inr (hO b e))).set (.inr g4) 3 _
/-- an operator that a call has handed back -/
theorem ExS.firm (h : ExS w W T tc a n O oc vs os) {X : Nat} {o : Opr} {A1 A2 A3 : Option Addr} {n1 c1 n2 c2 n3 c3 : Nat} (hX : a.gX ≤ X) (hO : ∀ r, blkA O = some r → r ≤ X)
    (r1 : RdN X W A1 n1 c1 o.pre) (r2 : RdN X W A2 n2 c2 o.add) (r3 : RdN X W A3 n3 c3 o.del) (hc : I64s o.cost) :
    Firm Enc.op (fun b => blkA O = some b ∨ b < a.B ∨ b = a.gX ∨ W.heap.size ≤ b) W [.slice A1 n1 c1, .slice A2 n2 c2, .slice A3 n3 c3, .int .i64 o.cost] o := by
  have g4 := h.g4
  have hM : ∀ i, i < W.heap.size → (blkA O = some i ∨ i < a.B ∨ i = a.gX ∨ W.heap.size ≤ i) → i ≤ X := fun i hi e => by
    rcases e with e | e | e | e
    · exact hO i e
    · omega
    · omega
    · omega
  exact fun w' hw => ⟨A1, n1, c1, A2, n2, c2, A3, n3, c3, rfl, r1.toM hM w' hw, r2.toM hM w' hw, r3.toM hM w' hw, hc⟩
/-- the end -/
theorem ExS.done (h : ExS w W T tc a n O oc vs os) (hf : I64s T.facts) (hc : Chg (fun b => b = a.gT + 1 ∨ b = a.gT + 1 + 1) W W') :
    ExtP w (⟨T.facts, T.init, T.goal, os⟩, 0, 0) (.returned (.tuple #[.agg #[.int .i64 T.facts, .slice a.AI a.nI a.cI, .slice a.AG a.nG a.cG, .slice O n oc], fault 0 0])) W' := by
  have g1 := h.g1
  have g2 := h.g2
  have g3 := h.g3
  refine ⟨h.low.trans (hc.below (fun i e => by omega) h.low.size), ⟨a.AI, a.nI, a.cI, a.AG, a.nG, a.cG, O, n, oc⟩, rfl, fun w'' hk => ?_⟩
  have hc2 : Chg (fun b => b < a.Bl) W w'' := (hc.mono (fun b e => by omega)).trans (hk.mono (fun b e => by omega))
  refine ⟨hf, (h.init.chg (hc2.mono fun b e => .inl e)).rd, (h.goal.chg (hc2.mono fun b e => .inl e)).rd, ?_⟩
  exact (h.own.chg hc2 (fun i e => .inr (.inl (by omega))) (fun r hr e => by have := (h.own.base hr).1; omega)).rd
end
end Go.Proofs.YtemiecammmbjdaaGreat
namespace Go.Proofs.YtemiecammmbjdaaGreat
set_option linter.unusedVariables false
set_option linter.unusedSimpArgs false
open Go.RowKit
/-- the fault of a plan over k operators -/
def stepsFault (k : Nat) (l : List Int) : Int × Int := if 60 < l.length then (2, -5) else if l.any (outB k) = true then (3, -6) else (0, 0)
theorem any_succ {p : Int → Bool} {l : List Int} {k : Nat} {x : Int} (h : (l.take k).any p = false) (hx : l[k]? = some x) (hp : p x = false) : (l.take (k + 1)).any p = false := by
  rw [List.take_add_one, List.any_append, h, hx]
  simp [hp]
set_option maxRecDepth 100000 in
set_option maxHeartbeats 1600000 in
theorem Steps_ct (n : Nat) (A : Option Addr) (m c : Nat) (l : List Int) (w : World) (h : Rd Enc.int w A m c l) (hn : n ≤ 9223372036854775807) :
    Calls Tryz.prog 61 #[.int .i64 n, .slice A m c] w (Gives w (fault (stepsFault n l).1 (stepsFault n l).2)) := by
  have hsm := h.low
  have hX := Blk.new w 28 [.int .i64 0, .int .i64 0]
  have y0 := hX.cell 0
  have y1 := hX.cell 1
  have y2 := hX.frozen 0
  have y3 := hX.frozen 1
  simp only [List.getElem?_cons_zero, List.getElem?_cons_succ] at y0 y1
  have hbw : Below w.heap.size w (w.alloc (.cells #[.int .i64 0, .int .i64 0] 28)) := (Below.refl _ _).alloc (Nat.le_refl _) _
  have Hbw := hide hbw
  have Hl := hide h.len
  have H := hide (h.keep hbw)
  clear h hbw hX
  by_cases h1 : 60 < m
  · have hres : stepsFault n l = (2, -5) := by unfold stepsFault; rw [Hl.out, if_pos h1]
    rw [hres]
    clear hres
    go_enter Tryz.func61, Tryz.ntmps61
    go_wp2_with fail
    exact bodyPost_ret (v := fault 2 (-5)) (by simp [results, Tryz.results61, go_sem, fault]) rfl ⟨rfl, (Below.refl _ _).alloc (Nat.le_refl _) _⟩
  · have hres : stepsFault n l = if l.any (outB n) = true then (3, -6) else (0, 0) := by unfold stepsFault; rw [Hl.out, if_neg h1]
    have Hres := hide hres
    clear hres
    go_enter Tryz.func61, Tryz.ntmps61
    go_upto_region 3 with (fail)
    obtain ⟨W0, hW0⟩ : ∃ W0, W0 = w.alloc (.cells #[.int .i64 0, .int .i64 0] 28) := ⟨_, rfl⟩
    rw [← hW0] at H Hbw y0 y1 y2 y3 ⊢
    clear hW0
    obtain ⟨gb, hgb⟩ : ∃ gb, gb = w.heap.size := ⟨_, rfl⟩
    rw [← hgb] at y0 y1 y2 y3 ⊢
    have Hgb := hide hgb
    clear hgb
    go_wp2_with fail
    go_loop [13] (fun i => ∃ k : Nat, k ≤ m ∧ i = .int .i64 k ∧ (l.take k).any (outB n) = false) (fun i => m - (intOf i).toNat)
    case atStart => exact ⟨0, by omega, rfl, by simp⟩
    case round =>
      obtain ⟨k, hk, rfl, hset⟩ := hrel
      have Hset := hide hset
      clear hset
      by_cases hlt : k < m
      · obtain ⟨b, off, x, rfl, hx, hx1, hx2, hcx⟩ := H.out.int hlt
        have Hx := hide hx
        clear hx
        have hbad : outB n x = true → stepsFault n l = (3, -6) := fun hb => by
          rw [Hres.out, if_pos (List.any_eq_true.2 ⟨x, List.mem_of_getElem? Hx.out, hb⟩)]
        have Hbad := hide hbad
        clear hbad
        by_cases h0 : x < 0
        · have hres := Hbad.out (by unfold outB; rw [decide_eq_true_iff]; omega)
          have Hr := hide hres
          clear hres
          go_wp2_with fail
          exact bodyPost_ret (v := fault 3 (-6)) (by simp [results, Tryz.results61, go_sem, fault, y0, y1]) rfl ⟨by rw [Hr.out], below_res2 Hbw.out (by have := Hgb.out; omega) _ _⟩
        · by_cases h2 : (n : Int) ≤ x
          · have hres := Hbad.out (by unfold outB; rw [decide_eq_true_iff]; omega)
            have Hr := hide hres
            clear hres
            go_wp2_with fail
            exact bodyPost_ret (v := fault 3 (-6)) (by simp [results, Tryz.results61, go_sem, fault, y0, y1]) rfl ⟨by rw [Hr.out], below_res2 Hbw.out (by have := Hgb.out; omega) _ _⟩
          · go_wp2_with fail
            go_round
            case rel => exact ⟨k + 1, by omega, by go_num, any_succ Hset.out Hx.out (by unfold outB; rw [decide_eq_false_iff_not]; omega)⟩
            case measure => simp [intOf]; omega
      · obtain rfl : k = m := by omega
        have hres := Hres.out
        have hs := Hset.out
        rw [List.take_of_length_le (by rw [Hl.out]; omega)] at hs
        rw [hs, if_neg (by simp)] at hres
        have Hr := hide hres
        clear hres hs
        go_wp2_with fail
        exact bodyPost_ret (v := fault 0 0) (by simp [results, Tryz.results61, go_sem, fault, y0, y1]) rfl ⟨by rw [Hr.out], below_res2 Hbw.out (by have := Hgb.out; omega) _ _⟩
end Go.Proofs.YtemiecammmbjdaaGreat
namespace Go.Proofs.YtemiecammmbjdaaGreat
set_option linter.unusedVariables false
set_option linter.unusedSimpArgs false
open Go.RowKit
def mT : Tsk := ⟨2, [], [1], [⟨[], [0], [], 1⟩, ⟨[0], [1], [0], 2⟩]⟩
def MTaskP (w : World) (e : Ending) (w' : World) : Prop := Below w.heap.size w w' ∧ ∃ a : TA, e = .returned (taskV mT a) ∧ TkR w' a mT
theorem one_low {w : World} {g : Nat} {x : Int} (hb : Blk 3 w g [.int .i64 x]) (hx : -1000 ≤ x ∧ x ≤ 1000) : Rd Enc.int w (some ⟨g, 0, none⟩) 1 1 [x] :=
  Rd.lit_ints [x] hb (by simp) (fun y hy => by simp at hy; subst hy; exact hx)
theorem mtask_mem (w : World) (X0 : Obj) : MTaskP w (.returned (.agg #[.int .i64 2, .slice none 0 0, .slice (some ⟨w.heap.size + 1, 0, none⟩) 1 1, .slice (some ⟨w.heap.size + 1 + 1 + 1 + 1 + 1 + 1, 0, none⟩) 2 2])) (((((((w.alloc X0).alloc (.cells #[.int .i64 1] 3)).alloc (.cells #[.int .i64 0] 3)).alloc (.cells #[.int .i64 0] 3)).alloc (.cells #[.int .i64 1] 3)).alloc (.cells #[.int .i64 0] 3)).alloc (.cells #[.slice none 0 0, .slice (some ⟨w.heap.size + 1 + 1, 0, none⟩) 1 1, .slice none 0 0, .int .i64 1, .slice (some ⟨w.heap.size + 1 + 1 + 1, 0, none⟩) 1 1, .slice (some ⟨w.heap.size + 1 + 1 + 1 + 1, 0, none⟩) 1 1, .slice (some ⟨w.heap.size + 1 + 1 + 1 + 1 + 1, 0, none⟩) 1 1, .int .i64 2] 72)) := by
  have b1 := Blk.new (w.alloc X0) 3 [.int .i64 1]
  have b2 := Blk.new ((w.alloc X0).alloc (.cells #[.int .i64 1] 3)) 3 [.int .i64 0]
  have b3 := Blk.new (((w.alloc X0).alloc (.cells #[.int .i64 1] 3)).alloc (.cells #[.int .i64 0] 3)) 3 [.int .i64 0]
  have b4 := Blk.new ((((w.alloc X0).alloc (.cells #[.int .i64 1] 3)).alloc (.cells #[.int .i64 0] 3)).alloc (.cells #[.int .i64 0] 3)) 3 [.int .i64 1]
  have b5 := Blk.new (((((w.alloc X0).alloc (.cells #[.int .i64 1] 3)).alloc (.cells #[.int .i64 0] 3)).alloc (.cells #[.int .i64 0] 3)).alloc (.cells #[.int .i64 1] 3)) 3 [.int .i64 0]
  have b6 := Blk.new ((((((w.alloc X0).alloc (.cells #[.int .i64 1] 3)).alloc (.cells #[.int .i64 0] 3)).alloc (.cells #[.int .i64 0] 3)).alloc (.cells #[.int .i64 1] 3)).alloc (.cells #[.int .i64 0] 3)) 72 [.slice none 0 0, .slice (some ⟨w.heap.size + 1 + 1, 0, none⟩) 1 1, .slice none 0 0, .int .i64 1, .slice (some ⟨w.heap.size + 1 + 1 + 1, 0, none⟩) 1 1, .slice (some ⟨w.heap.size + 1 + 1 + 1 + 1, 0, none⟩) 1 1, .slice (some ⟨w.heap.size + 1 + 1 + 1 + 1 + 1, 0, none⟩) 1 1, .int .i64 2]
  simp only [World.size_alloc] at b1 b2 b3 b4 b5 b6
  have d1 := (((((b1.alloc (.cells #[.int .i64 0] 3)).alloc (.cells #[.int .i64 0] 3)).alloc (.cells #[.int .i64 1] 3)).alloc (.cells #[.int .i64 0] 3)).alloc (.cells #[.slice none 0 0, .slice (some ⟨w.heap.size + 1 + 1, 0, none⟩) 1 1, .slice none 0 0, .int .i64 1, .slice (some ⟨w.heap.size + 1 + 1 + 1, 0, none⟩) 1 1, .slice (some ⟨w.heap.size + 1 + 1 + 1 + 1, 0, none⟩) 1 1, .slice (some ⟨w.heap.size + 1 + 1 + 1 + 1 + 1, 0, none⟩) 1 1, .int .i64 2] 72))
  have d2 := ((((b2.alloc (.cells #[.int .i64 0] 3)).alloc (.cells #[.int .i64 1] 3)).alloc (.cells #[.int .i64 0] 3)).alloc (.cells #[.slice none 0 0, .slice (some ⟨w.heap.size + 1 + 1, 0, none⟩) 1 1, .slice none 0 0, .int .i64 1, .slice (some ⟨w.heap.size + 1 + 1 + 1, 0, none⟩) 1 1, .slice (some ⟨w.heap.size + 1 + 1 + 1 + 1, 0, none⟩) 1 1, .slice (some ⟨w.heap.size + 1 + 1 + 1 + 1 + 1, 0, none⟩) 1 1, .int .i64 2] 72))
  have d3 := (((b3.alloc (.cells #[.int .i64 1] 3)).alloc (.cells #[.int .i64 0] 3)).alloc (.cells #[.slice none 0 0, .slice (some ⟨w.heap.size + 1 + 1, 0, none⟩) 1 1, .slice none 0 0, .int .i64 1, .slice (some ⟨w.heap.size + 1 + 1 + 1, 0, none⟩) 1 1, .slice (some ⟨w.heap.size + 1 + 1 + 1 + 1, 0, none⟩) 1 1, .slice (some ⟨w.heap.size + 1 + 1 + 1 + 1 + 1, 0, none⟩) 1 1, .int .i64 2] 72))
  have d4 := ((b4.alloc (.cells #[.int .i64 0] 3)).alloc (.cells #[.slice none 0 0, .slice (some ⟨w.heap.size + 1 + 1, 0, none⟩) 1 1, .slice none 0 0, .int .i64 1, .slice (some ⟨w.heap.size + 1 + 1 + 1, 0, none⟩) 1 1, .slice (some ⟨w.heap.size + 1 + 1 + 1 + 1, 0, none⟩) 1 1, .slice (some ⟨w.heap.size + 1 + 1 + 1 + 1 + 1, 0, none⟩) 1 1, .int .i64 2] 72))
  have d5 := (b5.alloc (.cells #[.slice none 0 0, .slice (some ⟨w.heap.size + 1 + 1, 0, none⟩) 1 1, .slice none 0 0, .int .i64 1, .slice (some ⟨w.heap.size + 1 + 1 + 1, 0, none⟩) 1 1, .slice (some ⟨w.heap.size + 1 + 1 + 1 + 1, 0, none⟩) 1 1, .slice (some ⟨w.heap.size + 1 + 1 + 1 + 1 + 1, 0, none⟩) 1 1, .int .i64 2] 72))
  have hb : Below w.heap.size w (((((((w.alloc X0).alloc (.cells #[.int .i64 1] 3)).alloc (.cells #[.int .i64 0] 3)).alloc (.cells #[.int .i64 0] 3)).alloc (.cells #[.int .i64 1] 3)).alloc (.cells #[.int .i64 0] 3)).alloc (.cells #[.slice none 0 0, .slice (some ⟨w.heap.size + 1 + 1, 0, none⟩) 1 1, .slice none 0 0, .int .i64 1, .slice (some ⟨w.heap.size + 1 + 1 + 1, 0, none⟩) 1 1, .slice (some ⟨w.heap.size + 1 + 1 + 1 + 1, 0, none⟩) 1 1, .slice (some ⟨w.heap.size + 1 + 1 + 1 + 1 + 1, 0, none⟩) 1 1, .int .i64 2] 72)) := ((((((((Below.refl w.heap.size w).alloc (Nat.le_refl _) X0).alloc (by simp only [World.size_alloc]; omega) _).alloc (by simp only [World.size_alloc]; omega) _).alloc (by simp only [World.size_alloc]; omega) _).alloc (by simp only [World.size_alloc]; omega) _).alloc (by simp only [World.size_alloc]; omega) _).alloc (by simp only [World.size_alloc]; omega) _)
  have r1 := one_low d1 (by omega)
  have r2 := one_low d2 (by omega)
  have r3 := one_low d3 (by omega)
  have r4 := one_low d4 (by omega)
  have r5 := one_low d5 (by omega)
  refine ⟨hb, ⟨none, 0, 0, some ⟨w.heap.size + 1, 0, none⟩, 1, 1, some ⟨w.heap.size + 1 + 1 + 1 + 1 + 1 + 1, 0, none⟩, 2, 2⟩, rfl, ⟨by unfold mT I64s; simp, Rd.nil_ _ _, r1, ?_⟩⟩
  refine ⟨rfl, Nat.le_refl _, by simp, fun h => (by cases h), fun _ => ⟨w.heap.size + 1 + 1 + 1 + 1 + 1 + 1, 0, rfl, fun j o hj => ?_⟩⟩
  match j, hj with
  | 0, hj =>
    obtain rfl := Option.some.inj hj
    refine ⟨[.slice none 0 0, .slice (some ⟨w.heap.size + 1 + 1, 0, none⟩) 1 1, .slice none 0 0, .int .i64 1], ⟨none, 0, 0, _, 1, 1, none, 0, 0, rfl, Rd.nil_ _ _, r2, Rd.nil_ _ _, by unfold I64s; simp⟩, fun i v hi => ?_⟩
    match i, hi with
    | 0, hi => obtain rfl := Option.some.inj hi; exact b6.cell 0
    | 1, hi => obtain rfl := Option.some.inj hi; exact b6.cell 1
    | 2, hi => obtain rfl := Option.some.inj hi; exact b6.cell 2
    | 3, hi => obtain rfl := Option.some.inj hi; exact b6.cell 3
    | i + 4, hi => simp at hi
  | 1, hj =>
    obtain rfl := Option.some.inj hj
    refine ⟨[.slice (some ⟨w.heap.size + 1 + 1 + 1, 0, none⟩) 1 1, .slice (some ⟨w.heap.size + 1 + 1 + 1 + 1, 0, none⟩) 1 1, .slice (some ⟨w.heap.size + 1 + 1 + 1 + 1 + 1, 0, none⟩) 1 1, .int .i64 2], ⟨_, 1, 1, _, 1, 1, _, 1, 1, rfl, r3, r4, r5, by unfold I64s; simp⟩, fun i v hi => ?_⟩
    match i, hi with
    | 0, hi => obtain rfl := Option.some.inj hi; exact b6.cell 4
    | 1, hi => obtain rfl := Option.some.inj hi; exact b6.cell 5
    | 2, hi => obtain rfl := Option.some.inj hi; exact b6.cell 6
    | 3, hi => obtain rfl := Option.some.inj hi; exact b6.cell 7
    | i + 4, hi => simp at hi
  | j + 2, hj => simp [mT] at hj
set_option maxRecDepth 100000 in
set_option maxHeartbeats 3200000 in
theorem macroTask_ct (w : World) : Calls Tryz.prog 32 #[] w (MTaskP w) := by
  go_enter Tryz.func32, Tryz.ntmps32
  go_wp2_with fail
  exact bodyPost_ret (v := .agg #[.int .i64 2, .slice none 0 0, .slice (some ⟨w.heap.size + 1, 0, none⟩) 1 1, .slice (some ⟨w.heap.size + 1 + 1 + 1 + 1 + 1 + 1, 0, none⟩) 2 2]) (by simp [results, Tryz.results32, go_sem]) rfl (mtask_mem w _)
end Go.Proofs.YtemiecammmbjdaaGreat
