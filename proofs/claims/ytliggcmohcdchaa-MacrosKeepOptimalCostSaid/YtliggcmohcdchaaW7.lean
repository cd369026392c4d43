/- What the law of macros' costs asks for, part 7: Mc2 Mc3 Cq Cn Mc5 Mi Mc8 Mc6 Mc9 St Mj Mc10. -/
import Derived.Test.YtliggcmohcdchaaW1
import Derived.Test.YtliggcmohcdchaaW2
import Derived.Test.YtliggcmohcdchaaW3
import Derived.Test.YtliggcmohcdchaaW4
import Derived.Test.YtliggcmohcdchaaW5
import Derived.Test.YtliggcmohcdchaaW6
import Derived.BigQuiet
import Derived.Deep.AppendLies
import Derived.Deep.DeepCutAuto
import Derived.Deep.Draws
import Derived.Deep.Fields
import Derived.Deep.LoopGhost
import Derived.Deep.QuietTactic
import Derived.Deep.RegionHeld3
import Derived.Deep.Slices
import Derived.Ground.Names2Prog
import Derived.Ground.SlgnProg
import Derived.Ground.SlsfProg
import Derived.IntWalk
import Derived.Laws.AppendOwnNone
import Derived.Laws.OwnMore
import Derived.Lib.Hide
import Derived.Lib.SlicesCompact
import Derived.Maps.AppendAt
import Derived.Shelf.Slices.Cells
import Derived.Shelf.Slices.Clone
import Derived.Shelf.Slices.CompactI
import Derived.Shelf.Slices.Empties
import Derived.Shelf.Slices.In.SortNone
import Derived.Shelf.Slices.SearchI
import Derived.Shelf.Sort.Plain
import Derived.Sort.OwnSortedInts
import Derived.Test.YtliggcmohcdchaaProg
import Derived.WalkKit
namespace Go.Proofs.Ytliggcmohcdchaa
set_option linter.unusedVariables false
set_option linter.unusedSimpArgs false
open Go.RowKit
/-- what combine hands back -/
def CombP (n : Nat) (w : World) (r : Option Opr) (e : Ending) (w' : World) : Prop :=
  Below w.heap.size w w' ∧ ((r = none ∧ e = .returned (.tuple #[.agg #[.slice none 0 0, .slice none 0 0, .slice none 0 0, .int .i64 0], .bool false])) ∨
    ∃ (o : Opr) (A1 : Option Addr) (n1 c1 : Nat) (A2 : Option Addr) (n2 c2 : Nat) (A3 : Option Addr) (n3 c3 : Nat), r = some o ∧ e = .returned (.tuple #[.agg #[.slice A1 n1 c1, .slice A2 n2 c2, .slice A3 n3 c3, .int .i64 o.cost], .bool true]) ∧
      RdN w.heap.size w' A1 n1 c1 o.pre ∧ RdN w.heap.size w' A2 n2 c2 o.add ∧ RdN w.heap.size w' A3 n3 c3 o.del ∧ SetOp n o)
set_option maxRecDepth 100000 in
set_option maxHeartbeats 6400000 in
theorem combine_ct (a : TA) (T : Tsk) (N : Nat) (B : Option Addr) (m d : Nat) (l : List Int) (w : World) (h : TkR w a T) (hok : OkT T N) (hl : Rd Enc.int w B m d l) (hm : m ≤ 1000) (hr : ∀ x ∈ l, 0 ≤ x ∧ x < T.ops.length) :
    Calls Try.prog 99 #[.agg #[.int .i64 T.facts, .slice a.I a.nI a.cI, .slice a.G a.nG a.cG, .slice a.O a.nO a.cO], .slice B m d] w (CombP N w (combF ⟨[], [], [], 0⟩ (l.map (opAt T.ops)))) := by
  obtain ⟨I, nI, cI, G, nG, cG, O, nO, cO⟩ := a
  obtain ⟨⟨hf1, hf2⟩, hi, hg, ho⟩ := h
  simp only at hi hg ho ⊢
  have hlo := ho.low
  have Hlo := hide ho.len
  have Ho := hide ho
  have Hl := hide hl
  have Hll := hide hl.len
  have Hr := hide hr
  have Hok := hide hok
  clear hi hg ho hl hr hok
  go_enter Try.func99, Try.ntmps99
  go_upto_region 2 with (fail)
  have hT := ((Blk.new w 25 [.int .i64 T.facts, .slice I nI cI, .slice G nG cG, .slice O nO cO]).alloc (.cells #[.slice none 0 0, .slice none 0 0, .slice none 0 0, .int .i64 0] 82)).alloc (.cells #[.slice none 0 0, .slice none 0 0, .slice none 0 0, .int .i64 0] 82)
  have hR := (Blk.new (w.alloc (.cells #[.int .i64 T.facts, .slice I nI cI, .slice G nG cG, .slice O nO cO] 25)) 82 [.slice none 0 0, .slice none 0 0, .slice none 0 0, .int .i64 0]).alloc (.cells #[.slice none 0 0, .slice none 0 0, .slice none 0 0, .int .i64 0] 82)
  have hO := Blk.new ((w.alloc (.cells #[.int .i64 T.facts, .slice I nI cI, .slice G nG cG, .slice O nO cO] 25)).alloc (.cells #[.slice none 0 0, .slice none 0 0, .slice none 0 0, .int .i64 0] 82)) 82 [.slice none 0 0, .slice none 0 0, .slice none 0 0, .int .i64 0]
  have hbl := below_three w (.cells #[.int .i64 T.facts, .slice I nI cI, .slice G nG cG, .slice O nO cO] 25) (.cells #[.slice none 0 0, .slice none 0 0, .slice none 0 0, .int .i64 0] 82) (.cells #[.slice none 0 0, .slice none 0 0, .slice none 0 0, .int .i64 0] 82)
  simp only [World.size_alloc] at hR hO
  obtain ⟨W0, hW0⟩ : ∃ W0, W0 = ((w.alloc (.cells #[.int .i64 T.facts, .slice I nI cI, .slice G nG cG, .slice O nO cO] 25)).alloc (.cells #[.slice none 0 0, .slice none 0 0, .slice none 0 0, .int .i64 0] 82)).alloc (.cells #[.slice none 0 0, .slice none 0 0, .slice none 0 0, .int .i64 0] 82) := ⟨_, rfl⟩
  rw [← hW0] at hT hR hO hbl ⊢
  obtain ⟨gT, hgT⟩ : ∃ g, g = w.heap.size := ⟨_, rfl⟩
  obtain ⟨gR, hgR⟩ : ∃ g, g = w.heap.size + 1 := ⟨_, rfl⟩
  obtain ⟨gO, hgO⟩ : ∃ g, g = w.heap.size + 1 + 1 := ⟨_, rfl⟩
  rw [← hgO, ← hgR, ← hgT]
  rw [← hgT] at hT
  rw [← hgR] at hR
  rw [← hgO] at hO
  have hTR : gT < gR := by omega
  have hRO : gR < gO := by omega
  have hRO1 : gR + 1 = gO := by omega
  have hwT : w.heap.size ≤ gT := by omega
  have HT := hide hT
  have HR := hide hR
  have HOut := hide hO
  have Hbl := hide hbl
  clear hW0 hgT hgR hgO hT hR hO hbl
  go_wp2_with fail
  go_loopw [12] (fun i wr => ∃ (k : Nat) (cur : Opr) (A1 : Option Addr) (n1 c1 : Nat) (A2 : Option Addr) (n2 c2 : Nat) (A3 : Option Addr) (n3 c3 : Nat), k ≤ m ∧ i = .int .i64 k ∧ Blk 25 wr gT [.int .i64 T.facts, .slice I nI cI, .slice G nG cG, .slice O nO cO] ∧
    Blk 82 wr gR [.slice none 0 0, .slice none 0 0, .slice none 0 0, .int .i64 0] ∧ Blk 82 wr gO [.slice A1 n1 c1, .slice A2 n2 c2, .slice A3 n3 c3, .int .i64 cur.cost] ∧
    RdN gO wr A1 n1 c1 cur.pre ∧ RdN gO wr A2 n2 c2 cur.add ∧ RdN gO wr A3 n3 c3 cur.del ∧ SetOp N cur ∧ 0 ≤ cur.cost ∧ cur.cost ≤ 100 * (k : Int) ∧ Below w.heap.size w wr ∧ combF ⟨[], [], [], 0⟩ (l.map (opAt T.ops)) = combF cur ((l.drop k).map (opAt T.ops))) (fun i _ => m - (intOf i).toNat)
  case atStart => exact ⟨0, ⟨[], [], [], 0⟩, none, 0, 0, none, 0, 0, none, 0, 0, by omega, rfl, HT.out, HR.out, HOut.out, RdN.nil _ _, RdN.nil _ _, RdN.nil _ _, ⟨by simp [setB], by simp [setB], by simp [setB]⟩, by simp, by simp, Hbl.out, by simp⟩
  case round =>
    clear HT HR HOut Hbl
    obtain ⟨k, cur, A1, n1, c1, A2, n2, c2, A3, n3, c3, hk, rfl, hT, hR, hO, x1, x2, x3, hset, hc0, hc1, hbl, hrel⟩ := hrel
    obtain ⟨t0, t1, t2, t3⟩ := hT.cell4
    have HT := hide hT
    have HR := hide hR
    have HOut := hide hO
    have X1 := hide x1
    have X2 := hide x2
    have X3 := hide x3
    have Hset := hide hset
    have Hbl := hide hbl
    have Hrel := hide hrel
    clear hT hR hO x1 x2 x3 hset hbl hrel
    by_cases hlt : k < m
    · obtain ⟨b, off, x, rfl, hx, hx1, hx2, hcx⟩ := (Hl.out.keep Hbl.out).int hlt
      have hxr := Hr.out x (List.mem_of_getElem? hx)
      obtain ⟨q, rfl⟩ : ∃ q : Nat, x = (q : Int) := ⟨x.toNat, by omega⟩
      have hq : q < nO := by have := Hlo.out; omega
      obtain ⟨b', off', o, B1, m1, d1, B2, m2, d2, B3, m3, d3, rfl, hoq, g0, g1, g2, g3, r1, r2, r3, r4⟩ := Ho.out.op hq
      replace g0 := (Hbl.out.cell (p := ⟨b', off' + q * 4, none⟩) (World.block_lt_of_cell? w _ g0)).trans g0
      replace g1 := (Hbl.out.cell (p := ⟨b', off' + q * 4 + 1, none⟩) (World.block_lt_of_cell? w _ g1)).trans g1
      replace g2 := (Hbl.out.cell (p := ⟨b', off' + q * 4 + 2, none⟩) (World.block_lt_of_cell? w _ g2)).trans g2
      replace g3 := (Hbl.out.cell (p := ⟨b', off' + q * 4 + 3, none⟩) (World.block_lt_of_cell? w _ g3)).trans g3
      have hoo := Hok.out.ops o (List.mem_of_getElem? hoq)
      have Hoo := hide hoo
      have ho1 := hoo.low
      have ho2 := hoo.high
      have Hd := hide (show (l.drop k).map (opAt T.ops) = o :: (l.drop (k + 1)).map (opAt T.ops) by rw [drop_cons hx, List.map_cons, opAt_eq hoq])
      have htO := HOut.out.lt
      have htR := HR.out.lt
      have htT := HT.out.lt
      clear hx hoq r4 hxr hoo
      go_upto_region 6 with (fail)
      have hY := Blk.new wr 82 [.slice B1 m1 d1, .slice B2 m2 d2, .slice B3 m3 d3, .int .i64 o.cost]
      have hb := (Below.refl wr.heap.size wr).alloc (Nat.le_refl _) (.cells #[.slice B1 m1 d1, .slice B2 m2 d2, .slice B3 m3 d3, .int .i64 o.cost] 82)
      obtain ⟨w3, hw3⟩ : ∃ w3, w3 = wr.alloc (.cells #[.slice B1 m1 d1, .slice B2 m2 d2, .slice B3 m3 d3, .int .i64 o.cost] 82) := ⟨_, rfl⟩
      rw [← hw3] at hY hb ⊢
      have hOY : gO < wr.heap.size := htO
      replace HT := hide (HT.out.keep hb)
      replace HR := hide (HR.out.keep hb)
      replace HOut := hide (HOut.out.keep hb)
      replace X1 := hide (X1.out.keep hb)
      replace X2 := hide (X2.out.keep hb)
      replace X3 := hide (X3.out.keep hb)
      replace Hbl := hide (Hbl.out.trans (hb.mono Hbl.out.size))
      have Y1 := hide (RdX.old (X := gO) r1 Hbl.out (by omega))
      have Y2 := hide (RdX.old (X := gO) r2 Hbl.out (by omega))
      have Y3 := hide (RdX.old (X := gO) r3 Hbl.out (by omega))
      clear hw3 hb g0 g1 g2 g3 t0 t1 t2 t3 r1 r2 r3
      generalize wr.heap.size = gY at hY hOY ⊢
      have HY := hide hY
      obtain ⟨z0, z1, z2, z3⟩ := HY.out.cell4
      obtain ⟨o0, o1, o2, o3⟩ := HOut.out.cell4
      have zl := HY.out.lt
      clear hY htO htR htT
      have hms := Meets_ct B1 A3 m1 d1 n3 c3 o.pre cur.del w3 Y1.out.rd X3.out.rd (up_le (setB_iff.1 Hset.out.del).1) (by have := setB_len Hset.out.del; have := Hok.out.low; have := X3.out.rd.len; omega)
      rcases em : meetB o.pre cur.del with _ | _
      · rw [em] at hms
        have hstep : combF cur (o :: (l.drop (k + 1)).map (opAt T.ops)) = combF (combStep cur o) ((l.drop (k + 1)).map (opAt T.ops)) := by rw [combF, if_neg (by simp [em])]
        have Hstep := hide hstep
        clear em hstep
        go_wp2_with fail
        refine hms.mono ?_
        rintro e w4 ⟨rfl, hb⟩
        clear hms z0 z1 z2 z3 o0 o1 o2 o3 zl
        replace HT := hide (HT.out.keep hb)
        replace HR := hide (HR.out.keep hb)
        replace HOut := hide (HOut.out.keep hb)
        replace HY := hide (HY.out.keep hb)
        replace X1 := hide (X1.out.keep hb)
        replace X2 := hide (X2.out.keep hb)
        replace X3 := hide (X3.out.keep hb)
        replace Y1 := hide (Y1.out.keep hb)
        replace Y2 := hide (Y2.out.keep hb)
        replace Y3 := hide (Y3.out.keep hb)
        replace Hbl := hide (Hbl.out.trans (hb.mono Hbl.out.size))
        clear hb
        obtain ⟨z0, z1, z2, z3⟩ := HY.out.cell4
        obtain ⟨o0, o1, o2, o3⟩ := HOut.out.cell4
        have zl := HY.out.lt
        have l1 : m1 ≤ 24 := by have := setB_len Hoo.out.pre; have := Hok.out.low; have := Y1.out.rd.len; omega
        have l2 : m2 ≤ 24 := by have := setB_len Hoo.out.add; have := Hok.out.low; have := Y2.out.rd.len; omega
        have l3 : m3 ≤ 24 := by have := setB_len Hoo.out.del; have := Hok.out.low; have := Y3.out.rd.len; omega
        have k1 : n1 ≤ 24 := by have := setB_len Hset.out.pre; have := Hok.out.low; have := X1.out.rd.len; omega
        have k2 : n2 ≤ 24 := by have := setB_len Hset.out.add; have := Hok.out.low; have := X2.out.rd.len; omega
        have k3 : n3 ≤ 24 := by have := setB_len Hset.out.del; have := Hok.out.low; have := X3.out.rd.len; omega
        have hnY : ¬ gO = gY := by omega
        have hnY2 : ¬ gY = gO := by omega
        have hu0 : setB N (updF o.pre [] cur.add) = true := updF_set (setB_iff.1 Hoo.out.pre).2 (by simp)
        obtain ⟨u, hu⟩ : ∃ u, u = updF o.pre [] cur.add := ⟨_, rfl⟩
        rw [← hu] at hu0
        have lu : u.length ≤ 24 := by have := setB_len hu0; have := Hok.out.low; omega
        have Hu := hide hu
        have Hu0 := hide hu0
        clear hu hu0
        go_wp2_with fail
        refine wp_region_held_drew (S := (fun w' => w'.cell? ⟨gO, 1, none⟩ = some (.slice A2 n2 c2) ∧ w'.cell? ⟨gY, 0, none⟩ = some (.slice B1 m1 d1))) (by kernel_rfl) ?_ (fun hHeld => ?_)
        · (try dsimp only); exact ⟨o1, z0⟩
        refine takeM (i := 0) (v := ?_) (some 27) rfl rfl (by kernel_rfl) (by kernel_rfl) (by kernel_rfl) (fun _ _ _ h => h) (Or.inl ⟨by rfl, ?_⟩) (by assumption) ?_
        rotate_left
        · intro w hSw; (try dsimp only at hSw); obtain ⟨s1, s2⟩ := hSw; first | (go_simp; done) | (go_simp; with_reducible rfl)
        try simp only [Act.put, List.setIfInBounds_toArray, List.set_cons_zero, List.set_cons_succ]
        refine takeM (i := 2) (v := ?_) (some 29) rfl rfl (by kernel_rfl) (by kernel_rfl) (by kernel_rfl) (fun _ _ _ h => h) (Or.inl ⟨by rfl, ?_⟩) (by assumption) ?_
        rotate_left
        · intro w hSw; (try dsimp only at hSw); obtain ⟨s1, s2⟩ := hSw; first | (go_simp; done) | (go_simp; with_reducible rfl)
        try simp only [Act.put, List.setIfInBounds_toArray, List.set_cons_zero, List.set_cons_succ]
        refine takeM (i := 3) (v := ?_) (some 30) rfl rfl (by kernel_rfl) (by kernel_rfl) (by kernel_rfl) (fun _ _ _ h => h) (Or.inl ⟨by rfl, ?_⟩) (by assumption) ?_
        rotate_left
        · intro w hSw; (try dsimp only at hSw); obtain ⟨s1, s2⟩ := hSw; first | (go_simp; done) | (go_simp; with_reducible rfl)
        try simp only [Act.put, List.setIfInBounds_toArray, List.set_cons_zero, List.set_cons_succ]
        refine takeM (i := 4) (v := ?_) (some 31) rfl rfl (by kernel_rfl) (by kernel_rfl) (by kernel_rfl) (fun _ _ _ h => h) (Or.inl ⟨by rfl, ?_⟩) (by assumption) ?_
        rotate_left
        · intro w hSw; (try dsimp only at hSw); obtain ⟨s1, s2⟩ := hSw; first | (go_simp; done) | (go_simp; with_reducible rfl)
        try simp only [Act.put, List.setIfInBounds_toArray, List.set_cons_zero, List.set_cons_succ]
        refine takeM (i := 5) (v := ?_) (some 32) rfl rfl (by kernel_rfl) (by kernel_rfl) (by kernel_rfl) (fun _ _ _ h => h) (Or.inl ⟨by rfl, ?_⟩) (by assumption) ?_
        rotate_left
        · intro w hSw; (try dsimp only at hSw); obtain ⟨s1, s2⟩ := hSw; first | (go_simp; done) | (go_simp; with_reducible rfl)
        try simp only [Act.put, List.setIfInBounds_toArray, List.set_cons_zero, List.set_cons_succ]
        refine wpAnyH_ready (rs := [1, 6]) (by kernel_rfl) (by simp) ?_
        refine AllReadyH.cons rfl (fun K hK => ?_) (AllReadyH.cons rfl (fun K hK => ?_) AllReadyH.nil)
        · skip
          go_simp
          refine hK.out _ _ ?_ (fun hHeld2 => ?_)
          · (try dsimp only); exact ⟨o1, z0⟩
          clear hK K hHeld
          try simp only [Act.put, List.setIfInBounds_toArray, List.set_cons_zero, List.set_cons_succ]
          have hHeld := hHeld2; clear hHeld2
          refine wpAnyH_ready (rs := [6]) (by kernel_rfl) (by simp) ?_
          refine AllReadyH.cons rfl (fun K hK => ?_) AllReadyH.nil
          go_simp
          with_reducible refine (Update_ct B1 none A2 m1 d1 0 0 n2 c2 o.pre [] cur.add _ (Y1.out.rd.qt (Qt.refl _).drew) (Rd.nil_ _ _) (X2.out.rd.qt (Qt.refl _).drew) (by omega) (by omega) (by omega) (up_le (setB_iff.1 Hset.out.add).1)).mono ?_
          rintro e wu ⟨hbu, Au, cu, rfl, hou⟩
          rw [← Hu.out] at hou ⊢
          have Hou := hide hou
          have Hbu := hide hbu
          obtain ⟨p0, p1, p2, p3⟩ := ((HOut.out.qt (Qt.refl w4).drew).keep hbu).cell4
          obtain ⟨q0, q1, q2, q3⟩ := ((HY.out.qt (Qt.refl w4).drew).keep hbu).cell4
          have pl := ((HOut.out.qt (Qt.refl w4).drew).keep hbu).lt
          clear hou hbu p2 p3 q1 q2 q3
          refine hK.out _ _ ?_ (fun hHeld2 => ?_)
          · (try dsimp only); exact ⟨p1, q0⟩
          clear hK K hHeld
          try simp only [Act.put, List.setIfInBounds_toArray, List.set_cons_zero, List.set_cons_succ]
          have hHeld := hHeld2; clear hHeld2
          refine wpAnyH_ready (rs := [7]) (by kernel_rfl) (by simp) ?_
          refine AllReadyH.cons rfl (fun K hK => ?_) AllReadyH.nil
          go_simp
          with_reducible refine (Union_ct A1 Au n1 c1 u.length cu cur.pre u wu ((X1.out.rd.qt (Qt.refl w4).drew).keep Hbu.out) (own_rd Hou.out rfl (set_small Hu0.out (by have := Hok.out.low; omega))) (by omega) (by omega)).mono ?_
          rintro e wv ⟨hbv, Av, cv, rfl, hov⟩
          have Hov := hide hov
          have Hbv := hide hbv
          have HOv := hide (((HOut.out.qt (Qt.refl w4).drew).keep Hbu.out).keep hbv)
          have HYv := hide (((HY.out.qt (Qt.refl w4).drew).keep Hbu.out).keep hbv)
          obtain ⟨v0, v1, v2, v3⟩ := HOv.out.cell4
          obtain ⟨x0, x1, x2, x3⟩ := HYv.out.cell4
          have hfz := HOv.out.frozen 0
          have hlz := HOv.out.lt
          clear hov hbv v2 v3 x1 x2 x3
          refine hK.out _ _ ?_ (fun hHeld2 => ?_)
          · (try dsimp only); exact ⟨v1, x0⟩
          clear hK K hHeld
          try simp only [Act.put, List.setIfInBounds_toArray, List.set_cons_zero, List.set_cons_succ]
          have hHeld := hHeld2; clear hHeld2
          refine takeM (i := 8) (v := ?_) (some 35) rfl rfl (by kernel_rfl) (by kernel_rfl) (by kernel_rfl) (fun _ _ _ h => h) (Or.inl ⟨by rfl, ?_⟩) (by assumption) ?_
          rotate_left
          · intro w hSw; (try dsimp only at hSw); obtain ⟨s1, s2⟩ := hSw; first | (go_simp; done) | (go_simp; with_reducible rfl)
          try simp only [Act.put, List.setIfInBounds_toArray, List.set_cons_zero, List.set_cons_succ]
          have hsO := HOv.out.set 0 (.slice Av (updF cur.pre u []).length cv)
          have hsY := HYv.out.far (p := ⟨gO, 0, none⟩) (by show gY ≠ gO; omega) (.slice Av (updF cur.pre u []).length cv)
          simp only [List.set_cons_zero] at hsO
          have hs1 := hsO.cell 1
          have hs2 := hsY.cell 0
          simp only [List.getElem?_cons_zero, List.getElem?_cons_succ] at hs1 hs2
          have HsO := hide hsO
          have HsY := hide hsY
          clear hsO hsY
          refine wpAnyH_ready (rs := [9]) (by kernel_rfl) (by simp) ?_
          refine AllReadyH.cons rfl (fun K hK => ?_) AllReadyH.nil
          go_simp
          refine hK.out _ _ ?_ (fun hHeld2 => ?_)
          · (try dsimp only); exact ⟨hs1, hs2⟩
          clear hK K hHeld
          try simp only [Act.put, List.setIfInBounds_toArray, List.set_cons_zero, List.set_cons_succ]
          have hHeld := hHeld2; clear hHeld2
          refine wpAnyH_done (by kernel_rfl) ?_ _
          have hch := fun (g : Nat) (t : TypeId) (cs : List Value) (h : Blk t w4 g cs) (hne : g ≠ gO) => (((h.qt (Qt.refl w4).drew).keep Hbu.out).keep Hbv.out).far (p := ⟨gO, 0, none⟩) hne (.slice Av (updF cur.pre u []).length cv)
          have hx9 := fun (A : Option Addr) (n c : Nat) (l : List Int) (h : RdX gO w4 A n c l) => (((h.keep ((Qt.refl w4).drew.below _)).keep Hbu.out).keep Hbv.out).set 0 (.slice Av (updF cur.pre u []).length cv)
          replace HT := hide (hch gT _ _ HT.out (by omega))
          replace HR := hide (hch gR _ _ HR.out (by omega))
          have hx8 := fun (A : Option Addr) (n c : Nat) (l : List Int) (h : RdN gO w4 A n c l) => (((h.keep ((Qt.refl w4).drew.below _)).keep Hbu.out).keep Hbv.out).set (Nat.le_refl gO) 0 (.slice Av (updF cur.pre u []).length cv)
          replace X2 := hide (hx8 _ _ _ _ X2.out)
          replace X3 := hide (hx8 _ _ _ _ X3.out)
          replace Y1 := hide (hx9 _ _ _ _ Y1.out)
          replace Y2 := hide (hx9 _ _ _ _ Y2.out)
          replace Y3 := hide (hx9 _ _ _ _ Y3.out)
          have hsp : setB N (updF cur.pre u []) = true := updF_set (setB_iff.1 Hset.out.pre).2 (setB_iff.1 Hu0.out).2
          have hx1 : RdN gO wv Av (updF cur.pre u []).length cv (updF cur.pre u [])   := RdN.own Hov.out (Nat.lt_of_lt_of_le pl (Nat.le_refl _)) rfl (set_small hsp (by have := Hok.out.low; omega))
          replace X1 := hide (hx1.set (Nat.le_refl gO) 0 (.slice Av (updF cur.pre u []).length cv))
          have hbl9 := below_set (((Hbl.out.drew).trans (Hbu.out.mono (by have := Hbl.out.size; exact this))).trans (Hbv.out.mono (by have := Hbl.out.size; have := Hbu.out.size; exact Nat.le_trans Hbl.out.size Hbu.out.size))) (g := gO) (by omega) 0 (.slice Av (updF cur.pre u []).length cv)
          replace Hbl := hide hbl9
          obtain ⟨pp, hpp⟩ : ∃ pp, pp = updF cur.pre u [] := ⟨_, rfl⟩
          rw [← hpp] at HsO HsY HT HR X1 X2 X3 Y1 Y2 Y3 Hbl hsp ⊢
          obtain ⟨w5, hw5⟩ : ∃ w5, w5 = wv.setCell ⟨gO, 0, none⟩ (.slice Av pp.length cv) := ⟨_, rfl⟩
          rw [← hw5] at HsO HsY HT HR X1 X2 X3 Y1 Y2 Y3 Hbl ⊢
          have Hpp := hide hpp
          have Hsp := hide hsp
          clear hw5 hpp hsp hx1 hbl9 hch hx9 hx8 HOv HYv Hov Hou Hbu Hbv HOut HY hs1 hs2 v0 v1 x0 hfz hlz z0 z1 z2 z3 o0 o1 o2 o3 zl
          clear p0 p1 q0 pl
          have HOut := HsO
          have HY := HsY
          clear HsO HsY hHeld
          obtain ⟨z0, z1, z2, z3⟩ := HY.out.cell4
          obtain ⟨o0, o1, o2, o3⟩ := HOut.out.cell4
          have zl := HY.out.lt
          have ol := HOut.out.lt
          have ofz := HOut.out.frozen 1
          go_wp2_with fail
          with_reducible refine (Update_ct A2 B2 B3 n2 c2 m2 d2 m3 d3 cur.add o.add o.del w5 X2.out.rd Y2.out.rd Y3.out.rd (by omega) (by omega) (by omega) (up_le (setB_iff.1 Hoo.out.del).1)).mono ?_
          rintro e w6 ⟨hb, Aw, cw, rfl, how⟩
          have hs9 : setB N (updF cur.add o.add o.del) = true := (combStep_sets Hset.out Hoo.out.sets).add
          have hx1 : RdN gO w6 Aw (updF cur.add o.add o.del).length cw (updF cur.add o.add o.del)   := RdN.own how ol rfl (set_small hs9 (by have := Hok.out.low; omega))
          have hO9 := (HOut.out.keep hb).set 1 (.slice Aw (updF cur.add o.add o.del).length cw)
          simp only [List.set_cons_zero, List.set_cons_succ] at hO9
          have hY9 := (HY.out.keep hb).far (p := ⟨gO, 1, none⟩) (by show gY ≠ gO; omega) (.slice Aw (updF cur.add o.add o.del).length cw)
          have hT9 := (HT.out.keep hb).far (p := ⟨gO, 1, none⟩) (by show gT ≠ gO; omega) (.slice Aw (updF cur.add o.add o.del).length cw)
          have hR9 := (HR.out.keep hb).far (p := ⟨gO, 1, none⟩) (by show gR ≠ gO; omega) (.slice Aw (updF cur.add o.add o.del).length cw)
          have hb9 := below_set (Hbl.out.trans (hb.mono Hbl.out.size)) (g := gO) (by omega) 1 (.slice Aw (updF cur.add o.add o.del).length cw)
          clear z0 z1 z2 z3 o0 o1 o2 o3 zl ol ofz
          obtain ⟨o0, o1, o2, o3⟩ := (HOut.out.keep hb).cell4
          have ofz := (HOut.out.keep hb).frozen 1
          have ol := (HOut.out.keep hb).lt
          replace X1 := hide ((X1.out.keep hb).set (Nat.le_refl gO) 1 (.slice Aw (updF cur.add o.add o.del).length cw))
          replace X2 := hide ((X2.out.keep hb).set (Nat.le_refl gO) 1 (.slice Aw (updF cur.add o.add o.del).length cw))
          replace X3 := hide ((X3.out.keep hb).set (Nat.le_refl gO) 1 (.slice Aw (updF cur.add o.add o.del).length cw))
          replace Y1 := hide ((Y1.out.keep hb).set 1 (.slice Aw (updF cur.add o.add o.del).length cw))
          replace Y2 := hide ((Y2.out.keep hb).set 1 (.slice Aw (updF cur.add o.add o.del).length cw))
          replace Y3 := hide ((Y3.out.keep hb).set 1 (.slice Aw (updF cur.add o.add o.del).length cw))
          replace X2 := hide (hx1.set (Nat.le_refl gO) 1 (.slice Aw (updF cur.add o.add o.del).length cw))
          have HO9 := hide hO9
          have HY9 := hide hY9
          replace HT := hide hT9
          replace HR := hide hR9
          replace Hbl := hide hb9
          clear hs9 hx1 hO9 hY9 hT9 hR9 hb9 hb how
          go_upto_region 10 with (fail)
          obtain ⟨w7, hw9⟩ : ∃ w9, w9 = w6.setCell ⟨gO, 1, none⟩ (.slice Aw (updF cur.add o.add o.del).length cw) := ⟨_, rfl⟩
          rw [← hw9] at HO9 HY9 HT HR X1 X2 X3 Y1 Y2 Y3 Hbl ⊢
          clear hw9 HOut HY o0 o1 o2 o3 ofz ol
          have HOut := HO9
          have HY := HY9
          clear HO9 HY9
          obtain ⟨z0, z1, z2, z3⟩ := HY.out.cell4
          obtain ⟨o0, o1, o2, o3⟩ := HOut.out.cell4
          have zl := HY.out.lt
          have ol := HOut.out.lt
          have ofz := HOut.out.frozen 2
          go_wp2_with fail
          with_reducible refine (Update_ct A3 B3 B2 n3 c3 m3 d3 m2 d2 cur.del o.del o.add w7 X3.out.rd Y3.out.rd Y2.out.rd (by omega) (by omega) (by omega) (up_le (setB_iff.1 Hoo.out.add).1)).mono ?_
          rintro e w8 ⟨hb, Ax, cx, rfl, hox⟩
          have hs9 : setB N (updF cur.del o.del o.add) = true := (combStep_sets Hset.out Hoo.out.sets).del
          have hx1 : RdN gO w8 Ax (updF cur.del o.del o.add).length cx (updF cur.del o.del o.add)   := RdN.own hox ol rfl (set_small hs9 (by have := Hok.out.low; omega))
          have hO9 := (HOut.out.keep hb).set 2 (.slice Ax (updF cur.del o.del o.add).length cx)
          simp only [List.set_cons_zero, List.set_cons_succ] at hO9
          have hY9 := (HY.out.keep hb).far (p := ⟨gO, 2, none⟩) (by show gY ≠ gO; omega) (.slice Ax (updF cur.del o.del o.add).length cx)
          have hT9 := (HT.out.keep hb).far (p := ⟨gO, 2, none⟩) (by show gT ≠ gO; omega) (.slice Ax (updF cur.del o.del o.add).length cx)
          have hR9 := (HR.out.keep hb).far (p := ⟨gO, 2, none⟩) (by show gR ≠ gO; omega) (.slice Ax (updF cur.del o.del o.add).length cx)
          have hb9 := below_set (Hbl.out.trans (hb.mono Hbl.out.size)) (g := gO) (by omega) 2 (.slice Ax (updF cur.del o.del o.add).length cx)
          clear z0 z1 z2 z3 o0 o1 o2 o3 zl ol ofz
          obtain ⟨o0, o1, o2, o3⟩ := (HOut.out.keep hb).cell4
          have ofz := (HOut.out.keep hb).frozen 2
          have ol := (HOut.out.keep hb).lt
          replace X1 := hide ((X1.out.keep hb).set (Nat.le_refl gO) 2 (.slice Ax (updF cur.del o.del o.add).length cx))
          replace X2 := hide ((X2.out.keep hb).set (Nat.le_refl gO) 2 (.slice Ax (updF cur.del o.del o.add).length cx))
          replace X3 := hide ((X3.out.keep hb).set (Nat.le_refl gO) 2 (.slice Ax (updF cur.del o.del o.add).length cx))
          replace Y1 := hide ((Y1.out.keep hb).set 2 (.slice Ax (updF cur.del o.del o.add).length cx))
          replace Y2 := hide ((Y2.out.keep hb).set 2 (.slice Ax (updF cur.del o.del o.add).length cx))
          replace Y3 := hide ((Y3.out.keep hb).set 2 (.slice Ax (updF cur.del o.del o.add).length cx))
          replace X3 := hide (hx1.set (Nat.le_refl gO) 2 (.slice Ax (updF cur.del o.del o.add).length cx))
          have HO9 := hide hO9
          have HY9 := hide hY9
          replace HT := hide hT9
          replace HR := hide hR9
          replace Hbl := hide hb9
          clear hs9 hx1 hO9 hY9 hT9 hR9 hb9 hb hox
          go_upto_region 11 with (fail)
          obtain ⟨w9, hw9⟩ : ∃ w9, w9 = w8.setCell ⟨gO, 2, none⟩ (.slice Ax (updF cur.del o.del o.add).length cx) := ⟨_, rfl⟩
          rw [← hw9] at HO9 HY9 HT HR X1 X2 X3 Y1 Y2 Y3 Hbl ⊢
          clear hw9 HOut HY o0 o1 o2 o3 ofz ol
          have HOut := HO9
          have HY := HY9
          clear HO9 HY9
          obtain ⟨z0, z1, z2, z3⟩ := HY.out.cell4
          obtain ⟨o0, o1, o2, o3⟩ := HOut.out.cell4
          have zl := HY.out.lt
          have ol := HOut.out.lt
          have ofz := HOut.out.frozen 3
          go_wp2_with fail
          go_roundw
          case rel =>
            refine ⟨k + 1, combStep cur o, Av, pp.length, cv, Aw, (updF cur.add o.add o.del).length, cw, Ax, (updF cur.del o.del o.add).length, cx, by omega, by go_num, HT.out.far (p := ⟨gO, 3, none⟩) (by show gT ≠ gO; omega) _, HR.out.far (p := ⟨gO, 3, none⟩) (by show gR ≠ gO; omega) _, ?_, ?_, ?_, ?_, combStep_sets Hset.out Hoo.out.sets, ?_, ?_, below_set Hbl.out (g := gO) (by omega) 3 _, ?_⟩
            · exact HOut.out.set 3 (.int .i64 (cur.cost + o.cost))
            · have := X1.out.set (Nat.le_refl gO) 3 (.int .i64 (cur.cost + o.cost))
              rw [Hpp.out, Hu.out] at this ⊢
              exact this
            · exact X2.out.set (Nat.le_refl gO) 3 _
            · exact X3.out.set (Nat.le_refl gO) 3 _
            · show 0 ≤ cur.cost + o.cost
              omega
            · show cur.cost + o.cost ≤ 100 * ((k + 1 : Nat) : Int)
              omega
            · rw [Hrel.out, Hd.out, Hstep.out]
          case measure => simp [intOf]; omega
        · skip
          go_simp
          with_reducible refine (Update_ct B1 none A2 m1 d1 0 0 n2 c2 o.pre [] cur.add _ (Y1.out.rd.qt (Qt.refl _).drew) (Rd.nil_ _ _) (X2.out.rd.qt (Qt.refl _).drew) (by omega) (by omega) (by omega) (up_le (setB_iff.1 Hset.out.add).1)).mono ?_
          rintro e wu ⟨hbu, Au, cu, rfl, hou⟩
          rw [← Hu.out] at hou ⊢
          have Hou := hide hou
          have Hbu := hide hbu
          obtain ⟨p0, p1, p2, p3⟩ := ((HOut.out.qt (Qt.refl w4).drew).keep hbu).cell4
          obtain ⟨q0, q1, q2, q3⟩ := ((HY.out.qt (Qt.refl w4).drew).keep hbu).cell4
          have pl := ((HOut.out.qt (Qt.refl w4).drew).keep hbu).lt
          clear hou hbu p2 p3 q1 q2 q3
          refine hK.out _ _ ?_ (fun hHeld2 => ?_)
          · (try dsimp only); exact ⟨p1, q0⟩
          clear hK K hHeld
          try simp only [Act.put, List.setIfInBounds_toArray, List.set_cons_zero, List.set_cons_succ]
          have hHeld := hHeld2; clear hHeld2
          refine wpAnyH_ready (rs := [1]) (by kernel_rfl) (by simp) ?_
          refine AllReadyH.cons rfl (fun K hK => ?_) AllReadyH.nil
          go_simp
          refine hK.out _ _ ?_ (fun hHeld2 => ?_)
          · (try dsimp only); exact ⟨p1, q0⟩
          clear hK K hHeld
          try simp only [Act.put, List.setIfInBounds_toArray, List.set_cons_zero, List.set_cons_succ]
          have hHeld := hHeld2; clear hHeld2
          refine wpAnyH_ready (rs := [7]) (by kernel_rfl) (by simp) ?_
          refine AllReadyH.cons rfl (fun K hK => ?_) AllReadyH.nil
          go_simp
          with_reducible refine (Union_ct A1 Au n1 c1 u.length cu cur.pre u wu ((X1.out.rd.qt (Qt.refl w4).drew).keep Hbu.out) (own_rd Hou.out rfl (set_small Hu0.out (by have := Hok.out.low; omega))) (by omega) (by omega)).mono ?_
          rintro e wv ⟨hbv, Av, cv, rfl, hov⟩
          have Hov := hide hov
          have Hbv := hide hbv
          have HOv := hide (((HOut.out.qt (Qt.refl w4).drew).keep Hbu.out).keep hbv)
          have HYv := hide (((HY.out.qt (Qt.refl w4).drew).keep Hbu.out).keep hbv)
          obtain ⟨v0, v1, v2, v3⟩ := HOv.out.cell4
          obtain ⟨x0, x1, x2, x3⟩ := HYv.out.cell4
          have hfz := HOv.out.frozen 0
          have hlz := HOv.out.lt
          clear hov hbv v2 v3 x1 x2 x3
          refine hK.out _ _ ?_ (fun hHeld2 => ?_)
          · (try dsimp only); exact ⟨v1, x0⟩
          clear hK K hHeld
          try simp only [Act.put, List.setIfInBounds_toArray, List.set_cons_zero, List.set_cons_succ]
          have hHeld := hHeld2; clear hHeld2
          refine takeM (i := 8) (v := ?_) (some 35) rfl rfl (by kernel_rfl) (by kernel_rfl) (by kernel_rfl) (fun _ _ _ h => h) (Or.inl ⟨by rfl, ?_⟩) (by assumption) ?_
          rotate_left
          · intro w hSw; (try dsimp only at hSw); obtain ⟨s1, s2⟩ := hSw; first | (go_simp; done) | (go_simp; with_reducible rfl)
          try simp only [Act.put, List.setIfInBounds_toArray, List.set_cons_zero, List.set_cons_succ]
          have hsO := HOv.out.set 0 (.slice Av (updF cur.pre u []).length cv)
          have hsY := HYv.out.far (p := ⟨gO, 0, none⟩) (by show gY ≠ gO; omega) (.slice Av (updF cur.pre u []).length cv)
          simp only [List.set_cons_zero] at hsO
          have hs1 := hsO.cell 1
          have hs2 := hsY.cell 0
          simp only [List.getElem?_cons_zero, List.getElem?_cons_succ] at hs1 hs2
          have HsO := hide hsO
          have HsY := hide hsY
          clear hsO hsY
          refine wpAnyH_ready (rs := [9]) (by kernel_rfl) (by simp) ?_
          refine AllReadyH.cons rfl (fun K hK => ?_) AllReadyH.nil
          go_simp
          refine hK.out _ _ ?_ (fun hHeld2 => ?_)
          · (try dsimp only); exact ⟨hs1, hs2⟩
          clear hK K hHeld
          try simp only [Act.put, List.setIfInBounds_toArray, List.set_cons_zero, List.set_cons_succ]
          have hHeld := hHeld2; clear hHeld2
          refine wpAnyH_done (by kernel_rfl) ?_ _
          have hch := fun (g : Nat) (t : TypeId) (cs : List Value) (h : Blk t w4 g cs) (hne : g ≠ gO) => (((h.qt (Qt.refl w4).drew).keep Hbu.out).keep Hbv.out).far (p := ⟨gO, 0, none⟩) hne (.slice Av (updF cur.pre u []).length cv)
          have hx9 := fun (A : Option Addr) (n c : Nat) (l : List Int) (h : RdX gO w4 A n c l) => (((h.keep ((Qt.refl w4).drew.below _)).keep Hbu.out).keep Hbv.out).set 0 (.slice Av (updF cur.pre u []).length cv)
          replace HT := hide (hch gT _ _ HT.out (by omega))
          replace HR := hide (hch gR _ _ HR.out (by omega))
          have hx8 := fun (A : Option Addr) (n c : Nat) (l : List Int) (h : RdN gO w4 A n c l) => (((h.keep ((Qt.refl w4).drew.below _)).keep Hbu.out).keep Hbv.out).set (Nat.le_refl gO) 0 (.slice Av (updF cur.pre u []).length cv)
          replace X2 := hide (hx8 _ _ _ _ X2.out)
          replace X3 := hide (hx8 _ _ _ _ X3.out)
          replace Y1 := hide (hx9 _ _ _ _ Y1.out)
          replace Y2 := hide (hx9 _ _ _ _ Y2.out)
          replace Y3 := hide (hx9 _ _ _ _ Y3.out)
          have hsp : setB N (updF cur.pre u []) = true := updF_set (setB_iff.1 Hset.out.pre).2 (setB_iff.1 Hu0.out).2
          have hx1 : RdN gO wv Av (updF cur.pre u []).length cv (updF cur.pre u [])   := RdN.own Hov.out (Nat.lt_of_lt_of_le pl (Nat.le_refl _)) rfl (set_small hsp (by have := Hok.out.low; omega))
          replace X1 := hide (hx1.set (Nat.le_refl gO) 0 (.slice Av (updF cur.pre u []).length cv))
          have hbl9 := below_set (((Hbl.out.drew).trans (Hbu.out.mono (by have := Hbl.out.size; exact this))).trans (Hbv.out.mono (by have := Hbl.out.size; have := Hbu.out.size; exact Nat.le_trans Hbl.out.size Hbu.out.size))) (g := gO) (by omega) 0 (.slice Av (updF cur.pre u []).length cv)
          replace Hbl := hide hbl9
          obtain ⟨pp, hpp⟩ : ∃ pp, pp = updF cur.pre u [] := ⟨_, rfl⟩
          rw [← hpp] at HsO HsY HT HR X1 X2 X3 Y1 Y2 Y3 Hbl hsp ⊢
          obtain ⟨w5, hw5⟩ : ∃ w5, w5 = wv.setCell ⟨gO, 0, none⟩ (.slice Av pp.length cv) := ⟨_, rfl⟩
          rw [← hw5] at HsO HsY HT HR X1 X2 X3 Y1 Y2 Y3 Hbl ⊢
          have Hpp := hide hpp
          have Hsp := hide hsp
          clear hw5 hpp hsp hx1 hbl9 hch hx9 hx8 HOv HYv Hov Hou Hbu Hbv HOut HY hs1 hs2 v0 v1 x0 hfz hlz z0 z1 z2 z3 o0 o1 o2 o3 zl
          clear p0 p1 q0 pl
          have HOut := HsO
          have HY := HsY
          clear HsO HsY hHeld
          obtain ⟨z0, z1, z2, z3⟩ := HY.out.cell4
          obtain ⟨o0, o1, o2, o3⟩ := HOut.out.cell4
          have zl := HY.out.lt
          have ol := HOut.out.lt
          have ofz := HOut.out.frozen 1
          go_wp2_with fail
          with_reducible refine (Update_ct A2 B2 B3 n2 c2 m2 d2 m3 d3 cur.add o.add o.del w5 X2.out.rd Y2.out.rd Y3.out.rd (by omega) (by omega) (by omega) (up_le (setB_iff.1 Hoo.out.del).1)).mono ?_
          rintro e w6 ⟨hb, Aw, cw, rfl, how⟩
          have hs9 : setB N (updF cur.add o.add o.del) = true := (combStep_sets Hset.out Hoo.out.sets).add
          have hx1 : RdN gO w6 Aw (updF cur.add o.add o.del).length cw (updF cur.add o.add o.del)   := RdN.own how ol rfl (set_small hs9 (by have := Hok.out.low; omega))
          have hO9 := (HOut.out.keep hb).set 1 (.slice Aw (updF cur.add o.add o.del).length cw)
          simp only [List.set_cons_zero, List.set_cons_succ] at hO9
          have hY9 := (HY.out.keep hb).far (p := ⟨gO, 1, none⟩) (by show gY ≠ gO; omega) (.slice Aw (updF cur.add o.add o.del).length cw)
          have hT9 := (HT.out.keep hb).far (p := ⟨gO, 1, none⟩) (by show gT ≠ gO; omega) (.slice Aw (updF cur.add o.add o.del).length cw)
          have hR9 := (HR.out.keep hb).far (p := ⟨gO, 1, none⟩) (by show gR ≠ gO; omega) (.slice Aw (updF cur.add o.add o.del).length cw)
          have hb9 := below_set (Hbl.out.trans (hb.mono Hbl.out.size)) (g := gO) (by omega) 1 (.slice Aw (updF cur.add o.add o.del).length cw)
          clear z0 z1 z2 z3 o0 o1 o2 o3 zl ol ofz
          obtain ⟨o0, o1, o2, o3⟩ := (HOut.out.keep hb).cell4
          have ofz := (HOut.out.keep hb).frozen 1
          have ol := (HOut.out.keep hb).lt
          replace X1 := hide ((X1.out.keep hb).set (Nat.le_refl gO) 1 (.slice Aw (updF cur.add o.add o.del).length cw))
          replace X2 := hide ((X2.out.keep hb).set (Nat.le_refl gO) 1 (.slice Aw (updF cur.add o.add o.del).length cw))
          replace X3 := hide ((X3.out.keep hb).set (Nat.le_refl gO) 1 (.slice Aw (updF cur.add o.add o.del).length cw))
          replace Y1 := hide ((Y1.out.keep hb).set 1 (.slice Aw (updF cur.add o.add o.del).length cw))
          replace Y2 := hide ((Y2.out.keep hb).set 1 (.slice Aw (updF cur.add o.add o.del).length cw))
          replace Y3 := hide ((Y3.out.keep hb).set 1 (.slice Aw (updF cur.add o.add o.del).length cw))
          replace X2 := hide (hx1.set (Nat.le_refl gO) 1 (.slice Aw (updF cur.add o.add o.del).length cw))
          have HO9 := hide hO9
          have HY9 := hide hY9
          replace HT := hide hT9
          replace HR := hide hR9
          replace Hbl := hide hb9
          clear hs9 hx1 hO9 hY9 hT9 hR9 hb9 hb how
          go_upto_region 10 with (fail)
          obtain ⟨w7, hw9⟩ : ∃ w9, w9 = w6.setCell ⟨gO, 1, none⟩ (.slice Aw (updF cur.add o.add o.del).length cw) := ⟨_, rfl⟩
          rw [← hw9] at HO9 HY9 HT HR X1 X2 X3 Y1 Y2 Y3 Hbl ⊢
          clear hw9 HOut HY o0 o1 o2 o3 ofz ol
          have HOut := HO9
          have HY := HY9
          clear HO9 HY9
          obtain ⟨z0, z1, z2, z3⟩ := HY.out.cell4
          obtain ⟨o0, o1, o2, o3⟩ := HOut.out.cell4
          have zl := HY.out.lt
          have ol := HOut.out.lt
          have ofz := HOut.out.frozen 2
          go_wp2_with fail
          with_reducible refine (Update_ct A3 B3 B2 n3 c3 m3 d3 m2 d2 cur.del o.del o.add w7 X3.out.rd Y3.out.rd Y2.out.rd (by omega) (by omega) (by omega) (up_le (setB_iff.1 Hoo.out.add).1)).mono ?_
          rintro e w8 ⟨hb, Ax, cx, rfl, hox⟩
          have hs9 : setB N (updF cur.del o.del o.add) = true := (combStep_sets Hset.out Hoo.out.sets).del
          have hx1 : RdN gO w8 Ax (updF cur.del o.del o.add).length cx (updF cur.del o.del o.add)   := RdN.own hox ol rfl (set_small hs9 (by have := Hok.out.low; omega))
          have hO9 := (HOut.out.keep hb).set 2 (.slice Ax (updF cur.del o.del o.add).length cx)
          simp only [List.set_cons_zero, List.set_cons_succ] at hO9
          have hY9 := (HY.out.keep hb).far (p := ⟨gO, 2, none⟩) (by show gY ≠ gO; omega) (.slice Ax (updF cur.del o.del o.add).length cx)
          have hT9 := (HT.out.keep hb).far (p := ⟨gO, 2, none⟩) (by show gT ≠ gO; omega) (.slice Ax (updF cur.del o.del o.add).length cx)
          have hR9 := (HR.out.keep hb).far (p := ⟨gO, 2, none⟩) (by show gR ≠ gO; omega) (.slice Ax (updF cur.del o.del o.add).length cx)
          have hb9 := below_set (Hbl.out.trans (hb.mono Hbl.out.size)) (g := gO) (by omega) 2 (.slice Ax (updF cur.del o.del o.add).length cx)
          clear z0 z1 z2 z3 o0 o1 o2 o3 zl ol ofz
          obtain ⟨o0, o1, o2, o3⟩ := (HOut.out.keep hb).cell4
          have ofz := (HOut.out.keep hb).frozen 2
          have ol := (HOut.out.keep hb).lt
          replace X1 := hide ((X1.out.keep hb).set (Nat.le_refl gO) 2 (.slice Ax (updF cur.del o.del o.add).length cx))
          replace X2 := hide ((X2.out.keep hb).set (Nat.le_refl gO) 2 (.slice Ax (updF cur.del o.del o.add).length cx))
          replace X3 := hide ((X3.out.keep hb).set (Nat.le_refl gO) 2 (.slice Ax (updF cur.del o.del o.add).length cx))
          replace Y1 := hide ((Y1.out.keep hb).set 2 (.slice Ax (updF cur.del o.del o.add).length cx))
          replace Y2 := hide ((Y2.out.keep hb).set 2 (.slice Ax (updF cur.del o.del o.add).length cx))
          replace Y3 := hide ((Y3.out.keep hb).set 2 (.slice Ax (updF cur.del o.del o.add).length cx))
          replace X3 := hide (hx1.set (Nat.le_refl gO) 2 (.slice Ax (updF cur.del o.del o.add).length cx))
          have HO9 := hide hO9
          have HY9 := hide hY9
          replace HT := hide hT9
          replace HR := hide hR9
          replace Hbl := hide hb9
          clear hs9 hx1 hO9 hY9 hT9 hR9 hb9 hb hox
          go_upto_region 11 with (fail)
          obtain ⟨w9, hw9⟩ : ∃ w9, w9 = w8.setCell ⟨gO, 2, none⟩ (.slice Ax (updF cur.del o.del o.add).length cx) := ⟨_, rfl⟩
          rw [← hw9] at HO9 HY9 HT HR X1 X2 X3 Y1 Y2 Y3 Hbl ⊢
          clear hw9 HOut HY o0 o1 o2 o3 ofz ol
          have HOut := HO9
          have HY := HY9
          clear HO9 HY9
          obtain ⟨z0, z1, z2, z3⟩ := HY.out.cell4
          obtain ⟨o0, o1, o2, o3⟩ := HOut.out.cell4
          have zl := HY.out.lt
          have ol := HOut.out.lt
          have ofz := HOut.out.frozen 3
          go_wp2_with fail
          go_roundw
          case rel =>
            refine ⟨k + 1, combStep cur o, Av, pp.length, cv, Aw, (updF cur.add o.add o.del).length, cw, Ax, (updF cur.del o.del o.add).length, cx, by omega, by go_num, HT.out.far (p := ⟨gO, 3, none⟩) (by show gT ≠ gO; omega) _, HR.out.far (p := ⟨gO, 3, none⟩) (by show gR ≠ gO; omega) _, ?_, ?_, ?_, ?_, combStep_sets Hset.out Hoo.out.sets, ?_, ?_, below_set Hbl.out (g := gO) (by omega) 3 _, ?_⟩
            · exact HOut.out.set 3 (.int .i64 (cur.cost + o.cost))
            · have := X1.out.set (Nat.le_refl gO) 3 (.int .i64 (cur.cost + o.cost))
              rw [Hpp.out, Hu.out] at this ⊢
              exact this
            · exact X2.out.set (Nat.le_refl gO) 3 _
            · exact X3.out.set (Nat.le_refl gO) 3 _
            · show 0 ≤ cur.cost + o.cost
              omega
            · show cur.cost + o.cost ≤ 100 * ((k + 1 : Nat) : Int)
              omega
            · rw [Hrel.out, Hd.out, Hstep.out]
          case measure => simp [intOf]; omega
      · rw [em] at hms
        have hnone : combF cur (o :: (l.drop (k + 1)).map (opAt T.ops)) = none := by rw [combF, if_pos em]
        have Hnone := hide hnone
        clear em hnone
        go_wp2_with fail
        refine hms.mono ?_
        rintro e w4 ⟨rfl, hb⟩
        clear hms z0 z1 z2 z3 o0 o1 o2 o3 zl
        replace HR := hide (HR.out.keep hb)
        replace Hbl := hide (Hbl.out.trans (hb.mono Hbl.out.size))
        clear hb
        obtain ⟨a0, a1, a2, a3⟩ := HR.out.cell4
        have e0 := HR.out.frozen 0
        have e1 := HR.out.frozen 1
        have e2 := HR.out.frozen 2
        have e3 := HR.out.frozen 3
        have al := HR.out.lt
        go_wp2_with fail
        refine bodyPost_ret (v := .tuple #[.agg #[.slice none 0 0, .slice none 0 0, .slice none 0 0, .int .i64 0], .bool false]) (by simp [results, Try.results99, go_sem, a0, a1, a2, a3, al]) rfl ⟨?_, .inl ⟨by rw [Hrel.out, Hd.out, Hnone.out], rfl⟩⟩
        exact ((((Hbl.out.setCell (by show w.heap.size ≤ gR; omega) _).setCell (by show w.heap.size ≤ gR; omega) _).setCell (by show w.heap.size ≤ gR; omega) _).setCell (by show w.heap.size ≤ gR; omega) _)
    · obtain rfl : k = m := by omega
      obtain ⟨o0, o1, o2, o3⟩ := HOut.out.cell4
      obtain ⟨a0, a1, a2, a3⟩ := HR.out.cell4
      have e0 := HR.out.frozen 0
      have e1 := HR.out.frozen 1
      have e2 := HR.out.frozen 2
      have e3 := HR.out.frozen 3
      have al := HR.out.lt
      have hne : ¬ gR = gO := by omega
      have hne2 : ¬ gO = gR := by omega
      go_wp2_with fail
      refine bodyPost_ret (v := .tuple #[.agg #[.slice A1 n1 c1, .slice A2 n2 c2, .slice A3 n3 c3, .int .i64 cur.cost], .bool true]) (by simp [results, Try.results99, go_sem, a0, a1, a2, a3, al]) rfl ⟨?_, .inr ⟨cur, A1, n1, c1, A2, n2, c2, A3, n3, c3, by rw [Hrel.out, List.drop_of_length_le (by rw [Hll.out]; omega)]; rfl, rfl, ?_, ?_, ?_, Hset.out⟩⟩
      · exact below_set (below_set (below_set (below_set Hbl.out (g := gR) (by omega) 0 _) (g := gR) (by omega) 1 _) (g := gR) (by omega) 2 _) (g := gR) (by omega) 3 _
      · exact ((((X1.out.set (Y := gR) (by omega) 0 _).set (Y := gR) (by omega) 1 _).set (Y := gR) (by omega) 2 _).set (Y := gR) (by omega) 3 _).less (by omega)
      · exact ((((X2.out.set (Y := gR) (by omega) 0 _).set (Y := gR) (by omega) 1 _).set (Y := gR) (by omega) 2 _).set (Y := gR) (by omega) 3 _).less (by omega)
      · exact ((((X3.out.set (Y := gR) (by omega) 0 _).set (Y := gR) (by omega) 1 _).set (Y := gR) (by omega) 2 _).set (Y := gR) (by omega) 3 _).less (by omega)
end Go.Proofs.Ytliggcmohcdchaa
namespace Go.Proofs.Ytliggcmohcdchaa
set_option linter.unusedVariables false
set_option linter.unusedSimpArgs false
open Go.RowKit
set_option maxRecDepth 100000 in
set_option maxHeartbeats 800000 in
theorem IndexMF_ct (g : Nat) (p : Int → Bool) (B : Option Addr) (n c : Nat) (xs : List Int) (w : World) (hx : Rd Enc.int w B n c xs)
    (hf : ∀ x ∈ xs, ∀ d, Calls Try.prog 125 #[.int .i64 x, .pointer (some ⟨g, 0, none⟩)] (w.drewN d) (Quiet (w.drewN d) (.bool (p x)))) :
    Calls Try.prog 119 #[.slice B n c, .func (.func 125) #[] #[.pointer (some ⟨g, 0, none⟩)]] w (Quiet w (.int .i64 (firstP p 0 xs))) := by
  have hsm := hx.low
  have Hl := hide hx.len
  have Hf := hide hf
  clear hf
  go_enter Try.func119, Try.ntmps119
  go_wp2
  go_loopw [8] (fun i wr => ∃ k : Nat, k ≤ n ∧ i = .int .i64 k ∧ Qt w wr ∧ firstP p 0 xs = firstP p k (xs.drop k)) (fun i _ => n - (intOf i).toNat)
  case atStart => exact ⟨0, by omega, rfl, Qt.refl _, by simp⟩
  case round =>
    obtain ⟨k, hk, rfl, ⟨d, rfl⟩, hrel⟩ := hrel
    by_cases hlt : k < n
    · obtain ⟨b, off, x, rfl, hxx, hxl, hxh, hcx⟩ := hx.int hlt
      rw [drop_cons hxx] at hrel
      have Hfx := hide (Hf.out x (List.mem_of_getElem? hxx) d)
      have Hrel := hide hrel
      clear hrel hxx
      obtain ⟨b, hb⟩ : ∃ b, b = p x := ⟨_, rfl⟩
      rw [← hb] at Hfx
      have Hb := hide hb
      clear hb
      go_wp2_with fail
      refine (Hfx.out).mono ?_
      rintro e w1 ⟨rfl, d1, rfl⟩
      cases b with
      | true =>
        go_wp2
        go_ret
        exact ⟨ret_int (by rw [Hrel.out, firstP, if_pos Hb.out.symm]), d + d1, rfl⟩
      | false =>
        go_wp2
        go_roundw
        case rel => exact ⟨k + 1, by omega, by go_num, ⟨d + d1, rfl⟩, by rw [Hrel.out, firstP, if_neg (by rw [← Hb.out]; simp)]⟩
        case measure => simp [intOf]; omega
    · have Hrel := hide hrel
      clear hrel
      go_wp2
      go_ret
      refine ⟨ret_int ?_, d, rfl⟩
      rw [Hrel.out, List.drop_of_length_le (by rw [Hl.out]; omega), firstP]
set_option maxHeartbeats 400000 in
theorem ContainsMF_ct (g : Nat) (p : Int → Bool) (B : Option Addr) (n c : Nat) (xs : List Int) (w : World) (hx : Rd Enc.int w B n c xs)
    (hf : ∀ x ∈ xs, ∀ d, Calls Try.prog 125 #[.int .i64 x, .pointer (some ⟨g, 0, none⟩)] (w.drewN d) (Quiet (w.drewN d) (.bool (p x)))) :
    Calls Try.prog 92 #[.slice B n c, .func (.func 125) #[] #[.pointer (some ⟨g, 0, none⟩)]] w (Quiet w (.bool (xs.any p))) := by
  have Hf := hide hf
  clear hf
  go_enter Try.func92, Try.ntmps92
  go_wp2_with fail
  refine (IndexMF_ct g p B n c xs _ hx Hf.out).mono ?_
  rintro e w1 ⟨rfl, d1, rfl⟩
  go_wp2
  go_ret
  exact ⟨ret_bool (firstP_sign p 0 xs), d1, rfl⟩

def outB (k : Nat) (x : Int) : Bool := decide (x < 0 ∨ (k : Int) ≤ x)
/-- the fault of a sequence over k operators -/
def seqFault (k : Nat) (l : List Int) (i : Int) : Int × Int := if l.length < 1 ∨ 6 < l.length then (9, i) else if l.any (outB k) = true then (3, i) else (0, 0)
theorem seqFault_ok {k : Nat} {l : List Int} {i : Int} (h : (seqFault k l i).1 = 0) : seqFault k l i = (0, 0) ∧ 1 ≤ l.length ∧ l.length ≤ 6 ∧ ∀ x ∈ l, 0 ≤ x ∧ x < k := by
  unfold seqFault at h ⊢
  split
  · rename_i e; rw [if_pos e] at h; cases h
  · rename_i e; rw [if_neg e] at h
    split
    · rename_i e2; rw [if_pos e2] at h; cases h
    · rename_i e2
      refine ⟨rfl, by omega, by omega, fun x hx => ?_⟩
      have := List.any_eq_false.1 (by simpa using e2) x hx
      unfold outB at this
      simp at this
      omega
set_option maxRecDepth 100000 in
set_option maxHeartbeats 800000 in
theorem fault1_ct (g : Nat) (x : Int) (x0 x1 x2 : Value) (O : Option Addr) (nO cO : Nat) (w : World) (hc : w.cell? ⟨g, 3, none⟩ = some (.slice O nO cO)) (hx : -9223372036854775808 ≤ x ∧ x ≤ 9223372036854775807) (hO : nO ≤ 9223372036854775807) :
    Calls Try.prog 125 #[.int .i64 x, .pointer (some ⟨g, 0, none⟩)] w (Quiet w (.bool (outB nO x))) := by
  obtain ⟨hx1, hx2⟩ := hx
  by_cases h : x < 0
  · go_enter Try.func125, Try.ntmps125
    go_wp2
    go_ret
    exact ⟨ret_bool (by unfold outB; rw [eq_comm, decide_eq_true_iff]; omega), Qt.refl _⟩
  · go_enter Try.func125, Try.ntmps125
    go_wp2
    go_ret
    refine ⟨ret_bool ?_, Qt.refl _⟩
    unfold outB
    rw [Bool.eq_iff_iff, decide_eq_true_iff, decide_eq_true_iff]
    omega
set_option maxRecDepth 100000 in
set_option maxHeartbeats 1600000 in
theorem mfault_ct (a : TA) (T : Tsk) (B : Option Addr) (m d : Nat) (l : List Int) (i : Int) (w : World) (h : TkR w a T) (hl : Rd Enc.int w B m d l) :
    Calls Try.prog 98 #[.agg #[.int .i64 T.facts, .slice a.I a.nI a.cI, .slice a.G a.nG a.cG, .slice a.O a.nO a.cO], .slice B m d, .int .i64 i] w (Gives w (fault (seqFault T.ops.length l i).1 (seqFault T.ops.length l i).2)) := by
  obtain ⟨I, nI, cI, G, nG, cG, O, nO, cO⟩ := a
  obtain ⟨_, hi, hg, ho⟩ := h
  simp only at hi hg ho ⊢
  have hlo := ho.low
  have hsm := hl.low
  have hlen := ho.len
  have hX := BxF.new w 25 [.int .i64 T.facts, .slice I nI cI, .slice G nG cG, .slice O nO cO] (.int .i64 0) (.int .i64 0)
  have hbw := below_two w (.cells #[.int .i64 T.facts, .slice I nI cI, .slice G nG cG, .slice O nO cO] 25) (.cells #[.int .i64 0, .int .i64 0] 29)
  rw [hlen]
  have Hlm := hide hl.len
  have HX := hide hX
  have Hbw := hide hbw
  have Hl := hide hl
  clear hX hbw hlen ho hi hg hl
  by_cases h1 : m < 1 ∨ 6 < m
  · have hres : seqFault nO l i = (9, i) := by unfold seqFault; rw [Hlm.out, if_pos h1]
    rw [hres]
    clear hres
    by_cases h2 : m < 1
    · obtain rfl : m = 0 := by omega
      clear h1
      go_enter Try.func98, Try.ntmps98
      go_wp2_with fail
      exact bodyPost_ret (v := fault 9 i) (by simp [results, Try.results98, go_sem, fault]) rfl ⟨rfl, below_two _ _ _⟩
    · have h3 : 6 < m := by omega
      clear h1
      go_enter Try.func98, Try.ntmps98
      go_wp2_with fail
      exact bodyPost_ret (v := fault 9 i) (by simp [results, Try.results98, go_sem, fault]) rfl ⟨rfl, below_two _ _ _⟩
  · have h2 : ¬ m < 1 := by omega
    have h3 : ¬ 6 < m := by omega
    have hmf : ∀ (fn : Fn) (first cap : Array Value) (w : World), (Instr.makeFunc fn first cap).run Try.prog w = .ok (.func fn first cap) w := fun _ _ _ _ => rfl
    have hct := ContainsMF_ct w.heap.size (outB nO) B m d l _ (Hl.out.keep Hbw.out) (fun x hx dd => by
      obtain ⟨j, hj⟩ := List.getElem?_of_mem hx
      have hjm : j < m := by rw [← Hlm.out]; exact (List.getElem?_eq_some_iff.1 hj).1
      obtain ⟨_, _, y, _, hy, hy1, hy2, _⟩ := Hl.out.int hjm
      rw [hj] at hy
      obtain rfl := Option.some.inj hy
      exact fault1_ct w.heap.size x (.int .i64 T.facts) (.slice I nI cI) (.slice G nG cG) O nO cO _ (by rw [World.cell?_drewN]; exact HX.out.cell4.2.2.2) ⟨hy1, hy2⟩ hlo)
    have hres : seqFault nO l i = if l.any (outB nO) = true then (3, i) else (0, 0) := by unfold seqFault; rw [Hlm.out, if_neg h1]
    rcases ha : l.any (outB nO) with _ | _
    · rw [ha] at hres hct
      rw [hres, if_neg (by simp)]
      have Hct := hide hct
      clear hres hct ha h1
      go_enter Try.func98, Try.ntmps98
      go_wp2_with fail
      refine Hct.out.mono ?_
      rintro e w1 ⟨rfl, hq⟩
      obtain ⟨y0, y1, y2, y3, y4, y5⟩ := (HX.out.qt hq).resf
      have Hb := hide (Hbw.out.trans (hq.below _))
      clear hq
      go_wp2_with fail
      exact bodyPost_ret (v := fault 0 0) (by simp [results, Try.results98, go_sem, fault, y0, y1, y5]) rfl ⟨rfl, below_res2 Hb.out (by omega) _ _⟩
    · rw [ha] at hres hct
      rw [hres, if_pos rfl]
      have Hct := hide hct
      clear hres hct ha h1
      go_enter Try.func98, Try.ntmps98
      go_wp2_with fail
      refine Hct.out.mono ?_
      rintro e w1 ⟨rfl, hq⟩
      obtain ⟨y0, y1, y2, y3, y4, y5⟩ := (HX.out.qt hq).resf
      have Hb := hide (Hbw.out.trans (hq.below _))
      clear hq
      go_wp2_with fail
      exact bodyPost_ret (v := fault 3 i) (by simp [results, Try.results98, go_sem, fault, y0, y1, y5]) rfl ⟨rfl, below_res2 Hb.out (by omega) _ _⟩
def zeroOp : Opr := ⟨[], [], [], 0⟩
/-- a result's operator -/
def OpN (X : Nat) (w : World) (v : Value) (o : Opr) : Prop := ∃ (A1 : Option Addr) (n1 c1 : Nat) (A2 : Option Addr) (n2 c2 : Nat) (A3 : Option Addr) (n3 c3 : Nat), v = .agg #[.slice A1 n1 c1, .slice A2 n2 c2, .slice A3 n3 c3, .int .i64 o.cost] ∧ RdN X w A1 n1 c1 o.pre ∧ RdN X w A2 n2 c2 o.add ∧ RdN X w A3 n3 c3 o.del
theorem OpN.zero (X : Nat) (w : World) : OpN X w (.agg #[.slice none 0 0, .slice none 0 0, .slice none 0 0, .int .i64 0]) zeroOp := ⟨none, 0, 0, none, 0, 0, none, 0, 0, rfl, RdN.nil _ _, RdN.nil _ _, RdN.nil _ _⟩
/-- what Combine answers -/
def combineR (T : Tsk) (l : List Int) : Opr × Bool × Int × Int :=
  if (taskFault T).1 ≠ 0 then (zeroOp, false, taskFault T) else if (seqFault T.ops.length l (-8)).1 ≠ 0 then (zeroOp, false, seqFault T.ops.length l (-8)) else
    match combF zeroOp (l.map (opAt T.ops)) with
    | none => (zeroOp, false, 0, 0)
    | some o => if 100 < o.cost then (zeroOp, false, 10, -9) else (o, true, 0, 0)
def CombineP (w : World) (r : Opr × Bool × Int × Int) (e : Ending) (w' : World) : Prop :=
  Below w.heap.size w w' ∧ ∃ v, e = .returned (.tuple #[v, .bool r.2.1, fault r.2.2.1 r.2.2.2]) ∧ OpN w.heap.size w' v r.1

end Go.Proofs.Ytliggcmohcdchaa
namespace Go.Proofs.Ytliggcmohcdchaa
set_option linter.unusedVariables false
set_option linter.unusedSimpArgs false
open Go.RowKit
/-- what is known of a fact: its state, whether it changed, whether it is asked for -/
structure FS where
  now : Int
  ch : Bool
  pr : Bool
def factStep (p : Int) (o : Opr) (s : FS) : Option FS :=
  if hasB o.pre p = true ∧ s.now < 0 then none else
  some ⟨if hasB o.del p = true then -1 else if hasB o.add p = true then 1 else if hasB o.pre p = true ∧ s.now = 0 then 1 else s.now, s.ch || hasB o.add p || hasB o.del p, s.pr || (hasB o.pre p && decide (s.now = 0))⟩
def factRun (p : Int) : FS → List Opr → Option FS
  | s, [] => some s
  | s, o :: os => match factStep p o s with
    | none => none
    | some s' => factRun p s' os
theorem apart_mem {o : Opr} (h : meetB o.add o.del = false) (p : Int) : ¬ (p ∈ o.add ∧ p ∈ o.del) := fun ⟨h1, h2⟩ => by
  have := meetB_iff.2 ⟨p, h1, h2⟩
  rw [h] at this
  cases this
def fr (os : List Opr) (p : Int) : Option FS := factRun p ⟨0, false, false⟩ os
theorem combF_sets {n : Nat} : ∀ (os : List Opr) (out r : Opr), SetOp n out → (∀ o ∈ os, SetOp n o) → combF out os = some r → SetOp n r ∧ r.cost = out.cost + (os.map (·.cost)).sum := by
  intro os
  induction os with
  | nil =>
    intro out r h _ he
    unfold combF at he
    obtain rfl := Option.some.inj he
    exact ⟨h, by simp⟩
  | cons o os ih =>
    intro out r h hs he
    unfold combF at he
    split at he
    · cases he
    · obtain ⟨h1, h2⟩ := ih _ r (combStep_sets h (hs o (List.mem_cons_self ..))) (fun q hq => hs q (List.mem_cons_of_mem _ hq)) he
      refine ⟨h1, ?_⟩
      rw [h2, List.map_cons, List.sum_cons]
      show out.cost + o.cost + _ = _
      omega
theorem zero_sets (n : Nat) : SetOp n zeroOp := ⟨by simp [setB, zeroOp], by simp [setB, zeroOp], by simp [setB, zeroOp]⟩
end Go.Proofs.Ytliggcmohcdchaa
namespace Go.Proofs.Ytliggcmohcdchaa
set_option linter.unusedVariables false
set_option linter.unusedSimpArgs false
open Go.RowKit
/-- a slice that reads as l, whatever happens to blocks of M -/
def RdM (M : Nat → Prop) (w : World) (A : Option Addr) (n c : Nat) (l : List Int) : Prop := ∀ w', Chg M w w' → Rd Enc.int w' A n c l
section
variable {M M' : Nat → Prop} {w w' : World} {A : Option Addr} {n c : Nat} {l : List Int}
theorem RdM.rd (h : RdM M w A n c l) : Rd Enc.int w A n c l := h w (Chg.refl _ _)
theorem RdM.chg (h : RdM M w A n c l) (hc : Chg M w w') : RdM M w' A n c l := fun w'' hk => h w'' (hc.trans hk)
theorem RdM.keep (h : RdM M w A n c l) (hb : Below w.heap.size w w') : RdM M w' A n c l := h.chg (Chg.of_below hb _)
theorem RdM.qt (h : RdM M w A n c l) (hb : Qt w w') : RdM M w' A n c l := h.keep (hb.below _)
theorem RdM.mono (h : RdM M w A n c l) (hM : ∀ i, i < w.heap.size → M' i → M i) : RdM M' w A n c l := fun w' hc => h w' ⟨hc.os, hc.tape, hc.output, hc.size, fun i hi hn => hc.block i hi (fun e => hn (hM i hi e))⟩
theorem RdM.set (h : RdM M w A n c l) {Y : Nat} (hY : M Y) (i : Nat) (u : Value) : RdM M (w.setCell ⟨Y, i, none⟩ u) A n c l := h.chg ((Chg.set w Y i u).mono fun b e => e ▸ hY)
theorem RdM.own {B : Nat} {t : TypeId} (h : w.ownsRow B t 1 (.slice A n c) n (l.map (Value.int .i64))) (hB : ∀ r, blkA A = some r → ¬ M r) (hl : l.length = n) (hr : ∀ x ∈ l, -9223372036854775808 ≤ x ∧ x ≤ 9223372036854775807) : RdM M w A n c l := fun w' hc =>
  own_rd (hc.own h (fun r hr => hB r (by rw [own_blkA] at hr; exact hr))) hl hr
theorem RdN.toM {X : Nat} (h : RdN X w A n c l) (hM : ∀ i, i < w.heap.size → M i → i ≤ X) : RdM M w A n c l := RdM.mono (M := fun b => b ≤ X) h hM
end
theorem rd_ints {w : World} {A : Option Addr} {n c : Nat} {l : List Int} (h : Rd Enc.int w A n c l) : ∀ x ∈ l, -9223372036854775808 ≤ x ∧ x ≤ 9223372036854775807 := fun x hx => by
  obtain ⟨j, hj⟩ := List.getElem?_of_mem hx
  have hl := h.len
  obtain ⟨_, _, y, _, hy, h1, h2, _⟩ := h.int (show j < n by have := (List.getElem?_eq_some_iff.1 hj).1; omega)
  rw [hj] at hy
  obtain rfl := Option.some.inj hy
  exact ⟨h1, h2⟩
/-- a copy -/
def CopyI (w : World) (n : Nat) (l : List Int) (e : Ending) (w' : World) : Prop :=
  Below w.heap.size w w' ∧ ∃ A c, e = .returned (.slice A n c) ∧ w'.ownsRow w.heap.size 3 1 (.slice A n c) n (l.map (Value.int .i64))
theorem CloneI_ct (A : Option Addr) (n c : Nat) (l : List Int) (w : World) (h : Rd Enc.int w A n c l) (hn : n ≤ 1000000) :
    Calls Try.prog 39 #[.slice A n c] w (CopyI w n l) := by
  have shape : ∀ {w' : World} {v' : Value} {l : List Value}, w'.ownsRow w.heap.size 3 1 v' n l → ∃ O oc, v' = .slice O n oc := by
    intro w' v' l h'
    rcases h'.2 with ⟨h0, h1⟩ | ⟨g, cap, cur, e', _⟩
    · refine ⟨none, 0, ?_⟩
      rw [h0, h1]
    · exact ⟨_, _, e'⟩
  have hl := h.len
  cases A with
  | none =>
    have h1 := h.nil rfl
    have h2 := h.cap
    obtain rfl : c = 0 := h1
    obtain rfl : n = 0 := by omega
    obtain rfl : l = [] := List.eq_nil_of_length_eq_zero hl
    refine (Try.slices_Clone_int_nil 0 0 w).mono ?_
    rintro e w1 ⟨rfl, rfl⟩
    exact ⟨Below.refl _ _, none, 0, rfl, World.ownsRow_nil _ _ _ _⟩
  | some ad =>
    rcases Nat.eq_zero_or_pos n with h0 | h0
    · subst h0
      obtain rfl : l = [] := List.eq_nil_of_length_eq_zero hl
      refine (Try.slices_Clone_int_zero ad c w).mono ?_
      rintro e w1 ⟨v, rfl, hown, _, hb⟩
      obtain ⟨O, oc, rfl⟩ := shape hown
      exact ⟨hb, O, oc, rfl, hown⟩
    · obtain ⟨b, off, e, hx⟩ := h.at_ h0
      injection e with e
      subst e
      refine (Try.slices_Clone_int b off n c l w (by omega) (by omega) (fun j hj => ?_)).mono ?_
      · obtain ⟨b', off', y, e, hy, h1, h2, h3⟩ := h.int (show j < n by omega)
        injection e with e
        injection e with e1 e2
        subst e1 e2
        rw [h3, List.getD_eq_getElem?_getD, hy]
        rfl
      · rintro e w1 ⟨v, rfl, hown, _, hb⟩
        obtain ⟨O, oc, rfl⟩ := shape hown
        rw [List.take_of_length_le (by omega)] at hown
        exact ⟨hb, O, oc, rfl, hown⟩
end Go.Proofs.Ytliggcmohcdchaa
namespace Go.Proofs.Ytliggcmohcdchaa
set_option linter.unusedVariables false
set_option linter.unusedSimpArgs false
open Go.RowKit
theorem opInfoT : (Try.prog.info? 82).map (fun i => (i.zero, i.size, i.bytes)) = some (some (.agg #[.slice none 0 0, .slice none 0 0, .slice none 0 0, .int .i64 0]), 4, 80) := by kernel_rfl
theorem own_low {w : World} {B B' : Nat} {e : TypeId} {size n : Nat} {v : Value} {xs : List Value} (h : w.ownsRow B e size v n xs) (hB : B' ≤ B) : w.ownsRow B' e size v n xs := by
  refine ⟨h.1, ?_⟩
  rcases h.2 with h3 | ⟨r, cap, cur, e1, hr, hc, rest⟩
  · exact .inl h3
  · exact .inr ⟨r, cap, cur, e1, by omega, hc, rest⟩
/-- one element more in a region that draws -/
theorem step_pushE {α : Type} {E : Enc α} {P : Program} {w : World} {ops : Array Oper} {o : Oper} {a : Act} {K : Act → World → Prop} {Q : Exit → Act → World → Prop} {X : Prop} (hgd : o.guard = none) (s x : Operand) (t : TypeId)
    (ho : o.op = .call { callee := .builtin .append, args := #[s, x], argTypes := #[t, t] })
    (base : Nat) (e : TypeId) (i : TypeInfo) (z : Value) (bytes : Nat) (ht : P.underlying t = some (.slice e)) (hi : P.info? e = some i) (hz : i.zero = some z)
    (hsize : i.size = E.size) (hby : i.bytes = bytes) (hzs : z.cells.size = E.size) (hsz : 0 < E.size)
    {A : Option Addr} {n c : Nat} {M : Nat → Prop} {vs : List Value} {xs : List α} (hs : a.eval s = .slice A n c) (hown : OwnE E e base M w A n c vs xs) (hA : ∀ r, blkA A = some r → M r)
    (us : List Value) (y : α) (h1 : ∀ u ∈ us, u.oneCell' = true) (hx : a.eval x = .slice (some ⟨w.heap.size, 0, none⟩) 1 1) (hf : Firm E M w us y)
    (h63 : n + 1 ≤ 1000000000000) (hbytes : (n + 1) * bytes ≤ 140737488355328) (hbase : base ≤ w.heap.size)
    (h : ∀ O oc w', OwnE E e base (fun b => M b ∨ w.heap.size ≤ b) w' O (n + 1) oc (vs ++ us) (xs ++ [y]) → Chg (fun b => blkA A = some b) w w' → (blkA O = blkA A ∨ blkA O = some (w.heap.size + 1)) → K (a.put o.dst (.slice O (n + 1) oc)) w') :
    if Region.wanted o (yielded ops a.tmps) = true then Oper.wp P o a (w.alloc (.cells us.toArray e)) K Q else X := by
  have hus : us.length = E.size := E.len hf.ok
  have hw : Region.wanted o (yielded ops a.tmps) = true := by simp [Region.wanted, hgd]
  rw [if_pos hw]
  obtain ⟨g, cap', w', hr, h2, h3, h4, h5⟩ := run_append_lies (P := P) (w := w.alloc (.cells us.toArray e)) t o.type base e i z E.size bytes ht hi hz hsize hby hzs hsz _ n vs (hown.own.alloc _) ⟨w.heap.size, 0, none⟩ 1 1 us (by omega) (by
    intro j u hj
    rw [add_plain, Nat.zero_add]
    have := (Blk.new w e us).cell j
    rw [hj] at this
    exact this) h1 (by omega) (by unfold maxLen; omega) hbytes (by simp; omega) (w.heap.size + 1) (by simp)
  unfold Oper.wp execOp
  simp only [ho, resolve, invoke, builtin, Sem.run_bind, Sem.run_pure, Result.andThen_ok, List.map_toArray, List.map_cons, List.map_nil, hs, hx, hr]
  have hg : (w.alloc (.cells us.toArray e)).grownBy w' (blkA A) := by rw [← own_blkA A n c]; exact h3
  have hch : Chg (fun b => blkA A = some b) w w' := (Chg.of_below ((Below.refl w.heap.size w).alloc (Nat.le_refl _) (.cells us.toArray e)) _).trans (Chg.of_grown hg)
  refine h (some ⟨g, 0, none⟩) cap' w' ⟨h2, by rw [List.length_append, hown.len]; rfl, fun j u hj => ?_⟩ hch ?_
  · rcases Nat.lt_or_ge j n with hjn | hjn
    · rw [List.getElem?_append_left (by rw [hown.len]; exact hjn)] at hj
      obtain ⟨us', e1, e2⟩ := hown.elem j u hj
      refine ⟨us', fun k v hk => ?_, e2.chg (hch.mono hA)⟩
      have := e1 k v hk
      rw [List.getElem?_append_left (List.getElem?_eq_some_iff.1 this).1]
      exact this
    · rw [List.getElem?_append_right (by rw [hown.len]; exact hjn), hown.len] at hj
      have hjn2 : j = n := by
        have := (List.getElem?_eq_some_iff.1 hj).1
        simp at this
        omega
      subst hjn2
      simp at hj
      subst hj
      refine ⟨us, fun k v hk => ?_, hf.chg (hch.mono hA)⟩
      rw [List.getElem?_append_right (by rw [hown.vlen]; omega), hown.vlen, Nat.add_sub_cancel_left]
      exact hk
  · rw [own_blkA] at h4
    rcases h4 with h4 | h4
    · exact .inl h4.symm
    · exact .inr (by rw [h4]; rfl)
/-- the rows of a copy that is being made -/
structure CpA where
  gT : Nat
  gO : Nat
  B0 : Nat
  H1 : Nat
  AI : Option Addr
  nI : Nat
  cI : Nat
  AG : Option Addr
  nG : Nat
  cG : Nat
def zeroTask : List Value := [.int .i64 0, .slice none 0 0, .slice none 0 0, .slice none 0 0]
/-- what stands while the operators are copied -/
structure CpS (w W : World) (T : Tsk) (tc : List Value) (a : CpA) (k : Nat) (O : Option Addr) (oc : Nat) (vs : List Value) : Prop where
  par : Blk 25 W a.gT tc
  res : Blk 25 W (a.gT + 1) zeroTask
  out : Blk 25 W a.gO [.int .i64 T.facts, .slice a.AI a.nI a.cI, .slice a.AG a.nG a.cG, .slice O k oc]
  low : Below w.heap.size w W
  own : OwnE Enc.op 82 a.H1 (fun b => blkA O = some b ∨ b < a.H1 ∨ W.heap.size ≤ b) W O k oc vs (T.ops.take k)
  size : a.H1 ≤ W.heap.size
  init : RdM (fun b => b < a.B0 ∨ b = a.gO ∨ a.H1 ≤ b) W a.AI a.nI a.cI T.init
  goal : RdM (fun b => b < a.B0 ∨ b = a.gO ∨ a.H1 ≤ b) W a.AG a.nG a.cG T.goal
  g1 : a.gT = w.heap.size
  g2 : a.gT + 1 < a.B0
  g3 : a.B0 ≤ a.gO
  g4 : a.gO < a.H1
section
variable {w W W' : World} {T : Tsk} {tc : List Value} {a : CpA} {k oc : Nat} {O : Option Addr} {vs : List Value}
theorem CpS.keep (h : CpS w W T tc a k O oc vs) (hb : Below W.heap.size W W') : CpS w W' T tc a k O oc vs :=
  ⟨h.par.keep hb, h.res.keep hb, h.out.keep hb, h.low.trans (hb.mono h.low.size), (h.own.keep hb).less (fun i hi e => by have := hb.size; rcases e with e | e | e; exact .inl e; exact .inr (.inl e); exact .inr (.inr (by omega))), by have := h.size; have := hb.size; omega, h.init.keep hb, h.goal.keep hb, h.g1, h.g2, h.g3, h.g4⟩
theorem CpS.blk (h : CpS w W T tc a k O oc vs) {r : Nat} (hr : blkA O = some r) : a.H1 ≤ r ∧ r < W.heap.size := h.own.base hr
/-- one operator more, and its store -/
theorem CpS.push (h : CpS w W T tc a k O oc vs) {o : Opr} (ho : T.ops[k]? = some o) {us : List Value} {O' : Option Addr} {oc' : Nat}
    (hown : OwnE Enc.op 82 a.H1 (fun b => (blkA O = some b ∨ b < a.H1 ∨ W.heap.size ≤ b) ∨ W.heap.size ≤ b) W' O' (k + 1) oc' (vs ++ us) (T.ops.take k ++ [o])) (hch : Chg (fun b => blkA O = some b) W W') (hat : blkA O' = blkA O ∨ blkA O' = some (W.heap.size + 1)) :
    CpS w (W'.setCell ⟨a.gO, 3, none⟩ (.slice O' (k + 1) oc')) T tc a (k + 1) O' oc' (vs ++ us) := by
  have hO : ∀ r, blkA O = some r → a.H1 ≤ r := fun r hr => (h.blk hr).1
  have g1 := h.g1
  have g2 := h.g2
  have g3 := h.g3
  have g4 := h.g4
  have hsz := hch.size
  have hz := h.size
  have hn : ∀ g, g < a.H1 → ¬ blkA O = some g := fun g hg e => by have := hO g e; omega
  have hout := (hch.blk h.out (hn _ g4)).set 3 (.slice O' (k + 1) oc')
  simp only [List.set_cons_zero, List.set_cons_succ] at hout
  refine ⟨(hch.blk h.par (hn _ (by omega))).far (p := ⟨a.gO, 3, none⟩) (by show a.gT ≠ a.gO; omega) _, (hch.blk h.res (hn _ (by omega))).far (p := ⟨a.gO, 3, none⟩) (by show a.gT + 1 ≠ a.gO; omega) _, hout,
    below_set (row_below h.low h.low.size hch (fun r hr => by have := hO r hr; omega)) (by omega) 3 _, ?_, by have : a.H1 ≤ W'.heap.size := by omega
                                                                                                              simpa using this, ?_, ?_, g1, g2, g3, g4⟩
  · rw [List.take_add_one, ho]
    have h2 : OwnE Enc.op 82 a.H1 (fun b => blkA O' = some b ∨ b < a.H1 ∨ W'.heap.size ≤ b) W' O' (k + 1) oc' (vs ++ us) (T.ops.take k ++ [o]) := hown.less (fun i hi e => by
      rcases e with e | e | e
      · rcases hat with hat | hat
        · exact .inl (.inl (by rw [← hat]; exact e))
        · rw [hat] at e
          injection e with e
          exact .inr (by omega)
      · exact .inl (.inr (.inl e))
      · omega)
    have h3 := h2.chg (M' := fun b => b = a.gO) (Chg.set W' a.gO 3 (.slice O' (k + 1) oc')) (fun i e => .inr (.inl (by omega))) (fun r hr e => by have := (h2.base hr).1; omega)
    refine h3.less (fun i hi e => ?_)
    rcases e with e | e | e
    · exact .inl e
    · exact .inr (.inl e)
    · simp at e
      exact .inr (.inr e)
  · exact (h.init.chg (hch.mono fun b e => .inr (.inr (hO b e)))).set (.inr (.inl rfl)) 3 _
  · exact (h.goal.chg (hch.mono fun b e => .inr (.inr (hO b e)))).set (.inr (.inl rfl)) 3 _
/-- an operator of fresh rows -/
theorem CpS.firm (h : CpS w W T tc a k O oc vs) {b4 : Nat} (h4 : a.H1 ≤ b4) (hO : ∀ r, blkA O = some r → r < b4) {o : Opr} {D1 D2 D3 : Option Addr} {n1 e1 n2 e2 n3 e3 : Nat}
    (r1 : W.ownsRow b4 3 1 (.slice D1 n1 e1) n1 (o.pre.map (Value.int .i64))) (r2 : W.ownsRow b4 3 1 (.slice D2 n2 e2) n2 (o.add.map (Value.int .i64))) (r3 : W.ownsRow b4 3 1 (.slice D3 n3 e3) n3 (o.del.map (Value.int .i64)))
    (l1 : o.pre.length = n1) (l2 : o.add.length = n2) (l3 : o.del.length = n3) (i1 : ∀ x ∈ o.pre, -9223372036854775808 ≤ x ∧ x ≤ 9223372036854775807) (i2 : ∀ x ∈ o.add, -9223372036854775808 ≤ x ∧ x ≤ 9223372036854775807) (i3 : ∀ x ∈ o.del, -9223372036854775808 ≤ x ∧ x ≤ 9223372036854775807) (hc : I64s o.cost) :
    Firm Enc.op (fun b => blkA O = some b ∨ b < a.H1 ∨ W.heap.size ≤ b) W [.slice D1 n1 e1, .slice D2 n2 e2, .slice D3 n3 e3, .int .i64 o.cost] o := by
  have key : ∀ {D : Option Addr} {n e : Nat} {l : List Int}, W.ownsRow b4 3 1 (.slice D n e) n (l.map (Value.int .i64)) → l.length = n → (∀ x ∈ l, -9223372036854775808 ≤ x ∧ x ≤ 9223372036854775807) → RdM (fun b => blkA O = some b ∨ b < a.H1 ∨ W.heap.size ≤ b) W D n e l := fun {D n e l} hr hl hi =>
    RdM.own hr (fun r hr' e => by
      have h1 := own_base hr (by rw [own_blkA]; exact hr')
      have h2 := (own_block hr (r := r) (by rw [own_blkA]; exact hr')).1
      rcases e with e | e | e
      · have := hO r e; omega
      · omega
      · omega) hl hi
  exact fun w' hw => ⟨D1, n1, e1, D2, n2, e2, D3, n3, e3, rfl, key r1 l1 i1 w' hw, key r2 l2 i2 w' hw, key r3 l3 i3 w' hw, hc⟩
end
/-- what a copy of a task is -/
def CloneP (w : World) (T : Tsk) (nI nG nO : Nat) (e : Ending) (w' : World) : Prop :=
  Below w.heap.size w w' ∧ ∃ (B : Nat) (AI : Option Addr) (cI : Nat) (AG : Option Addr) (cG : Nat) (O : Option Addr) (oc : Nat) (vs : List Value), e = .returned (.agg #[.int .i64 T.facts, .slice AI nI cI, .slice AG nG cG, .slice O nO oc]) ∧
    w.heap.size ≤ B ∧ B ≤ w'.heap.size ∧ RdM (fun b => b < w.heap.size ∨ B ≤ b) w' AI nI cI T.init ∧ RdM (fun b => b < w.heap.size ∨ B ≤ b) w' AG nG cG T.goal ∧
    OwnE Enc.op 82 B (fun b => blkA O = some b ∨ b < B ∨ w'.heap.size ≤ b) w' O nO oc vs T.ops
end Go.Proofs.Ytliggcmohcdchaa
namespace Go.Proofs.Ytliggcmohcdchaa
set_option linter.unusedVariables false
set_option linter.unusedSimpArgs false
open Go.RowKit
def pieceF (n : Nat) (ms : List (List Int)) (x : Int) : List Int := if x < n then [x] else ms.getD (x - n).toNat []
def expandF (n : Nat) (ms : List (List Int)) (l : List Int) : List Int := l.flatMap (pieceF n ms)
theorem expand_succ {n : Nat} {ms : List (List Int)} {l : List Int} {k : Nat} {x : Int} (h : l[k]? = some x) : expandF n ms (l.take (k + 1)) = expandF n ms (l.take k) ++ pieceF n ms x := by
  unfold expandF
  rw [List.take_add_one, h]
  simp
theorem piece_low {n : Nat} {ms : List (List Int)} {x : Int} (h : x < n) : pieceF n ms x = [x] := if_pos h
theorem piece_high {n : Nat} {ms : List (List Int)} {j : Nat} {q : List Int} (h : ms[j]? = some q) : pieceF n ms ((n + j : Nat) : Int) = q := by
  unfold pieceF
  rw [if_neg (by omega)]
  have : (((n + j : Nat) : Int) - (n : Int)).toNat = j := by omega
  rw [this, List.getD_eq_getElem?_getD, h]
  rfl
theorem expand_len {n : Nat} {ms : List (List Int)} (h : ∀ q ∈ ms, q.length ≤ 6) (l : List Int) : (expandF n ms l).length ≤ 6 * l.length := by
  unfold expandF
  induction l with
  | nil => simp
  | cons x l ih =>
    rw [List.flatMap_cons, List.length_append, List.length_cons]
    have : (pieceF n ms x).length ≤ 6 := by
      unfold pieceF
      split
      · simp
      · rw [List.getD_eq_getElem?_getD]
        cases e : ms[(x - n).toNat]? with
        | none => simp
        | some q => exact h q (List.mem_of_getElem? e)
    omega
end Go.Proofs.Ytliggcmohcdchaa
namespace Go.Proofs.Ytliggcmohcdchaa
set_option linter.unusedVariables false
set_option linter.unusedSimpArgs false
open Go.RowKit
theorem comb_cost : ∀ (ls : List Opr) (out o : Opr), (∀ p ∈ ls, 0 ≤ p.cost ∧ p.cost ≤ 100) → combF out ls = some o → out.cost ≤ o.cost ∧ o.cost ≤ out.cost + 100 * (ls.length : Int) := by
  intro ls
  induction ls with
  | nil =>
    intro out o _ h
    unfold combF at h
    obtain rfl := Option.some.inj h
    simp
  | cons p ls ih =>
    intro out o hp h
    unfold combF at h
    split at h
    · cases h
    · obtain ⟨h1, h2⟩ := ih _ o (fun q hq => hp q (List.mem_cons_of_mem _ hq)) h
      have h3 := hp p (List.mem_cons_self ..)
      have h4 : (combStep out p).cost = out.cost + p.cost := rfl
      rw [h4] at h1 h2
      rw [List.length_cons]
      omega
theorem opAt_mem {os : List Opr} {x : Int} (h0 : 0 ≤ x) (h1 : x < os.length) : opAt os x ∈ os := by
  obtain ⟨k, rfl⟩ : ∃ k : Nat, x = k := ⟨x.toNat, by omega⟩
  have hk : k < os.length := by omega
  rw [opAt_eq (List.getElem?_eq_getElem hk)]
  exact List.getElem_mem _
theorem comb_small {T : Tsk} {N : Nat} (hok : OkT T N) {l : List Int} (hr : ∀ x ∈ l, 0 ≤ x ∧ x < T.ops.length) (hl : l.length ≤ 6) {o : Opr} (h : combF zeroOp (l.map (opAt T.ops)) = some o) : 0 ≤ o.cost ∧ o.cost ≤ 600 := by
  have := comb_cost _ _ o (fun p hp => by
    obtain ⟨x, hx, rfl⟩ := List.mem_map.1 hp
    have := hok.ops _ (opAt_mem (hr x hx).1 (hr x hx).2)
    exact ⟨this.low, this.high⟩) h
  rw [List.length_map] at this
  have hz : zeroOp.cost = 0 := rfl
  omega
def zeroT : Tsk := ⟨0, [], [], []⟩
def extLoop (T : Tsk) : List Opr → Nat → List (List Int) → Tsk × Int × Int
  | os, _, [] => (⟨T.facts, T.init, T.goal, os⟩, 0, 0)
  | os, i, l :: ms =>
    if (seqFault T.ops.length l (-20 - (i : Int))).1 ≠ 0 then (zeroT, seqFault T.ops.length l (-20 - (i : Int))) else
    match combF zeroOp (l.map (opAt T.ops)) with
    | none => (zeroT, 11, -20 - (i : Int))
    | some o => if 100 < o.cost then (zeroT, 10, -20 - (i : Int)) else extLoop T (os ++ [o]) (i + 1) ms
/-- what Extend answers -/
def extendR (T : Tsk) (ms : List (List Int)) : Tsk × Int × Int :=
  if (taskFault T).1 ≠ 0 then (zeroT, taskFault T) else if 8 < ms.length ∨ 40 < T.ops.length + ms.length then (zeroT, 2, -8) else extLoop T T.ops 0 ms
def taskV (T : Tsk) (a : TA) : Value := .agg #[.int .i64 T.facts, .slice a.I a.nI a.cI, .slice a.G a.nG a.cG, .slice a.O a.nO a.cO]
def ExtP (w : World) (r : Tsk × Int × Int) (e : Ending) (w' : World) : Prop :=
  Below w.heap.size w w' ∧ ∃ a : TA, e = .returned (.tuple #[taskV r.1 a, fault r.2.1 r.2.2]) ∧ ∀ w'', Chg (fun b => b < w.heap.size) w' w'' → TkR w'' a r.1
theorem ext_zero {w w' : World} (h : Below w.heap.size w w') (c i : Int) : ExtP w (zeroT, c, i) (.returned (.tuple #[.agg #[.int .i64 0, .slice none 0 0, .slice none 0 0, .slice none 0 0], fault c i])) w' :=
  ⟨h, ⟨none, 0, 0, none, 0, 0, none, 0, 0⟩, rfl, fun _ _ => ⟨by unfold zeroT I64s; simp, Rd.nil_ _ _, Rd.nil_ _ _, Rd.nil_ _ _⟩⟩
structure ExA where
  gT : Nat
  gX : Nat
  B : Nat
  Bl : Nat
  AI : Option Addr
  nI : Nat
  cI : Nat
  AG : Option Addr
  nG : Nat
  cG : Nat
/-- what stands while the macros are added -/
structure ExS (w W : World) (T : Tsk) (tc : List Value) (a : ExA) (n : Nat) (O : Option Addr) (oc : Nat) (vs : List Value) (os : List Opr) : Prop where
  par : Blk 25 W a.gT tc
  res : Blk 25 W (a.gT + 1) zeroTask
  flt : Blk 29 W (a.gT + 1 + 1) [.int .i64 0, .int .i64 0]
  out : Blk 25 W a.gX [.int .i64 T.facts, .slice a.AI a.nI a.cI, .slice a.AG a.nG a.cG, .slice O n oc]
  low : Below w.heap.size w W
  own : OwnE Enc.op 82 a.B (fun b => blkA O = some b ∨ b < a.B ∨ b = a.gX ∨ W.heap.size ≤ b) W O n oc vs os
  ne : ∀ r, blkA O = some r → r ≠ a.gX
  init : RdM (fun b => b < a.Bl ∨ a.B ≤ b) W a.AI a.nI a.cI T.init
  goal : RdM (fun b => b < a.Bl ∨ a.B ≤ b) W a.AG a.nG a.cG T.goal
  g1 : a.gT = w.heap.size
  g2 : a.gT + 1 + 1 < a.Bl
  g3 : a.Bl ≤ a.B
  g4 : a.B ≤ a.gX
section
variable {w W W' : World} {T : Tsk} {tc : List Value} {a : ExA} {n oc : Nat} {O : Option Addr} {vs : List Value} {os : List Opr}
theorem ExS.keep (h : ExS w W T tc a n O oc vs os) (hb : Below W.heap.size W W') : ExS w W' T tc a n O oc vs os :=
  ⟨h.par.keep hb, h.res.keep hb, h.flt.keep hb, h.out.keep hb, h.low.trans (hb.mono h.low.size), (h.own.keep hb).less (fun i hi e => by
    have := hb.size
    rcases e with e | e | e | e
    · exact .inl e
    · exact .inr (.inl e)
    · exact .inr (.inr (.inl e))
    · exact .inr (.inr (.inr (by omega)))), h.ne, h.init.keep hb, h.goal.keep hb, h.g1, h.g2, h.g3, h.g4⟩
/-- one operator more, and its store -/
theorem ExS.push (h : ExS w W T tc a n O oc vs os) {o : Opr} {us : List Value} {O' : Option Addr} {oc' : Nat}
    (hown : OwnE Enc.op 82 a.B (fun b => (blkA O = some b ∨ b < a.B ∨ b = a.gX ∨ W.heap.size ≤ b) ∨ W.heap.size ≤ b) W' O' (n + 1) oc' (vs ++ us) (os ++ [o])) (hch : Chg (fun b => blkA O = some b) W W') (hat : blkA O' = blkA O ∨ blkA O' = some (W.heap.size + 1)) :
    ExS w (W'.setCell ⟨a.gX, 3, none⟩ (.slice O' (n + 1) oc')) T tc a (n + 1) O' oc' (vs ++ us) (os ++ [o]) := by
  have hO : ∀ r, blkA O = some r → a.B ≤ r := fun r hr => (h.own.base hr).1
  have g1 := h.g1
  have g2 := h.g2
  have g3 := h.g3
  have g4 := h.g4
  have hx := h.out.lt
  have hsz := hch.size
  have hn : ∀ g, g < a.B → ¬ blkA O = some g := fun g hg e => by have := hO g e; omega
  have hnX : ¬ blkA O = some a.gX := fun e => h.ne _ e rfl
  have hnX' : ∀ r, blkA O' = some r → r ≠ a.gX := fun r hr e => by
    rcases hat with hat | hat
    · exact h.ne r (by rw [← hat]; exact hr) e
    · rw [hat] at hr
      injection hr with hr
      omega
  have hout := (hch.blk h.out hnX).set 3 (.slice O' (n + 1) oc')
  simp only [List.set_cons_zero, List.set_cons_succ] at hout
  refine ⟨(hch.blk h.par (hn _ (by omega))).far (p := ⟨a.gX, 3, none⟩) (by show a.gT ≠ a.gX; omega) _, (hch.blk h.res (hn _ (by omega))).far (p := ⟨a.gX, 3, none⟩) (by show a.gT + 1 ≠ a.gX; omega) _, (hch.blk h.flt (hn _ (by omega))).far (p := ⟨a.gX, 3, none⟩) (by show a.gT + 1 + 1 ≠ a.gX; omega) _, hout,
    below_set (row_below h.low h.low.size hch (fun r hr => by have := hO r hr; omega)) (by omega) 3 _, ?_, hnX', ?_, ?_, g1, g2, g3, g4⟩
  · have h2 : OwnE Enc.op 82 a.B (fun b => blkA O' = some b ∨ b < a.B ∨ b = a.gX ∨ W'.heap.size ≤ b) W' O' (n + 1) oc' (vs ++ us) (os ++ [o]) := hown.less (fun i hi e => by
      rcases e with e | e | e | e
      · rcases hat with hat | hat
        · exact .inl (.inl (by rw [← hat]; exact e))
        · rw [hat] at e
          injection e with e
          exact .inr (by omega)
      · exact .inl (.inr (.inl e))
      · exact .inl (.inr (.inr (.inl e)))
      · omega)
    have h3 := h2.chg (M' := fun b => b = a.gX) (Chg.set W' a.gX 3 (.slice O' (n + 1) oc')) (fun i e => .inr (.inr (.inl e))) hnX'
    refine h3.less (fun i hi e => ?_)
    rcases e with e | e | e | e
    · exact .inl e
    · exact .inr (.inl e)
    · exact .inr (.inr (.inl e))
    · simp at e
      exact .inr (.inr (.inr e))
  · exact (h.init.chg (hch.mono fun b e => .inr (hO b e))).set (.inr g4) 3 _
  · exact (h.goal.chg (hch.mono fun b e => .inr (hO b e))).set (.inr g4) 3 _
/-- an operator that a call has handed back -/
theorem ExS.firm (h : ExS w W T tc a n O oc vs os) {X : Nat} {o : Opr} {A1 A2 A3 : Option Addr} {n1 c1 n2 c2 n3 c3 : Nat} (hX : a.gX ≤ X) (hO : ∀ r, blkA O = some r → r ≤ X)
    (r1 : RdN X W A1 n1 c1 o.pre) (r2 : RdN X W A2 n2 c2 o.add) (r3 : RdN X W A3 n3 c3 o.del) (hc : I64s o.cost) :
    Firm Enc.op (fun b => blkA O = some b ∨ b < a.B ∨ b = a.gX ∨ W.heap.size ≤ b) W [.slice A1 n1 c1, .slice A2 n2 c2, .slice A3 n3 c3, .int .i64 o.cost] o := by
  have g4 := h.g4
  have hM : ∀ i, i < W.heap.size → (blkA O = some i ∨ i < a.B ∨ i = a.gX ∨ W.heap.size ≤ i) → i ≤ X := fun i hi e => by
    rcases e with e | e | e | e
    · exact hO i e
    · omega
    · omega
    · omega
  exact fun w' hw => ⟨A1, n1, c1, A2, n2, c2, A3, n3, c3, rfl, r1.toM hM w' hw, r2.toM hM w' hw, r3.toM hM w' hw, hc⟩
/-- the end -/
theorem ExS.done (h : ExS w W T tc a n O oc vs os) (hf : I64s T.facts) (hc : Chg (fun b => b = a.gT + 1 ∨ b = a.gT + 1 + 1) W W') :
    ExtP w (⟨T.facts, T.init, T.goal, os⟩, 0, 0) (.returned (.tuple #[.agg #[.int .i64 T.facts, .slice a.AI a.nI a.cI, .slice a.AG a.nG a.cG, .slice O n oc], fault 0 0])) W' := by
  have g1 := h.g1
  have g2 := h.g2
  have g3 := h.g3
  refine ⟨h.low.trans (hc.below (fun i e => by omega) h.low.size), ⟨a.AI, a.nI, a.cI, a.AG, a.nG, a.cG, O, n, oc⟩, rfl, fun w'' hk => ?_⟩
  have hc2 : Chg (fun b => b < a.Bl) W w'' := (hc.mono (fun b e => by omega)).trans (hk.mono (fun b e => by omega))
  refine ⟨hf, (h.init.chg (hc2.mono fun b e => .inl e)).rd, (h.goal.chg (hc2.mono fun b e => .inl e)).rd, ?_⟩
  exact (h.own.chg hc2 (fun i e => .inr (.inl (by omega))) (fun r hr e => by have := (h.own.base hr).1; omega)).rd
end
end Go.Proofs.Ytliggcmohcdchaa
namespace Go.Proofs.Ytliggcmohcdchaa
set_option linter.unusedVariables false
set_option linter.unusedSimpArgs false
open Go.RowKit
set_option maxRecDepth 100000 in
set_option maxHeartbeats 32000000 in
theorem mclone_ct (a : TA) (T : Tsk) (w : World) (h : TkR w a T) (hbI : a.nI ≤ 1000000) (hbG : a.nG ≤ 1000000) (hbO : a.nO ≤ 1000000) (hbo : ∀ o ∈ T.ops, o.pre.length ≤ 1000000 ∧ o.add.length ≤ 1000000 ∧ o.del.length ≤ 1000000) :
    Calls Try.prog 101 #[.agg #[.int .i64 T.facts, .slice a.I a.nI a.cI, .slice a.G a.nG a.cG, .slice a.O a.nO a.cO]] w (CloneP w T a.nI a.nG a.nO) := by
  obtain ⟨I, nI, cI, G, nG, cG, Oo, nO, cO⟩ := a
  simp only at h hbI hbG hbO ⊢
  obtain ⟨i1, hi1, hy0, hy1, hy2⟩ := info_parts opInfoT
  have hlo := h.ops.low
  have hlO := h.ops.len
  simp only at hlo hlO
  have H := hide h
  have HbO := hide hbo
  clear h hbo
  go_enter Try.func101, Try.ntmps101
  go_upto_region 1 with (fail)
  have hT := (boxed2 w 25 25 [.int .i64 T.facts, .slice I nI cI, .slice G nG cG, .slice Oo nO cO] zeroTask).1
  have hR := (boxed2 w 25 25 [.int .i64 T.facts, .slice I nI cI, .slice G nG cG, .slice Oo nO cO] zeroTask).2.1
  have hb0 := below_two w (.cells #[.int .i64 T.facts, .slice I nI cI, .slice G nG cG, .slice Oo nO cO] 25) (.cells #[.int .i64 0, .slice none 0 0, .slice none 0 0, .slice none 0 0] 25)
  unfold zeroTask at hT hR
  have hgs : w.heap.size + 1 < ((w.alloc (.cells #[.int .i64 T.facts, .slice I nI cI, .slice G nG cG, .slice Oo nO cO] 25)).alloc (.cells #[.int .i64 0, .slice none 0 0, .slice none 0 0, .slice none 0 0] 25)).heap.size := by simp
  obtain ⟨W0, hW0⟩ : ∃ W0, W0 = (w.alloc (.cells #[.int .i64 T.facts, .slice I nI cI, .slice G nG cG, .slice Oo nO cO] 25)).alloc (.cells #[.int .i64 0, .slice none 0 0, .slice none 0 0, .slice none 0 0] 25) := ⟨_, rfl⟩
  rw [← hW0] at hT hR hb0 hgs ⊢
  clear hW0
  obtain ⟨gT, hgT⟩ : ∃ g, g = w.heap.size := ⟨_, rfl⟩
  rw [← hgT] at hT hR hgs ⊢
  have HgT := hide hgT
  have HT := hide hT
  have HR := hide hR
  have Hb0 := hide hb0
  clear hgT hT hR hb0
  go_cut [3] (fun s3 wc => ∃ (gO : Nat) (AI : Option Addr) (eI : Nat) (AG : Option Addr) (eG : Nat), s3 = .pointer (some ⟨gO, 0, none⟩) ∧ Blk 25 wc gO [.int .i64 T.facts, .slice AI nI eI, .slice AG nG eG, .slice none 0 0] ∧ Blk 25 wc gT [.int .i64 T.facts, .slice I nI cI, .slice G nG cG, .slice Oo nO cO] ∧ Below W0.heap.size W0 wc ∧ W0.heap.size ≤ gO ∧ gO < wc.heap.size ∧ RdM (fun b => b < W0.heap.size ∨ b = gO ∨ wc.heap.size ≤ b) wc AI nI eI T.init ∧ RdM (fun b => b < W0.heap.size ∨ b = gO ∨ wc.heap.size ≤ b) wc AG nG eG T.goal)
  case first =>
    obtain ⟨c0, c1, c2, c3⟩ := HT.out.cell4
    refine wp_region_held_drew (S := (fun w' => w'.cell? ⟨gT, 0, none⟩ = some (.int .i64 T.facts) ∧ w'.cell? ⟨gT, 1, none⟩ = some (.slice I nI cI) ∧ w'.cell? ⟨gT, 2, none⟩ = some (.slice G nG cG))) (by kernel_rfl) ?_ (fun hHeld => ?_)
    · (try dsimp only); exact ⟨c0, c1, c2⟩
    refine takeM (i := 0) (v := ?_) (some 6) rfl rfl (by kernel_rfl) (by kernel_rfl) (by kernel_rfl) (fun _ _ _ h => h) (Or.inl ⟨by rfl, ?_⟩) (by assumption) ?_
    rotate_left
    · intro w hSw; (try dsimp only at hSw); obtain ⟨s1, s2, s3⟩ := hSw; first | (go_simp; done) | (go_simp; with_reducible rfl)
    try simp only [Act.put, List.setIfInBounds_toArray, List.set_cons_zero, List.set_cons_succ]
    refine takeM (i := 1) (v := ?_) (some 7) rfl rfl (by kernel_rfl) (by kernel_rfl) (by kernel_rfl) (fun _ _ _ h => h) (Or.inl ⟨by rfl, ?_⟩) (by assumption) ?_
    rotate_left
    · intro w hSw; (try dsimp only at hSw); obtain ⟨s1, s2, s3⟩ := hSw; first | (go_simp; done) | (go_simp; with_reducible rfl)
    try simp only [Act.put, List.setIfInBounds_toArray, List.set_cons_zero, List.set_cons_succ]
    refine takeM (i := 2) (v := ?_) (some 8) rfl rfl (by kernel_rfl) (by kernel_rfl) (by kernel_rfl) (fun _ _ _ h => h) (Or.inl ⟨by rfl, ?_⟩) (by assumption) ?_
    rotate_left
    · intro w hSw; (try dsimp only at hSw); obtain ⟨s1, s2, s3⟩ := hSw; first | (go_simp; done) | (go_simp; with_reducible rfl)
    try simp only [Act.put, List.setIfInBounds_toArray, List.set_cons_zero, List.set_cons_succ]
    refine takeM (i := 3) (v := ?_) (some 9) rfl rfl (by kernel_rfl) (by kernel_rfl) (by kernel_rfl) (fun _ _ _ h => h) (Or.inl ⟨by rfl, ?_⟩) (by assumption) ?_
    rotate_left
    · intro w hSw; (try dsimp only at hSw); obtain ⟨s1, s2, s3⟩ := hSw; first | (go_simp; done) | (go_simp; with_reducible rfl)
    try simp only [Act.put, List.setIfInBounds_toArray, List.set_cons_zero, List.set_cons_succ]
    refine takeM (i := 5) (v := ?_) (some 11) rfl rfl (by kernel_rfl) (by kernel_rfl) (by kernel_rfl) (fun _ _ _ h => h) (Or.inl ⟨by rfl, ?_⟩) (by assumption) ?_
    rotate_left
    · intro w hSw; (try dsimp only at hSw); obtain ⟨s1, s2, s3⟩ := hSw; first | (go_simp; done) | (go_simp; with_reducible rfl)
    try simp only [Act.put, List.setIfInBounds_toArray, List.set_cons_zero, List.set_cons_succ]
    refine takeM (i := 6) (v := ?_) (some 12) rfl rfl (by kernel_rfl) (by kernel_rfl) (by kernel_rfl) (fun _ _ _ h => h) (Or.inl ⟨by rfl, ?_⟩) (by assumption) ?_
    rotate_left
    · intro w hSw; (try dsimp only at hSw); obtain ⟨s1, s2, s3⟩ := hSw; first | (go_simp; done) | (go_simp; with_reducible rfl)
    try simp only [Act.put, List.setIfInBounds_toArray, List.set_cons_zero, List.set_cons_succ]
    clear c0 c1 c2 c3
    replace HT := hide (HT.out.qt (Qt.refl W0).drew)
    have Hb := hide ((Below.refl W0.heap.size W0).drew)
    obtain ⟨W1, hW1⟩ : ∃ W1, W1 = W0.drew := ⟨_, rfl⟩
    rw [← hW1] at HT Hb hHeld ⊢
    clear hW1
    refine wpAnyH_ready (rs := [4, 9]) (by kernel_rfl) (by simp) ?_
    refine AllReadyH.cons rfl (fun K hK => ?_) (AllReadyH.cons rfl (fun K hK => ?_) AllReadyH.nil)
    · go_simp
      with_reducible refine (CloneI_ct I nI cI T.init W1 (H.out.init.keep (Hb0.out.trans (Hb.out.mono Hb0.out.size))) (by omega)).mono ?_
      rintro e W2 ⟨hb, AI, eI, rfl, hown⟩
      have HrI := hide (own_low hown Hb.out.size)
      replace HT := hide (HT.out.keep hb)
      replace Hb := hide (Hb.out.trans (hb.mono Hb.out.size))
      clear hb hown
      obtain ⟨c0, c1, c2, c3⟩ := HT.out.cell4
      refine hK.out _ _ ?_ (fun hHeld2 => ?_)
      · (try dsimp only); exact ⟨c0, c1, c2⟩
      clear hK K hHeld
      try simp only [Act.put, List.setIfInBounds_toArray, List.set_cons_zero, List.set_cons_succ]
      have hHeld := hHeld2; clear hHeld2
      clear c0 c1 c2 c3
      refine wpAnyH_ready (rs := [7, 9]) (by kernel_rfl) (by simp) ?_
      refine AllReadyH.cons rfl (fun K hK => ?_) (AllReadyH.cons rfl (fun K hK => ?_) AllReadyH.nil)
      · go_simp
        with_reducible refine (CloneI_ct G nG cG T.goal W2 (H.out.goal.keep (Hb0.out.trans (Hb.out.mono Hb0.out.size))) (by omega)).mono ?_
        rintro e W3 ⟨hb, AG, eG, rfl, hown⟩
        have HrG := hide (own_low hown Hb.out.size)
        replace HrI := hide (own_keep HrI.out hb)
        replace HT := hide (HT.out.keep hb)
        replace Hb := hide (Hb.out.trans (hb.mono Hb.out.size))
        clear hb hown
        obtain ⟨c0, c1, c2, c3⟩ := HT.out.cell4
        refine hK.out _ _ ?_ (fun hHeld2 => ?_)
        · (try dsimp only); exact ⟨c0, c1, c2⟩
        clear hK K hHeld
        try simp only [Act.put, List.setIfInBounds_toArray, List.set_cons_zero, List.set_cons_succ]
        have hHeld := hHeld2; clear hHeld2
        clear c0 c1 c2 c3
        refine takeM (i := 8) (v := ?_) (some 14) rfl rfl (by kernel_rfl) (by kernel_rfl) (by kernel_rfl) (fun _ _ _ h => h) (Or.inl ⟨by rfl, ?_⟩) (by assumption) ?_
        rotate_left
        · intro w hSw; (try dsimp only at hSw); obtain ⟨s1, s2, s3⟩ := hSw; first | (go_simp; done) | (go_simp; with_reducible rfl)
        try simp only [Act.put, List.setIfInBounds_toArray, List.set_cons_zero, List.set_cons_succ]
        refine wpAnyH_ready (rs := [9]) (by kernel_rfl) (by simp) ?_
        refine AllReadyH.cons rfl (fun K hK => ?_) AllReadyH.nil
        · go_simp
          have hb := (Below.refl W3.heap.size W3).alloc (Nat.le_refl _) (.cells #[.int .i64 0, .slice none 0 0, .slice none 0 0, .slice none 0 0] 25)
          have hn := Blk.new W3 25 [.int .i64 0, .slice none 0 0, .slice none 0 0, .slice none 0 0]
          have hneI : ∀ r, blkA AI = some r → r ≠ W3.heap.size := fun r hr => by have := (own_block HrI.out (r := r) (by rw [own_blkA]; exact hr)).1; omega
          have hneG : ∀ r, blkA AG = some r → r ≠ W3.heap.size := fun r hr => by have := (own_block HrG.out (r := r) (by rw [own_blkA]; exact hr)).1; omega
          have geO := Hb.out.size
          obtain ⟨W4, hW2⟩ : ∃ W9, W9 = W3.alloc (.cells #[.int .i64 0, .slice none 0 0, .slice none 0 0, .slice none 0 0] 25) := ⟨_, rfl⟩
          rw [← hW2] at hb hn ⊢
          clear hW2
          replace HT := hide (HT.out.keep hb)
          replace HrI := hide (own_keep HrI.out hb)
          replace HrG := hide (own_keep HrG.out hb)
          replace Hb := hide (Hb.out.trans (hb.mono Hb.out.size))
          clear hb
          generalize W3.heap.size = gO at hn geO hneI hneG ⊢
          have HO := hide hn
          have hTO : gT < gO := by omega
          clear hn
          obtain ⟨c0, c1, c2, c3⟩ := HT.out.cell4
          refine hK.out _ _ ?_ (fun hHeld2 => ?_)
          · (try dsimp only); exact ⟨c0, c1, c2⟩
          clear hK K hHeld
          try simp only [Act.put, List.setIfInBounds_toArray, List.set_cons_zero, List.set_cons_succ]
          have hHeld := hHeld2; clear hHeld2
          clear c0 c1 c2 c3
          refine wpAnyH_ready (rs := [10]) (by kernel_rfl) (by simp) ?_
          refine AllReadyH.cons rfl (fun K hK => ?_) AllReadyH.nil
          have q0 := HO.out.cell 0
          have q1 := HO.out.cell 1
          have q2 := HO.out.cell 2
          have q3 := HO.out.cell 3
          have ql := HO.out.lt
          have qf0 := HO.out.frozen 0
          have qf1 := HO.out.frozen 1
          have qf2 := HO.out.frozen 2
          have qf3 := HO.out.frozen 3
          simp only [List.getElem?_cons_zero, List.getElem?_cons_succ] at q0 q1 q2 q3
          go_simp
          have ho9 := (((HO.out.set 0 (.int .i64 T.facts)).set 1 (.slice AI nI eI)).set 2 (.slice AG nG eG)).set 3 (.slice none 0 0)
          simp only [List.set_cons_zero, List.set_cons_succ] at ho9
          have ht9 := (((HT.out.far (p := ⟨gO, 0, none⟩) (by show gT ≠ gO; omega) (.int .i64 T.facts)).far (p := ⟨gO, 1, none⟩) (by show gT ≠ gO; omega) (.slice AI nI eI)).far (p := ⟨gO, 2, none⟩) (by show gT ≠ gO; omega) (.slice AG nG eG)).far (p := ⟨gO, 3, none⟩) (by show gT ≠ gO; omega) (.slice none 0 0)
          have hc9 : Chg (fun b => b = gO) W4 ((((W4.setCell ⟨gO, 0, none⟩ (.int .i64 T.facts)).setCell ⟨gO, 1, none⟩ (.slice AI nI eI)).setCell ⟨gO, 2, none⟩ (.slice AG nG eG)).setCell ⟨gO, 3, none⟩ (.slice none 0 0)) :=
            (((Chg.set _ gO 0 _).trans (Chg.set _ gO 1 _)).trans (Chg.set _ gO 2 _)).trans (Chg.set _ gO 3 _)
          have hsz9 : ((((W4.setCell ⟨gO, 0, none⟩ (.int .i64 T.facts)).setCell ⟨gO, 1, none⟩ (.slice AI nI eI)).setCell ⟨gO, 2, none⟩ (.slice AG nG eG)).setCell ⟨gO, 3, none⟩ (.slice none 0 0)).heap.size = W4.heap.size := by simp
          obtain ⟨W9, hW9⟩ : ∃ W9, W9 = (((W4.setCell ⟨gO, 0, none⟩ (.int .i64 T.facts)).setCell ⟨gO, 1, none⟩ (.slice AI nI eI)).setCell ⟨gO, 2, none⟩ (.slice AG nG eG)).setCell ⟨gO, 3, none⟩ (.slice none 0 0) := ⟨_, rfl⟩
          rw [← hW9] at ho9 ht9 hc9 hsz9 ⊢
          have hb9 := Hb.out.trans (hc9.below (B := W0.heap.size) (fun i e => by omega) Hb.out.size)
          have xi9 : RdM (fun b => b < W0.heap.size ∨ b = gO ∨ W9.heap.size ≤ b) W9 AI nI eI T.init := (RdM.own (M := fun b => b < W0.heap.size ∨ b = gO ∨ W9.heap.size ≤ b) HrI.out (fun r hr e => by
            have h1 := own_base HrI.out (by rw [own_blkA]; exact hr)
            have h2 := (own_block HrI.out (r := r) (by rw [own_blkA]; exact hr)).1
            have h3 := hneI r hr
            omega) (H.out.init.len) (rd_ints H.out.init)).chg (hc9.mono fun b e => .inr (.inl e))
          have xg9 : RdM (fun b => b < W0.heap.size ∨ b = gO ∨ W9.heap.size ≤ b) W9 AG nG eG T.goal := (RdM.own (M := fun b => b < W0.heap.size ∨ b = gO ∨ W9.heap.size ≤ b) HrG.out (fun r hr e => by
            have h1 := own_base HrG.out (by rw [own_blkA]; exact hr)
            have h2 := (own_block HrG.out (r := r) (by rw [own_blkA]; exact hr)).1
            have h3 := hneG r hr
            omega) (H.out.goal.len) (rd_ints H.out.goal)).chg (hc9.mono fun b e => .inr (.inl e))
          have gl9 : gO < W9.heap.size := by omega
          have ge9 : W0.heap.size ≤ gO := geO
          have t9 := ht9.cell4
          have Ho9 := hide ho9
          have Ht9 := hide ht9
          have Hb9 := hide hb9
          have Xi9 := hide xi9
          have Xg9 := hide xg9
          clear ho9 ht9 hc9 hb9 xi9 xg9 hW9 hsz9
          refine hK.out _ _ ?_ (fun hHeld2 => ?_)
          · (try dsimp only); exact ⟨t9.1, t9.2.1, t9.2.2.1⟩
          clear hK K hHeld
          try simp only [Act.put, List.setIfInBounds_toArray, List.set_cons_zero, List.set_cons_succ]
          have hHeld := hHeld2; clear hHeld2
          clear t9
          refine wpAnyH_done (by kernel_rfl) ?_ _
          go_wp2_with fail
          go_meet
          exact ⟨gO, AI, eI, AG, eG, rfl, Ho9.out, Ht9.out, Hb9.out, ge9, gl9, Xi9.out, Xg9.out⟩
      · go_simp
        have hb := (Below.refl W2.heap.size W2).alloc (Nat.le_refl _) (.cells #[.int .i64 0, .slice none 0 0, .slice none 0 0, .slice none 0 0] 25)
        have hn := Blk.new W2 25 [.int .i64 0, .slice none 0 0, .slice none 0 0, .slice none 0 0]
        have hneI : ∀ r, blkA AI = some r → r ≠ W2.heap.size := fun r hr => by have := (own_block HrI.out (r := r) (by rw [own_blkA]; exact hr)).1; omega
        have geO := Hb.out.size
        obtain ⟨W3, hW2⟩ : ∃ W9, W9 = W2.alloc (.cells #[.int .i64 0, .slice none 0 0, .slice none 0 0, .slice none 0 0] 25) := ⟨_, rfl⟩
        rw [← hW2] at hb hn ⊢
        clear hW2
        replace HT := hide (HT.out.keep hb)
        replace HrI := hide (own_keep HrI.out hb)
        replace Hb := hide (Hb.out.trans (hb.mono Hb.out.size))
        clear hb
        generalize W2.heap.size = gO at hn geO hneI ⊢
        have HO := hide hn
        have hTO : gT < gO := by omega
        clear hn
        obtain ⟨c0, c1, c2, c3⟩ := HT.out.cell4
        refine hK.out _ _ ?_ (fun hHeld2 => ?_)
        · (try dsimp only); exact ⟨c0, c1, c2⟩
        clear hK K hHeld
        try simp only [Act.put, List.setIfInBounds_toArray, List.set_cons_zero, List.set_cons_succ]
        have hHeld := hHeld2; clear hHeld2
        clear c0 c1 c2 c3
        refine wpAnyH_ready (rs := [7]) (by kernel_rfl) (by simp) ?_
        refine AllReadyH.cons rfl (fun K hK => ?_) AllReadyH.nil
        · go_simp
          with_reducible refine (CloneI_ct G nG cG T.goal W3 (H.out.goal.keep (Hb0.out.trans (Hb.out.mono Hb0.out.size))) (by omega)).mono ?_
          rintro e W4 ⟨hb, AG, eG, rfl, hown⟩
          have hneG : ∀ r, blkA AG = some r → r ≠ gO := fun r hr => by have h1 := own_base hown (by rw [own_blkA]; exact hr); have h2 := HO.out.lt; omega
          replace HO := hide (HO.out.keep hb)
          have HrG := hide (own_low hown Hb.out.size)
          replace HrI := hide (own_keep HrI.out hb)
          replace HT := hide (HT.out.keep hb)
          replace Hb := hide (Hb.out.trans (hb.mono Hb.out.size))
          clear hb hown
          obtain ⟨c0, c1, c2, c3⟩ := HT.out.cell4
          refine hK.out _ _ ?_ (fun hHeld2 => ?_)
          · (try dsimp only); exact ⟨c0, c1, c2⟩
          clear hK K hHeld
          try simp only [Act.put, List.setIfInBounds_toArray, List.set_cons_zero, List.set_cons_succ]
          have hHeld := hHeld2; clear hHeld2
          clear c0 c1 c2 c3
          refine takeM (i := 8) (v := ?_) (some 14) rfl rfl (by kernel_rfl) (by kernel_rfl) (by kernel_rfl) (fun _ _ _ h => h) (Or.inl ⟨by rfl, ?_⟩) (by assumption) ?_
          rotate_left
          · intro w hSw; (try dsimp only at hSw); obtain ⟨s1, s2, s3⟩ := hSw; first | (go_simp; done) | (go_simp; with_reducible rfl)
          try simp only [Act.put, List.setIfInBounds_toArray, List.set_cons_zero, List.set_cons_succ]
          refine wpAnyH_ready (rs := [10]) (by kernel_rfl) (by simp) ?_
          refine AllReadyH.cons rfl (fun K hK => ?_) AllReadyH.nil
          have q0 := HO.out.cell 0
          have q1 := HO.out.cell 1
          have q2 := HO.out.cell 2
          have q3 := HO.out.cell 3
          have ql := HO.out.lt
          have qf0 := HO.out.frozen 0
          have qf1 := HO.out.frozen 1
          have qf2 := HO.out.frozen 2
          have qf3 := HO.out.frozen 3
          simp only [List.getElem?_cons_zero, List.getElem?_cons_succ] at q0 q1 q2 q3
          go_simp
          have ho9 := (((HO.out.set 0 (.int .i64 T.facts)).set 1 (.slice AI nI eI)).set 2 (.slice AG nG eG)).set 3 (.slice none 0 0)
          simp only [List.set_cons_zero, List.set_cons_succ] at ho9
          have ht9 := (((HT.out.far (p := ⟨gO, 0, none⟩) (by show gT ≠ gO; omega) (.int .i64 T.facts)).far (p := ⟨gO, 1, none⟩) (by show gT ≠ gO; omega) (.slice AI nI eI)).far (p := ⟨gO, 2, none⟩) (by show gT ≠ gO; omega) (.slice AG nG eG)).far (p := ⟨gO, 3, none⟩) (by show gT ≠ gO; omega) (.slice none 0 0)
          have hc9 : Chg (fun b => b = gO) W4 ((((W4.setCell ⟨gO, 0, none⟩ (.int .i64 T.facts)).setCell ⟨gO, 1, none⟩ (.slice AI nI eI)).setCell ⟨gO, 2, none⟩ (.slice AG nG eG)).setCell ⟨gO, 3, none⟩ (.slice none 0 0)) :=
            (((Chg.set _ gO 0 _).trans (Chg.set _ gO 1 _)).trans (Chg.set _ gO 2 _)).trans (Chg.set _ gO 3 _)
          have hsz9 : ((((W4.setCell ⟨gO, 0, none⟩ (.int .i64 T.facts)).setCell ⟨gO, 1, none⟩ (.slice AI nI eI)).setCell ⟨gO, 2, none⟩ (.slice AG nG eG)).setCell ⟨gO, 3, none⟩ (.slice none 0 0)).heap.size = W4.heap.size := by simp
          obtain ⟨W9, hW9⟩ : ∃ W9, W9 = (((W4.setCell ⟨gO, 0, none⟩ (.int .i64 T.facts)).setCell ⟨gO, 1, none⟩ (.slice AI nI eI)).setCell ⟨gO, 2, none⟩ (.slice AG nG eG)).setCell ⟨gO, 3, none⟩ (.slice none 0 0) := ⟨_, rfl⟩
          rw [← hW9] at ho9 ht9 hc9 hsz9 ⊢
          have hb9 := Hb.out.trans (hc9.below (B := W0.heap.size) (fun i e => by omega) Hb.out.size)
          have xi9 : RdM (fun b => b < W0.heap.size ∨ b = gO ∨ W9.heap.size ≤ b) W9 AI nI eI T.init := (RdM.own (M := fun b => b < W0.heap.size ∨ b = gO ∨ W9.heap.size ≤ b) HrI.out (fun r hr e => by
            have h1 := own_base HrI.out (by rw [own_blkA]; exact hr)
            have h2 := (own_block HrI.out (r := r) (by rw [own_blkA]; exact hr)).1
            have h3 := hneI r hr
            omega) (H.out.init.len) (rd_ints H.out.init)).chg (hc9.mono fun b e => .inr (.inl e))
          have xg9 : RdM (fun b => b < W0.heap.size ∨ b = gO ∨ W9.heap.size ≤ b) W9 AG nG eG T.goal := (RdM.own (M := fun b => b < W0.heap.size ∨ b = gO ∨ W9.heap.size ≤ b) HrG.out (fun r hr e => by
            have h1 := own_base HrG.out (by rw [own_blkA]; exact hr)
            have h2 := (own_block HrG.out (r := r) (by rw [own_blkA]; exact hr)).1
            have h3 := hneG r hr
            omega) (H.out.goal.len) (rd_ints H.out.goal)).chg (hc9.mono fun b e => .inr (.inl e))
          have gl9 : gO < W9.heap.size := by omega
          have ge9 : W0.heap.size ≤ gO := geO
          have t9 := ht9.cell4
          have Ho9 := hide ho9
          have Ht9 := hide ht9
          have Hb9 := hide hb9
          have Xi9 := hide xi9
          have Xg9 := hide xg9
          clear ho9 ht9 hc9 hb9 xi9 xg9 hW9 hsz9
          refine hK.out _ _ ?_ (fun hHeld2 => ?_)
          · (try dsimp only); exact ⟨t9.1, t9.2.1, t9.2.2.1⟩
          clear hK K hHeld
          try simp only [Act.put, List.setIfInBounds_toArray, List.set_cons_zero, List.set_cons_succ]
          have hHeld := hHeld2; clear hHeld2
          clear t9
          refine wpAnyH_done (by kernel_rfl) ?_ _
          go_wp2_with fail
          go_meet
          exact ⟨gO, AI, eI, AG, eG, rfl, Ho9.out, Ht9.out, Hb9.out, ge9, gl9, Xi9.out, Xg9.out⟩
    · go_simp
      have hb := (Below.refl W1.heap.size W1).alloc (Nat.le_refl _) (.cells #[.int .i64 0, .slice none 0 0, .slice none 0 0, .slice none 0 0] 25)
      have hn := Blk.new W1 25 [.int .i64 0, .slice none 0 0, .slice none 0 0, .slice none 0 0]
      have geO := Hb.out.size
      obtain ⟨W2, hW2⟩ : ∃ W9, W9 = W1.alloc (.cells #[.int .i64 0, .slice none 0 0, .slice none 0 0, .slice none 0 0] 25) := ⟨_, rfl⟩
      rw [← hW2] at hb hn ⊢
      clear hW2
      replace HT := hide (HT.out.keep hb)
      replace Hb := hide (Hb.out.trans (hb.mono Hb.out.size))
      clear hb
      generalize W1.heap.size = gO at hn geO  ⊢
      have HO := hide hn
      have hTO : gT < gO := by omega
      clear hn
      obtain ⟨c0, c1, c2, c3⟩ := HT.out.cell4
      refine hK.out _ _ ?_ (fun hHeld2 => ?_)
      · (try dsimp only); exact ⟨c0, c1, c2⟩
      clear hK K hHeld
      try simp only [Act.put, List.setIfInBounds_toArray, List.set_cons_zero, List.set_cons_succ]
      have hHeld := hHeld2; clear hHeld2
      clear c0 c1 c2 c3
      refine wpAnyH_ready (rs := [4]) (by kernel_rfl) (by simp) ?_
      refine AllReadyH.cons rfl (fun K hK => ?_) AllReadyH.nil
      · go_simp
        with_reducible refine (CloneI_ct I nI cI T.init W2 (H.out.init.keep (Hb0.out.trans (Hb.out.mono Hb0.out.size))) (by omega)).mono ?_
        rintro e W3 ⟨hb, AI, eI, rfl, hown⟩
        have hneI : ∀ r, blkA AI = some r → r ≠ gO := fun r hr => by have h1 := own_base hown (by rw [own_blkA]; exact hr); have h2 := HO.out.lt; omega
        replace HO := hide (HO.out.keep hb)
        have HrI := hide (own_low hown Hb.out.size)
        replace HT := hide (HT.out.keep hb)
        replace Hb := hide (Hb.out.trans (hb.mono Hb.out.size))
        clear hb hown
        obtain ⟨c0, c1, c2, c3⟩ := HT.out.cell4
        refine hK.out _ _ ?_ (fun hHeld2 => ?_)
        · (try dsimp only); exact ⟨c0, c1, c2⟩
        clear hK K hHeld
        try simp only [Act.put, List.setIfInBounds_toArray, List.set_cons_zero, List.set_cons_succ]
        have hHeld := hHeld2; clear hHeld2
        clear c0 c1 c2 c3
        refine wpAnyH_ready (rs := [7]) (by kernel_rfl) (by simp) ?_
        refine AllReadyH.cons rfl (fun K hK => ?_) AllReadyH.nil
        · go_simp
          with_reducible refine (CloneI_ct G nG cG T.goal W3 (H.out.goal.keep (Hb0.out.trans (Hb.out.mono Hb0.out.size))) (by omega)).mono ?_
          rintro e W4 ⟨hb, AG, eG, rfl, hown⟩
          have hneG : ∀ r, blkA AG = some r → r ≠ gO := fun r hr => by have h1 := own_base hown (by rw [own_blkA]; exact hr); have h2 := HO.out.lt; omega
          replace HO := hide (HO.out.keep hb)
          have HrG := hide (own_low hown Hb.out.size)
          replace HrI := hide (own_keep HrI.out hb)
          replace HT := hide (HT.out.keep hb)
          replace Hb := hide (Hb.out.trans (hb.mono Hb.out.size))
          clear hb hown
          obtain ⟨c0, c1, c2, c3⟩ := HT.out.cell4
          refine hK.out _ _ ?_ (fun hHeld2 => ?_)
          · (try dsimp only); exact ⟨c0, c1, c2⟩
          clear hK K hHeld
          try simp only [Act.put, List.setIfInBounds_toArray, List.set_cons_zero, List.set_cons_succ]
          have hHeld := hHeld2; clear hHeld2
          clear c0 c1 c2 c3
          refine takeM (i := 8) (v := ?_) (some 14) rfl rfl (by kernel_rfl) (by kernel_rfl) (by kernel_rfl) (fun _ _ _ h => h) (Or.inl ⟨by rfl, ?_⟩) (by assumption) ?_
          rotate_left
          · intro w hSw; (try dsimp only at hSw); obtain ⟨s1, s2, s3⟩ := hSw; first | (go_simp; done) | (go_simp; with_reducible rfl)
          try simp only [Act.put, List.setIfInBounds_toArray, List.set_cons_zero, List.set_cons_succ]
          refine wpAnyH_ready (rs := [10]) (by kernel_rfl) (by simp) ?_
          refine AllReadyH.cons rfl (fun K hK => ?_) AllReadyH.nil
          have q0 := HO.out.cell 0
          have q1 := HO.out.cell 1
          have q2 := HO.out.cell 2
          have q3 := HO.out.cell 3
          have ql := HO.out.lt
          have qf0 := HO.out.frozen 0
          have qf1 := HO.out.frozen 1
          have qf2 := HO.out.frozen 2
          have qf3 := HO.out.frozen 3
          simp only [List.getElem?_cons_zero, List.getElem?_cons_succ] at q0 q1 q2 q3
          go_simp
          have ho9 := (((HO.out.set 0 (.int .i64 T.facts)).set 1 (.slice AI nI eI)).set 2 (.slice AG nG eG)).set 3 (.slice none 0 0)
          simp only [List.set_cons_zero, List.set_cons_succ] at ho9
          have ht9 := (((HT.out.far (p := ⟨gO, 0, none⟩) (by show gT ≠ gO; omega) (.int .i64 T.facts)).far (p := ⟨gO, 1, none⟩) (by show gT ≠ gO; omega) (.slice AI nI eI)).far (p := ⟨gO, 2, none⟩) (by show gT ≠ gO; omega) (.slice AG nG eG)).far (p := ⟨gO, 3, none⟩) (by show gT ≠ gO; omega) (.slice none 0 0)
          have hc9 : Chg (fun b => b = gO) W4 ((((W4.setCell ⟨gO, 0, none⟩ (.int .i64 T.facts)).setCell ⟨gO, 1, none⟩ (.slice AI nI eI)).setCell ⟨gO, 2, none⟩ (.slice AG nG eG)).setCell ⟨gO, 3, none⟩ (.slice none 0 0)) :=
            (((Chg.set _ gO 0 _).trans (Chg.set _ gO 1 _)).trans (Chg.set _ gO 2 _)).trans (Chg.set _ gO 3 _)
          have hsz9 : ((((W4.setCell ⟨gO, 0, none⟩ (.int .i64 T.facts)).setCell ⟨gO, 1, none⟩ (.slice AI nI eI)).setCell ⟨gO, 2, none⟩ (.slice AG nG eG)).setCell ⟨gO, 3, none⟩ (.slice none 0 0)).heap.size = W4.heap.size := by simp
          obtain ⟨W9, hW9⟩ : ∃ W9, W9 = (((W4.setCell ⟨gO, 0, none⟩ (.int .i64 T.facts)).setCell ⟨gO, 1, none⟩ (.slice AI nI eI)).setCell ⟨gO, 2, none⟩ (.slice AG nG eG)).setCell ⟨gO, 3, none⟩ (.slice none 0 0) := ⟨_, rfl⟩
          rw [← hW9] at ho9 ht9 hc9 hsz9 ⊢
          have hb9 := Hb.out.trans (hc9.below (B := W0.heap.size) (fun i e => by omega) Hb.out.size)
          have xi9 : RdM (fun b => b < W0.heap.size ∨ b = gO ∨ W9.heap.size ≤ b) W9 AI nI eI T.init := (RdM.own (M := fun b => b < W0.heap.size ∨ b = gO ∨ W9.heap.size ≤ b) HrI.out (fun r hr e => by
            have h1 := own_base HrI.out (by rw [own_blkA]; exact hr)
            have h2 := (own_block HrI.out (r := r) (by rw [own_blkA]; exact hr)).1
            have h3 := hneI r hr
            omega) (H.out.init.len) (rd_ints H.out.init)).chg (hc9.mono fun b e => .inr (.inl e))
          have xg9 : RdM (fun b => b < W0.heap.size ∨ b = gO ∨ W9.heap.size ≤ b) W9 AG nG eG T.goal := (RdM.own (M := fun b => b < W0.heap.size ∨ b = gO ∨ W9.heap.size ≤ b) HrG.out (fun r hr e => by
            have h1 := own_base HrG.out (by rw [own_blkA]; exact hr)
            have h2 := (own_block HrG.out (r := r) (by rw [own_blkA]; exact hr)).1
            have h3 := hneG r hr
            omega) (H.out.goal.len) (rd_ints H.out.goal)).chg (hc9.mono fun b e => .inr (.inl e))
          have gl9 : gO < W9.heap.size := by omega
          have ge9 : W0.heap.size ≤ gO := geO
          have t9 := ht9.cell4
          have Ho9 := hide ho9
          have Ht9 := hide ht9
          have Hb9 := hide hb9
          have Xi9 := hide xi9
          have Xg9 := hide xg9
          clear ho9 ht9 hc9 hb9 xi9 xg9 hW9 hsz9
          refine hK.out _ _ ?_ (fun hHeld2 => ?_)
          · (try dsimp only); exact ⟨t9.1, t9.2.1, t9.2.2.1⟩
          clear hK K hHeld
          try simp only [Act.put, List.setIfInBounds_toArray, List.set_cons_zero, List.set_cons_succ]
          have hHeld := hHeld2; clear hHeld2
          clear t9
          refine wpAnyH_done (by kernel_rfl) ?_ _
          go_wp2_with fail
          go_meet
          exact ⟨gO, AI, eI, AG, eG, rfl, Ho9.out, Ht9.out, Hb9.out, ge9, gl9, Xi9.out, Xg9.out⟩
  case rest =>
    obtain ⟨gO, AI, eI, AG, eG, rfl, hO, hT, hb, hge, hgl, xi, xg⟩ := hcut
    have hR := HR.out.keep hb
    have hbw := Hb0.out.trans (hb.mono Hb0.out.size)
    clear HT HR
    obtain ⟨H1, hH1⟩ : ∃ H1, H1 = wc.heap.size := ⟨_, rfl⟩
    rw [← hH1] at hgl xi xg
    have hs0 : CpS w wc T [.int .i64 T.facts, .slice I nI cI, .slice G nG cG, .slice Oo nO cO] ⟨gT, gO, W0.heap.size, H1, AI, nI, eI, AG, nG, eG⟩ 0 none 0 [] := ⟨hT, hR, hO, hbw, (OwnE.nil _ _ _ _ _), by show H1 ≤ wc.heap.size; omega, xi, xg, HgT.out, hgs, hge, hgl⟩
    have HS := hide hs0
    clear hH1 hs0 hT hR hO hbw xi xg hb
    obtain ⟨c0, c1, c2, c3⟩ := HS.out.par.cell4
    simp only at c0 c1 c2 c3
    go_wp2_with fail
    go_loopw [18] (fun i wr => ∃ (k : Nat) (O : Option Addr) (oc : Nat) (vs : List Value), k ≤ nO ∧ i = .int .i64 k ∧ CpS w wr T [.int .i64 T.facts, .slice I nI cI, .slice G nG cG, .slice Oo nO cO] ⟨gT, gO, W0.heap.size, H1, AI, nI, eI, AG, nG, eG⟩ k O oc vs) (fun i _ => nO - (intOf i).toNat)
    case atStart => exact ⟨0, none, 0, [], by omega, rfl, HS.out⟩
    case round =>
      clear HS c0 c1 c2 c3
      obtain ⟨k, O, oc, vs, hk, rfl, hS⟩ := hrel
      have HS := hide hS
      have hOsz : ∀ r, blkA O = some r → r < wr.heap.size := fun r hr => (hS.blk hr).2
      obtain ⟨c0, c1, c2, c3⟩ := hS.par.cell4
      simp only at c0 c1 c2 c3
      by_cases hlt : k < nO
      · obtain ⟨b, off, o, A1, n1, d1, A2, n2, d2, A3, n3, d3, rfl, hoq, g0, g1, g2, g3, r1, r2, r3, r4⟩ := H.out.ops.op hlt
        have hb4 := HbO.out o (List.mem_of_getElem? hoq)
        obtain ⟨hb5, hb6, hb7⟩ := hb4
        rw [r1.len] at hb5
        rw [r2.len] at hb6
        rw [r3.len] at hb7
        replace g0 := (hS.low.cell (p := ⟨b, off + k * 4, none⟩) (World.block_lt_of_cell? w _ g0)).trans g0
        replace g1 := (hS.low.cell (p := ⟨b, off + k * 4 + 1, none⟩) (World.block_lt_of_cell? w _ g1)).trans g1
        replace g2 := (hS.low.cell (p := ⟨b, off + k * 4 + 2, none⟩) (World.block_lt_of_cell? w _ g2)).trans g2
        replace g3 := (hS.low.cell (p := ⟨b, off + k * 4 + 3, none⟩) (World.block_lt_of_cell? w _ g3)).trans g3
        have hszr := hS.size
        have hlowr := hS.low.size
        simp only at hszr
        have Hoq := hide hoq
        have L1 := hide r1.len
        have L2 := hide r2.len
        have L3 := hide r3.len
        have J1 := hide (rd_ints r1)
        have J2 := hide (rd_ints r2)
        have J3 := hide (rd_ints r3)
        have Jc := hide r4
        clear hS hoq r4
        go_upto_region 5 with (fail)
        have hY := Blk.new wr 82 [.slice A1 n1 d1, .slice A2 n2 d2, .slice A3 n3 d3, .int .i64 o.cost]
        have hb := (Below.refl wr.heap.size wr).alloc (Nat.le_refl _) (.cells #[.slice A1 n1 d1, .slice A2 n2 d2, .slice A3 n3 d3, .int .i64 o.cost] 82)
        obtain ⟨w4, hw4⟩ : ∃ w4, w4 = wr.alloc (.cells #[.slice A1 n1 d1, .slice A2 n2 d2, .slice A3 n3 d3, .int .i64 o.cost] 82) := ⟨_, rfl⟩
        rw [← hw4] at hY hb ⊢
        replace HS := hide (HS.out.keep hb)
        have hw0 := HS.out.low
        have R1 := hide (r1.keep hw0)
        have R2 := hide (r2.keep hw0)
        have R3 := hide (r3.keep hw0)
        have hH4 : H1 ≤ w4.heap.size := by have := hb.size; omega
        have hOlt : ∀ r, blkA O = some r → r < w4.heap.size := fun r hr => by have := hOsz r hr; have := hb.size; omega
        have hOY : ∀ r, blkA O = some r → r < wr.heap.size := hOsz
        have hgY : H1 ≤ wr.heap.size := hszr
        clear hw4 hb r1 r2 r3 g0 g1 g2 g3 c0 c1 c2 c3 hOsz hszr hw0 hlowr
        generalize wr.heap.size = gY at hY hOY hgY ⊢
        have HY := hide hY
        clear hY
        obtain ⟨z0, z1, z2, z3⟩ := HY.out.cell4
        refine wp_region_held_drew (S := (fun w' => w'.cell? ⟨gY, 0, none⟩ = some (.slice A1 n1 d1) ∧ w'.cell? ⟨gY, 1, none⟩ = some (.slice A2 n2 d2) ∧ w'.cell? ⟨gY, 2, none⟩ = some (.slice A3 n3 d3) ∧ w'.cell? ⟨gY, 3, none⟩ = some (.int .i64 o.cost))) (by kernel_rfl) ?_ (fun hHeld => ?_)
        · (try dsimp only); exact ⟨z0, z1, z2, z3⟩
        refine takeM (i := 0) (v := ?_) (some 22) rfl rfl (by kernel_rfl) (by kernel_rfl) (by kernel_rfl) (fun _ _ _ h => h) (Or.inl ⟨by rfl, ?_⟩) (by assumption) ?_
        rotate_left
        · intro w hSw; (try dsimp only at hSw); obtain ⟨s1, s2, s3, s4⟩ := hSw; first | (go_simp; done) | (go_simp; with_reducible rfl)
        try simp only [Act.put, List.setIfInBounds_toArray, List.set_cons_zero, List.set_cons_succ]
        refine takeM (i := 2) (v := ?_) (some 24) rfl rfl (by kernel_rfl) (by kernel_rfl) (by kernel_rfl) (fun _ _ _ h => h) (Or.inl ⟨by rfl, ?_⟩) (by assumption) ?_
        rotate_left
        · intro w hSw; (try dsimp only at hSw); obtain ⟨s1, s2, s3, s4⟩ := hSw; first | (go_simp; done) | (go_simp; with_reducible rfl)
        try simp only [Act.put, List.setIfInBounds_toArray, List.set_cons_zero, List.set_cons_succ]
        refine takeM (i := 3) (v := ?_) (some 25) rfl rfl (by kernel_rfl) (by kernel_rfl) (by kernel_rfl) (fun _ _ _ h => h) (Or.inl ⟨by rfl, ?_⟩) (by assumption) ?_
        rotate_left
        · intro w hSw; (try dsimp only at hSw); obtain ⟨s1, s2, s3, s4⟩ := hSw; first | (go_simp; done) | (go_simp; with_reducible rfl)
        try simp only [Act.put, List.setIfInBounds_toArray, List.set_cons_zero, List.set_cons_succ]
        refine takeM (i := 5) (v := ?_) (some 27) rfl rfl (by kernel_rfl) (by kernel_rfl) (by kernel_rfl) (fun _ _ _ h => h) (Or.inl ⟨by rfl, ?_⟩) (by assumption) ?_
        rotate_left
        · intro w hSw; (try dsimp only at hSw); obtain ⟨s1, s2, s3, s4⟩ := hSw; first | (go_simp; done) | (go_simp; with_reducible rfl)
        try simp only [Act.put, List.setIfInBounds_toArray, List.set_cons_zero, List.set_cons_succ]
        refine takeM (i := 6) (v := ?_) (some 28) rfl rfl (by kernel_rfl) (by kernel_rfl) (by kernel_rfl) (fun _ _ _ h => h) (Or.inl ⟨by rfl, ?_⟩) (by assumption) ?_
        rotate_left
        · intro w hSw; (try dsimp only at hSw); obtain ⟨s1, s2, s3, s4⟩ := hSw; first | (go_simp; done) | (go_simp; with_reducible rfl)
        try simp only [Act.put, List.setIfInBounds_toArray, List.set_cons_zero, List.set_cons_succ]
        refine takeM (i := 8) (v := ?_) (some 30) rfl rfl (by kernel_rfl) (by kernel_rfl) (by kernel_rfl) (fun _ _ _ h => h) (Or.inl ⟨by rfl, ?_⟩) (by assumption) ?_
        rotate_left
        · intro w hSw; (try dsimp only at hSw); obtain ⟨s1, s2, s3, s4⟩ := hSw; first | (go_simp; done) | (go_simp; with_reducible rfl)
        try simp only [Act.put, List.setIfInBounds_toArray, List.set_cons_zero, List.set_cons_succ]
        refine takeM (i := 9) (v := ?_) (some 31) rfl rfl (by kernel_rfl) (by kernel_rfl) (by kernel_rfl) (fun _ _ _ h => h) (Or.inl ⟨by rfl, ?_⟩) (by assumption) ?_
        rotate_left
        · intro w hSw; (try dsimp only at hSw); obtain ⟨s1, s2, s3, s4⟩ := hSw; first | (go_simp; done) | (go_simp; with_reducible rfl)
        try simp only [Act.put, List.setIfInBounds_toArray, List.set_cons_zero, List.set_cons_succ]
        refine takeM (i := 11) (v := ?_) (some 33) rfl rfl (by kernel_rfl) (by kernel_rfl) (by kernel_rfl) (fun _ _ _ h => h) (Or.inl ⟨by rfl, ?_⟩) (by assumption) ?_
        rotate_left
        · intro w hSw; (try dsimp only at hSw); obtain ⟨s1, s2, s3, s4⟩ := hSw; first | (go_simp; done) | (go_simp; with_reducible rfl)
        try simp only [Act.put, List.setIfInBounds_toArray, List.set_cons_zero, List.set_cons_succ]
        refine takeM (i := 12) (v := ?_) (some 34) rfl rfl (by kernel_rfl) (by kernel_rfl) (by kernel_rfl) (fun _ _ _ h => h) (Or.inl ⟨by rfl, ?_⟩) (by assumption) ?_
        rotate_left
        · intro w hSw; (try dsimp only at hSw); obtain ⟨s1, s2, s3, s4⟩ := hSw; first | (go_simp; done) | (go_simp; with_reducible rfl)
        try simp only [Act.put, List.setIfInBounds_toArray, List.set_cons_zero, List.set_cons_succ]
        clear z0 z1 z2 z3
        replace HY := hide (HY.out.qt (Qt.refl w4).drew)
        replace HS := hide (HS.out.keep ((Qt.refl w4).drew.below _))
        have Hb := hide ((Below.refl w4.heap.size w4).drew)
        obtain ⟨W1, hW1⟩ : ∃ W1, W1 = w4.drew := ⟨_, rfl⟩
        rw [← hW1] at HY HS Hb hHeld ⊢
        clear hW1
        refine wpAnyH_ready (rs := [1, 4]) (by kernel_rfl) (by simp) ?_
        refine AllReadyH.cons rfl (fun K hK => ?_) (AllReadyH.cons rfl (fun K hK => ?_) AllReadyH.nil)
        · skip
          have o3 := HS.out.out.cell4.2.2.2
          obtain ⟨z0, z1, z2, z3⟩ := HY.out.cell4
          go_simp
          refine hK.out _ _ ?_ (fun hHeld2 => ?_)
          · (try dsimp only); exact ⟨z0, z1, z2, z3⟩
          clear hK K hHeld
          try simp only [Act.put, List.setIfInBounds_toArray, List.set_cons_zero, List.set_cons_succ]
          have hHeld := hHeld2; clear hHeld2
          clear z0 z1 z2 z3 o3
          refine wpAnyH_ready (rs := [4]) (by kernel_rfl) (by simp) ?_
          refine AllReadyH.cons rfl (fun K hK => ?_) AllReadyH.nil
          · skip
            go_simp
            with_reducible refine (CloneI_ct A1 n1 d1 o.pre W1 (R1.out.keep Hb.out) (by omega)).mono ?_
            rintro e W2 ⟨hb, D1, e1, rfl, hown⟩
            have C1 := hide (own_low hown Hb.out.size)
            replace HS := hide (HS.out.keep hb)
            replace HY := hide (HY.out.keep hb)
            replace Hb := hide (Hb.out.trans (hb.mono Hb.out.size))
            clear hb hown
            obtain ⟨z0, z1, z2, z3⟩ := HY.out.cell4
            refine hK.out _ _ ?_ (fun hHeld2 => ?_)
            · (try dsimp only); exact ⟨z0, z1, z2, z3⟩
            clear hK K hHeld
            try simp only [Act.put, List.setIfInBounds_toArray, List.set_cons_zero, List.set_cons_succ]
            have hHeld := hHeld2; clear hHeld2
            clear z0 z1 z2 z3
            refine wpAnyH_ready (rs := [7]) (by kernel_rfl) (by simp) ?_
            refine AllReadyH.cons rfl (fun K hK => ?_) AllReadyH.nil
            · skip
              go_simp
              with_reducible refine (CloneI_ct A2 n2 d2 o.add W2 (R2.out.keep Hb.out) (by omega)).mono ?_
              rintro e W3 ⟨hb, D2, e2, rfl, hown⟩
              have C2 := hide (own_low hown Hb.out.size)
              replace HS := hide (HS.out.keep hb)
              replace HY := hide (HY.out.keep hb)
              replace C1 := hide (own_keep C1.out hb)
              replace Hb := hide (Hb.out.trans (hb.mono Hb.out.size))
              clear hb hown
              obtain ⟨z0, z1, z2, z3⟩ := HY.out.cell4
              refine hK.out _ _ ?_ (fun hHeld2 => ?_)
              · (try dsimp only); exact ⟨z0, z1, z2, z3⟩
              clear hK K hHeld
              try simp only [Act.put, List.setIfInBounds_toArray, List.set_cons_zero, List.set_cons_succ]
              have hHeld := hHeld2; clear hHeld2
              clear z0 z1 z2 z3
              refine wpAnyH_ready (rs := [10]) (by kernel_rfl) (by simp) ?_
              refine AllReadyH.cons rfl (fun K hK => ?_) AllReadyH.nil
              · skip
                go_simp
                with_reducible refine (CloneI_ct A3 n3 d3 o.del W3 (R3.out.keep Hb.out) (by omega)).mono ?_
                rintro e W4 ⟨hb, D3, e3, rfl, hown⟩
                have C3 := hide (own_low hown Hb.out.size)
                replace HS := hide (HS.out.keep hb)
                replace HY := hide (HY.out.keep hb)
                replace C1 := hide (own_keep C1.out hb)
                replace C2 := hide (own_keep C2.out hb)
                replace Hb := hide (Hb.out.trans (hb.mono Hb.out.size))
                clear hb hown
                obtain ⟨z0, z1, z2, z3⟩ := HY.out.cell4
                refine hK.out _ _ ?_ (fun hHeld2 => ?_)
                · (try dsimp only); exact ⟨z0, z1, z2, z3⟩
                clear hK K hHeld
                try simp only [Act.put, List.setIfInBounds_toArray, List.set_cons_zero, List.set_cons_succ]
                have hHeld := hHeld2; clear hHeld2
                clear z0 z1 z2 z3
                refine takeM (i := 13) (v := ?_) (some 35) rfl rfl (by kernel_rfl) (by kernel_rfl) (by kernel_rfl) (fun _ _ _ h => h) (Or.inl ⟨by rfl, ?_⟩) (by assumption) ?_
                rotate_left
                · intro w hSw; (try dsimp only at hSw); obtain ⟨s1, s2, s3, s4⟩ := hSw; first | (go_simp; done) | (go_simp; with_reducible rfl)
                try simp only [Act.put, List.setIfInBounds_toArray, List.set_cons_zero, List.set_cons_succ]
                refine wpAnyH_ready (rs := [14]) (by kernel_rfl) (by simp) ?_
                refine AllReadyH.cons rfl (fun K hK => ?_) AllReadyH.nil
                · skip
                  go_simp
                  obtain ⟨z0, z1, z2, z3⟩ := (HY.out.alloc (.cells #[.slice D1 n1 e1, .slice D2 n2 e2, .slice D3 n3 e3, .int .i64 o.cost] 82)).cell4
                  refine hK.out _ _ ?_ (fun hHeld2 => ?_)
                  · (try dsimp only); exact ⟨z0, z1, z2, z3⟩
                  clear hK K hHeld
                  try simp only [Act.put, List.setIfInBounds_toArray, List.set_cons_zero, List.set_cons_succ]
                  have hHeld := hHeld2; clear hHeld2
                  clear z0 z1 z2 z3
                  refine wpAnyH_ready (rs := [15]) (by kernel_rfl) (by simp) ?_
                  refine AllReadyH.cons rfl (fun K hK => ?_) AllReadyH.nil
                  have hfirm := HS.out.firm (b4 := w4.heap.size) hH4 hOlt C1.out C2.out C3.out L1.out L2.out L3.out J1.out J2.out J3.out Jc.out
                  refine step_pushE rfl _ _ 23 rfl H1 82 i1 _ 80 Try.underlying23 hi1 hy0 hy1 hy2 rfl (by decide) (A := O) (n := k) (c := oc) (by first | rfl | (go_simp; done)) HS.out.own (fun r hr => .inl hr) [.slice D1 n1 e1, .slice D2 n2 e2, .slice D3 n3 e3, .int .i64 o.cost] o (by intro u hu; simp at hu; rcases hu with hu | hu | hu | hu <;> subst hu <;> rfl) (by first | rfl | (go_simp; done)) hfirm (by omega) (by omega) HS.out.size ?_
                  intro O6 oc6 w6 hown6 hch6 hat6
                  have hs9 := HS.out.push Hoq.out hown6 hch6 hat6
                  have hnY : ¬ blkA O = some gY := fun e => by have := hOY gY e; omega
                  have hy6 := hch6.blk HY.out hnY
                  have hy9 := hy6.far (p := ⟨gO, 3, none⟩) (by show gY ≠ gO; omega) (.slice O6 (k + 1) oc6)
                  have hnO : ¬ blkA O = some gO := fun e => by
                    have h9 : H1 ≤ gO := (HS.out.blk e).1
                    omega
                  have hq6 := hch6.blk HS.out.out hnO
                  have q3 := hq6.cell 3
                  have ql := hq6.lt
                  have qf := hq6.frozen 3
                  simp only [List.getElem?_cons_zero, List.getElem?_cons_succ] at q3
                  obtain ⟨z0, z1, z2, z3⟩ := hy6.cell4
                  obtain ⟨y0, y1, y2, y3⟩ := hy9.cell4
                  have Hs9 := hide hs9
                  clear hown6 hch6 hat6 hs9 hy6 hy9 hq6 hfirm
                  refine hK.out _ _ ?_ (fun hHeld2 => ?_)
                  · (try dsimp only); exact ⟨z0, z1, z2, z3⟩
                  clear hK K hHeld
                  try simp only [Act.put, List.setIfInBounds_toArray, List.set_cons_zero, List.set_cons_succ]
                  have hHeld := hHeld2; clear hHeld2
                  clear z0 z1 z2 z3
                  refine takeM (i := 16) (v := ?_) (some 38) rfl rfl (by kernel_rfl) (by kernel_rfl) (by kernel_rfl) (fun _ _ _ h => h) (Or.inl ⟨by rfl, ?_⟩) (by assumption) ?_
                  rotate_left
                  · intro w hSw; (try dsimp only at hSw); obtain ⟨s1, s2, s3, s4⟩ := hSw; first | (go_simp; done) | (go_simp; with_reducible rfl)
                  try simp only [Act.put, List.setIfInBounds_toArray, List.set_cons_zero, List.set_cons_succ]
                  refine wpAnyH_ready (rs := [17]) (by kernel_rfl) (by simp) ?_
                  refine AllReadyH.cons rfl (fun K hK => ?_) AllReadyH.nil
                  go_simp
                  refine hK.out _ _ ?_ (fun hHeld2 => ?_)
                  · (try dsimp only); exact ⟨y0, y1, y2, y3⟩
                  clear hK K hHeld
                  try simp only [Act.put, List.setIfInBounds_toArray, List.set_cons_zero, List.set_cons_succ]
                  have hHeld := hHeld2; clear hHeld2
                  refine wpAnyH_done (by kernel_rfl) ?_ _
                  go_wp2_with fail
                  go_roundw
                  case rel => exact ⟨k + 1, O6, oc6, _, by omega, by go_num, Hs9.out⟩
                  case measure => simp [intOf]; omega
        · skip
          go_simp
          with_reducible refine (CloneI_ct A1 n1 d1 o.pre W1 (R1.out.keep Hb.out) (by omega)).mono ?_
          rintro e W2 ⟨hb, D1, e1, rfl, hown⟩
          have C1 := hide (own_low hown Hb.out.size)
          replace HS := hide (HS.out.keep hb)
          replace HY := hide (HY.out.keep hb)
          replace Hb := hide (Hb.out.trans (hb.mono Hb.out.size))
          clear hb hown
          obtain ⟨z0, z1, z2, z3⟩ := HY.out.cell4
          refine hK.out _ _ ?_ (fun hHeld2 => ?_)
          · (try dsimp only); exact ⟨z0, z1, z2, z3⟩
          clear hK K hHeld
          try simp only [Act.put, List.setIfInBounds_toArray, List.set_cons_zero, List.set_cons_succ]
          have hHeld := hHeld2; clear hHeld2
          clear z0 z1 z2 z3
          refine wpAnyH_ready (rs := [1, 7]) (by kernel_rfl) (by simp) ?_
          refine AllReadyH.cons rfl (fun K hK => ?_) (AllReadyH.cons rfl (fun K hK => ?_) AllReadyH.nil)
          · skip
            have o3 := HS.out.out.cell4.2.2.2
            obtain ⟨z0, z1, z2, z3⟩ := HY.out.cell4
            go_simp
            refine hK.out _ _ ?_ (fun hHeld2 => ?_)
            · (try dsimp only); exact ⟨z0, z1, z2, z3⟩
            clear hK K hHeld
            try simp only [Act.put, List.setIfInBounds_toArray, List.set_cons_zero, List.set_cons_succ]
            have hHeld := hHeld2; clear hHeld2
            clear z0 z1 z2 z3 o3
            refine wpAnyH_ready (rs := [7]) (by kernel_rfl) (by simp) ?_
            refine AllReadyH.cons rfl (fun K hK => ?_) AllReadyH.nil
            · skip
              go_simp
              with_reducible refine (CloneI_ct A2 n2 d2 o.add W2 (R2.out.keep Hb.out) (by omega)).mono ?_
              rintro e W3 ⟨hb, D2, e2, rfl, hown⟩
              have C2 := hide (own_low hown Hb.out.size)
              replace HS := hide (HS.out.keep hb)
              replace HY := hide (HY.out.keep hb)
              replace C1 := hide (own_keep C1.out hb)
              replace Hb := hide (Hb.out.trans (hb.mono Hb.out.size))
              clear hb hown
              obtain ⟨z0, z1, z2, z3⟩ := HY.out.cell4
              refine hK.out _ _ ?_ (fun hHeld2 => ?_)
              · (try dsimp only); exact ⟨z0, z1, z2, z3⟩
              clear hK K hHeld
              try simp only [Act.put, List.setIfInBounds_toArray, List.set_cons_zero, List.set_cons_succ]
              have hHeld := hHeld2; clear hHeld2
              clear z0 z1 z2 z3
              refine wpAnyH_ready (rs := [10]) (by kernel_rfl) (by simp) ?_
              refine AllReadyH.cons rfl (fun K hK => ?_) AllReadyH.nil
              · skip
                go_simp
                with_reducible refine (CloneI_ct A3 n3 d3 o.del W3 (R3.out.keep Hb.out) (by omega)).mono ?_
                rintro e W4 ⟨hb, D3, e3, rfl, hown⟩
                have C3 := hide (own_low hown Hb.out.size)
                replace HS := hide (HS.out.keep hb)
                replace HY := hide (HY.out.keep hb)
                replace C1 := hide (own_keep C1.out hb)
                replace C2 := hide (own_keep C2.out hb)
                replace Hb := hide (Hb.out.trans (hb.mono Hb.out.size))
                clear hb hown
                obtain ⟨z0, z1, z2, z3⟩ := HY.out.cell4
                refine hK.out _ _ ?_ (fun hHeld2 => ?_)
                · (try dsimp only); exact ⟨z0, z1, z2, z3⟩
                clear hK K hHeld
                try simp only [Act.put, List.setIfInBounds_toArray, List.set_cons_zero, List.set_cons_succ]
                have hHeld := hHeld2; clear hHeld2
                clear z0 z1 z2 z3
                refine takeM (i := 13) (v := ?_) (some 35) rfl rfl (by kernel_rfl) (by kernel_rfl) (by kernel_rfl) (fun _ _ _ h => h) (Or.inl ⟨by rfl, ?_⟩) (by assumption) ?_
                rotate_left
                · intro w hSw; (try dsimp only at hSw); obtain ⟨s1, s2, s3, s4⟩ := hSw; first | (go_simp; done) | (go_simp; with_reducible rfl)
                try simp only [Act.put, List.setIfInBounds_toArray, List.set_cons_zero, List.set_cons_succ]
                refine wpAnyH_ready (rs := [14]) (by kernel_rfl) (by simp) ?_
                refine AllReadyH.cons rfl (fun K hK => ?_) AllReadyH.nil
                · skip
                  go_simp
                  obtain ⟨z0, z1, z2, z3⟩ := (HY.out.alloc (.cells #[.slice D1 n1 e1, .slice D2 n2 e2, .slice D3 n3 e3, .int .i64 o.cost] 82)).cell4
                  refine hK.out _ _ ?_ (fun hHeld2 => ?_)
                  · (try dsimp only); exact ⟨z0, z1, z2, z3⟩
                  clear hK K hHeld
                  try simp only [Act.put, List.setIfInBounds_toArray, List.set_cons_zero, List.set_cons_succ]
                  have hHeld := hHeld2; clear hHeld2
                  clear z0 z1 z2 z3
                  refine wpAnyH_ready (rs := [15]) (by kernel_rfl) (by simp) ?_
                  refine AllReadyH.cons rfl (fun K hK => ?_) AllReadyH.nil
                  have hfirm := HS.out.firm (b4 := w4.heap.size) hH4 hOlt C1.out C2.out C3.out L1.out L2.out L3.out J1.out J2.out J3.out Jc.out
                  refine step_pushE rfl _ _ 23 rfl H1 82 i1 _ 80 Try.underlying23 hi1 hy0 hy1 hy2 rfl (by decide) (A := O) (n := k) (c := oc) (by first | rfl | (go_simp; done)) HS.out.own (fun r hr => .inl hr) [.slice D1 n1 e1, .slice D2 n2 e2, .slice D3 n3 e3, .int .i64 o.cost] o (by intro u hu; simp at hu; rcases hu with hu | hu | hu | hu <;> subst hu <;> rfl) (by first | rfl | (go_simp; done)) hfirm (by omega) (by omega) HS.out.size ?_
                  intro O6 oc6 w6 hown6 hch6 hat6
                  have hs9 := HS.out.push Hoq.out hown6 hch6 hat6
                  have hnY : ¬ blkA O = some gY := fun e => by have := hOY gY e; omega
                  have hy6 := hch6.blk HY.out hnY
                  have hy9 := hy6.far (p := ⟨gO, 3, none⟩) (by show gY ≠ gO; omega) (.slice O6 (k + 1) oc6)
                  have hnO : ¬ blkA O = some gO := fun e => by
                    have h9 : H1 ≤ gO := (HS.out.blk e).1
                    omega
                  have hq6 := hch6.blk HS.out.out hnO
                  have q3 := hq6.cell 3
                  have ql := hq6.lt
                  have qf := hq6.frozen 3
                  simp only [List.getElem?_cons_zero, List.getElem?_cons_succ] at q3
                  obtain ⟨z0, z1, z2, z3⟩ := hy6.cell4
                  obtain ⟨y0, y1, y2, y3⟩ := hy9.cell4
                  have Hs9 := hide hs9
                  clear hown6 hch6 hat6 hs9 hy6 hy9 hq6 hfirm
                  refine hK.out _ _ ?_ (fun hHeld2 => ?_)
                  · (try dsimp only); exact ⟨z0, z1, z2, z3⟩
                  clear hK K hHeld
                  try simp only [Act.put, List.setIfInBounds_toArray, List.set_cons_zero, List.set_cons_succ]
                  have hHeld := hHeld2; clear hHeld2
                  clear z0 z1 z2 z3
                  refine takeM (i := 16) (v := ?_) (some 38) rfl rfl (by kernel_rfl) (by kernel_rfl) (by kernel_rfl) (fun _ _ _ h => h) (Or.inl ⟨by rfl, ?_⟩) (by assumption) ?_
                  rotate_left
                  · intro w hSw; (try dsimp only at hSw); obtain ⟨s1, s2, s3, s4⟩ := hSw; first | (go_simp; done) | (go_simp; with_reducible rfl)
                  try simp only [Act.put, List.setIfInBounds_toArray, List.set_cons_zero, List.set_cons_succ]
                  refine wpAnyH_ready (rs := [17]) (by kernel_rfl) (by simp) ?_
                  refine AllReadyH.cons rfl (fun K hK => ?_) AllReadyH.nil
                  go_simp
                  refine hK.out _ _ ?_ (fun hHeld2 => ?_)
                  · (try dsimp only); exact ⟨y0, y1, y2, y3⟩
                  clear hK K hHeld
                  try simp only [Act.put, List.setIfInBounds_toArray, List.set_cons_zero, List.set_cons_succ]
                  have hHeld := hHeld2; clear hHeld2
                  refine wpAnyH_done (by kernel_rfl) ?_ _
                  go_wp2_with fail
                  go_roundw
                  case rel => exact ⟨k + 1, O6, oc6, _, by omega, by go_num, Hs9.out⟩
                  case measure => simp [intOf]; omega
          · skip
            go_simp
            with_reducible refine (CloneI_ct A2 n2 d2 o.add W2 (R2.out.keep Hb.out) (by omega)).mono ?_
            rintro e W3 ⟨hb, D2, e2, rfl, hown⟩
            have C2 := hide (own_low hown Hb.out.size)
            replace HS := hide (HS.out.keep hb)
            replace HY := hide (HY.out.keep hb)
            replace C1 := hide (own_keep C1.out hb)
            replace Hb := hide (Hb.out.trans (hb.mono Hb.out.size))
            clear hb hown
            obtain ⟨z0, z1, z2, z3⟩ := HY.out.cell4
            refine hK.out _ _ ?_ (fun hHeld2 => ?_)
            · (try dsimp only); exact ⟨z0, z1, z2, z3⟩
            clear hK K hHeld
            try simp only [Act.put, List.setIfInBounds_toArray, List.set_cons_zero, List.set_cons_succ]
            have hHeld := hHeld2; clear hHeld2
            clear z0 z1 z2 z3
            refine wpAnyH_ready (rs := [1, 10]) (by kernel_rfl) (by simp) ?_
            refine AllReadyH.cons rfl (fun K hK => ?_) (AllReadyH.cons rfl (fun K hK => ?_) AllReadyH.nil)
            · skip
              have o3 := HS.out.out.cell4.2.2.2
              obtain ⟨z0, z1, z2, z3⟩ := HY.out.cell4
              go_simp
              refine hK.out _ _ ?_ (fun hHeld2 => ?_)
              · (try dsimp only); exact ⟨z0, z1, z2, z3⟩
              clear hK K hHeld
              try simp only [Act.put, List.setIfInBounds_toArray, List.set_cons_zero, List.set_cons_succ]
              have hHeld := hHeld2; clear hHeld2
              clear z0 z1 z2 z3 o3
              refine wpAnyH_ready (rs := [10]) (by kernel_rfl) (by simp) ?_
              refine AllReadyH.cons rfl (fun K hK => ?_) AllReadyH.nil
              · skip
                go_simp
                with_reducible refine (CloneI_ct A3 n3 d3 o.del W3 (R3.out.keep Hb.out) (by omega)).mono ?_
                rintro e W4 ⟨hb, D3, e3, rfl, hown⟩
                have C3 := hide (own_low hown Hb.out.size)
                replace HS := hide (HS.out.keep hb)
                replace HY := hide (HY.out.keep hb)
                replace C1 := hide (own_keep C1.out hb)
                replace C2 := hide (own_keep C2.out hb)
                replace Hb := hide (Hb.out.trans (hb.mono Hb.out.size))
                clear hb hown
                obtain ⟨z0, z1, z2, z3⟩ := HY.out.cell4
                refine hK.out _ _ ?_ (fun hHeld2 => ?_)
                · (try dsimp only); exact ⟨z0, z1, z2, z3⟩
                clear hK K hHeld
                try simp only [Act.put, List.setIfInBounds_toArray, List.set_cons_zero, List.set_cons_succ]
                have hHeld := hHeld2; clear hHeld2
                clear z0 z1 z2 z3
                refine takeM (i := 13) (v := ?_) (some 35) rfl rfl (by kernel_rfl) (by kernel_rfl) (by kernel_rfl) (fun _ _ _ h => h) (Or.inl ⟨by rfl, ?_⟩) (by assumption) ?_
                rotate_left
                · intro w hSw; (try dsimp only at hSw); obtain ⟨s1, s2, s3, s4⟩ := hSw; first | (go_simp; done) | (go_simp; with_reducible rfl)
                try simp only [Act.put, List.setIfInBounds_toArray, List.set_cons_zero, List.set_cons_succ]
                refine wpAnyH_ready (rs := [14]) (by kernel_rfl) (by simp) ?_
                refine AllReadyH.cons rfl (fun K hK => ?_) AllReadyH.nil
                · skip
                  go_simp
                  obtain ⟨z0, z1, z2, z3⟩ := (HY.out.alloc (.cells #[.slice D1 n1 e1, .slice D2 n2 e2, .slice D3 n3 e3, .int .i64 o.cost] 82)).cell4
                  refine hK.out _ _ ?_ (fun hHeld2 => ?_)
                  · (try dsimp only); exact ⟨z0, z1, z2, z3⟩
                  clear hK K hHeld
                  try simp only [Act.put, List.setIfInBounds_toArray, List.set_cons_zero, List.set_cons_succ]
                  have hHeld := hHeld2; clear hHeld2
                  clear z0 z1 z2 z3
                  refine wpAnyH_ready (rs := [15]) (by kernel_rfl) (by simp) ?_
                  refine AllReadyH.cons rfl (fun K hK => ?_) AllReadyH.nil
                  have hfirm := HS.out.firm (b4 := w4.heap.size) hH4 hOlt C1.out C2.out C3.out L1.out L2.out L3.out J1.out J2.out J3.out Jc.out
                  refine step_pushE rfl _ _ 23 rfl H1 82 i1 _ 80 Try.underlying23 hi1 hy0 hy1 hy2 rfl (by decide) (A := O) (n := k) (c := oc) (by first | rfl | (go_simp; done)) HS.out.own (fun r hr => .inl hr) [.slice D1 n1 e1, .slice D2 n2 e2, .slice D3 n3 e3, .int .i64 o.cost] o (by intro u hu; simp at hu; rcases hu with hu | hu | hu | hu <;> subst hu <;> rfl) (by first | rfl | (go_simp; done)) hfirm (by omega) (by omega) HS.out.size ?_
                  intro O6 oc6 w6 hown6 hch6 hat6
                  have hs9 := HS.out.push Hoq.out hown6 hch6 hat6
                  have hnY : ¬ blkA O = some gY := fun e => by have := hOY gY e; omega
                  have hy6 := hch6.blk HY.out hnY
                  have hy9 := hy6.far (p := ⟨gO, 3, none⟩) (by show gY ≠ gO; omega) (.slice O6 (k + 1) oc6)
                  have hnO : ¬ blkA O = some gO := fun e => by
                    have h9 : H1 ≤ gO := (HS.out.blk e).1
                    omega
                  have hq6 := hch6.blk HS.out.out hnO
                  have q3 := hq6.cell 3
                  have ql := hq6.lt
                  have qf := hq6.frozen 3
                  simp only [List.getElem?_cons_zero, List.getElem?_cons_succ] at q3
                  obtain ⟨z0, z1, z2, z3⟩ := hy6.cell4
                  obtain ⟨y0, y1, y2, y3⟩ := hy9.cell4
                  have Hs9 := hide hs9
                  clear hown6 hch6 hat6 hs9 hy6 hy9 hq6 hfirm
                  refine hK.out _ _ ?_ (fun hHeld2 => ?_)
                  · (try dsimp only); exact ⟨z0, z1, z2, z3⟩
                  clear hK K hHeld
                  try simp only [Act.put, List.setIfInBounds_toArray, List.set_cons_zero, List.set_cons_succ]
                  have hHeld := hHeld2; clear hHeld2
                  clear z0 z1 z2 z3
                  refine takeM (i := 16) (v := ?_) (some 38) rfl rfl (by kernel_rfl) (by kernel_rfl) (by kernel_rfl) (fun _ _ _ h => h) (Or.inl ⟨by rfl, ?_⟩) (by assumption) ?_
                  rotate_left
                  · intro w hSw; (try dsimp only at hSw); obtain ⟨s1, s2, s3, s4⟩ := hSw; first | (go_simp; done) | (go_simp; with_reducible rfl)
                  try simp only [Act.put, List.setIfInBounds_toArray, List.set_cons_zero, List.set_cons_succ]
                  refine wpAnyH_ready (rs := [17]) (by kernel_rfl) (by simp) ?_
                  refine AllReadyH.cons rfl (fun K hK => ?_) AllReadyH.nil
                  go_simp
                  refine hK.out _ _ ?_ (fun hHeld2 => ?_)
                  · (try dsimp only); exact ⟨y0, y1, y2, y3⟩
                  clear hK K hHeld
                  try simp only [Act.put, List.setIfInBounds_toArray, List.set_cons_zero, List.set_cons_succ]
                  have hHeld := hHeld2; clear hHeld2
                  refine wpAnyH_done (by kernel_rfl) ?_ _
                  go_wp2_with fail
                  go_roundw
                  case rel => exact ⟨k + 1, O6, oc6, _, by omega, by go_num, Hs9.out⟩
                  case measure => simp [intOf]; omega
            · skip
              go_simp
              with_reducible refine (CloneI_ct A3 n3 d3 o.del W3 (R3.out.keep Hb.out) (by omega)).mono ?_
              rintro e W4 ⟨hb, D3, e3, rfl, hown⟩
              have C3 := hide (own_low hown Hb.out.size)
              replace HS := hide (HS.out.keep hb)
              replace HY := hide (HY.out.keep hb)
              replace C1 := hide (own_keep C1.out hb)
              replace C2 := hide (own_keep C2.out hb)
              replace Hb := hide (Hb.out.trans (hb.mono Hb.out.size))
              clear hb hown
              obtain ⟨z0, z1, z2, z3⟩ := HY.out.cell4
              refine hK.out _ _ ?_ (fun hHeld2 => ?_)
              · (try dsimp only); exact ⟨z0, z1, z2, z3⟩
              clear hK K hHeld
              try simp only [Act.put, List.setIfInBounds_toArray, List.set_cons_zero, List.set_cons_succ]
              have hHeld := hHeld2; clear hHeld2
              clear z0 z1 z2 z3
              refine takeM (i := 13) (v := ?_) (some 35) rfl rfl (by kernel_rfl) (by kernel_rfl) (by kernel_rfl) (fun _ _ _ h => h) (Or.inl ⟨by rfl, ?_⟩) (by assumption) ?_
              rotate_left
              · intro w hSw; (try dsimp only at hSw); obtain ⟨s1, s2, s3, s4⟩ := hSw; first | (go_simp; done) | (go_simp; with_reducible rfl)
              try simp only [Act.put, List.setIfInBounds_toArray, List.set_cons_zero, List.set_cons_succ]
              refine wpAnyH_ready (rs := [1, 14]) (by kernel_rfl) (by simp) ?_
              refine AllReadyH.cons rfl (fun K hK => ?_) (AllReadyH.cons rfl (fun K hK => ?_) AllReadyH.nil)
              · skip
                have o3 := HS.out.out.cell4.2.2.2
                obtain ⟨z0, z1, z2, z3⟩ := HY.out.cell4
                go_simp
                refine hK.out _ _ ?_ (fun hHeld2 => ?_)
                · (try dsimp only); exact ⟨z0, z1, z2, z3⟩
                clear hK K hHeld
                try simp only [Act.put, List.setIfInBounds_toArray, List.set_cons_zero, List.set_cons_succ]
                have hHeld := hHeld2; clear hHeld2
                clear z0 z1 z2 z3 o3
                refine wpAnyH_ready (rs := [14]) (by kernel_rfl) (by simp) ?_
                refine AllReadyH.cons rfl (fun K hK => ?_) AllReadyH.nil
                · skip
                  go_simp
                  obtain ⟨z0, z1, z2, z3⟩ := (HY.out.alloc (.cells #[.slice D1 n1 e1, .slice D2 n2 e2, .slice D3 n3 e3, .int .i64 o.cost] 82)).cell4
                  refine hK.out _ _ ?_ (fun hHeld2 => ?_)
                  · (try dsimp only); exact ⟨z0, z1, z2, z3⟩
                  clear hK K hHeld
                  try simp only [Act.put, List.setIfInBounds_toArray, List.set_cons_zero, List.set_cons_succ]
                  have hHeld := hHeld2; clear hHeld2
                  clear z0 z1 z2 z3
                  refine wpAnyH_ready (rs := [15]) (by kernel_rfl) (by simp) ?_
                  refine AllReadyH.cons rfl (fun K hK => ?_) AllReadyH.nil
                  have hfirm := HS.out.firm (b4 := w4.heap.size) hH4 hOlt C1.out C2.out C3.out L1.out L2.out L3.out J1.out J2.out J3.out Jc.out
                  refine step_pushE rfl _ _ 23 rfl H1 82 i1 _ 80 Try.underlying23 hi1 hy0 hy1 hy2 rfl (by decide) (A := O) (n := k) (c := oc) (by first | rfl | (go_simp; done)) HS.out.own (fun r hr => .inl hr) [.slice D1 n1 e1, .slice D2 n2 e2, .slice D3 n3 e3, .int .i64 o.cost] o (by intro u hu; simp at hu; rcases hu with hu | hu | hu | hu <;> subst hu <;> rfl) (by first | rfl | (go_simp; done)) hfirm (by omega) (by omega) HS.out.size ?_
                  intro O6 oc6 w6 hown6 hch6 hat6
                  have hs9 := HS.out.push Hoq.out hown6 hch6 hat6
                  have hnY : ¬ blkA O = some gY := fun e => by have := hOY gY e; omega
                  have hy6 := hch6.blk HY.out hnY
                  have hy9 := hy6.far (p := ⟨gO, 3, none⟩) (by show gY ≠ gO; omega) (.slice O6 (k + 1) oc6)
                  have hnO : ¬ blkA O = some gO := fun e => by
                    have h9 : H1 ≤ gO := (HS.out.blk e).1
                    omega
                  have hq6 := hch6.blk HS.out.out hnO
                  have q3 := hq6.cell 3
                  have ql := hq6.lt
                  have qf := hq6.frozen 3
                  simp only [List.getElem?_cons_zero, List.getElem?_cons_succ] at q3
                  obtain ⟨z0, z1, z2, z3⟩ := hy6.cell4
                  obtain ⟨y0, y1, y2, y3⟩ := hy9.cell4
                  have Hs9 := hide hs9
                  clear hown6 hch6 hat6 hs9 hy6 hy9 hq6 hfirm
                  refine hK.out _ _ ?_ (fun hHeld2 => ?_)
                  · (try dsimp only); exact ⟨z0, z1, z2, z3⟩
                  clear hK K hHeld
                  try simp only [Act.put, List.setIfInBounds_toArray, List.set_cons_zero, List.set_cons_succ]
                  have hHeld := hHeld2; clear hHeld2
                  clear z0 z1 z2 z3
                  refine takeM (i := 16) (v := ?_) (some 38) rfl rfl (by kernel_rfl) (by kernel_rfl) (by kernel_rfl) (fun _ _ _ h => h) (Or.inl ⟨by rfl, ?_⟩) (by assumption) ?_
                  rotate_left
                  · intro w hSw; (try dsimp only at hSw); obtain ⟨s1, s2, s3, s4⟩ := hSw; first | (go_simp; done) | (go_simp; with_reducible rfl)
                  try simp only [Act.put, List.setIfInBounds_toArray, List.set_cons_zero, List.set_cons_succ]
                  refine wpAnyH_ready (rs := [17]) (by kernel_rfl) (by simp) ?_
                  refine AllReadyH.cons rfl (fun K hK => ?_) AllReadyH.nil
                  go_simp
                  refine hK.out _ _ ?_ (fun hHeld2 => ?_)
                  · (try dsimp only); exact ⟨y0, y1, y2, y3⟩
                  clear hK K hHeld
                  try simp only [Act.put, List.setIfInBounds_toArray, List.set_cons_zero, List.set_cons_succ]
                  have hHeld := hHeld2; clear hHeld2
                  refine wpAnyH_done (by kernel_rfl) ?_ _
                  go_wp2_with fail
                  go_roundw
                  case rel => exact ⟨k + 1, O6, oc6, _, by omega, by go_num, Hs9.out⟩
                  case measure => simp [intOf]; omega
              · skip
                go_simp
                obtain ⟨z0, z1, z2, z3⟩ := (HY.out.alloc (.cells #[.slice D1 n1 e1, .slice D2 n2 e2, .slice D3 n3 e3, .int .i64 o.cost] 82)).cell4
                refine hK.out _ _ ?_ (fun hHeld2 => ?_)
                · (try dsimp only); exact ⟨z0, z1, z2, z3⟩
                clear hK K hHeld
                try simp only [Act.put, List.setIfInBounds_toArray, List.set_cons_zero, List.set_cons_succ]
                have hHeld := hHeld2; clear hHeld2
                clear z0 z1 z2 z3
                refine wpAnyH_ready (rs := [1]) (by kernel_rfl) (by simp) ?_
                refine AllReadyH.cons rfl (fun K hK => ?_) AllReadyH.nil
                · skip
                  have o3 := ((HS.out.out.alloc (.cells #[.slice D1 n1 e1, .slice D2 n2 e2, .slice D3 n3 e3, .int .i64 o.cost] 82)).cell4).2.2.2
                  obtain ⟨z0, z1, z2, z3⟩ := (HY.out.alloc (.cells #[.slice D1 n1 e1, .slice D2 n2 e2, .slice D3 n3 e3, .int .i64 o.cost] 82)).cell4
                  go_simp
                  refine hK.out _ _ ?_ (fun hHeld2 => ?_)
                  · (try dsimp only); exact ⟨z0, z1, z2, z3⟩
                  clear hK K hHeld
                  try simp only [Act.put, List.setIfInBounds_toArray, List.set_cons_zero, List.set_cons_succ]
                  have hHeld := hHeld2; clear hHeld2
                  clear z0 z1 z2 z3 o3
                  refine wpAnyH_ready (rs := [15]) (by kernel_rfl) (by simp) ?_
                  refine AllReadyH.cons rfl (fun K hK => ?_) AllReadyH.nil
                  have hfirm := HS.out.firm (b4 := w4.heap.size) hH4 hOlt C1.out C2.out C3.out L1.out L2.out L3.out J1.out J2.out J3.out Jc.out
                  refine step_pushE rfl _ _ 23 rfl H1 82 i1 _ 80 Try.underlying23 hi1 hy0 hy1 hy2 rfl (by decide) (A := O) (n := k) (c := oc) (by first | rfl | (go_simp; done)) HS.out.own (fun r hr => .inl hr) [.slice D1 n1 e1, .slice D2 n2 e2, .slice D3 n3 e3, .int .i64 o.cost] o (by intro u hu; simp at hu; rcases hu with hu | hu | hu | hu <;> subst hu <;> rfl) (by first | rfl | (go_simp; done)) hfirm (by omega) (by omega) HS.out.size ?_
                  intro O6 oc6 w6 hown6 hch6 hat6
                  have hs9 := HS.out.push Hoq.out hown6 hch6 hat6
                  have hnY : ¬ blkA O = some gY := fun e => by have := hOY gY e; omega
                  have hy6 := hch6.blk HY.out hnY
                  have hy9 := hy6.far (p := ⟨gO, 3, none⟩) (by show gY ≠ gO; omega) (.slice O6 (k + 1) oc6)
                  have hnO : ¬ blkA O = some gO := fun e => by
                    have h9 : H1 ≤ gO := (HS.out.blk e).1
                    omega
                  have hq6 := hch6.blk HS.out.out hnO
                  have q3 := hq6.cell 3
                  have ql := hq6.lt
                  have qf := hq6.frozen 3
                  simp only [List.getElem?_cons_zero, List.getElem?_cons_succ] at q3
                  obtain ⟨z0, z1, z2, z3⟩ := hy6.cell4
                  obtain ⟨y0, y1, y2, y3⟩ := hy9.cell4
                  have Hs9 := hide hs9
                  clear hown6 hch6 hat6 hs9 hy6 hy9 hq6 hfirm
                  refine hK.out _ _ ?_ (fun hHeld2 => ?_)
                  · (try dsimp only); exact ⟨z0, z1, z2, z3⟩
                  clear hK K hHeld
                  try simp only [Act.put, List.setIfInBounds_toArray, List.set_cons_zero, List.set_cons_succ]
                  have hHeld := hHeld2; clear hHeld2
                  clear z0 z1 z2 z3
                  refine takeM (i := 16) (v := ?_) (some 38) rfl rfl (by kernel_rfl) (by kernel_rfl) (by kernel_rfl) (fun _ _ _ h => h) (Or.inl ⟨by rfl, ?_⟩) (by assumption) ?_
                  rotate_left
                  · intro w hSw; (try dsimp only at hSw); obtain ⟨s1, s2, s3, s4⟩ := hSw; first | (go_simp; done) | (go_simp; with_reducible rfl)
                  try simp only [Act.put, List.setIfInBounds_toArray, List.set_cons_zero, List.set_cons_succ]
                  refine wpAnyH_ready (rs := [17]) (by kernel_rfl) (by simp) ?_
                  refine AllReadyH.cons rfl (fun K hK => ?_) AllReadyH.nil
                  go_simp
                  refine hK.out _ _ ?_ (fun hHeld2 => ?_)
                  · (try dsimp only); exact ⟨y0, y1, y2, y3⟩
                  clear hK K hHeld
                  try simp only [Act.put, List.setIfInBounds_toArray, List.set_cons_zero, List.set_cons_succ]
                  have hHeld := hHeld2; clear hHeld2
                  refine wpAnyH_done (by kernel_rfl) ?_ _
                  go_wp2_with fail
                  go_roundw
                  case rel => exact ⟨k + 1, O6, oc6, _, by omega, by go_num, Hs9.out⟩
                  case measure => simp [intOf]; omega
      · obtain rfl : k = nO := by omega
        obtain ⟨x0, x1, x2, x3⟩ := hS.out.cell4
        obtain ⟨v0, v1, v2, v3⟩ := hS.res.cell4
        have vf0 := hS.res.frozen 0
        have vf1 := hS.res.frozen 1
        have vf2 := hS.res.frozen 2
        have vf3 := hS.res.frozen 3
        have vl := hS.res.lt
        simp only at x0 x1 x2 x3 v0 v1 v2 v3 vf0 vf1 vf2 vf3 vl
        clear hS
        go_wp2_with fail
        refine bodyPost_ret (v := .agg #[.int .i64 T.facts, .slice AI nI eI, .slice AG nG eG, .slice O k oc]) (by simp [results, Try.results101, go_sem, v0, v1, v2, v3, vl]) rfl ?_
        have hS := HS.out
        have hz := HgT.out
        have hc : Chg (fun b => b = gT + 1) wr ((((wr.setCell ⟨gT + 1, 0, none⟩ (.int .i64 T.facts)).setCell ⟨gT + 1, 1, none⟩ (.slice AI nI eI)).setCell ⟨gT + 1, 2, none⟩ (.slice AG nG eG)).setCell ⟨gT + 1, 3, none⟩ (.slice O k oc)) :=
          (((Chg.set _ _ 0 _).trans (Chg.set _ _ 1 _)).trans (Chg.set _ _ 2 _)).trans (Chg.set _ _ 3 _)
        have hsz : ((((wr.setCell ⟨gT + 1, 0, none⟩ (.int .i64 T.facts)).setCell ⟨gT + 1, 1, none⟩ (.slice AI nI eI)).setCell ⟨gT + 1, 2, none⟩ (.slice AG nG eG)).setCell ⟨gT + 1, 3, none⟩ (.slice O k oc)).heap.size = wr.heap.size := by simp
        have hown := hS.own.chg (M' := fun b => b = gT + 1) hc (fun i e => .inr (.inl (by show i < H1; omega))) (fun r hr e => by have := (hS.blk hr).1; simp only at this; omega)
        rw [List.take_of_length_le (by omega)] at hown
        have hs1 := hS.size
        simp only at hs1
        refine ⟨hS.low.trans (hc.below (B := w.heap.size) (fun i e => by omega) hS.low.size), H1, AI, eI, AG, eG, O, oc, vs, rfl, by omega, by rw [hsz]; exact hs1, ?_, ?_, ?_⟩
        · exact (hS.init.chg (hc.mono fun b e => .inl (by show b < W0.heap.size; omega))).mono (fun i hi e => by rcases e with e | e; exact .inl (by show i < W0.heap.size; omega); exact .inr (.inr e))
        · exact (hS.goal.chg (hc.mono fun b e => .inl (by show b < W0.heap.size; omega))).mono (fun i hi e => by rcases e with e | e; exact .inl (by show i < W0.heap.size; omega); exact .inr (.inr e))
        · rw [hsz]
          exact hown
end Go.Proofs.Ytliggcmohcdchaa
namespace Go.Proofs.Ytliggcmohcdchaa
set_option linter.unusedVariables false
set_option linter.unusedSimpArgs false
open Go.RowKit
set_option maxRecDepth 100000 in
set_option maxHeartbeats 12800000 in
theorem extend_ct (a : TA) (T : Tsk) (B : Option Addr) (m d : Nat) (ms : List (List Int)) (w : World) (h : TkR w a T) (hl : Rd (Enc.sl Enc.int) w B m d ms) :
    Calls Try.prog 64 #[.agg #[.int .i64 T.facts, .slice a.I a.nI a.cI, .slice a.G a.nG a.cG, .slice a.O a.nO a.cO], .slice B m d] w (ExtP w (extendR T ms)) := by
  obtain ⟨I, nI, cI, G, nG, cG, Oo, nO, cO⟩ := a
  have hval := SValidate_ct ⟨I, nI, cI, G, nG, cG, Oo, nO, cO⟩ T
  have hfa := fun B m d l i w h hl => mfault_ct ⟨I, nI, cI, G, nG, cG, Oo, nO, cO⟩ T B m d l i w h hl
  have hco := fun N B m d l w h hok hl => combine_ct ⟨I, nI, cI, G, nG, cG, Oo, nO, cO⟩ T N B m d l w h hok hl
  have hcl := mclone_ct ⟨I, nI, cI, G, nG, cG, Oo, nO, cO⟩ T
  obtain ⟨i1, hi1, hy0, hy1, hy2⟩ := info_parts opInfoT
  simp only at hval hfa hco hcl ⊢
  rcases hq : taskFault T with ⟨ec, ei⟩
  rw [hq] at hval
  have Hq := hide hq
  have hlO := h.ops.len
  have hlI := h.init.len
  have hlG := h.goal.len
  have hlow := h.ops.low
  have hlm := hl.low
  simp only at hlO hlI hlG hlow
  have H := hide h
  have Hl := hide hl
  have Hll := hide hl.len
  have Hval := hide hval
  have Hfa := hide hfa
  have Hco := hide hco
  have Hcl := hide hcl
  have HlO := hide hlO
  have HlI := hide hlI
  have HlG := hide hlG
  clear hval hfa hco hcl h hl hq hlO hlI hlG
  have Hbl := hide (Below.refl w.heap.size w)
  go_enter Try.func64, Try.ntmps64
  go_upto_region 1 with (fail)
  obtain ⟨B0, hB0⟩ : ∃ B0, B0 = w.heap.size := ⟨_, rfl⟩
  have hgR0 : B0 ≤ w.heap.size + 1 := by omega
  have hgF0 : B0 ≤ w.heap.size + 1 + 1 := by omega
  have hgT0 : w.heap.size = B0 := by omega
  have HgT := hide hgT0
  have HB0 := hide hB0
  clear hB0 hgT0
  have hyt := Blk.new (w) 25 [.int .i64 T.facts, .slice I nI cI, .slice G nG cG, .slice Oo nO cO]
  have hyr := Blk.new ((w).alloc (.cells #[.int .i64 T.facts, .slice I nI cI, .slice G nG cG, .slice Oo nO cO] 25)) 25 [.int .i64 0, .slice none 0 0, .slice none 0 0, .slice none 0 0]
  replace hyt := hyt.alloc (.cells #[.int .i64 0, .slice none 0 0, .slice none 0 0, .slice none 0 0] 25)
  have hyf := Blk.new (((w).alloc (.cells #[.int .i64 T.facts, .slice I nI cI, .slice G nG cG, .slice Oo nO cO] 25)).alloc (.cells #[.int .i64 0, .slice none 0 0, .slice none 0 0, .slice none 0 0] 25)) 29 [.int .i64 0, .int .i64 0]
  replace hyt := hyt.alloc (.cells #[.int .i64 0, .int .i64 0] 29)
  replace hyr := hyr.alloc (.cells #[.int .i64 0, .int .i64 0] 29)
  have hbW := below_three w (.cells #[.int .i64 T.facts, .slice I nI cI, .slice G nG cG, .slice Oo nO cO] 25) (.cells #[.int .i64 0, .slice none 0 0, .slice none 0 0, .slice none 0 0] 25) (.cells #[.int .i64 0, .int .i64 0] 29)
  simp only [World.size_alloc] at hyr hyf
  obtain ⟨w0, hW⟩ : ∃ W, W = (((w).alloc (.cells #[.int .i64 T.facts, .slice I nI cI, .slice G nG cG, .slice Oo nO cO] 25)).alloc (.cells #[.int .i64 0, .slice none 0 0, .slice none 0 0, .slice none 0 0] 25)).alloc (.cells #[.int .i64 0, .int .i64 0] 29) := ⟨_, rfl⟩
  rw [← hW] at hyt hyr hyf hbW ⊢
  replace Hbl := hide (Hbl.out.trans (hbW.mono Hbl.out.size))
  have Ht := hide hyt
  have Hr := hide hyr
  have Hf := hide hyf
  clear hW hbW hyt hyr hyf
  generalize w.heap.size = gT at Ht Hr Hf hgR0 hgF0 HgT ⊢
  have t0 := Ht.out.cell 0
  have t1 := Ht.out.cell 1
  have t2 := Ht.out.cell 2
  have t3 := Ht.out.cell 3
  have tl := Ht.out.lt
  have r0 := Hr.out.cell 0
  have r1 := Hr.out.cell 1
  have r2 := Hr.out.cell 2
  have r3 := Hr.out.cell 3
  have rl := Hr.out.lt
  have f0 := Hf.out.cell 0
  have f1 := Hf.out.cell 1
  have fl := Hf.out.lt
  simp only [List.getElem?_cons_zero, List.getElem?_cons_succ] at t0 t1 t2 t3 r0 r1 r2 r3 f0 f1
  have rf0 := Hr.out.frozen 0
  have rf1 := Hr.out.frozen 1
  have rf2 := Hr.out.frozen 2
  have rf3 := Hr.out.frozen 3
  have ff0 := Hf.out.frozen 0
  have ff1 := Hf.out.frozen 1
  have hgne1 : ¬ gT + 1 = gT + 1 + 1 := by omega
  have hgne2 : ¬ gT + 1 + 1 = gT + 1 := by omega
  go_wp2_with fail
  with_reducible refine (Hval.out w0 (H.out.keep Hbl.out)).mono ?_
  rintro e w1 ⟨rfl, hb⟩
  clear t0 t1 t2 t3 r0 r1 r2 r3 f0 f1 tl rl fl
  replace Ht := hide (Ht.out.keep hb)
  replace Hr := hide (Hr.out.keep hb)
  replace Hf := hide (Hf.out.keep hb)
  replace Hbl := hide (Hbl.out.trans (hb.mono Hbl.out.size))
  clear hb
  unfold fault
  have t0 := Ht.out.cell 0
  have t1 := Ht.out.cell 1
  have t2 := Ht.out.cell 2
  have t3 := Ht.out.cell 3
  have tl := Ht.out.lt
  have r0 := Hr.out.cell 0
  have r1 := Hr.out.cell 1
  have r2 := Hr.out.cell 2
  have r3 := Hr.out.cell 3
  have rl := Hr.out.lt
  have f0 := Hf.out.cell 0
  have f1 := Hf.out.cell 1
  have fl := Hf.out.lt
  simp only [List.getElem?_cons_zero, List.getElem?_cons_succ] at t0 t1 t2 t3 r0 r1 r2 r3 f0 f1
  clear rf0 rf1 rf2 rf3 ff0 ff1
  have rf0 := Hr.out.frozen 0
  have rf1 := Hr.out.frozen 1
  have rf2 := Hr.out.frozen 2
  have rf3 := Hr.out.frozen 3
  have ff0 := Hf.out.frozen 0
  have ff1 := Hf.out.frozen 1
  go_upto_region 2 with (fail)
  have hp1 : gT + 1 < w1.heap.size := rl
  have hp2 : gT + 1 + 1 < w1.heap.size := fl
  have hyp := Blk.new (w1) 29 [.int .i64 ec, .int .i64 ei]
  have hbW : Below (w1).heap.size (w1) ((w1).alloc (.cells #[.int .i64 ec, .int .i64 ei] 29)) := (Below.refl _ _).alloc (Nat.le_refl _) _
  obtain ⟨w2, hW⟩ : ∃ W, W = (w1).alloc (.cells #[.int .i64 ec, .int .i64 ei] 29) := ⟨_, rfl⟩
  rw [← hW] at hyp hbW ⊢
  replace Ht := hide (Ht.out.keep hbW)
  replace Hr := hide (Hr.out.keep hbW)
  replace Hf := hide (Hf.out.keep hbW)
  replace Hbl := hide (Hbl.out.trans (hbW.mono Hbl.out.size))
  have Hp := hide hyp
  clear hW hbW hyp
  generalize w1.heap.size = gp at Hp hp1 hp2 ⊢
  have t0 := Ht.out.cell 0
  have t1 := Ht.out.cell 1
  have t2 := Ht.out.cell 2
  have t3 := Ht.out.cell 3
  have tl := Ht.out.lt
  have r0 := Hr.out.cell 0
  have r1 := Hr.out.cell 1
  have r2 := Hr.out.cell 2
  have r3 := Hr.out.cell 3
  have rl := Hr.out.lt
  have f0 := Hf.out.cell 0
  have f1 := Hf.out.cell 1
  have fl := Hf.out.lt
  have p0 := Hp.out.cell 0
  have p1 := Hp.out.cell 1
  have pl := Hp.out.lt
  simp only [List.getElem?_cons_zero, List.getElem?_cons_succ] at t0 t1 t2 t3 r0 r1 r2 r3 f0 f1 p0 p1
  have hpn1 : ¬ gp = gT + 1 := by omega
  have hpn2 : ¬ gT + 1 = gp := by omega
  have hpn3 : ¬ gp = gT + 1 + 1 := by omega
  have hpn4 : ¬ gT + 1 + 1 = gp := by omega
  clear rf0 rf1 rf2 rf3 ff0 ff1
  have rf0 := Hr.out.frozen 0
  have rf1 := Hr.out.frozen 1
  have rf2 := Hr.out.frozen 2
  have rf3 := Hr.out.frozen 3
  have ff0 := Hf.out.frozen 0
  have ff1 := Hf.out.frozen 1
  by_cases hec : ec = 0
  · subst hec
    have hz := taskFault_zero (T := T) (by rw [Hq.out])
    rw [Hq.out] at hz
    obtain ⟨_, e2⟩ := Prod.mk.inj hz
    subst e2
    obtain ⟨N, hok⟩ := taskFault_ok (T := T) (by rw [Hq.out])
    have Hok := hide hok
    clear hz hok
    by_cases h8 : 8 < m
    · skip
      go_wp2_with fail
      refine bodyPost_ret (v := .tuple #[.agg #[.int .i64 0, .slice none 0 0, .slice none 0 0, .slice none 0 0], fault 2 (-8)]) (by simp [results, Try.results64, go_sem, fault, r0, r1, r2, r3, f0, f1, rl, fl, hgne1, hgne2]) rfl ?_
      have hres : extendR T ms = (zeroT, 2, (-8)) := by
        unfold extendR
        rw [Hq.out, if_neg (by simp), if_pos (by rw [Hll.out, HlO.out]; omega)]
      rw [hres]
      have hB := HB0.out
      refine ext_zero ?_ _ _
      repeat' (first | (with_reducible exact Hbl.out) | (with_reducible refine Below.drew ?_) | (with_reducible refine below_set ?_ ?_ _ _) | omega)
    · skip
      by_cases h40 : 40 < nO + m
      · have h40i : (40 : Int) < (nO : Int) + (m : Int) := by omega
        skip
        have hfew := Hok.out.few
        rw [HlO.out] at hfew
        go_wp2_with fail
        refine bodyPost_ret (v := .tuple #[.agg #[.int .i64 0, .slice none 0 0, .slice none 0 0, .slice none 0 0], fault 2 (-8)]) (by simp [results, Try.results64, go_sem, fault, r0, r1, r2, r3, f0, f1, rl, fl, hgne1, hgne2]) rfl ?_
        have hres : extendR T ms = (zeroT, 2, (-8)) := by
          unfold extendR
          rw [Hq.out, if_neg (by simp), if_pos (by rw [Hll.out, HlO.out]; omega)]
        rw [hres]
        have hB := HB0.out
        refine ext_zero ?_ _ _
        repeat' (first | (with_reducible exact Hbl.out) | (with_reducible refine Below.drew ?_) | (with_reducible refine below_set ?_ ?_ _ _) | omega)
      · have h40i : ¬ (40 : Int) < (nO : Int) + (m : Int) := by omega
        have hfew := Hok.out.few
        rw [HlO.out] at hfew
        have hlow24 := Hok.out.low
        have hin := setB_len Hok.out.init
        have hgo := setB_len Hok.out.goal
        rw [HlI.out] at hin
        rw [HlG.out] at hgo
        have hsets : ∀ o ∈ T.ops, o.pre.length ≤ 1000000 ∧ o.add.length ≤ 1000000 ∧ o.del.length ≤ 1000000 := fun o ho => by
          have h1 := setB_len (Hok.out.ops o ho).pre
          have h2 := setB_len (Hok.out.ops o ho).add
          have h3 := setB_len (Hok.out.ops o ho).del
          omega
        have Hsets := hide hsets
        have hq1 : gT + 1 + 1 < w2.heap.size := fl
        clear hsets
        go_wp2_with fail
        with_reducible refine (Hcl.out w2 (H.out.keep Hbl.out) (by omega) (by omega) (by omega) Hsets.out).mono ?_
        rintro e w3 ⟨hb, Bc, AI, eI, AG, eG, O, oc, vs, rfl, hB1, hB2, xi, xg, hown⟩
        clear t0 t1 t2 t3 r0 r1 r2 r3 f0 f1 p0 p1 tl rl fl pl
        clear rf0 rf1 rf2 rf3 ff0 ff1
        replace Ht := hide (Ht.out.keep hb)
        replace Hr := hide (Hr.out.keep hb)
        replace Hf := hide (Hf.out.keep hb)
        replace Hp := hide (Hp.out.keep hb)
        replace Hbl := hide (Hbl.out.trans (hb.mono Hbl.out.size))
        clear hb
        have t0 := Ht.out.cell 0
        have t1 := Ht.out.cell 1
        have t2 := Ht.out.cell 2
        have t3 := Ht.out.cell 3
        have tl := Ht.out.lt
        have r0 := Hr.out.cell 0
        have r1 := Hr.out.cell 1
        have r2 := Hr.out.cell 2
        have r3 := Hr.out.cell 3
        have rl := Hr.out.lt
        have f0 := Hf.out.cell 0
        have f1 := Hf.out.cell 1
        have fl := Hf.out.lt
        have p0 := Hp.out.cell 0
        have p1 := Hp.out.cell 1
        have pl := Hp.out.lt
        simp only [List.getElem?_cons_zero, List.getElem?_cons_succ] at t0 t1 t2 t3 r0 r1 r2 r3 f0 f1 p0 p1
        have rf0 := Hr.out.frozen 0
        have rf1 := Hr.out.frozen 1
        have rf2 := Hr.out.frozen 2
        have rf3 := Hr.out.frozen 3
        have ff0 := Hf.out.frozen 0
        have ff1 := Hf.out.frozen 1
        have Xi := hide xi
        have Xg := hide xg
        have Hown := hide hown
        clear xi xg hown
        go_upto_region 7 with (fail)
        have hS : ExS w (w3.alloc (.cells #[.int .i64 T.facts, .slice AI nI eI, .slice AG nG eG, .slice O nO oc] 25)) T [.int .i64 T.facts, .slice I nI cI, .slice G nG cG, .slice Oo nO cO] ⟨gT, w3.heap.size, Bc, w2.heap.size, AI, nI, eI, AG, nG, eG⟩ (nO + 0) O oc vs T.ops := by
          have hb := (Below.refl w3.heap.size w3).alloc (Nat.le_refl _) (.cells #[.int .i64 T.facts, .slice AI nI eI, .slice AG nG eG, .slice O nO oc] 25)
          refine ⟨Ht.out.keep hb, Hr.out.keep hb, Hf.out.keep hb, Blk.new w3 25 [.int .i64 T.facts, .slice AI nI eI, .slice AG nG eG, .slice O nO oc], Hbl.out.trans (hb.mono Hbl.out.size), (Hown.out.keep hb).less (fun i hi e => ?_), fun r hr e => ?_, Xi.out.keep hb, Xg.out.keep hb, ?_, hq1, hB1, hB2⟩
          · rcases e with e | e | e | e
            · exact .inl e
            · exact .inr (.inl e)
            · exact .inr (.inr (by show w3.heap.size ≤ i; simp only at e; omega))
            · exact .inr (.inr (by simp at e; omega))
          · have := (Hown.out.base hr).2
            simp only at e
            omega
          · show gT = w.heap.size
            exact HgT.out.trans HB0.out
        obtain ⟨w4, hW⟩ : ∃ W, W = w3.alloc (.cells #[.int .i64 T.facts, .slice AI nI eI, .slice AG nG eG, .slice O nO oc] 25) := ⟨_, rfl⟩
        rw [← hW] at hS ⊢
        have hX1 : Bc ≤ w3.heap.size := hB2
        clear hW Ht Hr Hf Hp Xi Xg Hown
        clear t0 t1 t2 t3 r0 r1 r2 r3 f0 f1 p0 p1 tl rl fl pl
        clear rf0 rf1 rf2 rf3 ff0 ff1
        generalize w3.heap.size = gX at hS hX1 ⊢
        generalize w2.heap.size = Bl at hS hB1 hq1
        have HS := hide hS
        have Hst := hide (show extendR T ms = extLoop T T.ops 0 ms by unfold extendR; rw [Hq.out, if_neg (by simp), if_neg (by rw [Hll.out, HlO.out]; omega)])
        clear hS Hbl
        go_wp2_with fail
        go_loopw [38] (fun i wr => ∃ (k : Nat) (O : Option Addr) (oc : Nat) (vs : List Value) (os : List Opr), k ≤ m ∧ i = .int .i64 k ∧ ExS w wr T [.int .i64 T.facts, .slice I nI cI, .slice G nG cG, .slice Oo nO cO] ⟨gT, gX, Bc, Bl, AI, nI, eI, AG, nG, eG⟩ (nO + k) O oc vs os ∧ extendR T ms = extLoop T os k (ms.drop k)) (fun i _ => m - (intOf i).toNat)
        case atStart => exact ⟨0, O, oc, vs, T.ops, by omega, rfl, HS.out, by rw [Hst.out]; rfl⟩
        case round =>
          clear HS Hst
          obtain ⟨k, O, oc, vs, os, hk, rfl, hS, hst⟩ := hrel
          have HS := hide hS
          have Hst := hide hst
          clear hS hst
          obtain ⟨c0, c1, c2, c3⟩ := HS.out.par.cell4
          have r0 := HS.out.res.cell 0
          have r1 := HS.out.res.cell 1
          have r2 := HS.out.res.cell 2
          have r3 := HS.out.res.cell 3
          have rf0 := HS.out.res.frozen 0
          have rf1 := HS.out.res.frozen 1
          have rf2 := HS.out.res.frozen 2
          have rf3 := HS.out.res.frozen 3
          have rl := HS.out.res.lt
          have f0 := HS.out.flt.cell 0
          have f1 := HS.out.flt.cell 1
          have ff0 := HS.out.flt.frozen 0
          have ff1 := HS.out.flt.frozen 1
          have fl := HS.out.flt.lt
          obtain ⟨x0, x1, x2, x3⟩ := HS.out.out.cell4
          have xf3 := HS.out.out.frozen 3
          have xl := HS.out.out.lt
          simp only [zeroTask, List.getElem?_cons_zero, List.getElem?_cons_succ] at c0 c1 c2 c3 r0 r1 r2 r3 rf0 rf1 rf2 rf3 rl f0 f1 ff0 ff1 fl x0 x1 x2 x3 xf3 xl
          by_cases hlt : k < m
          · skip
            obtain ⟨b, off, l, A', n', c', rfl, hx, hcx, hrd⟩ := (Hl.out.keep HS.out.low).sl hlt
            have Hx := hide hx
            have hdrop := drop_cons hx
            have Hrl := hide hrd
            rcases hq2 : seqFault T.ops.length l (-20 - (k : Int)) with ⟨sc, si⟩
            have Hq2 := hide hq2
            have hfa := Hfa.out A' n' c' l (-20 - (k : Int)) wr (H.out.keep HS.out.low) hrd
            rw [hq2] at hfa
            have Hfa1 := hide hfa
            have Hdrop := hide hdrop
            have hwr : IntKind.i64.wrap (-20 - (k : Int)) = -20 - (k : Int) := by rw [IntWalk.i64_in _ (by omega)]
            have hsz0 := HS.out.low.size
            clear hx hrd hq2 hfa hdrop
            go_wp2_with fail
            with_reducible refine (Hfa1.out).mono ?_
            rintro e w5 ⟨rfl, hb⟩
            unfold fault
            replace HS := hide (HS.out.keep hb)
            replace Hrl := hide (Hrl.out.keep hb)
            clear hb hcx
            clear c0 c1 c2 c3 r0 r1 r2 r3 rf0 rf1 rf2 rf3 rl f0 f1 ff0 ff1 fl x0 x1 x2 x3 xf3 xl
            obtain ⟨c0, c1, c2, c3⟩ := HS.out.par.cell4
            have r0 := HS.out.res.cell 0
            have r1 := HS.out.res.cell 1
            have r2 := HS.out.res.cell 2
            have r3 := HS.out.res.cell 3
            have rf0 := HS.out.res.frozen 0
            have rf1 := HS.out.res.frozen 1
            have rf2 := HS.out.res.frozen 2
            have rf3 := HS.out.res.frozen 3
            have rl := HS.out.res.lt
            have f0 := HS.out.flt.cell 0
            have f1 := HS.out.flt.cell 1
            have ff0 := HS.out.flt.frozen 0
            have ff1 := HS.out.flt.frozen 1
            have fl := HS.out.flt.lt
            obtain ⟨x0, x1, x2, x3⟩ := HS.out.out.cell4
            have xf3 := HS.out.out.frozen 3
            have xl := HS.out.out.lt
            simp only [zeroTask, List.getElem?_cons_zero, List.getElem?_cons_succ] at c0 c1 c2 c3 r0 r1 r2 r3 rf0 rf1 rf2 rf3 rl f0 f1 ff0 ff1 fl x0 x1 x2 x3 xf3 xl
            go_upto_region 11 with (fail)
            have hs1 : gT + 1 < w5.heap.size := rl
            have hs2 : gT + 1 + 1 < w5.heap.size := fl
            have hs3 : gX < w5.heap.size := xl
            have hys := Blk.new w5 29 [.int .i64 sc, .int .i64 si]
            have hbW : Below w5.heap.size w5 (w5.alloc (.cells #[.int .i64 sc, .int .i64 si] 29)) := (Below.refl _ _).alloc (Nat.le_refl _) _
            obtain ⟨w6, hW⟩ : ∃ W, W = w5.alloc (.cells #[.int .i64 sc, .int .i64 si] 29) := ⟨_, rfl⟩
            rw [← hW] at hys hbW ⊢
            replace HS := hide (HS.out.keep hbW)
            replace Hrl := hide (Hrl.out.keep hbW)
            have Hs := hide hys
            clear hW hbW hys
            generalize w5.heap.size = gs at Hs hs1 hs2 hs3 ⊢
            have s0 := Hs.out.cell 0
            have s1 := Hs.out.cell 1
            have sl := Hs.out.lt
            simp only [List.getElem?_cons_zero, List.getElem?_cons_succ] at s0 s1
            have hsn1 : ¬ gs = gT + 1 := by omega
            have hsn2 : ¬ gT + 1 = gs := by omega
            have hsn3 : ¬ gs = gT + 1 + 1 := by omega
            have hsn4 : ¬ gT + 1 + 1 = gs := by omega
            clear c0 c1 c2 c3 r0 r1 r2 r3 rf0 rf1 rf2 rf3 rl f0 f1 ff0 ff1 fl x0 x1 x2 x3 xf3 xl
            obtain ⟨c0, c1, c2, c3⟩ := HS.out.par.cell4
            have r0 := HS.out.res.cell 0
            have r1 := HS.out.res.cell 1
            have r2 := HS.out.res.cell 2
            have r3 := HS.out.res.cell 3
            have rf0 := HS.out.res.frozen 0
            have rf1 := HS.out.res.frozen 1
            have rf2 := HS.out.res.frozen 2
            have rf3 := HS.out.res.frozen 3
            have rl := HS.out.res.lt
            have f0 := HS.out.flt.cell 0
            have f1 := HS.out.flt.cell 1
            have ff0 := HS.out.flt.frozen 0
            have ff1 := HS.out.flt.frozen 1
            have fl := HS.out.flt.lt
            obtain ⟨x0, x1, x2, x3⟩ := HS.out.out.cell4
            have xf3 := HS.out.out.frozen 3
            have xl := HS.out.out.lt
            simp only [zeroTask, List.getElem?_cons_zero, List.getElem?_cons_succ] at c0 c1 c2 c3 r0 r1 r2 r3 rf0 rf1 rf2 rf3 rl f0 f1 ff0 ff1 fl x0 x1 x2 x3 xf3 xl
            by_cases hsc : sc = 0
            · subst hsc
              obtain ⟨hz, hl1, hl6, hrng⟩ := seqFault_ok (k := T.ops.length) (l := l) (i := -20 - (k : Int)) (by rw [Hq2.out])
              rw [Hq2.out] at hz
              obtain ⟨_, e2⟩ := Prod.mk.inj hz
              subst e2
              rw [Hrl.out.len] at hl1 hl6
              have Hrng := hide hrng
              clear hz hrng
              go_wp2_with fail
              with_reducible refine (Hco.out N A' n' c' l w6 (H.out.keep HS.out.low) Hok.out Hrl.out (by omega) Hrng.out).mono ?_
              rintro e w7 ⟨hb, hcs⟩
              have hxl6 : gX < w6.heap.size := xl
              have hO6 : ∀ r, blkA O = some r → r ≤ w6.heap.size := fun r hr => Nat.le_of_lt (HS.out.own.base hr).2
              replace HS := hide (HS.out.keep hb)
              replace Hs := hide (Hs.out.keep hb)
              clear hb s0 s1 sl
              clear c0 c1 c2 c3 r0 r1 r2 r3 rf0 rf1 rf2 rf3 rl f0 f1 ff0 ff1 fl x0 x1 x2 x3 xf3 xl
              obtain ⟨c0, c1, c2, c3⟩ := HS.out.par.cell4
              have r0 := HS.out.res.cell 0
              have r1 := HS.out.res.cell 1
              have r2 := HS.out.res.cell 2
              have r3 := HS.out.res.cell 3
              have rf0 := HS.out.res.frozen 0
              have rf1 := HS.out.res.frozen 1
              have rf2 := HS.out.res.frozen 2
              have rf3 := HS.out.res.frozen 3
              have rl := HS.out.res.lt
              have f0 := HS.out.flt.cell 0
              have f1 := HS.out.flt.cell 1
              have ff0 := HS.out.flt.frozen 0
              have ff1 := HS.out.flt.frozen 1
              have fl := HS.out.flt.lt
              obtain ⟨x0, x1, x2, x3⟩ := HS.out.out.cell4
              have xf3 := HS.out.out.frozen 3
              have xl := HS.out.out.lt
              simp only [zeroTask, List.getElem?_cons_zero, List.getElem?_cons_succ] at c0 c1 c2 c3 r0 r1 r2 r3 rf0 rf1 rf2 rf3 rl f0 f1 ff0 ff1 fl x0 x1 x2 x3 xf3 xl
              rcases hcs with ⟨hnone, rfl⟩ | ⟨o, A1, n1, c1', A2, n2, c2', A3, n3, c3', hsome, rfl, q1, q2, q3, hso⟩
              · have Hnone := hide hnone
                clear hnone
                go_upto_region 14 with (fail)
                have hv1 : gT + 1 < w7.heap.size := rl
                have hv2 : gT + 1 + 1 < w7.heap.size := fl
                have hv3 : gX < w7.heap.size := xl
                have hyv := Blk.new w7 82 [.slice none 0 0, .slice none 0 0, .slice none 0 0, .int .i64 0]
                have hbW : Below w7.heap.size w7 (w7.alloc (.cells #[.slice none 0 0, .slice none 0 0, .slice none 0 0, .int .i64 0] 82)) := (Below.refl _ _).alloc (Nat.le_refl _) _
                obtain ⟨w8, hW⟩ : ∃ W, W = w7.alloc (.cells #[.slice none 0 0, .slice none 0 0, .slice none 0 0, .int .i64 0] 82) := ⟨_, rfl⟩
                rw [← hW] at hyv hbW ⊢
                replace HS := hide (HS.out.keep hbW)

                have Hv := hide hyv
                clear hW hbW hyv
                generalize w7.heap.size = gv at Hv hv1 hv2 hv3 ⊢
                have v0 := Hv.out.cell 0
                have v1 := Hv.out.cell 1
                have v2 := Hv.out.cell 2
                have v3 := Hv.out.cell 3
                have vl := Hv.out.lt
                simp only [List.getElem?_cons_zero, List.getElem?_cons_succ] at v0 v1 v2 v3
                have hvn1 : ¬ gv = gT + 1 := by omega
                have hvn2 : ¬ gT + 1 = gv := by omega
                have hvn3 : ¬ gv = gT + 1 + 1 := by omega
                have hvn4 : ¬ gT + 1 + 1 = gv := by omega
                clear c0 c1 c2 c3 r0 r1 r2 r3 rf0 rf1 rf2 rf3 rl f0 f1 ff0 ff1 fl x0 x1 x2 x3 xf3 xl
                obtain ⟨c0, c1, c2, c3⟩ := HS.out.par.cell4
                have r0 := HS.out.res.cell 0
                have r1 := HS.out.res.cell 1
                have r2 := HS.out.res.cell 2
                have r3 := HS.out.res.cell 3
                have rf0 := HS.out.res.frozen 0
                have rf1 := HS.out.res.frozen 1
                have rf2 := HS.out.res.frozen 2
                have rf3 := HS.out.res.frozen 3
                have rl := HS.out.res.lt
                have f0 := HS.out.flt.cell 0
                have f1 := HS.out.flt.cell 1
                have ff0 := HS.out.flt.frozen 0
                have ff1 := HS.out.flt.frozen 1
                have fl := HS.out.flt.lt
                obtain ⟨x0, x1, x2, x3⟩ := HS.out.out.cell4
                have xf3 := HS.out.out.frozen 3
                have xl := HS.out.out.lt
                simp only [zeroTask, List.getElem?_cons_zero, List.getElem?_cons_succ] at c0 c1 c2 c3 r0 r1 r2 r3 rf0 rf1 rf2 rf3 rl f0 f1 ff0 ff1 fl x0 x1 x2 x3 xf3 xl
                go_wp2_with fail
                refine bodyPost_ret (v := .tuple #[.agg #[.int .i64 0, .slice none 0 0, .slice none 0 0, .slice none 0 0], fault 11 (-20 - (k : Int))]) (by simp [results, Try.results64, go_sem, fault, r0, r1, r2, r3, f0, f1, rl, fl, hgne1, hgne2]) rfl ?_
                have hres : extendR T ms = (zeroT, 11, (-20 - (k : Int))) := by
                  rw [Hst.out, Hdrop.out]
                  unfold extLoop
                  rw [Hq2.out, if_neg (by simp)]
                  rw [show combF zeroOp (l.map (opAt T.ops)) = none from Hnone.out]
                rw [hres]
                have hB := HB0.out
                refine ext_zero ?_ _ _
                repeat' (first | (with_reducible exact HS.out.low) | (with_reducible refine Below.drew ?_) | (with_reducible refine below_set ?_ ?_ _ _) | omega)
              · have Hsome := hide hsome
                have hc0 := hso
                have Q1 := hide q1
                have Q2 := hide q2
                have Q3 := hide q3
                clear hsome hso q1 q2 q3 hc0
                go_upto_region 14 with (fail)
                have hv1 : gT + 1 < w7.heap.size := rl
                have hv2 : gT + 1 + 1 < w7.heap.size := fl
                have hv3 : gX < w7.heap.size := xl
                have hyv := Blk.new w7 82 [.slice A1 n1 c1', .slice A2 n2 c2', .slice A3 n3 c3', .int .i64 o.cost]
                have hbW : Below w7.heap.size w7 (w7.alloc (.cells #[.slice A1 n1 c1', .slice A2 n2 c2', .slice A3 n3 c3', .int .i64 o.cost] 82)) := (Below.refl _ _).alloc (Nat.le_refl _) _
                obtain ⟨w8, hW⟩ : ∃ W, W = w7.alloc (.cells #[.slice A1 n1 c1', .slice A2 n2 c2', .slice A3 n3 c3', .int .i64 o.cost] 82) := ⟨_, rfl⟩
                rw [← hW] at hyv hbW ⊢
                replace HS := hide (HS.out.keep hbW)
                replace Q1 := hide (Q1.out.keep hbW)
                replace Q2 := hide (Q2.out.keep hbW)
                replace Q3 := hide (Q3.out.keep hbW)
                have Hv := hide hyv
                clear hW hbW hyv
                generalize w7.heap.size = gv at Hv hv1 hv2 hv3 ⊢
                have v0 := Hv.out.cell 0
                have v1 := Hv.out.cell 1
                have v2 := Hv.out.cell 2
                have v3 := Hv.out.cell 3
                have vl := Hv.out.lt
                simp only [List.getElem?_cons_zero, List.getElem?_cons_succ] at v0 v1 v2 v3
                have hvn1 : ¬ gv = gT + 1 := by omega
                have hvn2 : ¬ gT + 1 = gv := by omega
                have hvn3 : ¬ gv = gT + 1 + 1 := by omega
                have hvn4 : ¬ gT + 1 + 1 = gv := by omega
                clear c0 c1 c2 c3 r0 r1 r2 r3 rf0 rf1 rf2 rf3 rl f0 f1 ff0 ff1 fl x0 x1 x2 x3 xf3 xl
                obtain ⟨c0, c1, c2, c3⟩ := HS.out.par.cell4
                have r0 := HS.out.res.cell 0
                have r1 := HS.out.res.cell 1
                have r2 := HS.out.res.cell 2
                have r3 := HS.out.res.cell 3
                have rf0 := HS.out.res.frozen 0
                have rf1 := HS.out.res.frozen 1
                have rf2 := HS.out.res.frozen 2
                have rf3 := HS.out.res.frozen 3
                have rl := HS.out.res.lt
                have f0 := HS.out.flt.cell 0
                have f1 := HS.out.flt.cell 1
                have ff0 := HS.out.flt.frozen 0
                have ff1 := HS.out.flt.frozen 1
                have fl := HS.out.flt.lt
                obtain ⟨x0, x1, x2, x3⟩ := HS.out.out.cell4
                have xf3 := HS.out.out.frozen 3
                have xl := HS.out.out.lt
                simp only [zeroTask, List.getElem?_cons_zero, List.getElem?_cons_succ] at c0 c1 c2 c3 r0 r1 r2 r3 rf0 rf1 rf2 rf3 rl f0 f1 ff0 ff1 fl x0 x1 x2 x3 xf3 xl
                by_cases hbig : 100 < o.cost
                · skip
                  go_wp2_with fail
                  refine bodyPost_ret (v := .tuple #[.agg #[.int .i64 0, .slice none 0 0, .slice none 0 0, .slice none 0 0], fault 10 (-20 - (k : Int))]) (by simp [results, Try.results64, go_sem, fault, r0, r1, r2, r3, f0, f1, rl, fl, hgne1, hgne2]) rfl ?_
                  have hres : extendR T ms = (zeroT, 10, (-20 - (k : Int))) := by
                    rw [Hst.out, Hdrop.out]
                    unfold extLoop
                    rw [Hq2.out, if_neg (by simp)]
                    rw [show combF zeroOp (l.map (opAt T.ops)) = some o from Hsome.out]
                    simp only
                    rw [if_pos hbig]
                  rw [hres]
                  have hB := HB0.out
                  refine ext_zero ?_ _ _
                  repeat' (first | (with_reducible exact HS.out.low) | (with_reducible refine Below.drew ?_) | (with_reducible refine below_set ?_ ?_ _ _) | omega)
                · skip
                  have hnext : extendR T ms = extLoop T (os ++ [o]) (k + 1) (ms.drop (k + 1)) := by
                    rw [Hst.out, Hdrop.out]
                    conv => lhs; unfold extLoop
                    rw [Hq2.out, if_neg (by simp)]
                    rw [show combF zeroOp (l.map (opAt T.ops)) = some o from Hsome.out]
                    simp only
                    rw [if_neg hbig]
                  have Hnext := hide hnext
                  have hcost : I64s o.cost := by
                    have := comb_small Hok.out Hrng.out (by rw [Hrl.out.len]; exact hl6) Hsome.out
                    unfold I64s
                    omega
                  have hfirm := HS.out.firm (X := w6.heap.size) (by show gX ≤ w6.heap.size; omega) hO6 Q1.out Q2.out Q3.out hcost
                  have Hfirm := hide hfirm
                  clear hnext hfirm hcost
                  go_wp2_with
                    (at_builtin
                     refine wpList_pushE rfl _ _ 23 rfl Bc 82 i1 _ 80 Try.underlying23 hi1 hy0 hy1 hy2 rfl (by decide) rfl HS.out.own (fun r hr => .inl hr) [.slice A1 n1 c1', .slice A2 n2 c2', .slice A3 n3 c3', .int .i64 o.cost] o (by intro u hu; simp at hu; rcases hu with hu | hu | hu | hu <;> subst hu <;> rfl) rfl Hfirm.out (by omega) (by omega) (by omega) ?_
                     intro O6 oc6 w9 hown6 hch6 hat6
                     have hs9 := HS.out.push hown6 hch6 hat6
                     have Hs9 := hide hs9
                     have hx9 := hch6.blk HS.out.out (fun e => HS.out.ne _ e rfl)
                     clear c0 c1 c2 c3 r0 r1 r2 r3 rf0 rf1 rf2 rf3 rl f0 f1 ff0 ff1 fl x0 x1 x2 x3 xf3 xl hown6 hch6 hat6 hs9
                     have x3 := hx9.cell 3
                     have xf3 := hx9.frozen 3
                     have xl := hx9.lt
                     simp only [List.getElem?_cons_zero, List.getElem?_cons_succ] at x3 xf3 xl
                     clear hx9)
                  go_roundw
                  case rel => exact ⟨k + 1, O6, oc6, _, os ++ [o], by omega, by go_num, Hs9.out, Hnext.out⟩
                  case measure => simp [intOf]; omega
            · have hne : (sc != 0) = true := by simpa using hsc
              go_wp2_with fail
              go_region
              all_goals go_wp2_with fail
              all_goals refine bodyPost_ret (v := .tuple #[.agg #[.int .i64 0, .slice none 0 0, .slice none 0 0, .slice none 0 0], fault sc si]) (by simp [results, Try.results64, go_sem, fault, r0, r1, r2, r3, f0, f1, rl, fl, hgne1, hgne2]) rfl ?_
              have hres : extendR T ms = (zeroT, sc, si) := by
                rw [Hst.out, Hdrop.out]
                unfold extLoop
                rw [Hq2.out, if_pos hsc]
              rw [hres]
              have hB := HB0.out
              refine ext_zero ?_ _ _
              repeat' (first | (with_reducible exact HS.out.low) | (with_reducible refine Below.drew ?_) | (with_reducible refine below_set ?_ ?_ _ _) | omega)
          · obtain rfl : k = m := by omega
            have hres : extendR T ms = (⟨T.facts, T.init, T.goal, os⟩, 0, 0) := by
              rw [Hst.out, List.drop_of_length_le (by rw [Hll.out]; omega)]
              rfl
            have Hres := hide hres
            clear hres
            go_wp2_with fail
            refine bodyPost_ret (v := .tuple #[.agg #[.int .i64 T.facts, .slice AI nI eI, .slice AG nG eG, .slice O (nO + k) oc], fault 0 0]) (by simp [results, Try.results64, go_sem, fault, r0, r1, r2, r3, f0, f1, rl, fl, hgne1, hgne2]) rfl ?_
            rw [Hres.out]
            refine HS.out.done H.out.facts ?_
            exact ((((((Chg.set _ (gT + 1) 0 _).trans (Chg.set _ (gT + 1) 1 _)).trans (Chg.set _ (gT + 1) 2 _)).trans (Chg.set _ (gT + 1) 3 _)).mono (M' := fun b => b = gT + 1 ∨ b = gT + 1 + 1) (fun b e => .inl e)).trans (((Chg.set _ (gT + 1 + 1) 0 _).trans (Chg.set _ (gT + 1 + 1) 1 _)).mono (fun b e => .inr e)))
  · have hne : (ec != 0) = true := by simpa using hec
    go_wp2_with fail
    go_region
    all_goals go_wp2_with fail
    all_goals refine bodyPost_ret (v := .tuple #[.agg #[.int .i64 0, .slice none 0 0, .slice none 0 0, .slice none 0 0], fault ec ei]) (by simp [results, Try.results64, go_sem, fault, r0, r1, r2, r3, f0, f1, rl, fl, hgne1, hgne2]) rfl ?_
    have hres : extendR T ms = (zeroT, ec, ei) := by
      unfold extendR
      rw [Hq.out, if_pos hec]
    rw [hres]
    have hB := HB0.out
    refine ext_zero ?_ _ _
    repeat' (first | (with_reducible exact Hbl.out) | (with_reducible refine Below.drew ?_) | (with_reducible refine below_set ?_ ?_ _ _) | omega)
end Go.Proofs.Ytliggcmohcdchaa
namespace Go.Proofs.Ytliggcmohcdchaa
set_option linter.unusedVariables false
set_option linter.unusedSimpArgs false
open Go.RowKit
/-- the fault of a plan over k operators -/
def stepsFault (k : Nat) (l : List Int) : Int × Int := if 60 < l.length then (2, -5) else if l.any (outB k) = true then (3, -6) else (0, 0)
theorem any_succ {p : Int → Bool} {l : List Int} {k : Nat} {x : Int} (h : (l.take k).any p = false) (hx : l[k]? = some x) (hp : p x = false) : (l.take (k + 1)).any p = false := by
  rw [List.take_add_one, List.any_append, h, hx]
  simp [hp]
set_option maxRecDepth 100000 in
set_option maxHeartbeats 1600000 in
theorem Steps_ct (n : Nat) (A : Option Addr) (m c : Nat) (l : List Int) (w : World) (h : Rd Enc.int w A m c l) (hn : n ≤ 9223372036854775807) :
    Calls Try.prog 100 #[.int .i64 n, .slice A m c] w (Gives w (fault (stepsFault n l).1 (stepsFault n l).2)) := by
  have hsm := h.low
  have hX := Blk.new w 29 [.int .i64 0, .int .i64 0]
  have y0 := hX.cell 0
  have y1 := hX.cell 1
  have y2 := hX.frozen 0
  have y3 := hX.frozen 1
  simp only [List.getElem?_cons_zero, List.getElem?_cons_succ] at y0 y1
  have hbw : Below w.heap.size w (w.alloc (.cells #[.int .i64 0, .int .i64 0] 29)) := (Below.refl _ _).alloc (Nat.le_refl _) _
  have Hbw := hide hbw
  have Hl := hide h.len
  have H := hide (h.keep hbw)
  clear h hbw hX
  by_cases h1 : 60 < m
  · have hres : stepsFault n l = (2, -5) := by unfold stepsFault; rw [Hl.out, if_pos h1]
    rw [hres]
    clear hres
    go_enter Try.func100, Try.ntmps100
    go_wp2_with fail
    exact bodyPost_ret (v := fault 2 (-5)) (by simp [results, Try.results100, go_sem, fault]) rfl ⟨rfl, (Below.refl _ _).alloc (Nat.le_refl _) _⟩
  · have hres : stepsFault n l = if l.any (outB n) = true then (3, -6) else (0, 0) := by unfold stepsFault; rw [Hl.out, if_neg h1]
    have Hres := hide hres
    clear hres
    go_enter Try.func100, Try.ntmps100
    go_upto_region 3 with (fail)
    obtain ⟨W0, hW0⟩ : ∃ W0, W0 = w.alloc (.cells #[.int .i64 0, .int .i64 0] 29) := ⟨_, rfl⟩
    rw [← hW0] at H Hbw y0 y1 y2 y3 ⊢
    clear hW0
    obtain ⟨gb, hgb⟩ : ∃ gb, gb = w.heap.size := ⟨_, rfl⟩
    rw [← hgb] at y0 y1 y2 y3 ⊢
    have Hgb := hide hgb
    clear hgb
    go_wp2_with fail
    go_loop [13] (fun i => ∃ k : Nat, k ≤ m ∧ i = .int .i64 k ∧ (l.take k).any (outB n) = false) (fun i => m - (intOf i).toNat)
    case atStart => exact ⟨0, by omega, rfl, by simp⟩
    case round =>
      obtain ⟨k, hk, rfl, hset⟩ := hrel
      have Hset := hide hset
      clear hset
      by_cases hlt : k < m
      · obtain ⟨b, off, x, rfl, hx, hx1, hx2, hcx⟩ := H.out.int hlt
        have Hx := hide hx
        clear hx
        have hbad : outB n x = true → stepsFault n l = (3, -6) := fun hb => by
          rw [Hres.out, if_pos (List.any_eq_true.2 ⟨x, List.mem_of_getElem? Hx.out, hb⟩)]
        have Hbad := hide hbad
        clear hbad
        by_cases h0 : x < 0
        · have hres := Hbad.out (by unfold outB; rw [decide_eq_true_iff]; omega)
          have Hr := hide hres
          clear hres
          go_wp2_with fail
          exact bodyPost_ret (v := fault 3 (-6)) (by simp [results, Try.results100, go_sem, fault, y0, y1]) rfl ⟨by rw [Hr.out], below_res2 Hbw.out (by have := Hgb.out; omega) _ _⟩
        · by_cases h2 : (n : Int) ≤ x
          · have hres := Hbad.out (by unfold outB; rw [decide_eq_true_iff]; omega)
            have Hr := hide hres
            clear hres
            go_wp2_with fail
            exact bodyPost_ret (v := fault 3 (-6)) (by simp [results, Try.results100, go_sem, fault, y0, y1]) rfl ⟨by rw [Hr.out], below_res2 Hbw.out (by have := Hgb.out; omega) _ _⟩
          · go_wp2_with fail
            go_round
            case rel => exact ⟨k + 1, by omega, by go_num, any_succ Hset.out Hx.out (by unfold outB; rw [decide_eq_false_iff_not]; omega)⟩
            case measure => simp [intOf]; omega
      · obtain rfl : k = m := by omega
        have hres := Hres.out
        have hs := Hset.out
        rw [List.take_of_length_le (by rw [Hl.out]; omega)] at hs
        rw [hs, if_neg (by simp)] at hres
        have Hr := hide hres
        clear hres hs
        go_wp2_with fail
        exact bodyPost_ret (v := fault 0 0) (by simp [results, Try.results100, go_sem, fault, y0, y1]) rfl ⟨by rw [Hr.out], below_res2 Hbw.out (by have := Hgb.out; omega) _ _⟩
end Go.Proofs.Ytliggcmohcdchaa
namespace Go.Proofs.Ytliggcmohcdchaa
set_option linter.unusedVariables false
set_option linter.unusedSimpArgs false
open Go.RowKit
theorem extLoop_ok {T : Tsk} : ∀ (ms : List (List Int)) (os : List Opr) (i : Nat), (extLoop T os i ms).2.1 = 0 → (extLoop T os i ms).2 = (0, 0) ∧ (extLoop T os i ms).1.ops.length = os.length + ms.length ∧ ∀ l ∈ ms, l.length ≤ 6 := by
  intro ms
  induction ms with
  | nil => intro os i h; exact ⟨rfl, rfl, fun l hl => by cases hl⟩
  | cons l ms ih =>
    intro os i h
    unfold extLoop at h ⊢
    by_cases h1 : (seqFault T.ops.length l (-20 - (i : Int))).1 ≠ 0
    · rw [if_pos h1] at h
      exact absurd h h1
    · rw [if_neg h1] at h ⊢
      have h2 := seqFault_ok (k := T.ops.length) (l := l) (i := -20 - (i : Int)) (by simpa using h1)
      cases hc : combF zeroOp (l.map (opAt T.ops)) with
      | none => rw [hc] at h; simp at h
      | some o =>
        rw [hc] at h
        simp only at h ⊢
        by_cases h3 : 100 < o.cost
        · rw [if_pos h3] at h; simp at h
        · rw [if_neg h3] at h ⊢
          obtain ⟨e1, e2, e3⟩ := ih _ _ h
          refine ⟨e1, by rw [e2, List.length_append, List.length_cons]; simp; omega, fun q hq => ?_⟩
          rcases List.mem_cons.1 hq with rfl | hq
          · exact h2.2.2.1
          · exact e3 q hq
theorem extend_ok {T : Tsk} {ms : List (List Int)} (h : (extendR T ms).2.1 = 0) : (extendR T ms).2 = (0, 0) ∧ (extendR T ms).1.ops.length = T.ops.length + ms.length ∧ ms.length ≤ 8 ∧ (∀ l ∈ ms, l.length ≤ 6) ∧ T.ops.length ≤ 40 := by
  unfold extendR at h ⊢
  by_cases h1 : (taskFault T).1 ≠ 0
  · rw [if_pos h1] at h
    exact absurd h h1
  · rw [if_neg h1] at h ⊢
    by_cases h2 : 8 < ms.length ∨ 40 < T.ops.length + ms.length
    · rw [if_pos h2] at h; simp at h
    · rw [if_neg h2] at h ⊢
      obtain ⟨e1, e2, e3⟩ := extLoop_ok ms T.ops 0 h
      exact ⟨e1, e2, by omega, e3, by omega⟩
/-- what Expand answers -/
def expandR (T : Tsk) (ms : List (List Int)) (l : List Int) : List Int × Int × Int :=
  if (extendR T ms).2.1 ≠ 0 then ([], (extendR T ms).2) else
  if (stepsFault (extendR T ms).1.ops.length l).1 ≠ 0 then ([], stepsFault (extendR T ms).1.ops.length l) else
  if 60 < (expandF T.ops.length ms l).length then ([], 10, -9) else (expandF T.ops.length ms l, 0, 0)
theorem steps_ok {n : Nat} {l : List Int} (h : (stepsFault n l).1 = 0) : stepsFault n l = (0, 0) ∧ l.length ≤ 60 ∧ ∀ x ∈ l, 0 ≤ x ∧ x < n := by
  unfold stepsFault at h ⊢
  by_cases h1 : 60 < l.length
  · rw [if_pos h1] at h; simp at h
  · rw [if_neg h1] at h ⊢
    by_cases h2 : l.any (outB n) = true
    · rw [if_pos h2] at h; simp at h
    · rw [if_neg h2]
      refine ⟨rfl, by omega, fun x hx => ?_⟩
      have := List.any_eq_false.1 (by simpa using h2) x hx
      unfold outB at this
      simp at this
      omega
def ExpandP (w : World) (r : List Int × Int × Int) (e : Ending) (w' : World) : Prop :=
  Below w.heap.size w w' ∧ ∃ (A : Option Addr) (n c : Nat), e = .returned (.tuple #[.slice A n c, fault r.2.1 r.2.2]) ∧ ∀ w'', Chg (fun b => b < w.heap.size) w' w'' → Rd Enc.int w'' A n c r.1
theorem expandP_nil {w w' : World} (h : Below w.heap.size w w') (c i : Int) : ExpandP w ([], c, i) (.returned (.tuple #[.slice none 0 0, fault c i])) w' := ⟨h, none, 0, 0, rfl, fun _ _ => Rd.nil_ _ _⟩
end Go.Proofs.Ytliggcmohcdchaa
namespace Go.Proofs.Ytliggcmohcdchaa
set_option linter.unusedVariables false
set_option linter.unusedSimpArgs false
open Go.RowKit
set_option maxRecDepth 100000 in
set_option maxHeartbeats 6400000 in
theorem Extend_ct (a : TA) (T : Tsk) (B : Option Addr) (m d : Nat) (ms : List (List Int)) (w : World) (h : TkR w a T) (hl : Rd (Enc.sl Enc.int) w B m d ms) :
    Calls Try.prog 28 #[.agg #[.int .i64 T.facts, .slice a.I a.nI a.cI, .slice a.G a.nG a.cG, .slice a.O a.nO a.cO], .slice B m d] w (ExtP w (extendR T ms)) := by
  obtain ⟨I, nI, cI, G, nG, cG, Oo, nO, cO⟩ := a
  have hex := extend_ct ⟨I, nI, cI, G, nG, cG, Oo, nO, cO⟩ T B m d ms
  simp only at hex ⊢
  obtain ⟨r, hr⟩ : ∃ r, r = extendR T ms := ⟨_, rfl⟩
  rw [← hr] at hex ⊢
  clear hr
  obtain ⟨⟨T0, T1, T2, T3⟩, rc, ri⟩ := r
  have H := hide h
  have Hl := hide hl
  have Hex := hide hex
  clear hex h hl
  have Hbl := hide (Below.refl w.heap.size w)
  go_enter Try.func28, Try.ntmps28
  go_upto_region 1 with (fail)
  obtain ⟨B0, hB0⟩ : ∃ B0, B0 = w.heap.size := ⟨_, rfl⟩
  have hgR0 : B0 ≤ w.heap.size + 1 := by omega
  have hgF0 : B0 ≤ w.heap.size + 1 + 1 := by omega
  have hgT0 : w.heap.size = B0 := by omega
  have HgT := hide hgT0
  have HB0 := hide hB0
  clear hB0 hgT0
  have hyt := Blk.new (w) 25 [.int .i64 T.facts, .slice I nI cI, .slice G nG cG, .slice Oo nO cO]
  have hyr := Blk.new ((w).alloc (.cells #[.int .i64 T.facts, .slice I nI cI, .slice G nG cG, .slice Oo nO cO] 25)) 25 [.int .i64 0, .slice none 0 0, .slice none 0 0, .slice none 0 0]
  replace hyt := hyt.alloc (.cells #[.int .i64 0, .slice none 0 0, .slice none 0 0, .slice none 0 0] 25)
  have hyf := Blk.new (((w).alloc (.cells #[.int .i64 T.facts, .slice I nI cI, .slice G nG cG, .slice Oo nO cO] 25)).alloc (.cells #[.int .i64 0, .slice none 0 0, .slice none 0 0, .slice none 0 0] 25)) 29 [.int .i64 0, .int .i64 0]
  replace hyt := hyt.alloc (.cells #[.int .i64 0, .int .i64 0] 29)
  replace hyr := hyr.alloc (.cells #[.int .i64 0, .int .i64 0] 29)
  have hbW := below_three w (.cells #[.int .i64 T.facts, .slice I nI cI, .slice G nG cG, .slice Oo nO cO] 25) (.cells #[.int .i64 0, .slice none 0 0, .slice none 0 0, .slice none 0 0] 25) (.cells #[.int .i64 0, .int .i64 0] 29)
  simp only [World.size_alloc] at hyr hyf
  obtain ⟨w0, hW⟩ : ∃ W, W = (((w).alloc (.cells #[.int .i64 T.facts, .slice I nI cI, .slice G nG cG, .slice Oo nO cO] 25)).alloc (.cells #[.int .i64 0, .slice none 0 0, .slice none 0 0, .slice none 0 0] 25)).alloc (.cells #[.int .i64 0, .int .i64 0] 29) := ⟨_, rfl⟩
  rw [← hW] at hyt hyr hyf hbW ⊢
  replace Hbl := hide (Hbl.out.trans (hbW.mono Hbl.out.size))
  have Ht := hide hyt
  have Hr := hide hyr
  have Hf := hide hyf
  clear hW hbW hyt hyr hyf
  generalize w.heap.size = gT at Ht Hr Hf hgR0 hgF0 HgT ⊢
  have t0 := Ht.out.cell 0
  have t1 := Ht.out.cell 1
  have t2 := Ht.out.cell 2
  have t3 := Ht.out.cell 3
  have tl := Ht.out.lt
  have r0 := Hr.out.cell 0
  have r1 := Hr.out.cell 1
  have r2 := Hr.out.cell 2
  have r3 := Hr.out.cell 3
  have rl := Hr.out.lt
  have f0 := Hf.out.cell 0
  have f1 := Hf.out.cell 1
  have fl := Hf.out.lt
  simp only [List.getElem?_cons_zero, List.getElem?_cons_succ] at t0 t1 t2 t3 r0 r1 r2 r3 f0 f1
  have hgne1 : ¬ gT + 1 = gT + 1 + 1 := by omega
  have hgne2 : ¬ gT + 1 + 1 = gT + 1 := by omega
  have hW1 : gT + 1 + 1 < w0.heap.size := fl
  have hW0 : w.heap.size < w0.heap.size := by have h1 := HgT.out; have h2 := HB0.out; omega
  go_wp2_with fail
  with_reducible refine (Hex.out w0 (H.out.keep Hbl.out) (Hl.out.keep Hbl.out)).mono ?_
  rintro e w1 ⟨hb, ⟨J1, j1, k1, J2, j2, k2, J3, j3, k3⟩, rfl, htk⟩
  clear t0 t1 t2 t3 r0 r1 r2 r3 f0 f1 tl rl fl
  replace Ht := hide (Ht.out.keep hb)
  replace Hr := hide (Hr.out.keep hb)
  replace Hf := hide (Hf.out.keep hb)
  replace Hbl := hide (Hbl.out.trans (hb.mono Hbl.out.size))
  clear hb
  have Htk := hide htk
  clear htk
  unfold taskV fault
  simp only
  have t0 := Ht.out.cell 0
  have t1 := Ht.out.cell 1
  have t2 := Ht.out.cell 2
  have t3 := Ht.out.cell 3
  have tl := Ht.out.lt
  have r0 := Hr.out.cell 0
  have r1 := Hr.out.cell 1
  have r2 := Hr.out.cell 2
  have r3 := Hr.out.cell 3
  have rl := Hr.out.lt
  have f0 := Hf.out.cell 0
  have f1 := Hf.out.cell 1
  have fl := Hf.out.lt
  simp only [List.getElem?_cons_zero, List.getElem?_cons_succ] at t0 t1 t2 t3 r0 r1 r2 r3 f0 f1
  have rf0 := Hr.out.frozen 0
  have rf1 := Hr.out.frozen 1
  have rf2 := Hr.out.frozen 2
  have rf3 := Hr.out.frozen 3
  have ff0 := Hf.out.frozen 0
  have ff1 := Hf.out.frozen 1
  go_wp2_with fail
  refine bodyPost_ret (v := .tuple #[.agg #[.int .i64 T0, .slice J1 j1 k1, .slice J2 j2 k2, .slice J3 j3 k3], fault rc ri]) (by simp [results, Try.results28, go_sem, fault, r0, r1, r2, r3, f0, f1, rl, fl, hgne1, hgne2]) rfl ?_
  have hB := HB0.out
  refine ⟨?_, ⟨J1, j1, k1, J2, j2, k2, J3, j3, k3⟩, rfl, ?_⟩
  · repeat' (first | (with_reducible exact Hbl.out) | (with_reducible refine Below.drew ?_) | (with_reducible refine below_set ?_ ?_ _ _) | omega)
  · intro w2 hk
    have hlt : w.heap.size < w0.heap.size := hW0
    have hgt : gT + 1 + 1 < w0.heap.size := hW1
    have hB1 := HgT.out
    refine Htk.out w2 (Chg.trans ?_ (hk.mono fun b e => by omega))
    exact ((((((Chg.set _ (gT + 1) 0 _).trans (Chg.set _ (gT + 1) 1 _)).trans (Chg.set _ (gT + 1) 2 _)).trans (Chg.set _ (gT + 1) 3 _)).mono (M' := fun b => b < w0.heap.size) (fun b e => by omega)).trans (((Chg.set _ (gT + 1 + 1) 0 _).trans (Chg.set _ (gT + 1 + 1) 1 _)).mono (fun b e => by omega)))
end Go.Proofs.Ytliggcmohcdchaa
