/- The law HierarchyPlanMatchesSpec of the package hierarchy holds, without a condition., part 17: Sw11 Ra. -/
import Derived.Test.YtmjiiddncbhgpaaGreatF1
import Derived.Test.YtmjiiddncbhgpaaGreatF2
import Derived.Test.YtmjiiddncbhgpaaGreatF3
import Derived.Test.YtmjiiddncbhgpaaGreatF4
import Derived.Test.YtmjiiddncbhgpaaGreatF5
import Derived.Test.YtmjiiddncbhgpaaGreatF13
import Derived.Test.YtmjiiddncbhgpaaGreatF14
import Derived.Test.YtmjiiddncbhgpaaGreatF15
import Derived.BigQuiet
import Derived.Deep.AppendLies
import Derived.Deep.DeepCutAuto
import Derived.Deep.Draws
import Derived.Deep.Fields
import Derived.Deep.LoopGhost
import Derived.Deep.QuietTactic
import Derived.Deep.RegionHeld3
import Derived.Deep.Slices
import Derived.Ground.Names2Prog
import Derived.Ground.SlgnProg
import Derived.Ground.SlsfProg
import Derived.IntWalk
import Derived.Laws.AppendOwnNone
import Derived.Laws.BitsAllLaws
import Derived.Laws.OwnMore
import Derived.Lib.Hide
import Derived.Lib.SlicesCompact
import Derived.Maps.AppendAt
import Derived.Shelf.Slices.Cells
import Derived.Shelf.Slices.Clone
import Derived.Shelf.Slices.CompactI
import Derived.Shelf.Slices.Empties
import Derived.Shelf.Slices.In.SortNone
import Derived.Shelf.Slices.SearchI
import Derived.Shelf.Sort.Plain
import Derived.Sort.OwnSortedInts
import Derived.Test.YtmjiiddncbhgpaaGreatProg
import Derived.WalkKit
namespace Go.Proofs.YtmjiiddncbhgpaaGreat
set_option linter.unusedVariables false
set_option linter.unusedSimpArgs false
open Go.RowKit
theorem mkInfo : (Tryz.prog.info? 220).map (fun i => (i.zero, i.size, i.bytes)) = some (some (.agg #[.int .u32 0, .int .u32 0, .int .u32 0, .int .i64 0]), 4, 24) := by kernel_rfl
theorem mk_ok {N : Nat} {o : Opr} (hN : N ≤ 24) (h : OkOp N o) : MkOk (mkOp o) := by
  have hs : ∀ {l : List Int}, setB N l = true → wordF l < 4294967296 := fun hl => word_lt fun x hx => by
    have := (setB_iff.1 hl).2 x hx
    exact ⟨this.1, by omega⟩
  exact ⟨hs h.pre, hs h.add, hs h.del, h.low, h.high⟩
theorem set_range {N : Nat} {l : List Int} (hN : N ≤ 24) (h : setB N l = true) : ∀ x ∈ l, 0 ≤ x ∧ x < 32 := fun x hx => by
  have := (setB_iff.1 h).2 x hx
  exact ⟨this.1, by omega⟩
theorem firm_mk {M : Nat → Prop} {w : World} {m : Mk} (h : MkOk m) : Firm Enc.mop M w (mkCells m) m := fun _ _ => ⟨rfl, h⟩
theorem takeS {P : Program} {md : Region.Mode} {ops : Array Oper} {Q : Exit → Act → World → Prop} {S : World → Prop} {i : Nat} {oi : Oper} {v : Value} {fuel : Nat} {listed : Array Bool} {a : Act} {w : World} (d : Option Tmp) (hi : ops[i]? = some oi) (hd : oi.dst = d)
    (hs : Region.noSelect ops = true) (hf : Region.free md ops listed i = true) (hr : (Region.ready md ops listed).contains i = true)
    (hQ : ∀ c a w, Q (.panic c) (a.put d v) w → Q (.panic c) a w) (hy : YieldsIf P ops S oi v a) (hS : S w)
    (h : wpAnyH P md ops Q S fuel (listed.setIfInBounds i true) (a.put d v) w) : wpAnyH P md ops Q S (fuel + 1) listed a w := by
  subst hd
  exact wpAnyH_take hi hs hf hr hQ hy hS h
/-- one element more in a region that draws -/
theorem step_pushS {α : Type} {E : Enc α} {P : Program} {w : World} {ops : Array Oper} {o : Oper} {a : Act} {K : Act → World → Prop} {Q : Exit → Act → World → Prop} {X : Prop} (hgd : o.guard = none) (s x : Operand) (t : TypeId)
    (ho : o.op = .call { callee := .builtin .append, args := #[s, x], argTypes := #[t, t] })
    (base : Nat) (e : TypeId) (i : TypeInfo) (z : Value) (bytes : Nat) (ht : P.underlying t = some (.slice e)) (hi : P.info? e = some i) (hz : i.zero = some z)
    (hsize : i.size = E.size) (hby : i.bytes = bytes) (hzs : z.cells.size = E.size) (hsz : 0 < E.size)
    {A : Option Addr} {n c : Nat} {M : Nat → Prop} {vs : List Value} {xs : List α} (hs : a.eval s = .slice A n c) (hown : OwnE E e base M w A n c vs xs) (hA : ∀ r, blkA A = some r → M r)
    (us : List Value) (y : α) (h1 : ∀ u ∈ us, u.oneCell' = true) (hx : a.eval x = .slice (some ⟨w.heap.size, 0, none⟩) 1 1) (hf : Firm E M w us y)
    (h63 : n + 1 ≤ 1000000000000) (hbytes : (n + 1) * bytes ≤ 140737488355328) (hbase : base ≤ w.heap.size)
    (h : ∀ O oc w', OwnE E e base (fun b => M b ∨ w.heap.size ≤ b) w' O (n + 1) oc (vs ++ us) (xs ++ [y]) → Chg (fun b => blkA A = some b) w w' → (blkA O = blkA A ∨ blkA O = some (w.heap.size + 1)) → K (a.put o.dst (.slice O (n + 1) oc)) w') :
    if Region.wanted o (yielded ops a.tmps) = true then Oper.wp P o a (w.alloc (.cells us.toArray e)) K Q else X := by
  have hus : us.length = E.size := E.len hf.ok
  have hw : Region.wanted o (yielded ops a.tmps) = true := by simp [Region.wanted, hgd]
  rw [if_pos hw]
  obtain ⟨g, cap', w', hr, h2, h3, h4, h5⟩ := run_append_lies (P := P) (w := w.alloc (.cells us.toArray e)) t o.type base e i z E.size bytes ht hi hz hsize hby hzs hsz _ n vs (hown.own.alloc _) ⟨w.heap.size, 0, none⟩ 1 1 us (by omega) (by
    intro j u hj
    rw [add_plain, Nat.zero_add]
    have := (Blk.new w e us).cell j
    rw [hj] at this
    exact this) h1 (by omega) (by unfold maxLen; omega) hbytes (by simp; omega) (w.heap.size + 1) (by simp)
  unfold Oper.wp execOp
  simp only [ho, resolve, invoke, builtin, Sem.run_bind, Sem.run_pure, Result.andThen_ok, List.map_toArray, List.map_cons, List.map_nil, hs, hx, hr]
  have hg : (w.alloc (.cells us.toArray e)).grownBy w' (blkA A) := by rw [← own_blkA A n c]; exact h3
  have hch : Chg (fun b => blkA A = some b) w w' := (Chg.of_below ((Below.refl w.heap.size w).alloc (Nat.le_refl _) (.cells us.toArray e)) _).trans (Chg.of_grown hg)
  refine h (some ⟨g, 0, none⟩) cap' w' ⟨h2, by rw [List.length_append, hown.len]; rfl, fun j u hj => ?_⟩ hch ?_
  · rcases Nat.lt_or_ge j n with hjn | hjn
    · rw [List.getElem?_append_left (by rw [hown.len]; exact hjn)] at hj
      obtain ⟨us', e1, e2⟩ := hown.elem j u hj
      refine ⟨us', fun k v hk => ?_, e2.chg (hch.mono hA)⟩
      have := e1 k v hk
      rw [List.getElem?_append_left (List.getElem?_eq_some_iff.1 this).1]
      exact this
    · rw [List.getElem?_append_right (by rw [hown.len]; exact hjn), hown.len] at hj
      have hjn2 : j = n := by
        have := (List.getElem?_eq_some_iff.1 hj).1
        simp at this
        omega
      subst hjn2
      simp at hj
      subst hj
      refine ⟨us, fun k v hk => ?_, hf.chg (hch.mono hA)⟩
      rw [List.getElem?_append_right (by rw [hown.vlen]; omega), hown.vlen, Nat.add_sub_cancel_left]
      exact hk
  · rw [own_blkA] at h4
    rcases h4 with h4 | h4
    · exact .inl h4.symm
    · exact .inr (by rw [h4]; rfl)

/-- a fresh space -/
def OfP (w : World) (T : Tsk) (e : Ending) (w' : World) : Prop :=
  Below w.heap.size w w' ∧ ∃ g, e = .returned (.pointer (some ⟨g, 0, none⟩)) ∧ w.heap.size ≤ g ∧ g < w'.heap.size ∧ ∀ w'', Chg (fun b => b < w.heap.size) w' w'' → WordsR w'' g (wordF T.init) (wordF T.goal) (T.ops.map mkOp)
set_option maxRecDepth 100000 in
set_option maxHeartbeats 16000000 in
theorem Of_ct (a : TA) (T : Tsk) (N : Nat) (w : World) (h : TkR w a T) (hok : OkT T N) :
    Calls Tryz.prog 95 #[.agg #[.int .i64 T.facts, .slice a.I a.nI a.cI, .slice a.G a.nG a.cG, .slice a.O a.nO a.cO]] w (OfP w T) := by
  obtain ⟨I, nI, cI, G, nG, cG, O, nO, cO⟩ := a
  simp only at h ⊢
  obtain ⟨i1, hi1, hy0, hy1, hy2⟩ := info_parts mkInfo
  have hN := hok.low
  have hlo := h.ops.low
  have hlO := h.ops.len
  have h40 := hok.few
  simp only at hlo hlO
  have hnO : nO ≤ 40 := by rw [← hlO]; exact h40
  have hwI : wordF T.init < 4294967296 := word_lt (set_range hN hok.init)
  have hwG : wordF T.goal < 4294967296 := word_lt (set_range hN hok.goal)
  have hW1 := fun W hb => Word_ct I nI cI T.init W (h.init.keep hb) (set_range hN hok.init)
  have hW2 := fun W hb => Word_ct G nG cG T.goal W (h.goal.keep hb) (set_range hN hok.goal)
  obtain ⟨vI, hvI⟩ : ∃ v, v = wordF T.init := ⟨_, rfl⟩
  obtain ⟨vG, hvG⟩ : ∃ v, v = wordF T.goal := ⟨_, rfl⟩
  rw [← hvI] at hwI
  rw [← hvG] at hwG
  simp only [← hvI] at hW1
  simp only [← hvG] at hW2
  have HvI := hide hvI
  have HvG := hide hvG
  have HW1 := hide hW1
  have HW2 := hide hW2
  have H := hide h
  have Hok := hide hok
  have HlO := hide hlO
  clear h hok hlO hW1 hW2 hvI hvG h40
  go_enter Tryz.func95, Tryz.ntmps95
  go_upto_region 1 with (fail)
  have hT := Blk.new w 25 [.int .i64 T.facts, .slice I nI cI, .slice G nG cG, .slice O nO cO]
  have hb0 := (Below.refl w.heap.size w).alloc (Nat.le_refl _) (.cells #[.int .i64 T.facts, .slice I nI cI, .slice G nG cG, .slice O nO cO] 25)
  obtain ⟨W0, hW0⟩ : ∃ W0, W0 = w.alloc (.cells #[.int .i64 T.facts, .slice I nI cI, .slice G nG cG, .slice O nO cO] 25) := ⟨_, rfl⟩
  rw [← hW0] at hT hb0 ⊢
  clear hW0
  have hgs := hT.lt
  have hge : w.heap.size ≤ w.heap.size := Nat.le_refl _
  generalize hgT : w.heap.size = gT at hT hgs ⊢
  have HgT := hide hgT
  have HT := hide hT
  have Hb0 := hide hb0
  clear hgT hT hb0 hge
  go_cut [3] (fun s3 wc => ∃ (gW : Nat), s3 = .pointer (some ⟨gW, 0, none⟩) ∧ Blk 156 wc gW [.int .u32 vI, .int .u32 vG, .slice none 0 0] ∧ Blk 25 wc gT [.int .i64 T.facts, .slice I nI cI, .slice G nG cG, .slice O nO cO] ∧ Below w.heap.size w wc ∧ gT < gW)
  case first =>
    obtain ⟨c0, c1, c2, c3⟩ := HT.out.cell4
    refine wp_region_held_drew (S := (fun w' => w'.cell? ⟨gT, 1, none⟩ = some (.slice I nI cI) ∧ w'.cell? ⟨gT, 2, none⟩ = some (.slice G nG cG))) (by kernel_rfl) ?_ (fun hHeld => ?_)
    · (try dsimp only); exact ⟨c1, c2⟩
    refine takeS (i := 0) (v := ?_) (some 6) rfl rfl (by kernel_rfl) (by kernel_rfl) (by kernel_rfl) (fun _ _ _ h => h) (Or.inl ⟨by rfl, ?_⟩) (by assumption) ?_
    rotate_left
    · intro w hSw; (try dsimp only at hSw); obtain ⟨s1, s2⟩ := hSw; first | (go_simp; done) | (go_simp; with_reducible rfl)
    try simp only [Act.put, List.setIfInBounds_toArray, List.set_cons_zero, List.set_cons_succ]
    refine takeS (i := 1) (v := ?_) (some 7) rfl rfl (by kernel_rfl) (by kernel_rfl) (by kernel_rfl) (fun _ _ _ h => h) (Or.inl ⟨by rfl, ?_⟩) (by assumption) ?_
    rotate_left
    · intro w hSw; (try dsimp only at hSw); obtain ⟨s1, s2⟩ := hSw; first | (go_simp; done) | (go_simp; with_reducible rfl)
    try simp only [Act.put, List.setIfInBounds_toArray, List.set_cons_zero, List.set_cons_succ]
    refine takeS (i := 3) (v := ?_) (some 9) rfl rfl (by kernel_rfl) (by kernel_rfl) (by kernel_rfl) (fun _ _ _ h => h) (Or.inl ⟨by rfl, ?_⟩) (by assumption) ?_
    rotate_left
    · intro w hSw; (try dsimp only at hSw); obtain ⟨s1, s2⟩ := hSw; first | (go_simp; done) | (go_simp; with_reducible rfl)
    try simp only [Act.put, List.setIfInBounds_toArray, List.set_cons_zero, List.set_cons_succ]
    refine takeS (i := 4) (v := ?_) (some 10) rfl rfl (by kernel_rfl) (by kernel_rfl) (by kernel_rfl) (fun _ _ _ h => h) (Or.inl ⟨by rfl, ?_⟩) (by assumption) ?_
    rotate_left
    · intro w hSw; (try dsimp only at hSw); obtain ⟨s1, s2⟩ := hSw; first | (go_simp; done) | (go_simp; with_reducible rfl)
    try simp only [Act.put, List.setIfInBounds_toArray, List.set_cons_zero, List.set_cons_succ]
    clear c0 c1 c2 c3
    replace HT := hide (HT.out.qt (Qt.refl W0).drew)
    have Hb := hide ((Hb0.out).drew)
    obtain ⟨W1, hW1⟩ : ∃ W1, W1 = W0.drew := ⟨_, rfl⟩
    rw [← hW1] at HT Hb hHeld ⊢
    clear hW1
    obtain ⟨c0, c1, c2, c3⟩ := HT.out.cell4
    refine wpAnyH_ready (rs := [2]) (by kernel_rfl) (by simp) ?_
    refine AllReadyH.cons rfl (fun K hK => ?_) AllReadyH.nil
    go_simp
    with_reducible refine (HW1.out W1 Hb.out).mono ?_
    rintro e w1 ⟨rfl, rfl⟩
    refine hK.out _ _ ?_ (fun hHeld2 => ?_)
    · (try dsimp only); exact ⟨c1, c2⟩
    clear hK K hHeld
    try simp only [Act.put, List.setIfInBounds_toArray, List.set_cons_zero, List.set_cons_succ]
    have hHeld := hHeld2; clear hHeld2
    refine wpAnyH_ready (rs := [5]) (by kernel_rfl) (by simp) ?_
    refine AllReadyH.cons rfl (fun K hK => ?_) AllReadyH.nil
    go_simp
    with_reducible refine (HW2.out W1 Hb.out).mono ?_
    rintro e w1 ⟨rfl, rfl⟩
    refine hK.out _ _ ?_ (fun hHeld2 => ?_)
    · (try dsimp only); exact ⟨c1, c2⟩
    clear hK K hHeld
    try simp only [Act.put, List.setIfInBounds_toArray, List.set_cons_zero, List.set_cons_succ]
    have hHeld := hHeld2; clear hHeld2
    refine takeS (i := 6) (v := ?_) (some 12) rfl rfl (by kernel_rfl) (by kernel_rfl) (by kernel_rfl) (fun _ _ _ h => h) (Or.inl ⟨by rfl, ?_⟩) (by assumption) ?_
    rotate_left
    · intro w hSw; (try dsimp only at hSw); obtain ⟨s1, s2⟩ := hSw; first | (go_simp; done) | (go_simp; with_reducible rfl)
    try simp only [Act.put, List.setIfInBounds_toArray, List.set_cons_zero, List.set_cons_succ]
    have hn := Blk.new W1 156 [.int .u32 vI, .int .u32 vG, .slice none 0 0]
    have hT2 := HT.out.alloc (.cells #[.int .u32 vI, .int .u32 vG, .slice none 0 0] 156)
    have hb2 := Hb.out.alloc (by have := Hb.out.size; omega) (.cells #[.int .u32 vI, .int .u32 vG, .slice none 0 0] 156)
    have hgl := HT.out.lt
    refine wpAnyH_ready (rs := [7]) (by kernel_rfl) (by simp) ?_
    refine AllReadyH.cons rfl (fun K hK => ?_) AllReadyH.nil
    go_simp
    obtain ⟨W2, hW2⟩ : ∃ W2, W2 = W1.alloc (.cells #[.int .u32 vI, .int .u32 vG, .slice none 0 0] 156) := ⟨_, rfl⟩
    rw [← hW2] at hn hT2 hb2 ⊢
    clear hW2
    obtain ⟨d0, d1, d2, d3⟩ := hT2.cell4
    have Hn := hide hn
    have HT2 := hide hT2
    have Hb2 := hide hb2
    clear hn hT2 hb2
    refine hK.out _ _ ?_ (fun hHeld2 => ?_)
    · (try dsimp only); exact ⟨d1, d2⟩
    clear hK K hHeld
    try simp only [Act.put, List.setIfInBounds_toArray, List.set_cons_zero, List.set_cons_succ]
    have hHeld := hHeld2; clear hHeld2
    refine takeS (i := 8) (v := ?_) (some 3) rfl rfl (by kernel_rfl) (by kernel_rfl) (by kernel_rfl) (fun _ _ _ h => h) (Or.inl ⟨by rfl, ?_⟩) (by assumption) ?_
    rotate_left
    · intro w hSw; (try dsimp only at hSw); obtain ⟨s1, s2⟩ := hSw; first | (go_simp; done) | (go_simp; with_reducible rfl)
    try simp only [Act.put, List.setIfInBounds_toArray, List.set_cons_zero, List.set_cons_succ]
    refine wpAnyH_done (by kernel_rfl) ?_ _
    go_wp2_with fail
    go_meet
    exact ⟨_, rfl, Hn.out, HT2.out, Hb2.out, hgl⟩
  case rest =>
    obtain ⟨gW, rfl, hWb, hTb, hbl, hgw⟩ := hcut
    have d3 := (hTb.cell4).2.2.2
    have HWb := hide hWb
    have HTb := hide hTb
    have Hbl := hide hbl
    clear hWb hTb hbl HW1 HW2 HT Hb0 hgs
    go_wp2_with fail
    go_loopw [17] (fun i wr => ∃ (k : Nat) (A : Option Addr) (c : Nat) (vs : List Value), k ≤ nO ∧ i = .int .i64 k ∧ Blk 156 wr gW [.int .u32 vI, .int .u32 vG, .slice A k c] ∧ Blk 25 wr gT [.int .i64 T.facts, .slice I nI cI, .slice G nG cG, .slice O nO cO] ∧ OwnE Enc.mop 220 w.heap.size (fun _ => True) wr A k c vs ((T.ops.take k).map mkOp) ∧ Below w.heap.size w wr ∧ (∀ r, blkA A = some r → r ≠ gW ∧ r ≠ gT)) (fun i _ => nO - (intOf i).toNat)
    case atStart => exact ⟨0, none, 0, [], Nat.zero_le _, rfl, HWb.out, HTb.out, OwnE.nil _ _ _ _ _, Hbl.out, fun r hr => by cases hr⟩
    case round =>
      obtain ⟨k, A, c, vs, hk, rfl, hWb, hTb, hown, hbl, hap⟩ := hrel
      clear HWb HTb Hbl d3
      by_cases hlt : k < nO
      · obtain ⟨b, off, o, A1, n1, c1, A2, n2, c2, A3, n3, c3, rfl, hoq, e0, e1, e2, e3, r1, r2, r3, hco⟩ := (H.out.ops.keep hbl).op hlt
        have hoo := Hok.out.ops o (List.mem_of_getElem? hoq)
        have hmk := mk_ok hN hoo
        have x1 := hmk.pre
        have x2 := hmk.add
        have x3 := hmk.del
        have htk : (T.ops.take (k + 1)).map mkOp = (T.ops.take k).map mkOp ++ [mkOp o] := by rw [List.take_add_one, hoq, List.map_append]; rfl
        have hw1 := fun W hb => Word_ct A1 n1 c1 o.pre W (r1.keep hb) (set_range hN hoo.pre)
        have hw2 := fun W hb => Word_ct A2 n2 c2 o.add W (r2.keep hb) (set_range hN hoo.add)
        have hw3 := fun W hb => Word_ct A3 n3 c3 o.del W (r3.keep hb) (set_range hN hoo.del)
        obtain ⟨m, hm⟩ : ∃ m, m = mkOp o := ⟨_, rfl⟩
        obtain ⟨p1, hp1⟩ : ∃ p, p = wordF o.pre := ⟨_, rfl⟩
        obtain ⟨p2, hp2⟩ : ∃ p, p = wordF o.add := ⟨_, rfl⟩
        obtain ⟨p3, hp3⟩ : ∃ p, p = wordF o.del := ⟨_, rfl⟩
        have hmc : mkCells (mkOp o) = [.int .u32 p1, .int .u32 p2, .int .u32 p3, .int .i64 o.cost] := by rw [hp1, hp2, hp3]; rfl
        have q1 : p1 < 4294967296 := by rw [hp1]; exact x1
        have q2 : p2 < 4294967296 := by rw [hp2]; exact x2
        have q3 : p3 < 4294967296 := by rw [hp3]; exact x3
        simp only [← hp1] at hw1
        simp only [← hp2] at hw2
        simp only [← hp3] at hw3
        have hco1 := hoo.low
        have hco2 := hoo.high
        have Hw1 := hide hw1
        have Hw2 := hide hw2
        have Hw3 := hide hw3
        have Hmk := hide hmk
        have Hmc := hide hmc
        have Htk := hide htk
        clear hw1 hw2 hw3 hmk hmc htk hp1 hp2 hp3 hm x1 x2 x3 hoo hoq r1 r2 r3
        have lW := hWb.lt
        have lT := hTb.lt
        have hsz := hbl.size
        have c30 := (hTb.cell4).2.2.2
        have hY := Blk.new wr 81 [.slice A1 n1 c1, .slice A2 n2 c2, .slice A3 n3 c3, .int .i64 o.cost]
        have hby := (Below.refl wr.heap.size wr).alloc (Nat.le_refl _) (.cells #[.slice A1 n1 c1, .slice A2 n2 c2, .slice A3 n3 c3, .int .i64 o.cost] 81)
        have HWb := hide hWb
        have HTb := hide hTb
        have Hown := hide hown
        have Hbl := hide hbl
        have Hap := hide hap
        clear hWb hTb hown hbl hap hco
        go_upto_region 5 with (fail)
        have sA : ¬ blkA A = some wr.heap.size := fun e => by have := (Hown.out.base e).2; omega
        have sW : ¬ gW = wr.heap.size := by omega
        have sT : ¬ gT = wr.heap.size := by omega
        obtain ⟨W4, hW4⟩ : ∃ W, W = wr.alloc (.cells #[.slice A1 n1 c1, .slice A2 n2 c2, .slice A3 n3 c3, .int .i64 o.cost] 81) := ⟨_, rfl⟩
        rw [← hW4] at hY hby ⊢
        clear hW4
        replace HWb := hide (HWb.out.keep hby)
        replace HTb := hide (HTb.out.keep hby)
        replace Hown := hide (Hown.out.keep hby)
        have Hbl4 := hide (Hbl.out.trans (hby.mono hsz))
        have Hby := hide hby
        clear hby e0 e1 e2 e3 c30 lW lT
        generalize wr.heap.size = gY at hY sW sT sA ⊢
        have HY := hide hY
        clear hY
        obtain ⟨z0, z1, z2, z3⟩ := HY.out.cell4
        have w2 := (HWb.out.cell3).2.2
        refine wp_region_held_drew (S := (fun w' => w'.cell? ⟨gY, 0, none⟩ = some (.slice A1 n1 c1) ∧ w'.cell? ⟨gY, 1, none⟩ = some (.slice A2 n2 c2) ∧ w'.cell? ⟨gY, 2, none⟩ = some (.slice A3 n3 c3) ∧ w'.cell? ⟨gY, 3, none⟩ = some (.int .i64 o.cost))) (by kernel_rfl) ?_ (fun hHeld => ?_)
        · (try dsimp only); exact ⟨z0, z1, z2, z3⟩
        refine takeS (i := 0) (v := ?_) (some 21) rfl rfl (by kernel_rfl) (by kernel_rfl) (by kernel_rfl) (fun _ _ _ h => h) (Or.inl ⟨by rfl, ?_⟩) (by assumption) ?_
        rotate_left
        · intro w hSw; (try dsimp only at hSw); obtain ⟨s1, s2, s3, s4⟩ := hSw; first | (go_simp; done) | (go_simp; with_reducible rfl)
        try simp only [Act.put, List.setIfInBounds_toArray, List.set_cons_zero, List.set_cons_succ]
        refine takeS (i := 1) (v := ?_) (some 22) rfl rfl (by kernel_rfl) (by kernel_rfl) (by kernel_rfl) (fun _ _ _ h => h) (Or.inl ⟨by rfl, ?_⟩) (by assumption) ?_
        rotate_left
        · intro w hSw; (try dsimp only at hSw); obtain ⟨s1, s2, s3, s4⟩ := hSw; first | (go_simp; done) | (go_simp; with_reducible rfl)
        try simp only [Act.put, List.setIfInBounds_toArray, List.set_cons_zero, List.set_cons_succ]
        refine takeS (i := 2) (v := ?_) (some 23) rfl rfl (by kernel_rfl) (by kernel_rfl) (by kernel_rfl) (fun _ _ _ h => h) (Or.inl ⟨by rfl, ?_⟩) (by assumption) ?_
        rotate_left
        · intro w hSw; (try dsimp only at hSw); obtain ⟨s1, s2, s3, s4⟩ := hSw; first | (go_simp; done) | (go_simp; with_reducible rfl)
        try simp only [Act.put, List.setIfInBounds_toArray, List.set_cons_zero, List.set_cons_succ]
        refine takeS (i := 3) (v := ?_) (some 24) rfl rfl (by kernel_rfl) (by kernel_rfl) (by kernel_rfl) (fun _ _ _ h => h) (Or.inl ⟨by rfl, ?_⟩) (by assumption) ?_
        rotate_left
        · intro w hSw; (try dsimp only at hSw); obtain ⟨s1, s2, s3, s4⟩ := hSw; first | (go_simp; done) | (go_simp; with_reducible rfl)
        try simp only [Act.put, List.setIfInBounds_toArray, List.set_cons_zero, List.set_cons_succ]
        refine takeS (i := 5) (v := ?_) (some 26) rfl rfl (by kernel_rfl) (by kernel_rfl) (by kernel_rfl) (fun _ _ _ h => h) (Or.inl ⟨by rfl, ?_⟩) (by assumption) ?_
        rotate_left
        · intro w hSw; (try dsimp only at hSw); obtain ⟨s1, s2, s3, s4⟩ := hSw; first | (go_simp; done) | (go_simp; with_reducible rfl)
        try simp only [Act.put, List.setIfInBounds_toArray, List.set_cons_zero, List.set_cons_succ]
        refine takeS (i := 6) (v := ?_) (some 27) rfl rfl (by kernel_rfl) (by kernel_rfl) (by kernel_rfl) (fun _ _ _ h => h) (Or.inl ⟨by rfl, ?_⟩) (by assumption) ?_
        rotate_left
        · intro w hSw; (try dsimp only at hSw); obtain ⟨s1, s2, s3, s4⟩ := hSw; first | (go_simp; done) | (go_simp; with_reducible rfl)
        try simp only [Act.put, List.setIfInBounds_toArray, List.set_cons_zero, List.set_cons_succ]
        refine takeS (i := 8) (v := ?_) (some 29) rfl rfl (by kernel_rfl) (by kernel_rfl) (by kernel_rfl) (fun _ _ _ h => h) (Or.inl ⟨by rfl, ?_⟩) (by assumption) ?_
        rotate_left
        · intro w hSw; (try dsimp only at hSw); obtain ⟨s1, s2, s3, s4⟩ := hSw; first | (go_simp; done) | (go_simp; with_reducible rfl)
        try simp only [Act.put, List.setIfInBounds_toArray, List.set_cons_zero, List.set_cons_succ]
        refine takeS (i := 9) (v := ?_) (some 30) rfl rfl (by kernel_rfl) (by kernel_rfl) (by kernel_rfl) (fun _ _ _ h => h) (Or.inl ⟨by rfl, ?_⟩) (by assumption) ?_
        rotate_left
        · intro w hSw; (try dsimp only at hSw); obtain ⟨s1, s2, s3, s4⟩ := hSw; first | (go_simp; done) | (go_simp; with_reducible rfl)
        try simp only [Act.put, List.setIfInBounds_toArray, List.set_cons_zero, List.set_cons_succ]
        refine takeS (i := 11) (v := ?_) (some 32) rfl rfl (by kernel_rfl) (by kernel_rfl) (by kernel_rfl) (fun _ _ _ h => h) (Or.inl ⟨by rfl, ?_⟩) (by assumption) ?_
        rotate_left
        · intro w hSw; (try dsimp only at hSw); obtain ⟨s1, s2, s3, s4⟩ := hSw; first | (go_simp; done) | (go_simp; with_reducible rfl)
        try simp only [Act.put, List.setIfInBounds_toArray, List.set_cons_zero, List.set_cons_succ]
        refine takeS (i := 12) (v := ?_) (some 33) rfl rfl (by kernel_rfl) (by kernel_rfl) (by kernel_rfl) (fun _ _ _ h => h) (Or.inl ⟨by rfl, ?_⟩) (by assumption) ?_
        rotate_left
        · intro w hSw; (try dsimp only at hSw); obtain ⟨s1, s2, s3, s4⟩ := hSw; first | (go_simp; done) | (go_simp; with_reducible rfl)
        try simp only [Act.put, List.setIfInBounds_toArray, List.set_cons_zero, List.set_cons_succ]
        refine takeS (i := 14) (v := ?_) (some 35) rfl rfl (by kernel_rfl) (by kernel_rfl) (by kernel_rfl) (fun _ _ _ h => h) (Or.inl ⟨by rfl, ?_⟩) (by assumption) ?_
        rotate_left
        · intro w hSw; (try dsimp only at hSw); obtain ⟨s1, s2, s3, s4⟩ := hSw; first | (go_simp; done) | (go_simp; with_reducible rfl)
        try simp only [Act.put, List.setIfInBounds_toArray, List.set_cons_zero, List.set_cons_succ]
        refine takeS (i := 15) (v := ?_) (some 36) rfl rfl (by kernel_rfl) (by kernel_rfl) (by kernel_rfl) (fun _ _ _ h => h) (Or.inl ⟨by rfl, ?_⟩) (by assumption) ?_
        rotate_left
        · intro w hSw; (try dsimp only at hSw); obtain ⟨s1, s2, s3, s4⟩ := hSw; first | (go_simp; done) | (go_simp; with_reducible rfl)
        try simp only [Act.put, List.setIfInBounds_toArray, List.set_cons_zero, List.set_cons_succ]
        clear z0 z1 z2 z3 w2
        replace HWb := hide (HWb.out.qt (Qt.refl W4).drew)
        replace HY := hide (HY.out.qt (Qt.refl W4).drew)
        replace HTb := hide (HTb.out.qt (Qt.refl W4).drew)
        replace Hown := hide (Hown.out.qt (Qt.refl W4).drew)
        replace Hbl4 := hide (Hbl4.out.drew)
        have Hkeep := hide (show ∀ W, Below W4.drew.heap.size W4.drew W → Below w.heap.size w W from fun W hb => Hbl4.out.trans (hb.mono Hbl4.out.size))
        have Hkeep2 := hide (show ∀ W, Below W4.drew.heap.size W4.drew W → Below wr.heap.size wr W from fun W hb => (Hby.out.drew).trans (hb.mono Hby.out.size))
        obtain ⟨W5, hW5⟩ : ∃ W, W = W4.drew := ⟨_, rfl⟩
        rw [← hW5] at HWb HY HTb Hown Hbl4 Hkeep Hkeep2 hHeld ⊢
        clear hW5
        refine wpAnyH_ready (rs := [4, 7]) (by kernel_rfl) (by simp) ?_
        refine AllReadyH.cons rfl (fun K hK => ?_) (AllReadyH.cons rfl (fun K hK => ?_) AllReadyH.nil)
        · skip
          obtain ⟨z0, z1, z2, z3⟩ := HY.out.cell4
          have w2 := (HWb.out.cell3).2.2
          go_simp
          refine hK.out _ _ ?_ (fun hHeld2 => ?_)
          · (try dsimp only); exact ⟨z0, z1, z2, z3⟩
          clear hK K hHeld
          try simp only [Act.put, List.setIfInBounds_toArray, List.set_cons_zero, List.set_cons_succ]
          have hHeld := hHeld2; clear hHeld2
          clear z0 z1 z2 z3 w2
          refine wpAnyH_ready (rs := [7]) (by kernel_rfl) (by simp) ?_
          refine AllReadyH.cons rfl (fun K hK => ?_) AllReadyH.nil
          · skip
            obtain ⟨z0, z1, z2, z3⟩ := HY.out.cell4
            have w2 := (HWb.out.cell3).2.2
            go_simp
            with_reducible refine (Hw1.out W5 (Hkeep2.out W5 (Below.refl _ _))).mono ?_
            rintro e w1 ⟨rfl, rfl⟩
            refine hK.out _ _ ?_ (fun hHeld2 => ?_)
            · (try dsimp only); exact ⟨z0, z1, z2, z3⟩
            clear hK K hHeld
            try simp only [Act.put, List.setIfInBounds_toArray, List.set_cons_zero, List.set_cons_succ]
            have hHeld := hHeld2; clear hHeld2
            clear z0 z1 z2 z3 w2
            refine wpAnyH_ready (rs := [10]) (by kernel_rfl) (by simp) ?_
            refine AllReadyH.cons rfl (fun K hK => ?_) AllReadyH.nil
            · skip
              obtain ⟨z0, z1, z2, z3⟩ := HY.out.cell4
              have w2 := (HWb.out.cell3).2.2
              go_simp
              with_reducible refine (Hw2.out W5 (Hkeep2.out W5 (Below.refl _ _))).mono ?_
              rintro e w1 ⟨rfl, rfl⟩
              refine hK.out _ _ ?_ (fun hHeld2 => ?_)
              · (try dsimp only); exact ⟨z0, z1, z2, z3⟩
              clear hK K hHeld
              try simp only [Act.put, List.setIfInBounds_toArray, List.set_cons_zero, List.set_cons_succ]
              have hHeld := hHeld2; clear hHeld2
              clear z0 z1 z2 z3 w2
              refine wpAnyH_ready (rs := [13]) (by kernel_rfl) (by simp) ?_
              refine AllReadyH.cons rfl (fun K hK => ?_) AllReadyH.nil
              · skip
                obtain ⟨z0, z1, z2, z3⟩ := HY.out.cell4
                have w2 := (HWb.out.cell3).2.2
                go_simp
                with_reducible refine (Hw3.out W5 (Hkeep2.out W5 (Below.refl _ _))).mono ?_
                rintro e w1 ⟨rfl, rfl⟩
                refine hK.out _ _ ?_ (fun hHeld2 => ?_)
                · (try dsimp only); exact ⟨z0, z1, z2, z3⟩
                clear hK K hHeld
                try simp only [Act.put, List.setIfInBounds_toArray, List.set_cons_zero, List.set_cons_succ]
                have hHeld := hHeld2; clear hHeld2
                clear z0 z1 z2 z3 w2
                refine takeS (i := 16) (v := ?_) (some 37) rfl rfl (by kernel_rfl) (by kernel_rfl) (by kernel_rfl) (fun _ _ _ h => h) (Or.inl ⟨by rfl, ?_⟩) (by assumption) ?_
                rotate_left
                · intro w hSw; (try dsimp only at hSw); obtain ⟨s1, s2, s3, s4⟩ := hSw; first | (go_simp; done) | (go_simp; with_reducible rfl)
                try simp only [Act.put, List.setIfInBounds_toArray, List.set_cons_zero, List.set_cons_succ]
                refine wpAnyH_ready (rs := [17]) (by kernel_rfl) (by simp) ?_
                refine AllReadyH.cons rfl (fun K hK => ?_) AllReadyH.nil
                · skip
                  obtain ⟨z0, z1, z2, z3⟩ := HY.out.cell4
                  have w2 := (HWb.out.cell3).2.2
                  obtain ⟨y0, y1, y2, y3⟩ := (HY.out.alloc (.cells #[.int .u32 p1, .int .u32 p2, .int .u32 p3, .int .i64 o.cost] 220)).cell4
                  go_simp
                  refine hK.out _ _ ?_ (fun hHeld2 => ?_)
                  · (try dsimp only); exact ⟨y0, y1, y2, y3⟩
                  clear hK K hHeld
                  try simp only [Act.put, List.setIfInBounds_toArray, List.set_cons_zero, List.set_cons_succ]
                  have hHeld := hHeld2; clear hHeld2
                  clear z0 z1 z2 z3 w2 y0 y1 y2 y3
                  refine wpAnyH_ready (rs := [18]) (by kernel_rfl) (by simp) ?_
                  refine AllReadyH.cons rfl (fun K hK => ?_) AllReadyH.nil
                  refine step_pushS rfl _ _ 154 rfl w.heap.size 220 i1 _ 24 Tryz.underlying154 hi1 hy0 hy1 hy2 rfl (by decide) (A := A) (n := k) (c := c) (by first | rfl | (go_simp; done)) Hown.out (fun _ _ => trivial) [.int .u32 p1, .int .u32 p2, .int .u32 p3, .int .i64 o.cost] (mkOp o) (by intro u hu; simp at hu; rcases hu with hu | hu | hu | hu <;> subst hu <;> rfl) (by first | rfl | (go_simp; done)) (by rw [← Hmc.out]; exact firm_mk Hmk.out) (by omega) (by omega) Hbl4.out.size ?_
                  intro O6 oc6 w6 hown6 hch6 hat6
                  have lY := HY.out.lt
                  have lW := HWb.out.lt
                  have lT := HTb.out.lt
                  have nW : ¬ blkA A = some gW := fun e => (Hap.out gW e).1 rfl
                  have nT : ¬ blkA A = some gT := fun e => (Hap.out gT e).2 rfl
                  have hw6 := hch6.blk HWb.out nW
                  have ht6 := hch6.blk HTb.out nT
                  have hy6 := hch6.blk HY.out sA
                  have hb6 := row_below Hbl4.out Hbl4.out.size hch6 (fun r hr => (Hown.out.base hr).1)
                  have hset := Chg.set w6 gW 2 (.slice O6 (k + 1) oc6)
                  have hap6 : ∀ r, blkA O6 = some r → r ≠ gW ∧ r ≠ gT := fun r hr => by
                    rcases hat6 with e | e
                    · exact Hap.out r (by rw [← e]; exact hr)
                    · rw [e] at hr
                      injection hr with hr
                      omega
                  have hw7 := hw6.set 2 (.slice O6 (k + 1) oc6)
                  simp only [List.set_cons_zero, List.set_cons_succ] at hw7
                  have ht7 := hset.blk ht6 (fun e => by omega)
                  have hy7 := hset.blk hy6 (fun e => by omega)
                  have hown7 := (hown6.less (M' := fun _ => True) (fun i _ _ => .inl trivial)).chg hset (fun _ _ => trivial) (fun r hr e => (hap6 r hr).1 e)
                  have hb7 := hb6.setCell (p := ⟨gW, 2, none⟩) (show w.heap.size ≤ gW by have := HgT.out; omega) (.slice O6 (k + 1) oc6)
                  obtain ⟨z0, z1, z2, z3⟩ := hy6.cell4
                  have w2 := (hw6.cell3).2.2
                  have f2 := hw6.frozen 2
                  have l2 := hw6.lt
                  obtain ⟨y0, y1, y2, y3⟩ := hy7.cell4
                  have Hw7 := hide hw7
                  have Ht7 := hide ht7
                  have Hown7 := hide hown7
                  have Hb7 := hide hb7
                  have Hap7 := hide hap6
                  clear hown6 hch6 hat6 hw6 ht6 hy6 hb6 hset hw7 ht7 hy7 hown7 hb7 hap6
                  refine hK.out _ _ ?_ (fun hHeld2 => ?_)
                  · (try dsimp only); exact ⟨z0, z1, z2, z3⟩
                  clear hK K hHeld
                  try simp only [Act.put, List.setIfInBounds_toArray, List.set_cons_zero, List.set_cons_succ]
                  have hHeld := hHeld2; clear hHeld2
                  clear z0 z1 z2 z3
                  refine takeS (i := 19) (v := ?_) (some 40) rfl rfl (by kernel_rfl) (by kernel_rfl) (by kernel_rfl) (fun _ _ _ h => h) (Or.inl ⟨by rfl, ?_⟩) (by assumption) ?_
                  rotate_left
                  · intro w hSw; (try dsimp only at hSw); obtain ⟨s1, s2, s3, s4⟩ := hSw; first | (go_simp; done) | (go_simp; with_reducible rfl)
                  try simp only [Act.put, List.setIfInBounds_toArray, List.set_cons_zero, List.set_cons_succ]
                  refine takeS (i := 20) (v := ?_) (some 41) rfl rfl (by kernel_rfl) (by kernel_rfl) (by kernel_rfl) (fun _ _ _ h => h) (Or.inl ⟨by rfl, ?_⟩) (by assumption) ?_
                  rotate_left
                  · intro w hSw; (try dsimp only at hSw); obtain ⟨s1, s2, s3, s4⟩ := hSw; first | (go_simp; done) | (go_simp; with_reducible rfl)
                  try simp only [Act.put, List.setIfInBounds_toArray, List.set_cons_zero, List.set_cons_succ]
                  refine wpAnyH_ready (rs := [21]) (by kernel_rfl) (by simp) ?_
                  refine AllReadyH.cons rfl (fun K hK => ?_) AllReadyH.nil
                  go_simp
                  refine hK.out _ _ ?_ (fun hHeld2 => ?_)
                  · (try dsimp only); exact ⟨y0, y1, y2, y3⟩
                  clear hK K hHeld
                  try simp only [Act.put, List.setIfInBounds_toArray, List.set_cons_zero, List.set_cons_succ]
                  have hHeld := hHeld2; clear hHeld2
                  refine wpAnyH_done (by kernel_rfl) ?_ _
                  go_wp2_with fail
                  go_roundw
                  case rel => exact ⟨k + 1, O6, oc6, _, by omega, by go_num, Hw7.out, Ht7.out, by rw [Htk.out]; exact Hown7.out, Hb7.out, Hap7.out⟩
                  case measure => simp [intOf]; omega
        · skip
          obtain ⟨z0, z1, z2, z3⟩ := HY.out.cell4
          have w2 := (HWb.out.cell3).2.2
          go_simp
          with_reducible refine (Hw1.out W5 (Hkeep2.out W5 (Below.refl _ _))).mono ?_
          rintro e w1 ⟨rfl, rfl⟩
          refine hK.out _ _ ?_ (fun hHeld2 => ?_)
          · (try dsimp only); exact ⟨z0, z1, z2, z3⟩
          clear hK K hHeld
          try simp only [Act.put, List.setIfInBounds_toArray, List.set_cons_zero, List.set_cons_succ]
          have hHeld := hHeld2; clear hHeld2
          clear z0 z1 z2 z3 w2
          refine wpAnyH_ready (rs := [4, 10]) (by kernel_rfl) (by simp) ?_
          refine AllReadyH.cons rfl (fun K hK => ?_) (AllReadyH.cons rfl (fun K hK => ?_) AllReadyH.nil)
          · skip
            obtain ⟨z0, z1, z2, z3⟩ := HY.out.cell4
            have w2 := (HWb.out.cell3).2.2
            go_simp
            refine hK.out _ _ ?_ (fun hHeld2 => ?_)
            · (try dsimp only); exact ⟨z0, z1, z2, z3⟩
            clear hK K hHeld
            try simp only [Act.put, List.setIfInBounds_toArray, List.set_cons_zero, List.set_cons_succ]
            have hHeld := hHeld2; clear hHeld2
            clear z0 z1 z2 z3 w2
            refine wpAnyH_ready (rs := [10]) (by kernel_rfl) (by simp) ?_
            refine AllReadyH.cons rfl (fun K hK => ?_) AllReadyH.nil
            · skip
              obtain ⟨z0, z1, z2, z3⟩ := HY.out.cell4
              have w2 := (HWb.out.cell3).2.2
              go_simp
              with_reducible refine (Hw2.out W5 (Hkeep2.out W5 (Below.refl _ _))).mono ?_
              rintro e w1 ⟨rfl, rfl⟩
              refine hK.out _ _ ?_ (fun hHeld2 => ?_)
              · (try dsimp only); exact ⟨z0, z1, z2, z3⟩
              clear hK K hHeld
              try simp only [Act.put, List.setIfInBounds_toArray, List.set_cons_zero, List.set_cons_succ]
              have hHeld := hHeld2; clear hHeld2
              clear z0 z1 z2 z3 w2
              refine wpAnyH_ready (rs := [13]) (by kernel_rfl) (by simp) ?_
              refine AllReadyH.cons rfl (fun K hK => ?_) AllReadyH.nil
              · skip
                obtain ⟨z0, z1, z2, z3⟩ := HY.out.cell4
                have w2 := (HWb.out.cell3).2.2
                go_simp
                with_reducible refine (Hw3.out W5 (Hkeep2.out W5 (Below.refl _ _))).mono ?_
                rintro e w1 ⟨rfl, rfl⟩
                refine hK.out _ _ ?_ (fun hHeld2 => ?_)
                · (try dsimp only); exact ⟨z0, z1, z2, z3⟩
                clear hK K hHeld
                try simp only [Act.put, List.setIfInBounds_toArray, List.set_cons_zero, List.set_cons_succ]
                have hHeld := hHeld2; clear hHeld2
                clear z0 z1 z2 z3 w2
                refine takeS (i := 16) (v := ?_) (some 37) rfl rfl (by kernel_rfl) (by kernel_rfl) (by kernel_rfl) (fun _ _ _ h => h) (Or.inl ⟨by rfl, ?_⟩) (by assumption) ?_
                rotate_left
                · intro w hSw; (try dsimp only at hSw); obtain ⟨s1, s2, s3, s4⟩ := hSw; first | (go_simp; done) | (go_simp; with_reducible rfl)
                try simp only [Act.put, List.setIfInBounds_toArray, List.set_cons_zero, List.set_cons_succ]
                refine wpAnyH_ready (rs := [17]) (by kernel_rfl) (by simp) ?_
                refine AllReadyH.cons rfl (fun K hK => ?_) AllReadyH.nil
                · skip
                  obtain ⟨z0, z1, z2, z3⟩ := HY.out.cell4
                  have w2 := (HWb.out.cell3).2.2
                  obtain ⟨y0, y1, y2, y3⟩ := (HY.out.alloc (.cells #[.int .u32 p1, .int .u32 p2, .int .u32 p3, .int .i64 o.cost] 220)).cell4
                  go_simp
                  refine hK.out _ _ ?_ (fun hHeld2 => ?_)
                  · (try dsimp only); exact ⟨y0, y1, y2, y3⟩
                  clear hK K hHeld
                  try simp only [Act.put, List.setIfInBounds_toArray, List.set_cons_zero, List.set_cons_succ]
                  have hHeld := hHeld2; clear hHeld2
                  clear z0 z1 z2 z3 w2 y0 y1 y2 y3
                  refine wpAnyH_ready (rs := [18]) (by kernel_rfl) (by simp) ?_
                  refine AllReadyH.cons rfl (fun K hK => ?_) AllReadyH.nil
                  refine step_pushS rfl _ _ 154 rfl w.heap.size 220 i1 _ 24 Tryz.underlying154 hi1 hy0 hy1 hy2 rfl (by decide) (A := A) (n := k) (c := c) (by first | rfl | (go_simp; done)) Hown.out (fun _ _ => trivial) [.int .u32 p1, .int .u32 p2, .int .u32 p3, .int .i64 o.cost] (mkOp o) (by intro u hu; simp at hu; rcases hu with hu | hu | hu | hu <;> subst hu <;> rfl) (by first | rfl | (go_simp; done)) (by rw [← Hmc.out]; exact firm_mk Hmk.out) (by omega) (by omega) Hbl4.out.size ?_
                  intro O6 oc6 w6 hown6 hch6 hat6
                  have lY := HY.out.lt
                  have lW := HWb.out.lt
                  have lT := HTb.out.lt
                  have nW : ¬ blkA A = some gW := fun e => (Hap.out gW e).1 rfl
                  have nT : ¬ blkA A = some gT := fun e => (Hap.out gT e).2 rfl
                  have hw6 := hch6.blk HWb.out nW
                  have ht6 := hch6.blk HTb.out nT
                  have hy6 := hch6.blk HY.out sA
                  have hb6 := row_below Hbl4.out Hbl4.out.size hch6 (fun r hr => (Hown.out.base hr).1)
                  have hset := Chg.set w6 gW 2 (.slice O6 (k + 1) oc6)
                  have hap6 : ∀ r, blkA O6 = some r → r ≠ gW ∧ r ≠ gT := fun r hr => by
                    rcases hat6 with e | e
                    · exact Hap.out r (by rw [← e]; exact hr)
                    · rw [e] at hr
                      injection hr with hr
                      omega
                  have hw7 := hw6.set 2 (.slice O6 (k + 1) oc6)
                  simp only [List.set_cons_zero, List.set_cons_succ] at hw7
                  have ht7 := hset.blk ht6 (fun e => by omega)
                  have hy7 := hset.blk hy6 (fun e => by omega)
                  have hown7 := (hown6.less (M' := fun _ => True) (fun i _ _ => .inl trivial)).chg hset (fun _ _ => trivial) (fun r hr e => (hap6 r hr).1 e)
                  have hb7 := hb6.setCell (p := ⟨gW, 2, none⟩) (show w.heap.size ≤ gW by have := HgT.out; omega) (.slice O6 (k + 1) oc6)
                  obtain ⟨z0, z1, z2, z3⟩ := hy6.cell4
                  have w2 := (hw6.cell3).2.2
                  have f2 := hw6.frozen 2
                  have l2 := hw6.lt
                  obtain ⟨y0, y1, y2, y3⟩ := hy7.cell4
                  have Hw7 := hide hw7
                  have Ht7 := hide ht7
                  have Hown7 := hide hown7
                  have Hb7 := hide hb7
                  have Hap7 := hide hap6
                  clear hown6 hch6 hat6 hw6 ht6 hy6 hb6 hset hw7 ht7 hy7 hown7 hb7 hap6
                  refine hK.out _ _ ?_ (fun hHeld2 => ?_)
                  · (try dsimp only); exact ⟨z0, z1, z2, z3⟩
                  clear hK K hHeld
                  try simp only [Act.put, List.setIfInBounds_toArray, List.set_cons_zero, List.set_cons_succ]
                  have hHeld := hHeld2; clear hHeld2
                  clear z0 z1 z2 z3
                  refine takeS (i := 19) (v := ?_) (some 40) rfl rfl (by kernel_rfl) (by kernel_rfl) (by kernel_rfl) (fun _ _ _ h => h) (Or.inl ⟨by rfl, ?_⟩) (by assumption) ?_
                  rotate_left
                  · intro w hSw; (try dsimp only at hSw); obtain ⟨s1, s2, s3, s4⟩ := hSw; first | (go_simp; done) | (go_simp; with_reducible rfl)
                  try simp only [Act.put, List.setIfInBounds_toArray, List.set_cons_zero, List.set_cons_succ]
                  refine takeS (i := 20) (v := ?_) (some 41) rfl rfl (by kernel_rfl) (by kernel_rfl) (by kernel_rfl) (fun _ _ _ h => h) (Or.inl ⟨by rfl, ?_⟩) (by assumption) ?_
                  rotate_left
                  · intro w hSw; (try dsimp only at hSw); obtain ⟨s1, s2, s3, s4⟩ := hSw; first | (go_simp; done) | (go_simp; with_reducible rfl)
                  try simp only [Act.put, List.setIfInBounds_toArray, List.set_cons_zero, List.set_cons_succ]
                  refine wpAnyH_ready (rs := [21]) (by kernel_rfl) (by simp) ?_
                  refine AllReadyH.cons rfl (fun K hK => ?_) AllReadyH.nil
                  go_simp
                  refine hK.out _ _ ?_ (fun hHeld2 => ?_)
                  · (try dsimp only); exact ⟨y0, y1, y2, y3⟩
                  clear hK K hHeld
                  try simp only [Act.put, List.setIfInBounds_toArray, List.set_cons_zero, List.set_cons_succ]
                  have hHeld := hHeld2; clear hHeld2
                  refine wpAnyH_done (by kernel_rfl) ?_ _
                  go_wp2_with fail
                  go_roundw
                  case rel => exact ⟨k + 1, O6, oc6, _, by omega, by go_num, Hw7.out, Ht7.out, by rw [Htk.out]; exact Hown7.out, Hb7.out, Hap7.out⟩
                  case measure => simp [intOf]; omega
          · skip
            obtain ⟨z0, z1, z2, z3⟩ := HY.out.cell4
            have w2 := (HWb.out.cell3).2.2
            go_simp
            with_reducible refine (Hw2.out W5 (Hkeep2.out W5 (Below.refl _ _))).mono ?_
            rintro e w1 ⟨rfl, rfl⟩
            refine hK.out _ _ ?_ (fun hHeld2 => ?_)
            · (try dsimp only); exact ⟨z0, z1, z2, z3⟩
            clear hK K hHeld
            try simp only [Act.put, List.setIfInBounds_toArray, List.set_cons_zero, List.set_cons_succ]
            have hHeld := hHeld2; clear hHeld2
            clear z0 z1 z2 z3 w2
            refine wpAnyH_ready (rs := [4, 13]) (by kernel_rfl) (by simp) ?_
            refine AllReadyH.cons rfl (fun K hK => ?_) (AllReadyH.cons rfl (fun K hK => ?_) AllReadyH.nil)
            · skip
              obtain ⟨z0, z1, z2, z3⟩ := HY.out.cell4
              have w2 := (HWb.out.cell3).2.2
              go_simp
              refine hK.out _ _ ?_ (fun hHeld2 => ?_)
              · (try dsimp only); exact ⟨z0, z1, z2, z3⟩
              clear hK K hHeld
              try simp only [Act.put, List.setIfInBounds_toArray, List.set_cons_zero, List.set_cons_succ]
              have hHeld := hHeld2; clear hHeld2
              clear z0 z1 z2 z3 w2
              refine wpAnyH_ready (rs := [13]) (by kernel_rfl) (by simp) ?_
              refine AllReadyH.cons rfl (fun K hK => ?_) AllReadyH.nil
              · skip
                obtain ⟨z0, z1, z2, z3⟩ := HY.out.cell4
                have w2 := (HWb.out.cell3).2.2
                go_simp
                with_reducible refine (Hw3.out W5 (Hkeep2.out W5 (Below.refl _ _))).mono ?_
                rintro e w1 ⟨rfl, rfl⟩
                refine hK.out _ _ ?_ (fun hHeld2 => ?_)
                · (try dsimp only); exact ⟨z0, z1, z2, z3⟩
                clear hK K hHeld
                try simp only [Act.put, List.setIfInBounds_toArray, List.set_cons_zero, List.set_cons_succ]
                have hHeld := hHeld2; clear hHeld2
                clear z0 z1 z2 z3 w2
                refine takeS (i := 16) (v := ?_) (some 37) rfl rfl (by kernel_rfl) (by kernel_rfl) (by kernel_rfl) (fun _ _ _ h => h) (Or.inl ⟨by rfl, ?_⟩) (by assumption) ?_
                rotate_left
                · intro w hSw; (try dsimp only at hSw); obtain ⟨s1, s2, s3, s4⟩ := hSw; first | (go_simp; done) | (go_simp; with_reducible rfl)
                try simp only [Act.put, List.setIfInBounds_toArray, List.set_cons_zero, List.set_cons_succ]
                refine wpAnyH_ready (rs := [17]) (by kernel_rfl) (by simp) ?_
                refine AllReadyH.cons rfl (fun K hK => ?_) AllReadyH.nil
                · skip
                  obtain ⟨z0, z1, z2, z3⟩ := HY.out.cell4
                  have w2 := (HWb.out.cell3).2.2
                  obtain ⟨y0, y1, y2, y3⟩ := (HY.out.alloc (.cells #[.int .u32 p1, .int .u32 p2, .int .u32 p3, .int .i64 o.cost] 220)).cell4
                  go_simp
                  refine hK.out _ _ ?_ (fun hHeld2 => ?_)
                  · (try dsimp only); exact ⟨y0, y1, y2, y3⟩
                  clear hK K hHeld
                  try simp only [Act.put, List.setIfInBounds_toArray, List.set_cons_zero, List.set_cons_succ]
                  have hHeld := hHeld2; clear hHeld2
                  clear z0 z1 z2 z3 w2 y0 y1 y2 y3
                  refine wpAnyH_ready (rs := [18]) (by kernel_rfl) (by simp) ?_
                  refine AllReadyH.cons rfl (fun K hK => ?_) AllReadyH.nil
                  refine step_pushS rfl _ _ 154 rfl w.heap.size 220 i1 _ 24 Tryz.underlying154 hi1 hy0 hy1 hy2 rfl (by decide) (A := A) (n := k) (c := c) (by first | rfl | (go_simp; done)) Hown.out (fun _ _ => trivial) [.int .u32 p1, .int .u32 p2, .int .u32 p3, .int .i64 o.cost] (mkOp o) (by intro u hu; simp at hu; rcases hu with hu | hu | hu | hu <;> subst hu <;> rfl) (by first | rfl | (go_simp; done)) (by rw [← Hmc.out]; exact firm_mk Hmk.out) (by omega) (by omega) Hbl4.out.size ?_
                  intro O6 oc6 w6 hown6 hch6 hat6
                  have lY := HY.out.lt
                  have lW := HWb.out.lt
                  have lT := HTb.out.lt
                  have nW : ¬ blkA A = some gW := fun e => (Hap.out gW e).1 rfl
                  have nT : ¬ blkA A = some gT := fun e => (Hap.out gT e).2 rfl
                  have hw6 := hch6.blk HWb.out nW
                  have ht6 := hch6.blk HTb.out nT
                  have hy6 := hch6.blk HY.out sA
                  have hb6 := row_below Hbl4.out Hbl4.out.size hch6 (fun r hr => (Hown.out.base hr).1)
                  have hset := Chg.set w6 gW 2 (.slice O6 (k + 1) oc6)
                  have hap6 : ∀ r, blkA O6 = some r → r ≠ gW ∧ r ≠ gT := fun r hr => by
                    rcases hat6 with e | e
                    · exact Hap.out r (by rw [← e]; exact hr)
                    · rw [e] at hr
                      injection hr with hr
                      omega
                  have hw7 := hw6.set 2 (.slice O6 (k + 1) oc6)
                  simp only [List.set_cons_zero, List.set_cons_succ] at hw7
                  have ht7 := hset.blk ht6 (fun e => by omega)
                  have hy7 := hset.blk hy6 (fun e => by omega)
                  have hown7 := (hown6.less (M' := fun _ => True) (fun i _ _ => .inl trivial)).chg hset (fun _ _ => trivial) (fun r hr e => (hap6 r hr).1 e)
                  have hb7 := hb6.setCell (p := ⟨gW, 2, none⟩) (show w.heap.size ≤ gW by have := HgT.out; omega) (.slice O6 (k + 1) oc6)
                  obtain ⟨z0, z1, z2, z3⟩ := hy6.cell4
                  have w2 := (hw6.cell3).2.2
                  have f2 := hw6.frozen 2
                  have l2 := hw6.lt
                  obtain ⟨y0, y1, y2, y3⟩ := hy7.cell4
                  have Hw7 := hide hw7
                  have Ht7 := hide ht7
                  have Hown7 := hide hown7
                  have Hb7 := hide hb7
                  have Hap7 := hide hap6
                  clear hown6 hch6 hat6 hw6 ht6 hy6 hb6 hset hw7 ht7 hy7 hown7 hb7 hap6
                  refine hK.out _ _ ?_ (fun hHeld2 => ?_)
                  · (try dsimp only); exact ⟨z0, z1, z2, z3⟩
                  clear hK K hHeld
                  try simp only [Act.put, List.setIfInBounds_toArray, List.set_cons_zero, List.set_cons_succ]
                  have hHeld := hHeld2; clear hHeld2
                  clear z0 z1 z2 z3
                  refine takeS (i := 19) (v := ?_) (some 40) rfl rfl (by kernel_rfl) (by kernel_rfl) (by kernel_rfl) (fun _ _ _ h => h) (Or.inl ⟨by rfl, ?_⟩) (by assumption) ?_
                  rotate_left
                  · intro w hSw; (try dsimp only at hSw); obtain ⟨s1, s2, s3, s4⟩ := hSw; first | (go_simp; done) | (go_simp; with_reducible rfl)
                  try simp only [Act.put, List.setIfInBounds_toArray, List.set_cons_zero, List.set_cons_succ]
                  refine takeS (i := 20) (v := ?_) (some 41) rfl rfl (by kernel_rfl) (by kernel_rfl) (by kernel_rfl) (fun _ _ _ h => h) (Or.inl ⟨by rfl, ?_⟩) (by assumption) ?_
                  rotate_left
                  · intro w hSw; (try dsimp only at hSw); obtain ⟨s1, s2, s3, s4⟩ := hSw; first | (go_simp; done) | (go_simp; with_reducible rfl)
                  try simp only [Act.put, List.setIfInBounds_toArray, List.set_cons_zero, List.set_cons_succ]
                  refine wpAnyH_ready (rs := [21]) (by kernel_rfl) (by simp) ?_
                  refine AllReadyH.cons rfl (fun K hK => ?_) AllReadyH.nil
                  go_simp
                  refine hK.out _ _ ?_ (fun hHeld2 => ?_)
                  · (try dsimp only); exact ⟨y0, y1, y2, y3⟩
                  clear hK K hHeld
                  try simp only [Act.put, List.setIfInBounds_toArray, List.set_cons_zero, List.set_cons_succ]
                  have hHeld := hHeld2; clear hHeld2
                  refine wpAnyH_done (by kernel_rfl) ?_ _
                  go_wp2_with fail
                  go_roundw
                  case rel => exact ⟨k + 1, O6, oc6, _, by omega, by go_num, Hw7.out, Ht7.out, by rw [Htk.out]; exact Hown7.out, Hb7.out, Hap7.out⟩
                  case measure => simp [intOf]; omega
            · skip
              obtain ⟨z0, z1, z2, z3⟩ := HY.out.cell4
              have w2 := (HWb.out.cell3).2.2
              go_simp
              with_reducible refine (Hw3.out W5 (Hkeep2.out W5 (Below.refl _ _))).mono ?_
              rintro e w1 ⟨rfl, rfl⟩
              refine hK.out _ _ ?_ (fun hHeld2 => ?_)
              · (try dsimp only); exact ⟨z0, z1, z2, z3⟩
              clear hK K hHeld
              try simp only [Act.put, List.setIfInBounds_toArray, List.set_cons_zero, List.set_cons_succ]
              have hHeld := hHeld2; clear hHeld2
              clear z0 z1 z2 z3 w2
              refine takeS (i := 16) (v := ?_) (some 37) rfl rfl (by kernel_rfl) (by kernel_rfl) (by kernel_rfl) (fun _ _ _ h => h) (Or.inl ⟨by rfl, ?_⟩) (by assumption) ?_
              rotate_left
              · intro w hSw; (try dsimp only at hSw); obtain ⟨s1, s2, s3, s4⟩ := hSw; first | (go_simp; done) | (go_simp; with_reducible rfl)
              try simp only [Act.put, List.setIfInBounds_toArray, List.set_cons_zero, List.set_cons_succ]
              refine wpAnyH_ready (rs := [4, 17]) (by kernel_rfl) (by simp) ?_
              refine AllReadyH.cons rfl (fun K hK => ?_) (AllReadyH.cons rfl (fun K hK => ?_) AllReadyH.nil)
              · skip
                obtain ⟨z0, z1, z2, z3⟩ := HY.out.cell4
                have w2 := (HWb.out.cell3).2.2
                go_simp
                refine hK.out _ _ ?_ (fun hHeld2 => ?_)
                · (try dsimp only); exact ⟨z0, z1, z2, z3⟩
                clear hK K hHeld
                try simp only [Act.put, List.setIfInBounds_toArray, List.set_cons_zero, List.set_cons_succ]
                have hHeld := hHeld2; clear hHeld2
                clear z0 z1 z2 z3 w2
                refine wpAnyH_ready (rs := [17]) (by kernel_rfl) (by simp) ?_
                refine AllReadyH.cons rfl (fun K hK => ?_) AllReadyH.nil
                · skip
                  obtain ⟨z0, z1, z2, z3⟩ := HY.out.cell4
                  have w2 := (HWb.out.cell3).2.2
                  obtain ⟨y0, y1, y2, y3⟩ := (HY.out.alloc (.cells #[.int .u32 p1, .int .u32 p2, .int .u32 p3, .int .i64 o.cost] 220)).cell4
                  go_simp
                  refine hK.out _ _ ?_ (fun hHeld2 => ?_)
                  · (try dsimp only); exact ⟨y0, y1, y2, y3⟩
                  clear hK K hHeld
                  try simp only [Act.put, List.setIfInBounds_toArray, List.set_cons_zero, List.set_cons_succ]
                  have hHeld := hHeld2; clear hHeld2
                  clear z0 z1 z2 z3 w2 y0 y1 y2 y3
                  refine wpAnyH_ready (rs := [18]) (by kernel_rfl) (by simp) ?_
                  refine AllReadyH.cons rfl (fun K hK => ?_) AllReadyH.nil
                  refine step_pushS rfl _ _ 154 rfl w.heap.size 220 i1 _ 24 Tryz.underlying154 hi1 hy0 hy1 hy2 rfl (by decide) (A := A) (n := k) (c := c) (by first | rfl | (go_simp; done)) Hown.out (fun _ _ => trivial) [.int .u32 p1, .int .u32 p2, .int .u32 p3, .int .i64 o.cost] (mkOp o) (by intro u hu; simp at hu; rcases hu with hu | hu | hu | hu <;> subst hu <;> rfl) (by first | rfl | (go_simp; done)) (by rw [← Hmc.out]; exact firm_mk Hmk.out) (by omega) (by omega) Hbl4.out.size ?_
                  intro O6 oc6 w6 hown6 hch6 hat6
                  have lY := HY.out.lt
                  have lW := HWb.out.lt
                  have lT := HTb.out.lt
                  have nW : ¬ blkA A = some gW := fun e => (Hap.out gW e).1 rfl
                  have nT : ¬ blkA A = some gT := fun e => (Hap.out gT e).2 rfl
                  have hw6 := hch6.blk HWb.out nW
                  have ht6 := hch6.blk HTb.out nT
                  have hy6 := hch6.blk HY.out sA
                  have hb6 := row_below Hbl4.out Hbl4.out.size hch6 (fun r hr => (Hown.out.base hr).1)
                  have hset := Chg.set w6 gW 2 (.slice O6 (k + 1) oc6)
                  have hap6 : ∀ r, blkA O6 = some r → r ≠ gW ∧ r ≠ gT := fun r hr => by
                    rcases hat6 with e | e
                    · exact Hap.out r (by rw [← e]; exact hr)
                    · rw [e] at hr
                      injection hr with hr
                      omega
                  have hw7 := hw6.set 2 (.slice O6 (k + 1) oc6)
                  simp only [List.set_cons_zero, List.set_cons_succ] at hw7
                  have ht7 := hset.blk ht6 (fun e => by omega)
                  have hy7 := hset.blk hy6 (fun e => by omega)
                  have hown7 := (hown6.less (M' := fun _ => True) (fun i _ _ => .inl trivial)).chg hset (fun _ _ => trivial) (fun r hr e => (hap6 r hr).1 e)
                  have hb7 := hb6.setCell (p := ⟨gW, 2, none⟩) (show w.heap.size ≤ gW by have := HgT.out; omega) (.slice O6 (k + 1) oc6)
                  obtain ⟨z0, z1, z2, z3⟩ := hy6.cell4
                  have w2 := (hw6.cell3).2.2
                  have f2 := hw6.frozen 2
                  have l2 := hw6.lt
                  obtain ⟨y0, y1, y2, y3⟩ := hy7.cell4
                  have Hw7 := hide hw7
                  have Ht7 := hide ht7
                  have Hown7 := hide hown7
                  have Hb7 := hide hb7
                  have Hap7 := hide hap6
                  clear hown6 hch6 hat6 hw6 ht6 hy6 hb6 hset hw7 ht7 hy7 hown7 hb7 hap6
                  refine hK.out _ _ ?_ (fun hHeld2 => ?_)
                  · (try dsimp only); exact ⟨z0, z1, z2, z3⟩
                  clear hK K hHeld
                  try simp only [Act.put, List.setIfInBounds_toArray, List.set_cons_zero, List.set_cons_succ]
                  have hHeld := hHeld2; clear hHeld2
                  clear z0 z1 z2 z3
                  refine takeS (i := 19) (v := ?_) (some 40) rfl rfl (by kernel_rfl) (by kernel_rfl) (by kernel_rfl) (fun _ _ _ h => h) (Or.inl ⟨by rfl, ?_⟩) (by assumption) ?_
                  rotate_left
                  · intro w hSw; (try dsimp only at hSw); obtain ⟨s1, s2, s3, s4⟩ := hSw; first | (go_simp; done) | (go_simp; with_reducible rfl)
                  try simp only [Act.put, List.setIfInBounds_toArray, List.set_cons_zero, List.set_cons_succ]
                  refine takeS (i := 20) (v := ?_) (some 41) rfl rfl (by kernel_rfl) (by kernel_rfl) (by kernel_rfl) (fun _ _ _ h => h) (Or.inl ⟨by rfl, ?_⟩) (by assumption) ?_
                  rotate_left
                  · intro w hSw; (try dsimp only at hSw); obtain ⟨s1, s2, s3, s4⟩ := hSw; first | (go_simp; done) | (go_simp; with_reducible rfl)
                  try simp only [Act.put, List.setIfInBounds_toArray, List.set_cons_zero, List.set_cons_succ]
                  refine wpAnyH_ready (rs := [21]) (by kernel_rfl) (by simp) ?_
                  refine AllReadyH.cons rfl (fun K hK => ?_) AllReadyH.nil
                  go_simp
                  refine hK.out _ _ ?_ (fun hHeld2 => ?_)
                  · (try dsimp only); exact ⟨y0, y1, y2, y3⟩
                  clear hK K hHeld
                  try simp only [Act.put, List.setIfInBounds_toArray, List.set_cons_zero, List.set_cons_succ]
                  have hHeld := hHeld2; clear hHeld2
                  refine wpAnyH_done (by kernel_rfl) ?_ _
                  go_wp2_with fail
                  go_roundw
                  case rel => exact ⟨k + 1, O6, oc6, _, by omega, by go_num, Hw7.out, Ht7.out, by rw [Htk.out]; exact Hown7.out, Hb7.out, Hap7.out⟩
                  case measure => simp [intOf]; omega
              · skip
                obtain ⟨z0, z1, z2, z3⟩ := HY.out.cell4
                have w2 := (HWb.out.cell3).2.2
                obtain ⟨y0, y1, y2, y3⟩ := (HY.out.alloc (.cells #[.int .u32 p1, .int .u32 p2, .int .u32 p3, .int .i64 o.cost] 220)).cell4
                go_simp
                refine hK.out _ _ ?_ (fun hHeld2 => ?_)
                · (try dsimp only); exact ⟨y0, y1, y2, y3⟩
                clear hK K hHeld
                try simp only [Act.put, List.setIfInBounds_toArray, List.set_cons_zero, List.set_cons_succ]
                have hHeld := hHeld2; clear hHeld2
                clear z0 z1 z2 z3 w2 y0 y1 y2 y3
                refine wpAnyH_ready (rs := [4]) (by kernel_rfl) (by simp) ?_
                refine AllReadyH.cons rfl (fun K hK => ?_) AllReadyH.nil
                · skip
                  obtain ⟨z0, z1, z2, z3⟩ := (HY.out.alloc (.cells #[.int .u32 p1, .int .u32 p2, .int .u32 p3, .int .i64 o.cost] 220)).cell4
                  have w2 := ((HWb.out.alloc (.cells #[.int .u32 p1, .int .u32 p2, .int .u32 p3, .int .i64 o.cost] 220)).cell3).2.2
                  go_simp
                  refine hK.out _ _ ?_ (fun hHeld2 => ?_)
                  · (try dsimp only); exact ⟨z0, z1, z2, z3⟩
                  clear hK K hHeld
                  try simp only [Act.put, List.setIfInBounds_toArray, List.set_cons_zero, List.set_cons_succ]
                  have hHeld := hHeld2; clear hHeld2
                  clear z0 z1 z2 z3 w2
                  refine wpAnyH_ready (rs := [18]) (by kernel_rfl) (by simp) ?_
                  refine AllReadyH.cons rfl (fun K hK => ?_) AllReadyH.nil
                  refine step_pushS rfl _ _ 154 rfl w.heap.size 220 i1 _ 24 Tryz.underlying154 hi1 hy0 hy1 hy2 rfl (by decide) (A := A) (n := k) (c := c) (by first | rfl | (go_simp; done)) Hown.out (fun _ _ => trivial) [.int .u32 p1, .int .u32 p2, .int .u32 p3, .int .i64 o.cost] (mkOp o) (by intro u hu; simp at hu; rcases hu with hu | hu | hu | hu <;> subst hu <;> rfl) (by first | rfl | (go_simp; done)) (by rw [← Hmc.out]; exact firm_mk Hmk.out) (by omega) (by omega) Hbl4.out.size ?_
                  intro O6 oc6 w6 hown6 hch6 hat6
                  have lY := HY.out.lt
                  have lW := HWb.out.lt
                  have lT := HTb.out.lt
                  have nW : ¬ blkA A = some gW := fun e => (Hap.out gW e).1 rfl
                  have nT : ¬ blkA A = some gT := fun e => (Hap.out gT e).2 rfl
                  have hw6 := hch6.blk HWb.out nW
                  have ht6 := hch6.blk HTb.out nT
                  have hy6 := hch6.blk HY.out sA
                  have hb6 := row_below Hbl4.out Hbl4.out.size hch6 (fun r hr => (Hown.out.base hr).1)
                  have hset := Chg.set w6 gW 2 (.slice O6 (k + 1) oc6)
                  have hap6 : ∀ r, blkA O6 = some r → r ≠ gW ∧ r ≠ gT := fun r hr => by
                    rcases hat6 with e | e
                    · exact Hap.out r (by rw [← e]; exact hr)
                    · rw [e] at hr
                      injection hr with hr
                      omega
                  have hw7 := hw6.set 2 (.slice O6 (k + 1) oc6)
                  simp only [List.set_cons_zero, List.set_cons_succ] at hw7
                  have ht7 := hset.blk ht6 (fun e => by omega)
                  have hy7 := hset.blk hy6 (fun e => by omega)
                  have hown7 := (hown6.less (M' := fun _ => True) (fun i _ _ => .inl trivial)).chg hset (fun _ _ => trivial) (fun r hr e => (hap6 r hr).1 e)
                  have hb7 := hb6.setCell (p := ⟨gW, 2, none⟩) (show w.heap.size ≤ gW by have := HgT.out; omega) (.slice O6 (k + 1) oc6)
                  obtain ⟨z0, z1, z2, z3⟩ := hy6.cell4
                  have w2 := (hw6.cell3).2.2
                  have f2 := hw6.frozen 2
                  have l2 := hw6.lt
                  obtain ⟨y0, y1, y2, y3⟩ := hy7.cell4
                  have Hw7 := hide hw7
                  have Ht7 := hide ht7
                  have Hown7 := hide hown7
                  have Hb7 := hide hb7
                  have Hap7 := hide hap6
                  clear hown6 hch6 hat6 hw6 ht6 hy6 hb6 hset hw7 ht7 hy7 hown7 hb7 hap6
                  refine hK.out _ _ ?_ (fun hHeld2 => ?_)
                  · (try dsimp only); exact ⟨z0, z1, z2, z3⟩
                  clear hK K hHeld
                  try simp only [Act.put, List.setIfInBounds_toArray, List.set_cons_zero, List.set_cons_succ]
                  have hHeld := hHeld2; clear hHeld2
                  clear z0 z1 z2 z3
                  refine takeS (i := 19) (v := ?_) (some 40) rfl rfl (by kernel_rfl) (by kernel_rfl) (by kernel_rfl) (fun _ _ _ h => h) (Or.inl ⟨by rfl, ?_⟩) (by assumption) ?_
                  rotate_left
                  · intro w hSw; (try dsimp only at hSw); obtain ⟨s1, s2, s3, s4⟩ := hSw; first | (go_simp; done) | (go_simp; with_reducible rfl)
                  try simp only [Act.put, List.setIfInBounds_toArray, List.set_cons_zero, List.set_cons_succ]
                  refine takeS (i := 20) (v := ?_) (some 41) rfl rfl (by kernel_rfl) (by kernel_rfl) (by kernel_rfl) (fun _ _ _ h => h) (Or.inl ⟨by rfl, ?_⟩) (by assumption) ?_
                  rotate_left
                  · intro w hSw; (try dsimp only at hSw); obtain ⟨s1, s2, s3, s4⟩ := hSw; first | (go_simp; done) | (go_simp; with_reducible rfl)
                  try simp only [Act.put, List.setIfInBounds_toArray, List.set_cons_zero, List.set_cons_succ]
                  refine wpAnyH_ready (rs := [21]) (by kernel_rfl) (by simp) ?_
                  refine AllReadyH.cons rfl (fun K hK => ?_) AllReadyH.nil
                  go_simp
                  refine hK.out _ _ ?_ (fun hHeld2 => ?_)
                  · (try dsimp only); exact ⟨y0, y1, y2, y3⟩
                  clear hK K hHeld
                  try simp only [Act.put, List.setIfInBounds_toArray, List.set_cons_zero, List.set_cons_succ]
                  have hHeld := hHeld2; clear hHeld2
                  refine wpAnyH_done (by kernel_rfl) ?_ _
                  go_wp2_with fail
                  go_roundw
                  case rel => exact ⟨k + 1, O6, oc6, _, by omega, by go_num, Hw7.out, Ht7.out, by rw [Htk.out]; exact Hown7.out, Hb7.out, Hap7.out⟩
                  case measure => simp [intOf]; omega
      · obtain rfl : k = nO := by omega
        have hall : (T.ops.take k).map mkOp = T.ops.map mkOp := by rw [List.take_of_length_le (by rw [HlO.out]; omega)]
        rw [hall] at hown
        have hvI := HvI.out
        have hvG := HvG.out
        have hg := HgT.out
        have HWb := hide hWb
        have Hown := hide hown
        have Hbl := hide hbl
        have c30 := (hTb.cell4).2.2.2
        clear hWb hTb hown hbl hap hall
        go_wp2_with fail
        go_ret
        subst hvI hvG
        exact ⟨Hbl.out, gW, rfl, by omega, HWb.out.lt, fun w'' hc => ⟨⟨A, k, c, hc.blk HWb.out (by omega), (Hown.out.chg hc (fun _ _ => trivial) (fun r hr e => by have := (Hown.out.base hr).1; omega)).rd⟩, hwI, hwG, by rw [List.length_map, HlO.out]; omega⟩⟩

end Go.Proofs.YtmjiiddncbhgpaaGreat
namespace Go.Proofs.YtmjiiddncbhgpaaGreat
set_option linter.unusedVariables false
set_option linter.unusedSimpArgs false
open Go.RowKit
theorem own_lowR {w : World} {B B' : Nat} {e : TypeId} {size n : Nat} {v : Value} {xs : List Value} (h : w.ownsRow B e size v n xs) (hB : B' ≤ B) : w.ownsRow B' e size v n xs := by
  refine ⟨h.1, ?_⟩
  rcases h.2 with h3 | ⟨r, cap, cur, e1, hr, hc, rest⟩
  · exact .inl h3
  · exact .inr ⟨r, cap, cur, e1, by omega, hc, rest⟩
def pickR (n : Nat) (f : Nat → Bool) : List Int := ((List.range n).filter f).map fun j : Nat => (j : Int)
theorem pickR_mem {n : Nat} {f : Nat → Bool} {x : Int} : x ∈ pickR n f ↔ ∃ p : Nat, p < n ∧ f p = true ∧ x = (p : Int) := by
  unfold pickR
  rw [List.mem_map]
  constructor
  · rintro ⟨p, hp, rfl⟩
    obtain ⟨h1, h2⟩ := List.mem_filter.1 hp
    exact ⟨p, List.mem_range.1 h1, h2, rfl⟩
  · rintro ⟨p, h1, h2, rfl⟩
    exact ⟨p, List.mem_filter.2 ⟨List.mem_range.2 h1, h2⟩, rfl⟩
theorem pickR_up (n : Nat) (f : Nat → Bool) : (pickR n f).Pairwise (· < ·) := by
  unfold pickR
  rw [List.pairwise_map]
  exact (List.pairwise_lt_range.sublist List.filter_sublist).imp fun {a b} h => by omega
theorem pickR_set (n : Nat) (f : Nat → Bool) : setB n (pickR n f) = true := setB_iff.2 ⟨pickR_up n f, fun x hx => by
  obtain ⟨p, h1, _, rfl⟩ := pickR_mem.1 hx
  omega⟩
theorem pickR_succ (n : Nat) (f : Nat → Bool) : pickR (n + 1) f = pickR n f ++ (if f n = true then [(n : Int)] else []) := by
  unfold pickR
  rw [List.range_succ, List.filter_append, List.map_append, List.filter_cons, List.filter_nil]
  split <;> rfl
def aftR (N : Nat) (o : Opr) (s : List Int) : List Int := pickR N fun p => hasB o.add (p : Int) || (hasB s (p : Int) && !hasB o.del (p : Int))
theorem aftR_upd {N : Nat} {o : Opr} (ho : OkOp N o) {s : List Int} (hs : setB N s = true) : aftR N o s = updF s o.add o.del := by
  refine up_ext (pickR_up _ _) (updF_up _ _ _) fun x => ?_
  rw [updF_mem]
  unfold aftR
  rw [pickR_mem]
  constructor
  · rintro ⟨p, h1, h2, rfl⟩
    rw [Bool.or_eq_true, Bool.and_eq_true, hasB_iff, hasB_iff, Bool.not_eq_true', ← Bool.not_eq_true, hasB_iff] at h2
    rcases h2 with h | h
    · exact .inr h
    · exact .inl h
  · intro h
    have hx : 0 ≤ x ∧ x < N := by
      rcases h with h | h
      · exact (setB_iff.1 hs).2 x h.1
      · exact (setB_iff.1 ho.add).2 x h
    refine ⟨x.toNat, by omega, ?_, by omega⟩
    rw [show ((x.toNat : Nat) : Int) = x by omega, Bool.or_eq_true, Bool.and_eq_true, hasB_iff, hasB_iff, Bool.not_eq_true', ← Bool.not_eq_true, hasB_iff]
    rcases h with h | h
    · exact .inr h
    · exact .inl h
set_option maxRecDepth 100000 in
set_option maxHeartbeats 3200000 in
theorem RApplies_ct (a : TA) (T : Tsk) (B : Option Addr) (m d : Nat) (l : List Int) (q : Nat) (w : World) (h : TkR w a T) (hl : Rd Enc.int w B m d l) (hq : q < a.nO) :
    Calls Tryz.prog 50 #[.agg #[.int .i64 T.facts, .slice a.I a.nI a.cI, .slice a.G a.nG a.cG, .slice a.O a.nO a.cO], .slice B m d, .int .i64 q] w (Gives w (.bool (subsetB (opAt T.ops q).pre l))) := by
  obtain ⟨I, nI, cI, G, nG, cG, O, nO, cO⟩ := a
  simp only at hq ⊢
  have H := hide h
  have Hl := hide hl
  obtain ⟨b1, off1, o, A1, n1, d1, A2, n2, d2, A3, n3, d3, rfl, hoq, g0, g1, g2, g3, r1, r2, r3, r4⟩ := h.ops.op hq
  have hb1 : b1 < w.heap.size := World.block_lt_of_cell? w _ g0
  have hgo := opAt_eq hoq
  have hlow := h.ops.low
  simp only at hlow
  have Hgo := hide hgo
  have R1 := hide r1
  have R2 := hide r2
  have R3_ := hide r3
  have K0 := hide g0
  have K1 := hide g1
  have K2 := hide g2
  have K3 := hide g3
  clear h hl hoq r1 r2 r3 r4 g0 g1 g2 g3 hgo
  have Hbl := hide (Below.refl w.heap.size w)
  go_enter Tryz.func50, Tryz.ntmps50
  go_upto_region 1 with (fail)
  obtain ⟨B0, hB0⟩ : ∃ B0, B0 = w.heap.size := ⟨_, rfl⟩
  have HB0 := hide hB0
  clear hB0
  have s_0 : B0 ≤ w.heap.size := Nat.le_trans (Nat.le_of_eq HB0.out) Hbl.out.size
  have hyt := Blk.new (w) 25 [.int .i64 T.facts, .slice I nI cI, .slice G nG cG, .slice (some ⟨b1, off1, none⟩) nO cO]
  have hbW : Below (w).heap.size (w) ((w).alloc (.cells #[.int .i64 T.facts, .slice I nI cI, .slice G nG cG, .slice (some ⟨b1, off1, none⟩) nO cO] 25)) := (Below.refl _ _).alloc (Nat.le_refl _) _
  obtain ⟨w0, hW⟩ : ∃ W, W = (w).alloc (.cells #[.int .i64 T.facts, .slice I nI cI, .slice G nG cG, .slice (some ⟨b1, off1, none⟩) nO cO] 25) := ⟨_, rfl⟩
  rw [← hW] at hyt hbW ⊢
  replace Hbl := hide (Hbl.out.trans (hbW.mono Hbl.out.size))
  have Ht := hide hyt
  clear hW hbW hyt
  generalize w.heap.size = gT at Ht s_0 ⊢
  have t0 := Ht.out.cell 0
  have t1 := Ht.out.cell 1
  have t2 := Ht.out.cell 2
  have t3 := Ht.out.cell 3
  have tl := Ht.out.lt
  simp only [List.getElem?_cons_zero, List.getElem?_cons_succ] at t0 t1 t2 t3
  have a_t : B0 ≤ gT := by omega
  clear s_0
  have k0 := ((olds Hbl.out).1 _ _ hb1).trans K0.out
  have k1 := ((olds Hbl.out).1 _ _ hb1).trans K1.out
  have k2 := ((olds Hbl.out).1 _ _ hb1).trans K2.out
  have k3 := ((olds Hbl.out).1 _ _ hb1).trans K3.out
  have hmk : ((q : Nat) : Int) < (nO : Int) := by omega
  go_wp2_with fail
  have hct := Subset_ct A1 B n1 d1 m d o.pre l w0 (R1.out.keep Hbl.out) (Hl.out.keep Hbl.out)
  with_reducible refine hct.mono ?_
  rintro e w1 ⟨rfl, hqt⟩
  have Hqt := hide hqt
  clear hct hqt
  go_wp2_with fail
  go_ret
  exact ⟨ret_bool (by rw [Hgo.out]), Hbl.out.trans (Hqt.out.below _)⟩
set_option maxRecDepth 100000 in
set_option maxHeartbeats 3200000 in
theorem RAfter_ct (a : TA) (T : Tsk) (N : Nat) (B : Option Addr) (m d : Nat) (l : List Int) (q : Nat) (w : World) (h : TkR w a T) (hf : T.facts = N) (hN : N ≤ 1000) (hl : Rd Enc.int w B m d l) (hq : q < a.nO) :
    Calls Tryz.prog 51 #[.agg #[.int .i64 T.facts, .slice a.I a.nI a.cI, .slice a.G a.nG a.cG, .slice a.O a.nO a.cO], .slice B m d, .int .i64 q] w (MadeI w (aftR N (opAt T.ops q) l)) := by
  obtain ⟨i1, hi1, hy0, hy1, hy2⟩ := info_parts intInfoT
  obtain ⟨I, nI, cI, G, nG, cG, O, nO, cO⟩ := a
  simp only at hq ⊢
  rw [hf]
  have H := hide h
  have Hl := hide hl
  obtain ⟨b1, off1, o, A1, n1, d1, A2, n2, d2, A3, n3, d3, rfl, hoq, g0, g1, g2, g3, r1, r2, r3, r4⟩ := h.ops.op hq
  have hb1 : b1 < w.heap.size := World.block_lt_of_cell? w _ g0
  have hgo := opAt_eq hoq
  have hlow := h.ops.low
  simp only at hlow
  have Hgo := hide hgo
  have R1 := hide r1
  have R2 := hide r2
  have R3_ := hide r3
  have K0 := hide g0
  have K1 := hide g1
  have K2 := hide g2
  have K3 := hide g3
  clear h hl hoq r1 r2 r3 r4 g0 g1 g2 g3 hgo
  have Hbl := hide (Below.refl w.heap.size w)
  go_enter Tryz.func51, Tryz.ntmps51
  go_upto_region 1 with (fail)
  obtain ⟨B0, hB0⟩ : ∃ B0, B0 = w.heap.size := ⟨_, rfl⟩
  have HB0 := hide hB0
  clear hB0
  have s_0 : B0 ≤ w.heap.size := Nat.le_trans (Nat.le_of_eq HB0.out) Hbl.out.size
  have hyt := Blk.new (w) 25 [.int .i64 N, .slice I nI cI, .slice G nG cG, .slice (some ⟨b1, off1, none⟩) nO cO]
  have hbW : Below (w).heap.size (w) ((w).alloc (.cells #[.int .i64 N, .slice I nI cI, .slice G nG cG, .slice (some ⟨b1, off1, none⟩) nO cO] 25)) := (Below.refl _ _).alloc (Nat.le_refl _) _
  obtain ⟨w0, hW⟩ : ∃ W, W = (w).alloc (.cells #[.int .i64 N, .slice I nI cI, .slice G nG cG, .slice (some ⟨b1, off1, none⟩) nO cO] 25) := ⟨_, rfl⟩
  rw [← hW] at hyt hbW ⊢
  replace Hbl := hide (Hbl.out.trans (hbW.mono Hbl.out.size))
  have Ht := hide hyt
  clear hW hbW hyt
  generalize w.heap.size = gT at Ht s_0 ⊢
  have t0 := Ht.out.cell 0
  have t1 := Ht.out.cell 1
  have t2 := Ht.out.cell 2
  have t3 := Ht.out.cell 3
  have tl := Ht.out.lt
  simp only [List.getElem?_cons_zero, List.getElem?_cons_succ] at t0 t1 t2 t3
  have a_t : B0 ≤ gT := by omega
  clear s_0
  go_wp2_with fail
  have hw0 := Hbl.out.size
  clear t0 t1 t2 t3 tl
  have hmk : ((q : Nat) : Int) < (nO : Int) := by omega
  go_loopw [7, 8] (fun ov i wr => ∃ (k : Nat) (O' : Option Addr) (r oc : Nat) (vs : List Value), k ≤ N ∧ i = .int .i64 k ∧ ov = .slice O' r oc ∧ OwnE Enc.int 3 w0.heap.size (fun b => w0.heap.size ≤ b) wr O' r oc vs (pickR k fun p => hasB o.add (p : Int) || (hasB l (p : Int) && !hasB o.del (p : Int))) ∧ Below w0.heap.size w0 wr) (fun _ i _ => N - (intOf i).toNat)
  case atStart => exact ⟨0, none, 0, 0, [], by omega, rfl, rfl, OwnE.nil _ _ _ _ _, Below.refl _ _⟩
  case round =>
    obtain ⟨k, O', r, oc, vs, hk, rfl, rfl, hown, hb⟩ := hrel
    have hqk : r ≤ k := by
      rw [← hown.len]
      unfold pickR
      rw [List.length_map]
      exact Nat.le_trans (List.length_filter_le _ _) (by simp)
    replace Ht := hide (Ht.out.keep hb)
    replace Hbl := hide (Hbl.out.trans (hb.mono Hbl.out.size))
    have Hown := hide hown
    have Hb := hide hb
    clear hown hb
    have t0 := Ht.out.cell 0
    have t1 := Ht.out.cell 1
    have t2 := Ht.out.cell 2
    have t3 := Ht.out.cell 3
    have tl := Ht.out.lt
    simp only [List.getElem?_cons_zero, List.getElem?_cons_succ] at t0 t1 t2 t3
    have k0 := ((olds Hbl.out).1 _ _ hb1).trans K0.out
    have k1 := ((olds Hbl.out).1 _ _ hb1).trans K1.out
    have k2 := ((olds Hbl.out).1 _ _ hb1).trans K2.out
    have k3 := ((olds Hbl.out).1 _ _ hb1).trans K3.out
    by_cases hlt : k < N
    · have hki : (k : Int) < (N : Int) := by omega
      have hps := pickR_succ k fun p => hasB o.add (p : Int) || (hasB l (p : Int) && !hasB o.del (p : Int))
      have c1 := Has_ct A2 n2 d2 o.add (k : Int) wr (R2.out.keep Hbl.out)
      have c2 := Has_ct B m d l (k : Int) wr (Hl.out.keep Hbl.out)
      have c3 := Has_ct A3 n3 d3 o.del (k : Int) wr (R3_.out.keep Hbl.out)
      obtain ⟨v1, hv1⟩ : ∃ z, z = hasB o.add (k : Int) := ⟨_, rfl⟩
      obtain ⟨v2, hv2⟩ : ∃ z, z = hasB l (k : Int) := ⟨_, rfl⟩
      obtain ⟨v3, hv3⟩ : ∃ z, z = hasB o.del (k : Int) := ⟨_, rfl⟩
      rw [← hv1] at c1
      rw [← hv2] at c2
      rw [← hv3] at c3
      simp only [← hv1, ← hv2, ← hv3] at hps
      have Hps := hide hps
      have C1 := hide c1
      have C2 := hide c2
      have C3 := hide c3
      have hsz1 := Hb.out.size
      clear hps c1 c2 c3 hv1 hv2 hv3
      cases v1 <;> cases v2 <;> cases v3
      · go_wp2_with (first
          | (go_at_call 58; (first | (with_reducible refine C1.out.mono ?_) | (with_reducible refine C2.out.mono ?_) | (with_reducible refine C3.out.mono ?_)); rintro e w5 ⟨rfl, rfl⟩))
        go_roundw
        case rel => exact ⟨k + 1, O', r, oc, vs, by omega, by go_num, rfl, by rw [Hps.out]; simpa using Hown.out, Hb.out⟩
        case measure => simp [intOf]; omega
      · go_wp2_with (first
          | (go_at_call 58; (first | (with_reducible refine C1.out.mono ?_) | (with_reducible refine C2.out.mono ?_) | (with_reducible refine C3.out.mono ?_)); rintro e w5 ⟨rfl, rfl⟩))
        go_roundw
        case rel => exact ⟨k + 1, O', r, oc, vs, by omega, by go_num, rfl, by rw [Hps.out]; simpa using Hown.out, Hb.out⟩
        case measure => simp [intOf]; omega
      · go_wp2_with (first
          | (go_at_call 58; (first | (with_reducible refine C1.out.mono ?_) | (with_reducible refine C2.out.mono ?_) | (with_reducible refine C3.out.mono ?_)); rintro e w5 ⟨rfl, rfl⟩)
          | (at_builtin
             refine wpList_pushE rfl _ _ 22 rfl w0.heap.size 3 i1 (.int .i64 0) 8 Tryz.underlying22 hi1 hy0 hy1 hy2 rfl (by decide) rfl Hown.out (fun r hr => (Hown.out.base hr).1) [.int .i64 k] k (by intro u hu; simp at hu; subst hu; rfl) rfl (firm_int (by omega) (by omega)) (by omega) (by omega) hsz1 ?_
             intro O6 oc6 w6 hown6 hch6 hat6
             have hown6 := hown6.less (M' := fun b => w0.heap.size ≤ b) (fun i _ e => .inl e)
             have hb6 := row_below Hb.out hsz1 hch6 (fun r hr => (Hown.out.base hr).1)
             have Hown6 := hide hown6
             have Hb6 := hide hb6
             clear hown6 hch6 hat6 hb6))
        go_roundw
        case rel => exact ⟨k + 1, O6, r + 1, oc6, _, by omega, by go_num, rfl, by rw [Hps.out]; simpa using Hown6.out, Hb6.out⟩
        case measure => simp [intOf]; omega
      · go_wp2_with (first
          | (go_at_call 58; (first | (with_reducible refine C1.out.mono ?_) | (with_reducible refine C2.out.mono ?_) | (with_reducible refine C3.out.mono ?_)); rintro e w5 ⟨rfl, rfl⟩))
        go_roundw
        case rel => exact ⟨k + 1, O', r, oc, vs, by omega, by go_num, rfl, by rw [Hps.out]; simpa using Hown.out, Hb.out⟩
        case measure => simp [intOf]; omega
      · go_wp2_with (first
          | (go_at_call 58; (first | (with_reducible refine C1.out.mono ?_) | (with_reducible refine C2.out.mono ?_) | (with_reducible refine C3.out.mono ?_)); rintro e w5 ⟨rfl, rfl⟩)
          | (at_builtin
             refine wpList_pushE rfl _ _ 22 rfl w0.heap.size 3 i1 (.int .i64 0) 8 Tryz.underlying22 hi1 hy0 hy1 hy2 rfl (by decide) rfl Hown.out (fun r hr => (Hown.out.base hr).1) [.int .i64 k] k (by intro u hu; simp at hu; subst hu; rfl) rfl (firm_int (by omega) (by omega)) (by omega) (by omega) hsz1 ?_
             intro O6 oc6 w6 hown6 hch6 hat6
             have hown6 := hown6.less (M' := fun b => w0.heap.size ≤ b) (fun i _ e => .inl e)
             have hb6 := row_below Hb.out hsz1 hch6 (fun r hr => (Hown.out.base hr).1)
             have Hown6 := hide hown6
             have Hb6 := hide hb6
             clear hown6 hch6 hat6 hb6))
        go_roundw
        case rel => exact ⟨k + 1, O6, r + 1, oc6, _, by omega, by go_num, rfl, by rw [Hps.out]; simpa using Hown6.out, Hb6.out⟩
        case measure => simp [intOf]; omega
      · go_wp2_with (first
          | (go_at_call 58; (first | (with_reducible refine C1.out.mono ?_) | (with_reducible refine C2.out.mono ?_) | (with_reducible refine C3.out.mono ?_)); rintro e w5 ⟨rfl, rfl⟩)
          | (at_builtin
             refine wpList_pushE rfl _ _ 22 rfl w0.heap.size 3 i1 (.int .i64 0) 8 Tryz.underlying22 hi1 hy0 hy1 hy2 rfl (by decide) rfl Hown.out (fun r hr => (Hown.out.base hr).1) [.int .i64 k] k (by intro u hu; simp at hu; subst hu; rfl) rfl (firm_int (by omega) (by omega)) (by omega) (by omega) hsz1 ?_
             intro O6 oc6 w6 hown6 hch6 hat6
             have hown6 := hown6.less (M' := fun b => w0.heap.size ≤ b) (fun i _ e => .inl e)
             have hb6 := row_below Hb.out hsz1 hch6 (fun r hr => (Hown.out.base hr).1)
             have Hown6 := hide hown6
             have Hb6 := hide hb6
             clear hown6 hch6 hat6 hb6))
        go_roundw
        case rel => exact ⟨k + 1, O6, r + 1, oc6, _, by omega, by go_num, rfl, by rw [Hps.out]; simpa using Hown6.out, Hb6.out⟩
        case measure => simp [intOf]; omega
      · go_wp2_with (first
          | (go_at_call 58; (first | (with_reducible refine C1.out.mono ?_) | (with_reducible refine C2.out.mono ?_) | (with_reducible refine C3.out.mono ?_)); rintro e w5 ⟨rfl, rfl⟩)
          | (at_builtin
             refine wpList_pushE rfl _ _ 22 rfl w0.heap.size 3 i1 (.int .i64 0) 8 Tryz.underlying22 hi1 hy0 hy1 hy2 rfl (by decide) rfl Hown.out (fun r hr => (Hown.out.base hr).1) [.int .i64 k] k (by intro u hu; simp at hu; subst hu; rfl) rfl (firm_int (by omega) (by omega)) (by omega) (by omega) hsz1 ?_
             intro O6 oc6 w6 hown6 hch6 hat6
             have hown6 := hown6.less (M' := fun b => w0.heap.size ≤ b) (fun i _ e => .inl e)
             have hb6 := row_below Hb.out hsz1 hch6 (fun r hr => (Hown.out.base hr).1)
             have Hown6 := hide hown6
             have Hb6 := hide hb6
             clear hown6 hch6 hat6 hb6))
        go_roundw
        case rel => exact ⟨k + 1, O6, r + 1, oc6, _, by omega, by go_num, rfl, by rw [Hps.out]; simpa using Hown6.out, Hb6.out⟩
        case measure => simp [intOf]; omega
      · go_wp2_with (first
          | (go_at_call 58; (first | (with_reducible refine C1.out.mono ?_) | (with_reducible refine C2.out.mono ?_) | (with_reducible refine C3.out.mono ?_)); rintro e w5 ⟨rfl, rfl⟩)
          | (at_builtin
             refine wpList_pushE rfl _ _ 22 rfl w0.heap.size 3 i1 (.int .i64 0) 8 Tryz.underlying22 hi1 hy0 hy1 hy2 rfl (by decide) rfl Hown.out (fun r hr => (Hown.out.base hr).1) [.int .i64 k] k (by intro u hu; simp at hu; subst hu; rfl) rfl (firm_int (by omega) (by omega)) (by omega) (by omega) hsz1 ?_
             intro O6 oc6 w6 hown6 hch6 hat6
             have hown6 := hown6.less (M' := fun b => w0.heap.size ≤ b) (fun i _ e => .inl e)
             have hb6 := row_below Hb.out hsz1 hch6 (fun r hr => (Hown.out.base hr).1)
             have Hown6 := hide hown6
             have Hb6 := hide hb6
             clear hown6 hch6 hat6 hb6))
        go_roundw
        case rel => exact ⟨k + 1, O6, r + 1, oc6, _, by omega, by go_num, rfl, by rw [Hps.out]; simpa using Hown6.out, Hb6.out⟩
        case measure => simp [intOf]; omega
    · obtain rfl : N = k := by omega
      have hsz9 : w.heap.size ≤ w0.heap.size := hw0
      have hints := own_lowR Hown.out.ints hsz9
      have hql := Hown.out.len
      have Hints := hide hints
      have Hq := hide hql
      clear hints hql
      go_wp2_with fail
      go_ret
      rw [Hgo.out]
      refine ⟨Hbl.out, O', oc, ?_, ?_⟩
      · unfold aftR
        rw [Hq.out]
        rfl
      · unfold aftR
        rw [Hq.out]
        exact Hints.out
end Go.Proofs.YtmjiiddncbhgpaaGreat
