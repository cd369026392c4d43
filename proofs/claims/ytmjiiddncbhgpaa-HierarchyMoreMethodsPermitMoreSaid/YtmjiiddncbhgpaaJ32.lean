/- HierarchyMoreMethodsPermitMore: a refinement remains one if there are more methods, part 32: La40. -/
import Derived.Test.YtmjiiddncbhgpaaJ1
import Derived.Test.YtmjiiddncbhgpaaJ2
import Derived.Test.YtmjiiddncbhgpaaJ3
import Derived.Test.YtmjiiddncbhgpaaJ4
import Derived.Test.YtmjiiddncbhgpaaJ5
import Derived.Test.YtmjiiddncbhgpaaJ6
import Derived.Test.YtmjiiddncbhgpaaJ7
import Derived.Test.YtmjiiddncbhgpaaJ8
import Derived.Test.YtmjiiddncbhgpaaJ9
import Derived.Test.YtmjiiddncbhgpaaJ10
import Derived.Test.YtmjiiddncbhgpaaJ11
import Derived.Test.YtmjiiddncbhgpaaJ12
import Derived.Test.YtmjiiddncbhgpaaJ13
import Derived.Test.YtmjiiddncbhgpaaJ14
import Derived.Test.YtmjiiddncbhgpaaJ15
import Derived.Test.YtmjiiddncbhgpaaJ16
import Derived.Test.YtmjiiddncbhgpaaJ17
import Derived.Test.YtmjiiddncbhgpaaJ18
import Derived.Test.YtmjiiddncbhgpaaJ19
import Derived.Test.YtmjiiddncbhgpaaJ20
import Derived.Test.YtmjiiddncbhgpaaJ21
import Derived.Test.YtmjiiddncbhgpaaJ22
import Derived.Test.YtmjiiddncbhgpaaJ23
import Derived.Test.YtmjiiddncbhgpaaJ24
import Derived.Test.YtmjiiddncbhgpaaJ25
import Derived.Test.YtmjiiddncbhgpaaJ26
import Derived.Test.YtmjiiddncbhgpaaJ27
import Derived.Test.YtmjiiddncbhgpaaJ28
import Derived.Test.YtmjiiddncbhgpaaJ29
import Derived.Test.YtmjiiddncbhgpaaJ30
import Derived.Test.YtmjiiddncbhgpaaJ31
import Derived.BigQuiet
import Derived.BigRegionIn
import Derived.ChangeOld
import Derived.Deep.AppendLies
import Derived.Deep.DeepCutAuto
import Derived.Deep.Draws
import Derived.Deep.Fields
import Derived.Deep.LoopGhost
import Derived.Deep.QuietTactic
import Derived.Deep.RegionHeld3
import Derived.Deep.Slices
import Derived.DeepKeys4
import Derived.Ground.Names2Prog
import Derived.Ground.SlgnProg
import Derived.Ground.SlsfProg
import Derived.IntWalk
import Derived.Laws.AppendOwnNone
import Derived.Laws.BitsAllLaws
import Derived.Laws.OwnMore
import Derived.Lib.Hide
import Derived.Lib.SlicesCompact
import Derived.LoopIn
import Derived.LoopNIn
import Derived.Maps.AppendAt
import Derived.Maps.OwnIn
import Derived.Maps.OwnOps
import Derived.Maps.OwnSet
import Derived.OpenShut
import Derived.OrdersHeld
import Derived.OrdersIn
import Derived.OwnWalkIn
import Derived.ProofKit
import Derived.RangeFuncBound
import Derived.RangeFuncCalls
import Derived.RangeFuncKeeps
import Derived.RangeFuncLeaves
import Derived.RangeFuncNested
import Derived.Shelf.Abstract
import Derived.Shelf.RegionOpen
import Derived.Shelf.SlSortCmp.Whole1
import Derived.Shelf.Slices.Cells
import Derived.Shelf.Slices.Clone
import Derived.Shelf.Slices.CompactI
import Derived.Shelf.Slices.Empties
import Derived.Shelf.Slices.In.SortNone
import Derived.Shelf.Slices.SearchI
import Derived.Shelf.Sort.Plain
import Derived.SizedLaws
import Derived.Sort.CutIn
import Derived.Sort.OwnSortedInts
import Derived.StillTail
import Derived.StillTailTactics
import Derived.TacticsInMore
import Derived.Test.YtmjiiddncbhgpaaProg
import Derived.Test.YtmjiiddncbhgpaaRows
import Derived.WalkKit
import Derived.WideKeyEntry
namespace Go.Proofs.Ytmjiiddncbhgpaa
set_option linter.unusedVariables false
set_option linter.unusedSimpArgs false
open Go.RowKit
theorem meInfo : (Try.prog.info? 43).map (fun i => (i.zero, i.size, i.bytes)) = some (some (.agg #[.int .i64 0, .slice none 0 0, .slice none 0 0]), 3, 56) := by kernel_rfl
/-- one method more -/
theorem wpList_pushMe {w : World} {ops : Array Oper} {rest : List Oper} {o : Oper} {a : Act} {Q : Exit → Act → World → Prop} (hgd : o.guard = none) (s x : Operand)
    (ho : o.op = .call { callee := .builtin .append, args := #[s, x], argTypes := #[35, 35] })
    {B : Nat} {A : Option Addr} {n c : Nat} {M : Nat → Prop} {vs : List Value} {xs : List Hm} (hs : a.eval s = .slice A n c) (hown : OwnE Enc.me 43 B M w A n c vs xs) (hA : ∀ r, blkA A = some r → M r) (u0 u1 u2 : Value) (y : Hm) (ho0 : u0.oneCell' = true) (ho1 : u1.oneCell' = true) (ho2 : u2.oneCell' = true) (hx : a.eval x = .slice (some ⟨w.heap.size, 0, none⟩) 1 1) (hf : Firm Enc.me M w [u0, u1, u2] y) (hn : (n + 1) * 56 ≤ 140737488355328) (hbase : B ≤ w.heap.size)
    (h : ∀ O oc w', OwnE Enc.me 43 B (fun b => M b ∨ w.heap.size ≤ b) w' O (n + 1) oc (vs ++ [u0, u1, u2]) (xs ++ [y]) → Chg (fun b => blkA A = some b) w w' → (blkA O = blkA A ∨ blkA O = some (w.heap.size + 1)) → wpList Try.prog ops Q rest (a.put o.dst (.slice O (n + 1) oc)) w') :
    wpList Try.prog ops Q (o :: rest) a (w.alloc (.cells #[u0, u1, u2] 43)) := by
  obtain ⟨i1, hi1, hy0, hy1, hy2⟩ := info_parts meInfo
  exact wpList_pushE hgd s x 35 ho B 43 i1 (.agg #[.int .i64 0, .slice none 0 0, .slice none 0 0]) 56 Try.underlying35 hi1 hy0 hy1 hy2 rfl (by decide) hs hown hA [u0, u1, u2] y (by intro u hu; simp only [List.mem_cons, List.not_mem_nil, or_false] at hu; rcases hu with rfl | rfl | rfl <;> assumption) hx hf (by omega) hn hbase h
theorem own_neB {B n c : Nat} {w : World} {A : Option Addr} {M : Nat → Prop} {vs : List Value} {xs : List Hm} {t : TypeId} {g : Nat} {cs : List Value} (h : OwnE Enc.me 43 B M w A n c vs xs) (k : Blk t w g cs) (ht : 43 ≠ t) : blkA A ≠ some g := fun hr => by
  rcases h.own.2 with ⟨e, _⟩ | ⟨q, cap, cur, e, _, hc, _⟩
  · injection e with e1 e2 e3
    subst e1
    cases hr
  · injection e with e1 e2 e3
    subst e1
    obtain rfl : q = g := by simpa [blkA] using hr
    unfold Blk at k
    rw [hc] at k
    injection k with k
    injection k with _ k _
    exact ht k
set_option maxRecDepth 100000 in
theorem weight_hier {H : Type} {enc : TypeId × Value → H} {W : World} {sp : Nat → Bool} {hd : Bool} {c0 c1 c2 c3 c4 c6 : Value} {M : Option Addr} {nM cM : Nat} {d : DataW H} {p : List MemPlace}
    (h : DataW.Trod enc Try.prog W 0 sp hd 37 (.agg #[c0, c1, c2, c3, c4, .slice M nM cM, c6]) d p) (hw : ∀ x ∈ d.weights Try.prog 37, x ≤ reachBytes) : nM * 56 ≤ 140737488351232 := by
  obtain ⟨fuel, hf⟩ := h
  obtain ⟨xs, n, _, e, hl, hxl, hfi⟩ := DataW.trod_struct Try.underlying37 hf
  have g2 := hfi 2 _ rfl
  obtain ⟨y2, e2⟩ : ∃ y, xs[2]? = some y := ⟨_, List.getElem?_eq_getElem (by rw [hxl]; simp)⟩
  rw [e2] at g2
  injection e with ed ep
  refine weight_sl (enc := enc) (W := W) (sp := sp) (hd := hd) (t := 35) (e := 43) (B := 56) Try.underlying35 (by kernel_rfl) (A := M) (n := nM) (c := cM) (d := y2.1) (p := y2.2) ⟨n, g2⟩ (fun x hx => hw x ?_)
  subst ed
  unfold DataW.weights
  rw [Try.underlying37]
  exact DataW.weights_mem_each (j := 2) (t := 35) rfl (by rw [List.getElem?_map, e2]; rfl) x hx
set_option maxRecDepth 100000 in
set_option maxHeartbeats 6400000 in
theorem moreLaw_ct (h : Hy) (b : HA) (m : Hm) (A : Option Addr) (n c : Nat) (Bs : Option Addr) (k e : Nat) (P : Option Addr) (np pc : Nat) (plan : List Int) (w : World) (hnb : b.nM * 56 ≤ 140737488351232) (hmz : I64s m.task) (hh : HyR w b h) (hm1 : Rd Enc.int w A n c m.pre) (hm2 : Rd Enc.int w Bs k e m.steps) (hp : Rd Enc.int w P np pc plan) :
    Calls Try.prog 5 #[.agg #[.int .i64 h.T.facts, .slice b.a.I b.a.nI b.a.cI, .slice b.a.G b.a.nG b.a.cG, .slice b.a.O b.a.nO b.a.cO, .int .i64 h.tasks, .slice b.M b.nM b.cM, .slice b.L b.nL b.cL], .agg #[.int .i64 m.task, .slice A n c, .slice Bs k e], .slice P np pc] w (Gives w (.bool true)) := by
  have hde1 := fun W hW hl => Decompose_ct b h P np pc plan W hW hl
  have hms := hh.ms
  have hmsl := hh.ms.len
  have hms2 := hh.ms.low
  have htk := hh.task
  have hta := hh.tasks
  have hli := hh.list
  obtain ⟨⟨I, nI, cI, G, nG, cG, O, nO, cO⟩, M, nM, cM, L, nL, cL⟩ := b
  simp only at hde1 hms hmsl hms2 htk hta hli hnb ⊢
  have Hde1 := hide hde1
  have Hms := hide hms
  have Htk := hide htk
  have Hta := hide hta
  have Hli := hide hli
  have H := hide hh
  have Hm1 := hide hm1
  have Hm2 := hide hm2
  have Hmz := hide hmz
  have Hp := hide hp
  have Hmsl := hide hmsl
  clear hde1 hms htk hta hli hh hm1 hm2 hmz hp hmsl
  go_enter Try.func5, Try.ntmps5
  go_upto_region 1 with (fail)
  have bH0 := (Blk.new w 37 [.int .i64 h.T.facts, .slice I nI cI, .slice G nG cG, .slice O nO cO, .int .i64 h.tasks, .slice M nM cM, .slice L nL cL]).alloc (.cells #[.int .i64 m.task, .slice A n c, .slice Bs k e] 43)
  have bM0 := Blk.new (w.alloc (.cells #[.int .i64 h.T.facts, .slice I nI cI, .slice G nG cG, .slice O nO cO, .int .i64 h.tasks, .slice M nM cM, .slice L nL cL] 37)) 43 [.int .i64 m.task, .slice A n c, .slice Bs k e]
  have hb0 := below_two w (.cells #[.int .i64 h.T.facts, .slice I nI cI, .slice G nG cG, .slice O nO cO, .int .i64 h.tasks, .slice M nM cM, .slice L nL cL] 37) (.cells #[.int .i64 m.task, .slice A n c, .slice Bs k e] 43)
  simp only [World.size_alloc] at bM0
  change Blk 43 ((w.alloc (.cells #[.int .i64 h.T.facts, .slice I nI cI, .slice G nG cG, .slice O nO cO, .int .i64 h.tasks, .slice M nM cM, .slice L nL cL] 37)).alloc (.cells #[.int .i64 m.task, .slice A n c, .slice Bs k e] 43)) (w.heap.size + 1) [.int .i64 m.task, .slice A n c, .slice Bs k e] at bM0
  obtain ⟨w0, hw⟩ : ∃ Z, Z = (w.alloc (.cells #[.int .i64 h.T.facts, .slice I nI cI, .slice G nG cG, .slice O nO cO, .int .i64 h.tasks, .slice M nM cM, .slice L nL cL] 37)).alloc (.cells #[.int .i64 m.task, .slice A n c, .slice Bs k e] 43) := ⟨_, rfl⟩
  rw [← hw] at bH0 bM0 hb0 ⊢
  clear hw
  obtain ⟨g1, hg⟩ : ∃ z, z = w.heap.size := ⟨_, rfl⟩
  rw [← hg] at bH0 bM0 ⊢
  clear hg
  have BH := hide bH0
  have BM := hide bM0
  have Hb := hide hb0
  clear bH0 bM0 hb0
  go_wp2_with fail
  with_reducible refine (hierExample_ct w0).mono ?_
  rintro e w1 ⟨rfl, hb1⟩
  replace BH := hide (BH.out.keep hb1)
  replace BM := hide (BM.out.keep hb1)
  replace Hb := hide (Hb.out.trans (hb1.mono Hb.out.size))
  clear hb1
  have h_0 := BH.out.cell 0
  have h_1 := BH.out.cell 1
  have h_2 := BH.out.cell 2
  have h_3 := BH.out.cell 3
  have h_4 := BH.out.cell 4
  have h_5 := BH.out.cell 5
  have h_6 := BH.out.cell 6
  simp only [List.getElem?_cons_zero, List.getElem?_cons_succ] at h_0 h_1 h_2 h_3 h_4 h_5 h_6
  go_wp2_with fail
  with_reducible refine (Hde1.out w1 (H.out.keep Hb.out) (Hp.out.keep Hb.out)).mono ?_
  rintro e w2 ⟨hb2, bb1, rfl, hiff1⟩
  rcases hd1 : decFault h plan with ⟨c1, i1⟩
  rw [hd1] at hiff1
  have Hiff1 := hide hiff1
  have Hd1 := hide hd1
  replace BH := hide (BH.out.keep hb2)
  replace BM := hide (BM.out.keep hb2)
  replace Hb := hide (Hb.out.trans (hb2.mono Hb.out.size))
  clear hb2 h_0 h_1 h_2 h_3 h_4 h_5 h_6 hiff1 hd1
  unfold fault
  go_upto_region 4 with (fail)
  have bQ := Blk.new w2 29 [.int .i64 c1, .int .i64 i1]
  have hbQ : Below w2.heap.size w2 (w2.alloc (.cells #[.int .i64 c1, .int .i64 i1] 29)) := (Below.refl _ _).alloc (Nat.le_refl _) _
  change Blk 29 (w2.alloc (.cells #[.int .i64 c1, .int .i64 i1] 29)) w2.heap.size [.int .i64 c1, .int .i64 i1] at bQ
  obtain ⟨w3, hw⟩ : ∃ Z, Z = w2.alloc (.cells #[.int .i64 c1, .int .i64 i1] 29) := ⟨_, rfl⟩
  rw [← hw] at bQ hbQ ⊢
  clear hw
  obtain ⟨gq, hg⟩ : ∃ z, z = w2.heap.size := ⟨_, rfl⟩
  rw [← hg] at bQ ⊢
  clear hg
  have BQ := hide bQ
  clear bQ
  replace BH := hide (BH.out.keep hbQ)
  replace BM := hide (BM.out.keep hbQ)
  replace Hb := hide (Hb.out.trans (hbQ.mono Hb.out.size))
  clear hbQ
  have h_0 := BH.out.cell 0
  have h_1 := BH.out.cell 1
  have h_2 := BH.out.cell 2
  have h_3 := BH.out.cell 3
  have h_4 := BH.out.cell 4
  have h_5 := BH.out.cell 5
  have h_6 := BH.out.cell 6
  simp only [List.getElem?_cons_zero, List.getElem?_cons_succ] at h_0 h_1 h_2 h_3 h_4 h_5 h_6
  have m_0 := BM.out.cell 0
  have m_1 := BM.out.cell 1
  have m_2 := BM.out.cell 2
  simp only [List.getElem?_cons_zero, List.getElem?_cons_succ] at m_0 m_1 m_2
  obtain ⟨mi, hmi, hq0, hq1, hq2⟩ := info_parts meInfo
  have Hmi := hide (And.intro hmi (And.intro hq0 (And.intro hq1 hq2)))
  clear hmi hq0 hq1 hq2
  have hsz3 := Hb.out.size
  have hbytes0 : (0 + nM) * 56 ≤ 140737488355328 := by omega
  have h630 : 0 + nM ≤ 140737488355328 := by omega
  go_upto_region 7 with (first
    | (at_builtin
       refine wpList_appendE rfl _ _ 35 rfl w.heap.size 43 mi (.agg #[.int .i64 0, .slice none 0 0, .slice none 0 0]) 56 Try.underlying35 Hmi.out.1 Hmi.out.2.1 Hmi.out.2.2.1 Hmi.out.2.2.2 rfl (by decide) (fun _ us x hok u hu => by obtain ⟨_, _, _, _, _, _, rfl, _⟩ := hok; simp only [List.mem_cons, List.not_mem_nil, or_false] at hu; rcases hu with rfl | rfl | rfl <;> rfl) rfl (OwnE.nil Enc.me _ _ (fun b => w.heap.size ≤ b) _) (fun r h => by cases h) Hms.out Hb.out (fun us y hok _ => firm_old hok Hb.out (fun i hi => hi)) rfl h630 hbytes0 hsz3 ?_
       intro O5 oc5 w5 vs5 hown5 hch5 hat5
       have hb35 : Below w3.heap.size w3 w5 := hch5.keep (fun i e => by cases e)
       have hown5b := hown5.less (M' := fun b => w.heap.size ≤ b) (fun i _ e => .inl e)
       rw [Nat.zero_add, List.nil_append] at hown5b
       have Hown5 := hide hown5b
       have bm5 := BM.out.keep hb35
       have n_0 := bm5.cell 0
       have n_1 := bm5.cell 1
       have n_2 := bm5.cell 2
       simp only [List.getElem?_cons_zero, List.getElem?_cons_succ] at n_0 n_1 n_2
       have Hb5 := hide (Hb.out.trans (hb35.mono hsz3))
       have Hb35 := hide hb35
       clear hown5 hch5 hat5 hown5b hb35 bm5)
    | (at_builtin
       refine wpList_pushMe rfl _ _ rfl rfl Hown5.out (fun r hr => (Hown5.out.base hr).1) (.int .i64 m.task) (.slice A n c) (.slice Bs k e) m rfl rfl rfl rfl (firm_old (E := Enc.me) (w0 := w) ⟨A, n, c, Bs, k, e, rfl, Hmz.out, Hm1.out, Hm2.out⟩ Hb5.out (fun i hi => hi)) (by omega) Hb5.out.size ?_
       intro O2 oc2 w6 hown6 hch6 hat6
       have Hown6 := hide (hown6.less (M' := fun b => w.heap.size ≤ b) (fun i _ e => .inl e))
       have Hch6 := hide hch6
       clear hown6 hch6 hat6))
  clear h_0 h_1 h_2 h_3 h_4 h_5 h_6 m_0 m_1 m_2 n_0 n_1 n_2
  have bH6 := Hch6.out.blk (BH.out.keep Hb35.out) (own_neB Hown5.out (BH.out.keep Hb35.out) (by decide))
  have bQ6 := Hch6.out.blk (BQ.out.keep Hb35.out) (own_neB Hown5.out (BQ.out.keep Hb35.out) (by decide))
  have hb6 : Below w.heap.size w w6 := Hb5.out.trans (Hch6.out.below (fun b e => (Hown5.out.base e).1) Hb5.out.size)
  replace BH := hide bH6
  replace BQ := hide bQ6
  replace Hb := hide hb6
  clear bH6 bQ6 hb6
  have h_0 := BH.out.cell 0
  have h_1 := BH.out.cell 1
  have h_2 := BH.out.cell 2
  have h_3 := BH.out.cell 3
  have h_4 := BH.out.cell 4
  have h_5 := BH.out.cell 5
  have h_6 := BH.out.cell 6
  simp only [List.getElem?_cons_zero, List.getElem?_cons_succ] at h_0 h_1 h_2 h_3 h_4 h_5 h_6
  go_upto_region 8 with (fail)
  have bX := Blk.new w6 37 [.int .i64 h.T.facts, .slice I nI cI, .slice G nG cG, .slice O nO cO, .int .i64 h.tasks, .slice O2 (nM + 1) oc2, .slice L nL cL]
  have hbX : Below w6.heap.size w6 (w6.alloc (.cells #[.int .i64 h.T.facts, .slice I nI cI, .slice G nG cG, .slice O nO cO, .int .i64 h.tasks, .slice O2 (nM + 1) oc2, .slice L nL cL] 37)) := (Below.refl _ _).alloc (Nat.le_refl _) _
  change Blk 37 (w6.alloc (.cells #[.int .i64 h.T.facts, .slice I nI cI, .slice G nG cG, .slice O nO cO, .int .i64 h.tasks, .slice O2 (nM + 1) oc2, .slice L nL cL] 37)) w6.heap.size [.int .i64 h.T.facts, .slice I nI cI, .slice G nG cG, .slice O nO cO, .int .i64 h.tasks, .slice O2 (nM + 1) oc2, .slice L nL cL] at bX
  obtain ⟨w7, hw⟩ : ∃ Z, Z = w6.alloc (.cells #[.int .i64 h.T.facts, .slice I nI cI, .slice G nG cG, .slice O nO cO, .int .i64 h.tasks, .slice O2 (nM + 1) oc2, .slice L nL cL] 37) := ⟨_, rfl⟩
  rw [← hw] at bX hbX ⊢
  clear hw
  obtain ⟨gx, hg⟩ : ∃ z, z = w6.heap.size := ⟨_, rfl⟩
  rw [← hg] at bX ⊢
  clear hg
  have BX := hide bX
  clear bX
  have hbX := (show Below w6.heap.size w6 w7 from by assumption)
  replace BQ := hide (BQ.out.keep hbX)
  replace Hb := hide (Hb.out.trans (hbX.mono Hb.out.size))
  have hHy2 : HyR w7 ⟨⟨I, nI, cI, G, nG, cG, O, nO, cO⟩, O2, nM + 1, oc2, L, nL, cL⟩ ⟨h.T, h.tasks, h.ms ++ [m], h.list⟩ := ⟨Htk.out.keep Hb.out, Hta.out, Hown6.out.rd.keep hbX, Hli.out.keep Hb.out⟩
  have hde2 := Decompose_ct ⟨⟨I, nI, cI, G, nG, cG, O, nO, cO⟩, O2, nM + 1, oc2, L, nL, cL⟩ ⟨h.T, h.tasks, h.ms ++ [m], h.list⟩ P np pc plan w7 hHy2 (Hp.out.keep Hb.out)
  dsimp only at hde2
  have Hde2 := hide hde2
  clear hbX hHy2 hde2 h_0 h_1 h_2 h_3 h_4 h_5 h_6
  have x_0 := BX.out.cell 0
  have x_1 := BX.out.cell 1
  have x_2 := BX.out.cell 2
  have x_3 := BX.out.cell 3
  have x_4 := BX.out.cell 4
  have x_5 := BX.out.cell 5
  have x_6 := BX.out.cell 6
  simp only [List.getElem?_cons_zero, List.getElem?_cons_succ] at x_0 x_1 x_2 x_3 x_4 x_5 x_6
  go_wp2_with fail
  with_reducible refine Hde2.out.mono ?_
  rintro e w8 ⟨hb8, bb2, rfl, hiff2⟩
  rcases hd2 : decFault ⟨h.T, h.tasks, h.ms ++ [m], h.list⟩ plan with ⟨c2, i2⟩
  rw [hd2] at hiff2
  have Hiff2 := hide hiff2
  replace BQ := hide (BQ.out.keep hb8)
  replace Hb := hide (Hb.out.trans (hb8.mono Hb.out.size))
  clear hb8 x_0 x_1 x_2 x_3 x_4 x_5 x_6 hiff2 hd2
  unfold fault
  go_upto_region 9 with (fail)
  have bS := Blk.new w8 29 [.int .i64 c2, .int .i64 i2]
  have hbS : Below w8.heap.size w8 (w8.alloc (.cells #[.int .i64 c2, .int .i64 i2] 29)) := (Below.refl _ _).alloc (Nat.le_refl _) _
  change Blk 29 (w8.alloc (.cells #[.int .i64 c2, .int .i64 i2] 29)) w8.heap.size [.int .i64 c2, .int .i64 i2] at bS
  obtain ⟨w9, hw⟩ : ∃ Z, Z = w8.alloc (.cells #[.int .i64 c2, .int .i64 i2] 29) := ⟨_, rfl⟩
  rw [← hw] at bS hbS ⊢
  clear hw
  obtain ⟨gs, hg⟩ : ∃ z, z = w8.heap.size := ⟨_, rfl⟩
  rw [← hg] at bS ⊢
  clear hg
  have BS := hide bS
  clear bS
  have hbS := (show Below w8.heap.size w8 w9 from by assumption)
  replace BQ := hide (BQ.out.keep hbS)
  replace Hb := hide (Hb.out.trans (hbS.mono Hb.out.size))
  have q_0 := BQ.out.cell 0
  have q_l := BQ.out.lt
  have s_0 := BS.out.cell 0
  have s_l := BS.out.lt
  simp only [List.getElem?_cons_zero, List.getElem?_cons_succ] at q_0 s_0
  clear hbS
  by_cases h1 : c1 = 0
  rotate_left
  · go_wp2_with fail
    go_ret
    exact ⟨rfl, Hb.out⟩
  · by_cases h2 : c2 = 0
    rotate_left
    · subst h1
      go_wp2_with fail
      go_ret
      exact ⟨rfl, Hb.out⟩
    · subst h1 h2
      cases bb1 with
      | false =>
        go_wp2_with fail
        go_ret
        exact ⟨rfl, Hb.out⟩
      | true =>
        obtain rfl : bb2 = true := Hiff2.out.2 ⟨rfl, by
          obtain ⟨_, r1, r2⟩ := Hiff1.out.1 rfl
          exact ⟨r1, r2.mono fun x hx => List.mem_append_left _ hx⟩⟩
        go_wp2_with fail
        go_ret
        exact ⟨rfl, Hb.out⟩
end Go.Proofs.Ytmjiiddncbhgpaa
