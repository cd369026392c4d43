/- What the law asks for, part 12: Rs2 Rs3 Rs4 Rs5 Rs6 Rs7 Ref6n. -/
import Derived.Test.YtemiecammmbjdaaGreatL1
import Derived.Test.YtemiecammmbjdaaGreatL2
import Derived.Test.YtemiecammmbjdaaGreatL4
import Derived.Test.YtemiecammmbjdaaGreatL5
import Derived.Test.YtemiecammmbjdaaGreatL11
import Derived.BigQuiet
import Derived.Deep.AppendLies
import Derived.Deep.DeepCutAuto
import Derived.Deep.Draws
import Derived.Deep.Fields
import Derived.Deep.LoopGhost
import Derived.Deep.QuietTactic
import Derived.Deep.RegionHeld3
import Derived.Deep.Slices
import Derived.Laws.AppendOwnNone
import Derived.Laws.OwnMore
import Derived.Lib.Hide
import Derived.Maps.AppendAt
import Derived.Test.YtemiecammmbjdaaGreatProg
import Derived.WalkKit
import Init
namespace Go.Proofs.YtemiecammmbjdaaGreat
set_option linter.unusedVariables false
set_option linter.unusedSimpArgs false
open Go.RowKit
theorem take1 {P : Program} {md : Region.Mode} {ops : Array Oper} {Q : Exit → Act → World → Prop} {S : World → Prop} {i : Nat} {oi : Oper} {v : Value} {fuel : Nat} {listed : Array Bool} {a : Act} {w : World} (d : Option Tmp) (hi : ops[i]? = some oi) (hd : oi.dst = d)
    (hs : Region.noSelect ops = true) (hf : Region.free md ops listed i = true) (hr : (Region.ready md ops listed).contains i = true)
    (hQ : ∀ c a w, Q (.panic c) (a.put d v) w → Q (.panic c) a w) (hy : YieldsIf P ops S oi v a) (hS : S w)
    (h : wpAnyH P md ops Q S fuel (listed.setIfInBounds i true) (a.put d v) w) : wpAnyH P md ops Q S (fuel + 1) listed a w := by
  subst hd
  exact wpAnyH_take hi hs hf hr hQ hy hS h

theorem valOf_get {vals : List Int} {q : Nat} {x u : Int} (hq : (q : Int) = litVar x) (hu : vals[q]? = some u) : valOf vals x = u := by
  rw [valOf, ← hq, Int.toNat_natCast, List.getD_eq_getElem?_getD, hu]
  rfl
section
variable {B : Nat} {w : World} {g : Nat} {a : SA} {V : Nat} {cs ln : List (List Int)} {vals lev rea t : List Int} {starts : List Nat}
theorem Sv.facts (h : Sv B w g a V cs ln vals lev rea t starts) : w.cell? ⟨g, 0, none⟩ = some (.int .i64 V) ∧ w.cell? ⟨g, 1, none⟩ = some (.slice a.L cs.length a.lc) ∧ w.cell? ⟨g, 2, none⟩ = some (.slice a.D ln.length a.dc) ∧
    w.cell? ⟨g, 3, none⟩ = some (.slice (some ⟨a.gv, 0, none⟩) (V + 1) (V + 1)) ∧ w.cell? ⟨g, 4, none⟩ = some (.slice (some ⟨a.gl, 0, none⟩) (V + 1) (V + 1)) ∧ w.cell? ⟨g, 5, none⟩ = some (.slice (some ⟨a.gr, 0, none⟩) (V + 1) (V + 1)) ∧
    w.cell? ⟨g, 6, none⟩ = some (.slice a.T t.length a.tc) ∧ w.cell? ⟨g, 7, none⟩ = some (.slice a.S starts.length a.sc) :=
  ⟨h.blk.cell 0, h.blk.cell 1, h.blk.cell 2, h.blk.cell 3, h.blk.cell 4, h.blk.cell 5, h.blk.cell 6, h.blk.cell 7⟩
set_option maxRecDepth 100000 in
set_option maxHeartbeats 800000 in
theorem of_ct (x : Int) (h : Sv B w g a V cs ln vals lev rea t starts) (hx : Fits V x) (hV : V ≤ 1000) (ht : Tri vals) :
    Calls Tryz.prog 107 #[.pointer (some ⟨g, 0, none⟩), .int .i64 x] w (Same w (.int .i64 (ofV vals x))) := by
  obtain ⟨f0, f1, f2, f3, f4, f5, f6, f7⟩ := h.facts
  have hv := hx.var
  obtain ⟨q, hq⟩ : ∃ q : Nat, (q : Int) = litVar x := ⟨(litVar x).toNat, by omega⟩
  have hql : q < vals.length := by rw [h.vlen]; omega
  have hu : vals[q]? = some (vals[q]'hql) := List.getElem?_eq_getElem _
  have htv := ht _ (List.getElem_mem hql)
  have hval := valOf_get hq hu
  have hc := h.val.cell hu
  have hqV : q < V + 1 := by omega
  have hqx : (x < 0 → (q : Int) = -x) ∧ (0 < x → (q : Int) = x) := by unfold litVar at hq; omega
  have hx0 := hx.1
  generalize vals[q]'hql = u at hval hc htv
  have hres : ofV vals x = if x < 0 then -u else u := by unfold ofV; rw [hval]
  have hu1 : -1 ≤ u ∧ u ≤ 1 := by omega
  obtain ⟨hu1, hu2⟩ := hu1
  have Hres := hide hres
  clear hres hval hu hv hx ht htv hq h f0 f1 f2 f4 f5 f6 f7 hql
  by_cases hneg : x < 0
  · obtain rfl : x = -(q : Int) := by have := hqx.1 hneg; omega
    clear hqx hx0
    go_enter Tryz.func107, Tryz.ntmps107
    go_wp2
    go_ret
    exact ⟨ret_int (by rw [Hres.out, if_pos hneg]), rfl⟩
  · obtain rfl : x = (q : Int) := by have := hqx.2 (by omega); omega
    clear hqx hx0
    go_enter Tryz.func107, Tryz.ntmps107
    go_wp2
    go_ret
    exact ⟨ret_int (by rw [Hres.out, if_neg (by omega)]), rfl⟩
end
/-- after an assignment -/
def AssignP (B : Nat) (w : World) (g : Nat) (a : SA) (V : Nat) (cs ln : List (List Int)) (vals lev rea t : List Int) (starts : List Nat) (e : Ending) (w' : World) : Prop :=
  Ends e ∧ Below B w w' ∧ ∃ O oc, Sv B w' g { a with T := O, tc := oc } V cs ln vals lev rea t starts
theorem Sv.pushT {B : Nat} {w w' : World} {g : Nat} {a : SA} {V : Nat} {cs ln : List (List Int)} {vals lev rea t : List Int} {starts : List Nat} (h : Sv B w g a V cs ln vals lev rea t starts) {x : Int} {O : Option Addr} {oc : Nat} {o : Obj}
    (ho : w'.ownsRow B 3 1 (.slice O (t.length + 1) oc) (t.length + 1) (t.map (Value.int .i64) ++ [.int .i64 x])) (hg : (w.alloc o).grownBy w' (Value.slice a.T t.length a.tc).ownBlock)
    (hat : (Value.slice O (t.length + 1) oc).ownBlock = (Value.slice a.T t.length a.tc).ownBlock ∨ (Value.slice O (t.length + 1) oc).ownBlock = some (w.heap.size + 1)) :
    Sv B (w'.setCell ⟨g, 6, none⟩ (.slice O (t.length + 1) oc)) g { a with T := O, tc := oc } V cs ln vals lev rea (t ++ [x]) starts ∧ Below B w (w'.setCell ⟨g, 6, none⟩ (.slice O (t.length + 1) oc)) := by
  have hB : B ≤ w.heap.size := by have := h.ge 0 g rfl; have := h.blk.lt; omega
  have hb0 : Below w.heap.size w (w.alloc o) := (Below.refl _ _).alloc (Nat.le_refl _) _
  have h1 := h.keep hb0
  rw [own_blkO, own_blkO] at hat
  rw [own_blkO] at hg
  obtain ⟨ap', ro'⟩ := roles_grown (w := w) (a' := { a with T := O, tc := oc }) (k := 4) (O := O) (fun i => ro_T i) h.ap (fun i r => h.lt) hat
  have ne : ∀ j, j ≠ 4 → ∀ r, ro g a j = some r → some r ≠ blkO a.T := fun j hj r hr e => hj (h.ap j 4 r hr e.symm)
  have ge' : ∀ i r, ro g { a with T := O, tc := oc } i = some r → B ≤ r := fun i r hi => by
    rcases ro' i r hi with ⟨j, hj⟩ | hge
    · exact h.ge j r hj
    · omega
  have ne6 : ∀ j, j ≠ 0 → j ≠ 4 → ro g a j ≠ some g := fun j hj _ => h.ne (i := 0) (Ne.symm hj) rfl
  have hOg : blkO O ≠ some g := fun e => by
    have := ap' 4 0 g (by rw [ro_T]; exact e) (by rw [ro_T]; rfl)
    omega
  have hs := only_set w' g 6 (.slice O (t.length + 1) oc)
  have neT : ∀ {r j}, j ≠ 4 → ro g a j = some r → some r ≠ blkO a.T := fun {r j} hj hr => ne j hj r hr
  have neg0 : ∀ {r j}, j ≠ 0 → ro g a j = some r → some r ≠ some g := fun {r j} hj hr e => by
    injection e with e
    subst e
    exact hj (h.ap j 0 r hr rfl)
  have other : ∀ {A : Option Addr} {n c : Nat} {xs : List (List Int)} (j : Nat), j ≠ 4 → j ≠ 0 → ro g a j = blkO A → Rows B w (Mine g a) A n c xs → Rows B (w'.setCell ⟨g, 6, none⟩ (.slice O (t.length + 1) oc)) (Mine g { a with T := O, tc := oc }) A n c xs := fun {A n c xs} j hj hj0 hro hr => by
    have r1 : Rows B w (fun b => Mine g a b ∨ Mine g { a with T := O, tc := oc } b) A n c xs := hr.more (fun b hb => by
      rcases hb with hb | ⟨i, hi⟩
      · exact .inl hb
      · rcases ro' i b hi with ⟨q, hq⟩ | hge
        · exact .inl ⟨q, hq⟩
        · exact .inr hge)
    have r2 := (r1.keep hb0).other (row := blkO a.T) (fun r e => .inl ⟨4, e⟩) hg (fun r e e2 => neT hj (hro.trans e) e2.symm)
    have r3 := r2.other (row := some g) (fun r e => by injection e with e; subst e; exact .inl ⟨0, rfl⟩) hs (fun r e e2 => neg0 hj0 (hro.trans e) e2.symm)
    exact r3.mono (fun b hb => .inr hb)
  have bB : Below B w (w'.setCell ⟨g, 6, none⟩ (.slice O (t.length + 1) oc)) :=
    (((Below.refl B w).alloc hB o).grown hg (by simp; omega) (fun k hk => h.ge 4 k hk)).setCell (h.ge 0 g rfl) _
  have hblk := ((h1.blk.grown hg (neT (r := g) (j := 0) (by decide) rfl)).set 6 (.slice O (t.length + 1) oc))
  refine ⟨⟨ge', ap', ?_, ?_, h.vlen, ?_, h.llen, ?_, h.rlen, ?_, ?_, other 6 (by decide) (by decide) rfl h.lst, other 7 (by decide) (by decide) rfl h.lrn⟩, bB⟩
  · simp only [List.set_cons_zero, List.set_cons_succ] at hblk
    simpa using hblk
  · exact (h1.val.grown hg (neT (j := 1) (by decide) rfl)).grown hs (neg0 (j := 1) (by decide) rfl)
  · exact (h1.lvl.grown hg (neT (j := 2) (by decide) rfl)).grown hs (neg0 (j := 2) (by decide) rfl)
  · exact (h1.rsn.grown hg (neT (j := 3) (by decide) rfl)).grown hs (neg0 (j := 3) (by decide) rfl)
  · have := own_other ho hs (fun r hr e => hOg (by rw [own_blkO] at hr; rw [hr, e]))
    simpa using this
  · exact own_other (own_other h1.sts hg (fun r hr => neT (j := 5) (by decide) (by rw [own_blkO] at hr; exact hr))) hs (fun r hr => neg0 (j := 5) (by decide) (by rw [own_blkO] at hr; exact hr))
set_option maxRecDepth 100000 in
set_option maxHeartbeats 3200000 in
theorem assign_ct {B : Nat} {w : World} {g : Nat} {a : SA} {V : Nat} {cs ln : List (List Int)} {vals lev rea t : List Int} {starts : List Nat} (x r : Int) (h : Sv B w g a V cs ln vals lev rea t starts) (hx : Fits V x) (hV : V ≤ 1000) (htl : t.length ≤ V) :
    Calls Tryz.prog 84 #[.pointer (some ⟨g, 0, none⟩), .int .i64 x, .int .i64 r] w (AssignP B w g a V cs ln (setLit vals x) (lev.set (litVar x).toNat starts.length) (rea.set (litVar x).toNat r) (t ++ [x]) starts) := by
  obtain ⟨f0, f1, f2, f3, f4, f5, f6, f7⟩ := h.facts
  have hv := hx.var
  obtain ⟨q, hq⟩ : ∃ q : Nat, (q : Int) = litVar x := ⟨(litVar x).toNat, by omega⟩
  have hqn : (litVar x).toNat = q := by omega
  have hqV : q < V + 1 := by omega
  have hqx : (x < 0 → (q : Int) = -x) ∧ (0 < x → (q : Int) = x) := by unfold litVar at hq; omega
  have hset : setLit vals x = (vals.set q 1).set q (if x < 0 then -1 else 1) := by
    rw [List.set_set, setLit, hqn]
  have hx0 := hx.1
  have hxb := hx.2
  have hfl := h.blk.lt
  have hvl := h.val.lt
  obtain ⟨u, hc0⟩ : ∃ u, w.cell? ⟨a.gv, q, none⟩ = some (.int .i64 u) := ⟨_, h.val.cell (List.getElem?_eq_getElem (show q < vals.length by rw [h.vlen]; omega))⟩
  have hf0 := h.val.frozen q
  have hgv : a.gv ≠ g := fun e => by have := h.ap 0 1 g rfl (by rw [← e]; rfl); omega
  have hgv' : g ≠ a.gv := Ne.symm hgv
  have hgl : g ≠ a.gl := fun e => by have := h.ap 0 2 g rfl (by rw [e]; rfl); omega
  have hgr : g ≠ a.gr := fun e => by have := h.ap 0 3 g rfl (by rw [e]; rfl); omega
  have hvarc := fun W => Variable_ct x W (by omega) (by omega)
  rw [← hq] at hvarc
  rw [hqn]
  have Hvarc := hide hvarc
  have H := hide h
  have Hset := hide hset
  have Hhq := hide hq
  clear h hx hv hset hvarc hq hqn hqx
  have hW : ∀ Q : World → Prop, (∀ W, Sv B W g a V cs ln (setLit vals x) lev rea t starts → Below B w W → Q W) → (¬ x < 0 → Q (w.setCell ⟨a.gv, q, none⟩ (.int .i64 1))) ∧ (x < 0 → Q ((w.setCell ⟨a.gv, q, none⟩ (.int .i64 1)).setCell ⟨a.gv, q, none⟩ (.int .i64 (-1)))) := fun Q hQ => by
    have hB : B ≤ a.gv := H.out.ge 1 a.gv rfl
    have h1 := H.out.setVal q 1
    refine ⟨fun hn => hQ _ ?_ ((Below.refl _ _).setCell hB _), fun hn => hQ _ ?_ (((Below.refl _ _).setCell hB _).setCell hB _)⟩
    · rw [Hset.out, if_neg hn, List.set_set]
      exact h1
    · rw [Hset.out, if_pos hn]
      exact h1.setVal q (-1)
  have HW := hide hW
  clear hW
  have tail : ∀ (W : World) (fr : Act), Sv B W g a V cs ln (setLit vals x) lev rea t starts → Below B w W → True := fun _ _ _ _ => trivial
  clear tail
  go_enter Tryz.func84, Tryz.ntmps84
  go_wp2_with fail
  refine (Hvarc.out _).mono ?_
  rintro e w1 ⟨rfl, rfl⟩
  by_cases hneg : x < 0
  · go_upto_region 4 with (fail)
    obtain ⟨W, hWd⟩ : ∃ W, W = ((w.setCell ⟨a.gv, q, none⟩ (.int .i64 1)).setCell ⟨a.gv, q, none⟩ (.int .i64 (-1))) := ⟨_, rfl⟩
    have hsv : Sv B W g a V cs ln (setLit vals x) lev rea t starts ∧ Below B w W := by
      rw [hWd]
      exact ((HW.out (fun W => Sv B W g a V cs ln (setLit vals x) lev rea t starts ∧ Below B w W) (fun W h1 h2 => ⟨h1, h2⟩)).2 hneg)
    rw [← hWd]
    obtain ⟨hsv, hbw⟩ := hsv
    clear hWd f0 f1 f2 f3 f4 f5 f6 f7 hc0 hf0
    obtain ⟨vals1, hv1⟩ : ∃ v1, v1 = setLit vals x := ⟨_, rfl⟩
    rw [← hv1] at hsv
    have Hv1 := hide hv1
    clear hv1
    clear Hset HW Hvarc
    have hll := hsv.llen
    have hrl := hsv.rlen
    obtain ⟨gv, gl, gr, L, lc, D, dc, T, tc, S, sc⟩ := a
    simp only at hgv hgv' hgl hgr hvl
    have hq0' : (0 : Int) ≤ (q : Int) := by omega
    have hq1' : (q : Int) < (V : Int) + 1 := by omega
    have hcl : ∃ u, W.cell? ⟨gl, q, none⟩ = some (.int .i64 u) := ⟨_, hsv.lvl.cell (List.getElem?_eq_getElem (show q < lev.length by omega))⟩
    have hcr : ∃ u, W.cell? ⟨gr, q, none⟩ = some (.int .i64 u) := ⟨_, hsv.rsn.cell (List.getElem?_eq_getElem (show q < rea.length by omega))⟩
    obtain ⟨u1, hcl⟩ := hcl
    obtain ⟨u2, hcr⟩ := hcr
    have hlf := hsv.lvl.frozen q
    have hrf := hsv.rsn.frozen q
    have hllt := hsv.lvl.lt
    have hrlt := hsv.rsn.lt
    have hlr : gl ≠ gr := fun e => by have := hsv.ap 2 3 gl rfl (by rw [e]; rfl); omega
    have hlr' : gr ≠ gl := Ne.symm hlr
    simp only at hcl hcr hlf hrf hllt hrlt
    have Hst := hide hsv
    refine wp_region_held_drew (S := (fun w' => Blk 140 w' g [.int .i64 V, .slice L cs.length lc, .slice D ln.length dc, .slice (some ⟨gv, 0, none⟩) (V + 1) (V + 1), .slice (some ⟨gl, 0, none⟩) (V + 1) (V + 1), .slice (some ⟨gr, 0, none⟩) (V + 1) (V + 1), .slice T t.length tc, .slice S starts.length sc])) (by kernel_rfl) ?_ (fun hHeld => ?_)
    · (try dsimp only); exact Hst.out.blk.qt (Qt.refl _).drew
    refine take1 (i := 0) (v := ?_) (some 23) rfl rfl (by kernel_rfl) (by kernel_rfl) (by kernel_rfl) (fun _ _ _ h => h) (Or.inl ⟨by rfl, ?_⟩) (by assumption) ?_
    rotate_left
    · intro w hSw; (try dsimp only at hSw); have z4 := (id hSw : Blk _ _ _ _).cell 4; have z5 := (id hSw : Blk _ _ _ _).cell 5; have z7 := (id hSw : Blk _ _ _ _).cell 7; simp only [List.getElem?_cons_zero, List.getElem?_cons_succ] at z4 z5 z7; clear hSw; first | (go_simp; done) | (go_simp; with_reducible rfl)
    try simp only [Act.put, List.setIfInBounds_toArray, List.set_cons_zero, List.set_cons_succ]
    refine take1 (i := 1) (v := ?_) (some 24) rfl rfl (by kernel_rfl) (by kernel_rfl) (by kernel_rfl) (fun _ _ _ h => h) (Or.inl ⟨by rfl, ?_⟩) (by assumption) ?_
    rotate_left
    · intro w hSw; (try dsimp only at hSw); have z4 := (id hSw : Blk _ _ _ _).cell 4; have z5 := (id hSw : Blk _ _ _ _).cell 5; have z7 := (id hSw : Blk _ _ _ _).cell 7; simp only [List.getElem?_cons_zero, List.getElem?_cons_succ] at z4 z5 z7; clear hSw; first | (go_simp; done) | (go_simp; with_reducible rfl)
    try simp only [Act.put, List.setIfInBounds_toArray, List.set_cons_zero, List.set_cons_succ]
    refine take1 (i := 2) (v := ?_) (some 25) rfl rfl (by kernel_rfl) (by kernel_rfl) (by kernel_rfl) (fun _ _ _ h => h) (Or.inl ⟨by rfl, ?_⟩) (by assumption) ?_
    rotate_left
    · intro w hSw; (try dsimp only at hSw); have z4 := (id hSw : Blk _ _ _ _).cell 4; have z5 := (id hSw : Blk _ _ _ _).cell 5; have z7 := (id hSw : Blk _ _ _ _).cell 7; simp only [List.getElem?_cons_zero, List.getElem?_cons_succ] at z4 z5 z7; clear hSw; first | (go_simp; done) | (go_simp; with_reducible rfl)
    try simp only [Act.put, List.setIfInBounds_toArray, List.set_cons_zero, List.set_cons_succ]
    refine take1 (i := 3) (v := ?_) (some 26) rfl rfl (by kernel_rfl) (by kernel_rfl) (by kernel_rfl) (fun _ _ _ h => h) (Or.inl ⟨by rfl, ?_⟩) (by assumption) ?_
    rotate_left
    · intro w hSw; (try dsimp only at hSw); have z4 := (id hSw : Blk _ _ _ _).cell 4; have z5 := (id hSw : Blk _ _ _ _).cell 5; have z7 := (id hSw : Blk _ _ _ _).cell 7; simp only [List.getElem?_cons_zero, List.getElem?_cons_succ] at z4 z5 z7; clear hSw; first | (go_simp; done) | (go_simp; with_reducible rfl)
    try simp only [Act.put, List.setIfInBounds_toArray, List.set_cons_zero, List.set_cons_succ]
    refine take1 (i := 4) (v := ?_) (some 27) rfl rfl (by kernel_rfl) (by kernel_rfl) (by kernel_rfl) (fun _ _ _ h => h) (Or.inl ⟨by rfl, ?_⟩) (by assumption) ?_
    rotate_left
    · intro w hSw; (try dsimp only at hSw); have z4 := (id hSw : Blk _ _ _ _).cell 4; have z5 := (id hSw : Blk _ _ _ _).cell 5; have z7 := (id hSw : Blk _ _ _ _).cell 7; simp only [List.getElem?_cons_zero, List.getElem?_cons_succ] at z4 z5 z7; clear hSw; first | (go_simp; done) | (go_simp; with_reducible rfl)
    try simp only [Act.put, List.setIfInBounds_toArray, List.set_cons_zero, List.set_cons_succ]
    refine take1 (i := 5) (v := ?_) (some 28) rfl rfl (by kernel_rfl) (by kernel_rfl) (by kernel_rfl) (fun _ _ _ h => h) (Or.inl ⟨by rfl, ?_⟩) (by assumption) ?_
    rotate_left
    · intro w hSw; (try dsimp only at hSw); have z4 := (id hSw : Blk _ _ _ _).cell 4; have z5 := (id hSw : Blk _ _ _ _).cell 5; have z7 := (id hSw : Blk _ _ _ _).cell 7; simp only [List.getElem?_cons_zero, List.getElem?_cons_succ] at z4 z5 z7; clear hSw; first | (go_simp; done) | (go_simp; with_reducible rfl)
    try simp only [Act.put, List.setIfInBounds_toArray, List.set_cons_zero, List.set_cons_succ]
    refine take1 (i := 6) (v := ?_) (some 29) rfl rfl (by kernel_rfl) (by kernel_rfl) (by kernel_rfl) (fun _ _ _ h => h) (Or.inl ⟨by rfl, ?_⟩) (by assumption) ?_
    rotate_left
    · intro w hSw; (try dsimp only at hSw); have z4 := (id hSw : Blk _ _ _ _).cell 4; have z5 := (id hSw : Blk _ _ _ _).cell 5; have z7 := (id hSw : Blk _ _ _ _).cell 7; simp only [List.getElem?_cons_zero, List.getElem?_cons_succ] at z4 z5 z7; clear hSw; first | (go_simp; done) | (go_simp; with_reducible rfl)
    try simp only [Act.put, List.setIfInBounds_toArray, List.set_cons_zero, List.set_cons_succ]
    refine take1 (i := 7) (v := ?_) (some 30) rfl rfl (by kernel_rfl) (by kernel_rfl) (by kernel_rfl) (fun _ _ _ h => h) (Or.inl ⟨by rfl, ?_⟩) (by assumption) ?_
    rotate_left
    · intro w hSw; (try dsimp only at hSw); have z4 := (id hSw : Blk _ _ _ _).cell 4; have z5 := (id hSw : Blk _ _ _ _).cell 5; have z7 := (id hSw : Blk _ _ _ _).cell 7; simp only [List.getElem?_cons_zero, List.getElem?_cons_succ] at z4 z5 z7; clear hSw; first | (go_simp; done) | (go_simp; with_reducible rfl)
    try simp only [Act.put, List.setIfInBounds_toArray, List.set_cons_zero, List.set_cons_succ]
    refine take1 (i := 8) (v := ?_) (some 31) rfl rfl (by kernel_rfl) (by kernel_rfl) (by kernel_rfl) (fun _ _ _ h => h) (Or.inl ⟨by rfl, ?_⟩) (by assumption) ?_
    rotate_left
    · intro w hSw; (try dsimp only at hSw); have z4 := (id hSw : Blk _ _ _ _).cell 4; have z5 := (id hSw : Blk _ _ _ _).cell 5; have z7 := (id hSw : Blk _ _ _ _).cell 7; simp only [List.getElem?_cons_zero, List.getElem?_cons_succ] at z4 z5 z7; clear hSw; first | (go_simp; done) | (go_simp; with_reducible rfl)
    try simp only [Act.put, List.setIfInBounds_toArray, List.set_cons_zero, List.set_cons_succ]
    refine take1 (i := 9) (v := ?_) (some 32) rfl rfl (by kernel_rfl) (by kernel_rfl) (by kernel_rfl) (fun _ _ _ h => h) (Or.inl ⟨by rfl, ?_⟩) (by assumption) ?_
    rotate_left
    · intro w hSw; (try dsimp only at hSw); have z4 := (id hSw : Blk _ _ _ _).cell 4; have z5 := (id hSw : Blk _ _ _ _).cell 5; have z7 := (id hSw : Blk _ _ _ _).cell 7; simp only [List.getElem?_cons_zero, List.getElem?_cons_succ] at z4 z5 z7; clear hSw; first | (go_simp; done) | (go_simp; with_reducible rfl)
    try simp only [Act.put, List.setIfInBounds_toArray, List.set_cons_zero, List.set_cons_succ]
    refine take1 (i := 10) (v := ?_) (some 33) rfl rfl (by kernel_rfl) (by kernel_rfl) (by kernel_rfl) (fun _ _ _ h => h) (Or.inl ⟨by rfl, ?_⟩) (by assumption) ?_
    rotate_left
    · intro w hSw; (try dsimp only at hSw); have z4 := (id hSw : Blk _ _ _ _).cell 4; have z5 := (id hSw : Blk _ _ _ _).cell 5; have z7 := (id hSw : Blk _ _ _ _).cell 7; simp only [List.getElem?_cons_zero, List.getElem?_cons_succ] at z4 z5 z7; clear hSw; first | (go_simp; done) | (go_simp; with_reducible rfl)
    try simp only [Act.put, List.setIfInBounds_toArray, List.set_cons_zero, List.set_cons_succ]
    refine take1 (i := 11) (v := ?_) (some 34) rfl rfl (by kernel_rfl) (by kernel_rfl) (by kernel_rfl) (fun _ _ _ h => h) (Or.inl ⟨by rfl, ?_⟩) (by assumption) ?_
    rotate_left
    · intro w hSw; (try dsimp only at hSw); have z4 := (id hSw : Blk _ _ _ _).cell 4; have z5 := (id hSw : Blk _ _ _ _).cell 5; have z7 := (id hSw : Blk _ _ _ _).cell 7; simp only [List.getElem?_cons_zero, List.getElem?_cons_succ] at z4 z5 z7; clear hSw; first | (go_simp; done) | (go_simp; with_reducible rfl)
    try simp only [Act.put, List.setIfInBounds_toArray, List.set_cons_zero, List.set_cons_succ]
    refine take1 (i := 12) (v := ?_) (some 35) rfl rfl (by kernel_rfl) (by kernel_rfl) (by kernel_rfl) (fun _ _ _ h => h) (Or.inl ⟨by rfl, ?_⟩) (by assumption) ?_
    rotate_left
    · intro w hSw; (try dsimp only at hSw); have z4 := (id hSw : Blk _ _ _ _).cell 4; have z5 := (id hSw : Blk _ _ _ _).cell 5; have z7 := (id hSw : Blk _ _ _ _).cell 7; simp only [List.getElem?_cons_zero, List.getElem?_cons_succ] at z4 z5 z7; clear hSw; first | (go_simp; done) | (go_simp; with_reducible rfl)
    try simp only [Act.put, List.setIfInBounds_toArray, List.set_cons_zero, List.set_cons_succ]
    refine take1 (i := 13) (v := ?_) (some 36) rfl rfl (by kernel_rfl) (by kernel_rfl) (by kernel_rfl) (fun _ _ _ h => h) (Or.inl ⟨by rfl, ?_⟩) (by assumption) ?_
    rotate_left
    · intro w hSw; (try dsimp only at hSw); have z4 := (id hSw : Blk _ _ _ _).cell 4; have z5 := (id hSw : Blk _ _ _ _).cell 5; have z7 := (id hSw : Blk _ _ _ _).cell 7; simp only [List.getElem?_cons_zero, List.getElem?_cons_succ] at z4 z5 z7; clear hSw; first | (go_simp; done) | (go_simp; with_reducible rfl)
    try simp only [Act.put, List.setIfInBounds_toArray, List.set_cons_zero, List.set_cons_succ]
    refine take1 (i := 14) (v := ?_) (some 37) rfl rfl (by kernel_rfl) (by kernel_rfl) (by kernel_rfl) (fun _ _ _ h => h) (Or.inl ⟨by rfl, ?_⟩) (by assumption) ?_
    rotate_left
    · intro w hSw; (try dsimp only at hSw); have z4 := (id hSw : Blk _ _ _ _).cell 4; have z5 := (id hSw : Blk _ _ _ _).cell 5; have z7 := (id hSw : Blk _ _ _ _).cell 7; simp only [List.getElem?_cons_zero, List.getElem?_cons_succ] at z4 z5 z7; clear hSw; first | (go_simp; done) | (go_simp; with_reducible rfl)
    try simp only [Act.put, List.setIfInBounds_toArray, List.set_cons_zero, List.set_cons_succ]
    refine take1 (i := 15) (v := ?_) (some 38) rfl rfl (by kernel_rfl) (by kernel_rfl) (by kernel_rfl) (fun _ _ _ h => h) (Or.inl ⟨by rfl, ?_⟩) (by assumption) ?_
    rotate_left
    · intro w hSw; (try dsimp only at hSw); have z4 := (id hSw : Blk _ _ _ _).cell 4; have z5 := (id hSw : Blk _ _ _ _).cell 5; have z7 := (id hSw : Blk _ _ _ _).cell 7; simp only [List.getElem?_cons_zero, List.getElem?_cons_succ] at z4 z5 z7; clear hSw; first | (go_simp; done) | (go_simp; with_reducible rfl)
    try simp only [Act.put, List.setIfInBounds_toArray, List.set_cons_zero, List.set_cons_succ]
    refine take1 (i := 16) (v := ?_) (some 39) rfl rfl (by kernel_rfl) (by kernel_rfl) (by kernel_rfl) (fun _ _ _ h => h) (Or.inl ⟨by rfl, ?_⟩) (by assumption) ?_
    rotate_left
    · intro w hSw; (try dsimp only at hSw); have z4 := (id hSw : Blk _ _ _ _).cell 4; have z5 := (id hSw : Blk _ _ _ _).cell 5; have z7 := (id hSw : Blk _ _ _ _).cell 7; simp only [List.getElem?_cons_zero, List.getElem?_cons_succ] at z4 z5 z7; clear hSw; first | (go_simp; done) | (go_simp; with_reducible rfl)
    try simp only [Act.put, List.setIfInBounds_toArray, List.set_cons_zero, List.set_cons_succ]
    refine wpAnyH_ready (rs := [17]) (by kernel_rfl) (by simp) ?_
    refine AllReadyH.cons rfl (fun K hK => ?_) AllReadyH.nil
    go_simp
    refine hK.out _ _ ?_ (fun hHeld2 => ?_)
    · (try dsimp only); exact Blk.far hHeld hgl _
    clear hK K hHeld
    try simp only [Act.put, List.setIfInBounds_toArray, List.set_cons_zero, List.set_cons_succ]
    have hHeld := hHeld2; clear hHeld2
    refine take1 (i := 18) (v := ?_) (some 40) rfl rfl (by kernel_rfl) (by kernel_rfl) (by kernel_rfl) (fun _ _ _ h => h) (Or.inl ⟨by rfl, ?_⟩) (by assumption) ?_
    rotate_left
    · intro w hSw; (try dsimp only at hSw); have z4 := (id hSw : Blk _ _ _ _).cell 4; have z5 := (id hSw : Blk _ _ _ _).cell 5; have z7 := (id hSw : Blk _ _ _ _).cell 7; simp only [List.getElem?_cons_zero, List.getElem?_cons_succ] at z4 z5 z7; clear hSw; first | (go_simp; done) | (go_simp; with_reducible rfl)
    try simp only [Act.put, List.setIfInBounds_toArray, List.set_cons_zero, List.set_cons_succ]
    refine wpAnyH_ready (rs := [19]) (by kernel_rfl) (by simp) ?_
    refine AllReadyH.cons rfl (fun K hK => ?_) AllReadyH.nil
    go_simp
    refine hK.out _ _ ?_ (fun hHeld2 => ?_)
    · (try dsimp only); exact Blk.far hHeld hgr _
    clear hK K hHeld
    try simp only [Act.put, List.setIfInBounds_toArray, List.set_cons_zero, List.set_cons_succ]
    have hHeld := hHeld2; clear hHeld2
    refine wpAnyH_done (by kernel_rfl) ?_ _
    have h5 := ((Hst.out.setLev q starts.length).setRea q r).keep (Below.refl _ _).drew
    have b5 : Below B w (((W.setCell ⟨gl, q, none⟩ (.int .i64 starts.length)).setCell ⟨gr, q, none⟩ (.int .i64 r)).drew) := ((hbw.setCell (Hst.out.ge 2 gl rfl) _).setCell (Hst.out.ge 3 gr rfl) _).drew
    obtain ⟨W5, hW5⟩ : ∃ W5, W5 = (((W.setCell ⟨gl, q, none⟩ (.int .i64 starts.length)).setCell ⟨gr, q, none⟩ (.int .i64 r)).drew) := ⟨_, rfl⟩
    rw [← hW5] at h5 b5 ⊢
    clear hW5 hHeld hcl hcr hlf hrf Hst hsv hbw H
    obtain ⟨lev1, hv1⟩ : ∃ v1, v1 = lev.set q (starts.length : Int) := ⟨_, rfl⟩
    obtain ⟨rea1, hv2⟩ : ∃ v1, v1 = rea.set q r := ⟨_, rfl⟩
    rw [← hv1, ← hv2] at h5
    have Hv2 := hide hv1
    have Hv3 := hide hv2
    clear hv1 hv2
    obtain ⟨f0, f1, f2, f3, f4, f5, f6, f7⟩ := h5.facts
    have hgl5 := h5.blk.lt
    obtain ⟨i0, hi0, hz0, hz1, hz2⟩ := info_parts Tryz.intInfo
    have hB5 : B ≤ W5.heap.size := by have := h5.ge 0 g rfl; omega
    have H5 := hide h5
    have B5 := hide b5
    clear h5 b5
    go_wp2_with
      (at_builtin
       refine wpList_pushA rfl _ _ 22 rfl B 3 i0 (.int .i64 0) 1 8 Tryz.underlying22 hi0 hz0 hz1 hz2 rfl (by decide) _ _ _ rfl H5.out.trl [.int .i64 x] rfl (by intro u hu; simp at hu; subst hu; rfl) rfl (by omega) (by omega) hB5 ?_
       intro O oc w6 hown6 hg6 hat6
       obtain ⟨hp6, hb6⟩ := H5.out.pushT hown6 hg6 hat6
       have hblk6 := (H5.out.blk.alloc (.cells #[.int .i64 x] 3)).grown hg6 (fun e => by
         have := H5.out.ap 4 0 g (by show blkO T = some g; rw [← own_blkO]; exact e.symm) rfl
         omega)
       have c6 := hblk6.cell 6
       have c6f := hblk6.frozen 6
       have c6l := hblk6.lt
       simp only [List.getElem?_cons_zero, List.getElem?_cons_succ] at c6
       have Hp6 := hide hp6
       have Hb6 := hide hb6
       clear hown6 hg6 hat6 hp6 hb6 hblk6 f0 f1 f2 f3 f4 f5 f6 f7)
    go_end0
    have e1 := Hv1.out
    have e2 := Hv2.out
    have e3 := Hv3.out
    subst e1 e2 e3
    exact ⟨rfl, B5.out.trans Hb6.out, O, oc, Hp6.out⟩
  · go_upto_region 4 with (fail)
    obtain ⟨W, hWd⟩ : ∃ W, W = (w.setCell ⟨a.gv, q, none⟩ (.int .i64 1)) := ⟨_, rfl⟩
    have hsv : Sv B W g a V cs ln (setLit vals x) lev rea t starts ∧ Below B w W := by
      rw [hWd]
      exact ((HW.out (fun W => Sv B W g a V cs ln (setLit vals x) lev rea t starts ∧ Below B w W) (fun W h1 h2 => ⟨h1, h2⟩)).1 (by omega))
    rw [← hWd]
    obtain ⟨hsv, hbw⟩ := hsv
    clear hWd f0 f1 f2 f3 f4 f5 f6 f7 hc0 hf0
    obtain ⟨vals1, hv1⟩ : ∃ v1, v1 = setLit vals x := ⟨_, rfl⟩
    rw [← hv1] at hsv
    have Hv1 := hide hv1
    clear hv1
    clear Hset HW Hvarc
    have hll := hsv.llen
    have hrl := hsv.rlen
    obtain ⟨gv, gl, gr, L, lc, D, dc, T, tc, S, sc⟩ := a
    simp only at hgv hgv' hgl hgr hvl
    have hq0' : (0 : Int) ≤ (q : Int) := by omega
    have hq1' : (q : Int) < (V : Int) + 1 := by omega
    have hcl : ∃ u, W.cell? ⟨gl, q, none⟩ = some (.int .i64 u) := ⟨_, hsv.lvl.cell (List.getElem?_eq_getElem (show q < lev.length by omega))⟩
    have hcr : ∃ u, W.cell? ⟨gr, q, none⟩ = some (.int .i64 u) := ⟨_, hsv.rsn.cell (List.getElem?_eq_getElem (show q < rea.length by omega))⟩
    obtain ⟨u1, hcl⟩ := hcl
    obtain ⟨u2, hcr⟩ := hcr
    have hlf := hsv.lvl.frozen q
    have hrf := hsv.rsn.frozen q
    have hllt := hsv.lvl.lt
    have hrlt := hsv.rsn.lt
    have hlr : gl ≠ gr := fun e => by have := hsv.ap 2 3 gl rfl (by rw [e]; rfl); omega
    have hlr' : gr ≠ gl := Ne.symm hlr
    simp only at hcl hcr hlf hrf hllt hrlt
    have Hst := hide hsv
    refine wp_region_held_drew (S := (fun w' => Blk 140 w' g [.int .i64 V, .slice L cs.length lc, .slice D ln.length dc, .slice (some ⟨gv, 0, none⟩) (V + 1) (V + 1), .slice (some ⟨gl, 0, none⟩) (V + 1) (V + 1), .slice (some ⟨gr, 0, none⟩) (V + 1) (V + 1), .slice T t.length tc, .slice S starts.length sc])) (by kernel_rfl) ?_ (fun hHeld => ?_)
    · (try dsimp only); exact Hst.out.blk.qt (Qt.refl _).drew
    refine take1 (i := 0) (v := ?_) (some 23) rfl rfl (by kernel_rfl) (by kernel_rfl) (by kernel_rfl) (fun _ _ _ h => h) (Or.inl ⟨by rfl, ?_⟩) (by assumption) ?_
    rotate_left
    · intro w hSw; (try dsimp only at hSw); have z4 := (id hSw : Blk _ _ _ _).cell 4; have z5 := (id hSw : Blk _ _ _ _).cell 5; have z7 := (id hSw : Blk _ _ _ _).cell 7; simp only [List.getElem?_cons_zero, List.getElem?_cons_succ] at z4 z5 z7; clear hSw; first | (go_simp; done) | (go_simp; with_reducible rfl)
    try simp only [Act.put, List.setIfInBounds_toArray, List.set_cons_zero, List.set_cons_succ]
    refine take1 (i := 1) (v := ?_) (some 24) rfl rfl (by kernel_rfl) (by kernel_rfl) (by kernel_rfl) (fun _ _ _ h => h) (Or.inl ⟨by rfl, ?_⟩) (by assumption) ?_
    rotate_left
    · intro w hSw; (try dsimp only at hSw); have z4 := (id hSw : Blk _ _ _ _).cell 4; have z5 := (id hSw : Blk _ _ _ _).cell 5; have z7 := (id hSw : Blk _ _ _ _).cell 7; simp only [List.getElem?_cons_zero, List.getElem?_cons_succ] at z4 z5 z7; clear hSw; first | (go_simp; done) | (go_simp; with_reducible rfl)
    try simp only [Act.put, List.setIfInBounds_toArray, List.set_cons_zero, List.set_cons_succ]
    refine take1 (i := 2) (v := ?_) (some 25) rfl rfl (by kernel_rfl) (by kernel_rfl) (by kernel_rfl) (fun _ _ _ h => h) (Or.inl ⟨by rfl, ?_⟩) (by assumption) ?_
    rotate_left
    · intro w hSw; (try dsimp only at hSw); have z4 := (id hSw : Blk _ _ _ _).cell 4; have z5 := (id hSw : Blk _ _ _ _).cell 5; have z7 := (id hSw : Blk _ _ _ _).cell 7; simp only [List.getElem?_cons_zero, List.getElem?_cons_succ] at z4 z5 z7; clear hSw; first | (go_simp; done) | (go_simp; with_reducible rfl)
    try simp only [Act.put, List.setIfInBounds_toArray, List.set_cons_zero, List.set_cons_succ]
    refine take1 (i := 3) (v := ?_) (some 26) rfl rfl (by kernel_rfl) (by kernel_rfl) (by kernel_rfl) (fun _ _ _ h => h) (Or.inl ⟨by rfl, ?_⟩) (by assumption) ?_
    rotate_left
    · intro w hSw; (try dsimp only at hSw); have z4 := (id hSw : Blk _ _ _ _).cell 4; have z5 := (id hSw : Blk _ _ _ _).cell 5; have z7 := (id hSw : Blk _ _ _ _).cell 7; simp only [List.getElem?_cons_zero, List.getElem?_cons_succ] at z4 z5 z7; clear hSw; first | (go_simp; done) | (go_simp; with_reducible rfl)
    try simp only [Act.put, List.setIfInBounds_toArray, List.set_cons_zero, List.set_cons_succ]
    refine take1 (i := 4) (v := ?_) (some 27) rfl rfl (by kernel_rfl) (by kernel_rfl) (by kernel_rfl) (fun _ _ _ h => h) (Or.inl ⟨by rfl, ?_⟩) (by assumption) ?_
    rotate_left
    · intro w hSw; (try dsimp only at hSw); have z4 := (id hSw : Blk _ _ _ _).cell 4; have z5 := (id hSw : Blk _ _ _ _).cell 5; have z7 := (id hSw : Blk _ _ _ _).cell 7; simp only [List.getElem?_cons_zero, List.getElem?_cons_succ] at z4 z5 z7; clear hSw; first | (go_simp; done) | (go_simp; with_reducible rfl)
    try simp only [Act.put, List.setIfInBounds_toArray, List.set_cons_zero, List.set_cons_succ]
    refine take1 (i := 5) (v := ?_) (some 28) rfl rfl (by kernel_rfl) (by kernel_rfl) (by kernel_rfl) (fun _ _ _ h => h) (Or.inl ⟨by rfl, ?_⟩) (by assumption) ?_
    rotate_left
    · intro w hSw; (try dsimp only at hSw); have z4 := (id hSw : Blk _ _ _ _).cell 4; have z5 := (id hSw : Blk _ _ _ _).cell 5; have z7 := (id hSw : Blk _ _ _ _).cell 7; simp only [List.getElem?_cons_zero, List.getElem?_cons_succ] at z4 z5 z7; clear hSw; first | (go_simp; done) | (go_simp; with_reducible rfl)
    try simp only [Act.put, List.setIfInBounds_toArray, List.set_cons_zero, List.set_cons_succ]
    refine take1 (i := 6) (v := ?_) (some 29) rfl rfl (by kernel_rfl) (by kernel_rfl) (by kernel_rfl) (fun _ _ _ h => h) (Or.inl ⟨by rfl, ?_⟩) (by assumption) ?_
    rotate_left
    · intro w hSw; (try dsimp only at hSw); have z4 := (id hSw : Blk _ _ _ _).cell 4; have z5 := (id hSw : Blk _ _ _ _).cell 5; have z7 := (id hSw : Blk _ _ _ _).cell 7; simp only [List.getElem?_cons_zero, List.getElem?_cons_succ] at z4 z5 z7; clear hSw; first | (go_simp; done) | (go_simp; with_reducible rfl)
    try simp only [Act.put, List.setIfInBounds_toArray, List.set_cons_zero, List.set_cons_succ]
    refine take1 (i := 7) (v := ?_) (some 30) rfl rfl (by kernel_rfl) (by kernel_rfl) (by kernel_rfl) (fun _ _ _ h => h) (Or.inl ⟨by rfl, ?_⟩) (by assumption) ?_
    rotate_left
    · intro w hSw; (try dsimp only at hSw); have z4 := (id hSw : Blk _ _ _ _).cell 4; have z5 := (id hSw : Blk _ _ _ _).cell 5; have z7 := (id hSw : Blk _ _ _ _).cell 7; simp only [List.getElem?_cons_zero, List.getElem?_cons_succ] at z4 z5 z7; clear hSw; first | (go_simp; done) | (go_simp; with_reducible rfl)
    try simp only [Act.put, List.setIfInBounds_toArray, List.set_cons_zero, List.set_cons_succ]
    refine take1 (i := 8) (v := ?_) (some 31) rfl rfl (by kernel_rfl) (by kernel_rfl) (by kernel_rfl) (fun _ _ _ h => h) (Or.inl ⟨by rfl, ?_⟩) (by assumption) ?_
    rotate_left
    · intro w hSw; (try dsimp only at hSw); have z4 := (id hSw : Blk _ _ _ _).cell 4; have z5 := (id hSw : Blk _ _ _ _).cell 5; have z7 := (id hSw : Blk _ _ _ _).cell 7; simp only [List.getElem?_cons_zero, List.getElem?_cons_succ] at z4 z5 z7; clear hSw; first | (go_simp; done) | (go_simp; with_reducible rfl)
    try simp only [Act.put, List.setIfInBounds_toArray, List.set_cons_zero, List.set_cons_succ]
    refine take1 (i := 9) (v := ?_) (some 32) rfl rfl (by kernel_rfl) (by kernel_rfl) (by kernel_rfl) (fun _ _ _ h => h) (Or.inl ⟨by rfl, ?_⟩) (by assumption) ?_
    rotate_left
    · intro w hSw; (try dsimp only at hSw); have z4 := (id hSw : Blk _ _ _ _).cell 4; have z5 := (id hSw : Blk _ _ _ _).cell 5; have z7 := (id hSw : Blk _ _ _ _).cell 7; simp only [List.getElem?_cons_zero, List.getElem?_cons_succ] at z4 z5 z7; clear hSw; first | (go_simp; done) | (go_simp; with_reducible rfl)
    try simp only [Act.put, List.setIfInBounds_toArray, List.set_cons_zero, List.set_cons_succ]
    refine take1 (i := 10) (v := ?_) (some 33) rfl rfl (by kernel_rfl) (by kernel_rfl) (by kernel_rfl) (fun _ _ _ h => h) (Or.inl ⟨by rfl, ?_⟩) (by assumption) ?_
    rotate_left
    · intro w hSw; (try dsimp only at hSw); have z4 := (id hSw : Blk _ _ _ _).cell 4; have z5 := (id hSw : Blk _ _ _ _).cell 5; have z7 := (id hSw : Blk _ _ _ _).cell 7; simp only [List.getElem?_cons_zero, List.getElem?_cons_succ] at z4 z5 z7; clear hSw; first | (go_simp; done) | (go_simp; with_reducible rfl)
    try simp only [Act.put, List.setIfInBounds_toArray, List.set_cons_zero, List.set_cons_succ]
    refine take1 (i := 11) (v := ?_) (some 34) rfl rfl (by kernel_rfl) (by kernel_rfl) (by kernel_rfl) (fun _ _ _ h => h) (Or.inl ⟨by rfl, ?_⟩) (by assumption) ?_
    rotate_left
    · intro w hSw; (try dsimp only at hSw); have z4 := (id hSw : Blk _ _ _ _).cell 4; have z5 := (id hSw : Blk _ _ _ _).cell 5; have z7 := (id hSw : Blk _ _ _ _).cell 7; simp only [List.getElem?_cons_zero, List.getElem?_cons_succ] at z4 z5 z7; clear hSw; first | (go_simp; done) | (go_simp; with_reducible rfl)
    try simp only [Act.put, List.setIfInBounds_toArray, List.set_cons_zero, List.set_cons_succ]
    refine take1 (i := 12) (v := ?_) (some 35) rfl rfl (by kernel_rfl) (by kernel_rfl) (by kernel_rfl) (fun _ _ _ h => h) (Or.inl ⟨by rfl, ?_⟩) (by assumption) ?_
    rotate_left
    · intro w hSw; (try dsimp only at hSw); have z4 := (id hSw : Blk _ _ _ _).cell 4; have z5 := (id hSw : Blk _ _ _ _).cell 5; have z7 := (id hSw : Blk _ _ _ _).cell 7; simp only [List.getElem?_cons_zero, List.getElem?_cons_succ] at z4 z5 z7; clear hSw; first | (go_simp; done) | (go_simp; with_reducible rfl)
    try simp only [Act.put, List.setIfInBounds_toArray, List.set_cons_zero, List.set_cons_succ]
    refine take1 (i := 13) (v := ?_) (some 36) rfl rfl (by kernel_rfl) (by kernel_rfl) (by kernel_rfl) (fun _ _ _ h => h) (Or.inl ⟨by rfl, ?_⟩) (by assumption) ?_
    rotate_left
    · intro w hSw; (try dsimp only at hSw); have z4 := (id hSw : Blk _ _ _ _).cell 4; have z5 := (id hSw : Blk _ _ _ _).cell 5; have z7 := (id hSw : Blk _ _ _ _).cell 7; simp only [List.getElem?_cons_zero, List.getElem?_cons_succ] at z4 z5 z7; clear hSw; first | (go_simp; done) | (go_simp; with_reducible rfl)
    try simp only [Act.put, List.setIfInBounds_toArray, List.set_cons_zero, List.set_cons_succ]
    refine take1 (i := 14) (v := ?_) (some 37) rfl rfl (by kernel_rfl) (by kernel_rfl) (by kernel_rfl) (fun _ _ _ h => h) (Or.inl ⟨by rfl, ?_⟩) (by assumption) ?_
    rotate_left
    · intro w hSw; (try dsimp only at hSw); have z4 := (id hSw : Blk _ _ _ _).cell 4; have z5 := (id hSw : Blk _ _ _ _).cell 5; have z7 := (id hSw : Blk _ _ _ _).cell 7; simp only [List.getElem?_cons_zero, List.getElem?_cons_succ] at z4 z5 z7; clear hSw; first | (go_simp; done) | (go_simp; with_reducible rfl)
    try simp only [Act.put, List.setIfInBounds_toArray, List.set_cons_zero, List.set_cons_succ]
    refine take1 (i := 15) (v := ?_) (some 38) rfl rfl (by kernel_rfl) (by kernel_rfl) (by kernel_rfl) (fun _ _ _ h => h) (Or.inl ⟨by rfl, ?_⟩) (by assumption) ?_
    rotate_left
    · intro w hSw; (try dsimp only at hSw); have z4 := (id hSw : Blk _ _ _ _).cell 4; have z5 := (id hSw : Blk _ _ _ _).cell 5; have z7 := (id hSw : Blk _ _ _ _).cell 7; simp only [List.getElem?_cons_zero, List.getElem?_cons_succ] at z4 z5 z7; clear hSw; first | (go_simp; done) | (go_simp; with_reducible rfl)
    try simp only [Act.put, List.setIfInBounds_toArray, List.set_cons_zero, List.set_cons_succ]
    refine take1 (i := 16) (v := ?_) (some 39) rfl rfl (by kernel_rfl) (by kernel_rfl) (by kernel_rfl) (fun _ _ _ h => h) (Or.inl ⟨by rfl, ?_⟩) (by assumption) ?_
    rotate_left
    · intro w hSw; (try dsimp only at hSw); have z4 := (id hSw : Blk _ _ _ _).cell 4; have z5 := (id hSw : Blk _ _ _ _).cell 5; have z7 := (id hSw : Blk _ _ _ _).cell 7; simp only [List.getElem?_cons_zero, List.getElem?_cons_succ] at z4 z5 z7; clear hSw; first | (go_simp; done) | (go_simp; with_reducible rfl)
    try simp only [Act.put, List.setIfInBounds_toArray, List.set_cons_zero, List.set_cons_succ]
    refine wpAnyH_ready (rs := [17]) (by kernel_rfl) (by simp) ?_
    refine AllReadyH.cons rfl (fun K hK => ?_) AllReadyH.nil
    go_simp
    refine hK.out _ _ ?_ (fun hHeld2 => ?_)
    · (try dsimp only); exact Blk.far hHeld hgl _
    clear hK K hHeld
    try simp only [Act.put, List.setIfInBounds_toArray, List.set_cons_zero, List.set_cons_succ]
    have hHeld := hHeld2; clear hHeld2
    refine take1 (i := 18) (v := ?_) (some 40) rfl rfl (by kernel_rfl) (by kernel_rfl) (by kernel_rfl) (fun _ _ _ h => h) (Or.inl ⟨by rfl, ?_⟩) (by assumption) ?_
    rotate_left
    · intro w hSw; (try dsimp only at hSw); have z4 := (id hSw : Blk _ _ _ _).cell 4; have z5 := (id hSw : Blk _ _ _ _).cell 5; have z7 := (id hSw : Blk _ _ _ _).cell 7; simp only [List.getElem?_cons_zero, List.getElem?_cons_succ] at z4 z5 z7; clear hSw; first | (go_simp; done) | (go_simp; with_reducible rfl)
    try simp only [Act.put, List.setIfInBounds_toArray, List.set_cons_zero, List.set_cons_succ]
    refine wpAnyH_ready (rs := [19]) (by kernel_rfl) (by simp) ?_
    refine AllReadyH.cons rfl (fun K hK => ?_) AllReadyH.nil
    go_simp
    refine hK.out _ _ ?_ (fun hHeld2 => ?_)
    · (try dsimp only); exact Blk.far hHeld hgr _
    clear hK K hHeld
    try simp only [Act.put, List.setIfInBounds_toArray, List.set_cons_zero, List.set_cons_succ]
    have hHeld := hHeld2; clear hHeld2
    refine wpAnyH_done (by kernel_rfl) ?_ _
    have h5 := ((Hst.out.setLev q starts.length).setRea q r).keep (Below.refl _ _).drew
    have b5 : Below B w (((W.setCell ⟨gl, q, none⟩ (.int .i64 starts.length)).setCell ⟨gr, q, none⟩ (.int .i64 r)).drew) := ((hbw.setCell (Hst.out.ge 2 gl rfl) _).setCell (Hst.out.ge 3 gr rfl) _).drew
    obtain ⟨W5, hW5⟩ : ∃ W5, W5 = (((W.setCell ⟨gl, q, none⟩ (.int .i64 starts.length)).setCell ⟨gr, q, none⟩ (.int .i64 r)).drew) := ⟨_, rfl⟩
    rw [← hW5] at h5 b5 ⊢
    clear hW5 hHeld hcl hcr hlf hrf Hst hsv hbw H
    obtain ⟨lev1, hv1⟩ : ∃ v1, v1 = lev.set q (starts.length : Int) := ⟨_, rfl⟩
    obtain ⟨rea1, hv2⟩ : ∃ v1, v1 = rea.set q r := ⟨_, rfl⟩
    rw [← hv1, ← hv2] at h5
    have Hv2 := hide hv1
    have Hv3 := hide hv2
    clear hv1 hv2
    obtain ⟨f0, f1, f2, f3, f4, f5, f6, f7⟩ := h5.facts
    have hgl5 := h5.blk.lt
    obtain ⟨i0, hi0, hz0, hz1, hz2⟩ := info_parts Tryz.intInfo
    have hB5 : B ≤ W5.heap.size := by have := h5.ge 0 g rfl; omega
    have H5 := hide h5
    have B5 := hide b5
    clear h5 b5
    go_wp2_with
      (at_builtin
       refine wpList_pushA rfl _ _ 22 rfl B 3 i0 (.int .i64 0) 1 8 Tryz.underlying22 hi0 hz0 hz1 hz2 rfl (by decide) _ _ _ rfl H5.out.trl [.int .i64 x] rfl (by intro u hu; simp at hu; subst hu; rfl) rfl (by omega) (by omega) hB5 ?_
       intro O oc w6 hown6 hg6 hat6
       obtain ⟨hp6, hb6⟩ := H5.out.pushT hown6 hg6 hat6
       have hblk6 := (H5.out.blk.alloc (.cells #[.int .i64 x] 3)).grown hg6 (fun e => by
         have := H5.out.ap 4 0 g (by show blkO T = some g; rw [← own_blkO]; exact e.symm) rfl
         omega)
       have c6 := hblk6.cell 6
       have c6f := hblk6.frozen 6
       have c6l := hblk6.lt
       simp only [List.getElem?_cons_zero, List.getElem?_cons_succ] at c6
       have Hp6 := hide hp6
       have Hb6 := hide hb6
       clear hown6 hg6 hat6 hp6 hb6 hblk6 f0 f1 f2 f3 f4 f5 f6 f7)
    go_end0
    have e1 := Hv1.out
    have e2 := Hv2.out
    have e3 := Hv3.out
    subst e1 e2 e3
    exact ⟨rfl, B5.out.trans Hb6.out, O, oc, Hp6.out⟩
end Go.Proofs.YtemiecammmbjdaaGreat
namespace Go.Proofs.YtemiecammmbjdaaGreat
set_option linter.unusedVariables false
set_option linter.unusedSimpArgs false
open Go.RowKit
/-- after a propagation: what was added, and how it ended -/
def PropP (B : Nat) (w : World) (g : Nat) (a : SA) (V : Nat) (cs ln : List (List Int)) (t0 : List Int) (starts : List Nat) (e : Ending) (w' : World) : Prop :=
  ∃ (k : Int) (O : Option Addr) (oc : Nat) (vals lev rea t : List Int), e = .returned (.int .i64 k) ∧ Below B w w' ∧ Sv B w' g { a with T := O, tc := oc } V cs ln vals lev rea t starts ∧ St V cs starts t vals lev rea ∧ t0 <+: t ∧
    ((k = -1 ∧ ∀ c ∈ cs, Calm c t) ∨ ∃ (i : Nat) (c : List Int), k = (i : Int) ∧ cs[i]? = some c ∧ ∀ y ∈ c, -y ∈ t) ∧ (Fresh cs t0 → t0.length < t.length)
theorem fresh_grown {V : Nat} {cs : List (List Int)} {starts : List Nat} {t0 t vals lev rea : List Int} (h : St V cs starts t vals lev rea) (hp : t0 <+: t) (hx : Fresh cs t → False) : Fresh cs t0 → t0.length < t.length := fun hf => by
  rcases Nat.lt_or_ge t0.length t.length with hl | hl
  · exact hl
  · have e : t0 = t := hp.eq_of_length (by have := hp.length_le; omega)
    exact (hx (e ▸ hf)).elim
set_option maxRecDepth 100000 in
set_option maxHeartbeats 3200000 in
theorem propagate_ct {B : Nat} {w : World} {g : Nat} {a : SA} {V : Nat} {cs ln : List (List Int)} {vals lev rea t0 : List Int} {starts : List Nat} (h : Sv B w g a V cs ln vals lev rea t0 starts) (hst : St V cs starts t0 vals lev rea) (hV : V ≤ 1000) :
    Calls Tryz.prog 80 #[.pointer (some ⟨g, 0, none⟩)] w (PropP B w g a V cs ln t0 starts) := by
  have hcl : cs.length ≤ 9223372036854775807 := by
    obtain ⟨vs, h1, _, _⟩ := h.lst
    have := own_nil_or h1
    omega
  obtain ⟨gv, gl, gr, L, lc, D, dc, T, tc, S, sc⟩ := a
  have H := hide h
  have Hst := hide hst
  clear h hst
  go_enter Tryz.func80, Tryz.ntmps80
  go_wp2_with fail
  go_loopg [3] (2 * V + 2) (fun gk s3 wr => ∃ (ag : Bool) (O : Option Addr) (oc : Nat) (vs ls rs t : List Int), s3 = .bool ag ∧ Below B w wr ∧ Sv B wr g ⟨gv, gl, gr, L, lc, D, dc, O, oc, S, sc⟩ V cs ln vs ls rs t starts ∧ St V cs starts t vs ls rs ∧ t0 <+: t ∧ (ag = false → ∀ c ∈ cs, Calm c t) ∧ 2 * (V - t.length) + (if ag = true then 1 else 0) < gk)
  case atStart =>
    refine ⟨true, T, tc, vals, lev, rea, t0, rfl, Below.refl _ _, H.out, Hst.out, List.prefix_refl _, (fun h => by cases h), ?_⟩
    rw [if_pos rfl]
    omega
  case round =>
    obtain ⟨ag, O, oc, vs, ls, rs, t, rfl, hb, hsv, hs, hpre, hcalm, hgk⟩ := hrel
    cases ag with
    | false =>
      have Hf := hide (fresh_grown hs hpre (fun hf => fresh_calm hs.inv.tr hf (hcalm rfl)))
      have Hcalm := hide (hcalm rfl)
      have Hpre := hide hpre
      have Hb := hide hb
      have Hsv := hide hsv
      have Hs := hide hs
      clear hb hsv hs hpre hcalm hgk
      go_wp2
      go_ret
      exact ⟨-1, O, oc, vs, ls, rs, t, rfl, Hb.out, Hsv.out, Hs.out, Hpre.out, .inl ⟨rfl, Hcalm.out⟩, Hf.out⟩
    | true =>
      rw [if_pos rfl] at hgk
      obtain ⟨gk, rfl⟩ : ∃ j, gk = j + 1 := ⟨gk - 1, by omega⟩
      obtain ⟨f0, f1, f2, f3, f4, f5, f6, f7⟩ := hsv.facts
      have Hpre := hide hpre
      have Hb := hide hb
      have Hsv := hide hsv
      have Hs := hide hs
      clear hb hsv hs hpre hcalm
      go_wp2_with fail
      obtain ⟨wo, hwo⟩ : ∃ wo : World, wo = wr := ⟨_, rfl⟩
      have Hwo := hide hwo
      clear hwo f0 f1 f2 f3 f4 f5 f6 f7
      go_loopw [3, 18] (fun s3 i wr => ∃ (k : Nat) (ag : Bool) (O : Option Addr) (oc : Nat) (vs ls rs t : List Int), k ≤ cs.length ∧ i = .int .i64 k ∧ s3 = .bool ag ∧ Below B w wr ∧ Sv B wr g ⟨gv, gl, gr, L, lc, D, dc, O, oc, S, sc⟩ V cs ln vs ls rs t starts ∧ St V cs starts t vs ls rs ∧ t0 <+: t ∧ (ag = false → ∀ j c, j < k → cs[j]? = some c → Calm c t) ∧ 2 * (V - t.length) + (if ag = true then 1 else 0) < gk) (fun _ i _ => cs.length - (intOf i).toNat)
      case atStart => exact ⟨0, false, O, oc, vs, ls, rs, t, by omega, rfl, rfl, Hb.out, Hsv.out, Hs.out, Hpre.out, fun _ j c hj => by omega, by simp; omega⟩
      case round =>
        obtain ⟨k, ag, O1, oc1, vs1, ls1, rs1, t1, hk, rfl, rfl, hb, hsv, hs, hpre, hcalm, hgk1⟩ := hrel
        clear Hpre Hb Hsv Hs
        have Hpre := hide hpre
        have Hb := hide hb
        have Hsv := hide hsv
        have Hs := hide hs
        have Hcalm := hide hcalm
        by_cases hlt : k < cs.length
        · obtain ⟨xs, hown, hxl, hxs⟩ := hsv.lst
          have hc : cs[k]? = some (cs[k]'hlt) := List.getElem?_eq_getElem _
          generalize cs[k]'hlt = l at hc
          obtain ⟨A', n', c', hx1, hrx, _⟩ := hxs k l hc
          obtain ⟨gL, hgL⟩ := own_addr hown (by omega)
          simp only at hgL
          subst hgL
          have hcell := hown.cells (g := gL) rfl k (.slice A' n' c') hx1
          rw [add_plain, Nat.zero_add] at hcell
          have hclean := hs.inv.clean l (List.mem_of_getElem? hc)
          have Hlf : Hid (∀ x ∈ l, Fits V x) := hide hclean.1
          have hsm' := hrx.low
          have Hl' := hide hrx.len
          have Hrx := hide hrx
          have Hc := hide hc
          have htri := hs.tri
          have Htri := hide htri
          clear hb hsv hs hpre hcalm hown hxl hxs hx1 hc hclean hrx htri
          go_wp2_with fail
          go_loop [6, 7, 8, 25] (fun s8 s9 s10 j => ∃ (kk : Nat) (f : Int) (m : Nat) (hb : Bool), kk ≤ n' ∧ j = .int .i64 kk ∧ s8 = .int .i64 f ∧ s9 = .int .i64 m ∧ s10 = .bool hb ∧ m ≤ kk ∧ (m = 0 → f = 0) ∧ (0 < m → Fits V f) ∧ scan vs1 l (0, 0, false) = scan vs1 (l.drop kk) (f, m, hb)) (fun _ _ _ j => n' - (intOf j).toNat)
          case atStart => exact ⟨0, 0, 0, false, by omega, rfl, rfl, rfl, rfl, by omega, fun _ => rfl, fun h => absurd h (by omega), by simp⟩
          case round =>
            obtain ⟨kk, f, m, hbb, hkk, rfl, rfl, rfl, rfl, hm, hm0, hm1, hrel2⟩ := hrel
            have Hm0 := hide hm0
            have Hm1 := hide hm1
            clear hm0 hm1
            by_cases hlt2 : kk < n'
            · obtain ⟨b1, off1, x, rfl, hx, hxl, hxh, hcx1⟩ := Hrx.out.int hlt2
              rw [drop_cons hx] at hrel2
              have hfx := Hlf.out x (List.mem_of_getElem? hx)
              have hx0 := hfx.1
              have hof := of_ct x Hsv.out hfx hV Htri.out
              have Hfx := hide hfx
              have Hx0 := hide hx0
              rcases ofV_tri Htri.out x with ho | ho | ho
              · rw [ho] at hof
                have Hof := hide hof
                have Hrel2 := hide (hrel2.trans (scan_of0 ho))
                clear hof ho hrel2 hfx hx hx0
                cases hbb
                all_goals
                  go_wp2_with fail
                  with_reducible refine Hof.out.mono ?_
                  rintro e w1 ⟨rfl, rfl⟩
                  go_wp2_with fail
                  go_round
                  case rel => exact ⟨kk + 1, x, m + 1, _, by omega, by go_num, rfl, by go_num, rfl, by omega, fun h => absurd h (by omega), fun _ => Hfx.out, Hrel2.out⟩
                  case measure => simp [intOf]; omega
              · rw [ho] at hof
                have Hof := hide hof
                have Hrel2 := hide (hrel2.trans (scan_of1 Hx0.out ho))
                clear hof ho hrel2 hfx hx hx0
                cases hbb
                all_goals
                  go_wp2_with fail
                  with_reducible refine Hof.out.mono ?_
                  rintro e w1 ⟨rfl, rfl⟩
                  go_wp2_with fail
                  go_round
                  case rel => exact ⟨kk + 1, f, m, _, by omega, by go_num, rfl, by go_num, rfl, by omega, Hm0.out, Hm1.out, Hrel2.out⟩
                  case measure => simp [intOf]; omega
              · rw [ho] at hof
                have Hof := hide hof
                have Hrel2 := hide (hrel2.trans (scan_of2 Hx0.out ho))
                clear hof ho hrel2 hfx hx hx0
                cases hbb
                all_goals
                  go_wp2_with fail
                  with_reducible refine Hof.out.mono ?_
                  rintro e w1 ⟨rfl, rfl⟩
                  go_wp2_with fail
                  go_round
                  case rel => exact ⟨kk + 1, f, m, _, by omega, by go_num, rfl, by go_num, rfl, by omega, Hm0.out, Hm1.out, Hrel2.out⟩
                  case measure => simp [intOf]; omega
            · have hscan : scan vs1 l (0, 0, false) = (f, m, hbb) := by
                rw [hrel2, List.drop_of_length_le (by rw [Hl'.out]; omega), scan]
              obtain ⟨c1, c2, c3⟩ := Hs.out.scan (List.mem_of_getElem? Hc.out) hscan
              have C1 := hide c1
              have C2 := hide c2
              have C3 := hide c3
              clear hscan hrel2 c1 c2 c3
              by_cases hgo : hbb = true ∨ 1 < m
              · have hcl2 : ag = false → ∀ j c, j < k + 1 → cs[j]? = some c → Calm c t1 := fun e j c hj hjc => by
                  rcases Nat.lt_or_ge j k with hlj | hge
                  · exact Hcalm.out e j c hlj hjc
                  · obtain rfl : j = k := by omega
                    have := Hc.out
                    rw [hjc] at this
                    obtain rfl := Option.some.inj this
                    exact C1.out hgo
                have Hcl2 := hide hcl2
                have Hgk1 := hide hgk1
                clear hcl2
                cases hbb with
                | true =>
                  clear hgo hgk1
                  go_wp2_with fail
                  go_roundw
                  case rel => exact ⟨k + 1, ag, O1, oc1, vs1, ls1, rs1, t1, by omega, by go_num, rfl, Hb.out, Hsv.out, Hs.out, Hpre.out, Hcl2.out, Hgk1.out⟩
                  case measure => simp [intOf]; omega
                | false =>
                  have hm2 : 1 < m := by simpa using hgo
                  clear hgo hgk1
                  go_wp2_with fail
                  go_roundw
                  case rel => exact ⟨k + 1, ag, O1, oc1, vs1, ls1, rs1, t1, by omega, by go_num, rfl, Hb.out, Hsv.out, Hs.out, Hpre.out, Hcl2.out, Hgk1.out⟩
                  case measure => simp [intOf]; omega
              · obtain rfl : hbb = false := by simpa using fun h => hgo (.inl h)
                have hm2 : m ≤ 1 := by omega
                by_cases hm3 : m = 0
                · have Hneg := hide (C2.out hgo hm3)
                  subst hm3
                  have Hf := hide (fresh_grown Hs.out Hpre.out (fun hf => fresh_false Hs.out.inv.tr hf (List.mem_of_getElem? Hc.out) Hneg.out))
                  clear hgo hgk1
                  go_wp2_with fail
                  go_ret
                  exact ⟨k, O1, oc1, vs1, ls1, rs1, t1, rfl, Hb.out, Hsv.out, Hs.out, Hpre.out, .inr ⟨k, l, rfl, Hc.out, Hneg.out⟩, Hf.out⟩
                · obtain ⟨u1, u2, u3, u4⟩ := C3.out hgo hm3
                  obtain rfl : m = 1 := by omega
                  have hff := Hlf.out f u1
                  have htl := Hs.out.inv.tr.len
                  have hs2 := Hs.out.assign Hc.out u1 u2 u3 u4
                  have htl2 := hs2.inv.tr.len
                  have hasg := assign_ct f k Hsv.out hff hV htl
                  have Hasg := hide hasg
                  have Hs2 := hide hs2
                  have Hgk1 := hide hgk1
                  clear hgo hgk1 u1 u2 u3 u4 hff htl hs2 hasg hm3
                  go_wp2_with fail
                  with_reducible refine Hasg.out.mono ?_
                  rintro e w1 ⟨he, hb1, O2, oc2, hsv2⟩
                  unfold Ends at he
                  subst he
                  simp only at hsv2
                  have Hb2 := hide (Hb.out.trans hb1)
                  have Hsv2 := hide hsv2
                  clear hb1 hsv2
                  go_wp2_with fail
                  go_roundw
                  case rel =>
                    refine ⟨k + 1, true, O2, oc2, _, _, _, t1 ++ [f], by omega, by go_num, rfl, Hb2.out, Hsv2.out, Hs2.out, Hpre.out.trans (List.prefix_append _ _), (fun e => by cases e), ?_⟩
                    have := Hgk1.out
                    rw [List.length_append, List.length_singleton] at htl2 ⊢
                    rw [if_pos rfl]
                    split at this <;> omega
                  case measure => simp [intOf]; omega
        · have hcalm2 : ag = false → ∀ c ∈ cs, Calm c t1 := fun e c hc => by
            obtain ⟨j, hj⟩ := List.getElem?_of_mem hc
            exact Hcalm.out e j c (by have := (List.getElem?_eq_some_iff.1 hj).1; omega) hj
          have Hcalm2 := hide hcalm2
          clear hb hsv hs hpre hcalm hcalm2
          go_wp2_with fail
          go_roundg gk
          case measure => omega
          case rel => exact ⟨ag, O1, oc1, vs1, ls1, rs1, t1, rfl, Hb.out, Hsv.out, Hs.out, Hpre.out, Hcalm2.out, hgk1⟩
end Go.Proofs.YtemiecammmbjdaaGreat
namespace Go.Proofs.YtemiecammmbjdaaGreat
set_option linter.unusedVariables false
set_option linter.unusedSimpArgs false
open Go.RowKit
section
variable {B : Nat} {w : World} {g : Nat} {a : SA} {V : Nat} {cs ln : List (List Int)} {vals lev rea t : List Int} {starts : List Nat}
theorem Lf_get {l : List Int} {q : Nat} (h : q < l.length) : l[q]? = some (Lf l q) := by
  unfold Lf
  rw [List.getD_eq_getElem?_getD, List.getElem?_eq_getElem h]
  rfl
set_option maxRecDepth 100000 in
set_option maxHeartbeats 1600000 in
theorem back_ct {A : Option Addr} {n c : Nat} {C : List Int} (h : Sv B w g a V cs ln vals lev rea t starts) (hr : Rd Enc.int w A n c C) (hf : ∀ x ∈ C, Fits V x) (hV : V ≤ 1000) :
    Calls Tryz.prog 83 #[.pointer (some ⟨g, 0, none⟩), .slice A n c] w (Quiet w (.int .i64 (backF (Lf lev) starts.length C 0))) := by
  have hsm := hr.low
  have Hl := hide hr.len
  have hsl : starts.length ≤ 9223372036854775807 := by have := own_nil_or h.sts; omega
  have Hr := hide hr
  have H := hide h
  have Hf := hide hf
  clear hr h hf
  go_enter Tryz.func83, Tryz.ntmps83
  go_wp2_with fail
  go_loopw [5, 11] (fun o i wr => ∃ (k : Nat) (b : Int), k ≤ n ∧ i = .int .i64 k ∧ o = .int .i64 b ∧ Qt w wr ∧ backF (Lf lev) starts.length C 0 = backF (Lf lev) starts.length (C.drop k) b) (fun _ i _ => n - (intOf i).toNat)
  case atStart => exact ⟨0, 0, by omega, rfl, rfl, Qt.refl _, by simp⟩
  case round =>
    obtain ⟨k, b, hk, rfl, rfl, hq, hrel⟩ := hrel
    have hsv := H.out.keep (hq.below _)
    obtain ⟨f0, f1, f2, f3, f4, f5, f6, f7⟩ := hsv.facts
    have Hq := hide hq
    by_cases hlt : k < n
    · obtain ⟨b0, off, x, rfl, hx, hxl, hxh, hcx⟩ := (Hr.out.qt hq).int hlt
      rw [drop_cons hx, backF] at hrel
      have hfx := Hf.out x (List.mem_of_getElem? hx)
      have hxb := hfx.2
      have hv := hfx.var
      obtain ⟨q, hqv⟩ : ∃ q : Nat, (q : Int) = litVar x := ⟨(litVar x).toNat, by omega⟩
      have hqn : (litVar x).toNat = q := by omega
      rw [hqn] at hrel
      have hqV : q < V + 1 := by omega
      have hvarc := fun W => Variable_ct x W (by omega) (by omega)
      rw [← hqv] at hvarc
      have hcl := hsv.lvl.cell (Lf_get (l := lev) (show q < lev.length by rw [hsv.llen]; exact hqV))
      have hq0' : (0 : Int) ≤ (q : Int) := by omega
      have hq1' : (q : Int) < (V : Int) + 1 := by omega
      have Hvarc := hide hvarc
      generalize Lf lev q = u at hrel hcl
      clear hx hfx hv hqn hqv hvarc hsv hq
      by_cases hu : u < (starts.length : Int)
      · rw [if_pos hu] at hrel
        have Hrel := hide hrel
        clear hrel f0 f1 f2 f3 f5 f6
        go_wp2_with fail
        go_quiet ((go_at_call 72; exact same_call (Hvarc.out _)))
        go_wp2_with fail
        go_roundw
        case rel => exact ⟨k + 1, max b u, by omega, by go_num, by first | rfl | go_num, Hq.out.drewN _, Hrel.out⟩
        case measure => simp [intOf]; omega
      · rw [if_neg hu] at hrel
        have Hrel := hide hrel
        clear hrel f0 f1 f2 f3 f5 f6
        go_wp2_with fail
        go_quiet ((go_at_call 72; exact same_call (Hvarc.out _)))
        go_wp2_with fail
        go_roundw
        case rel => exact ⟨k + 1, b, by omega, by go_num, rfl, Hq.out.drewN _, Hrel.out⟩
        case measure => simp [intOf]; omega
    · have hfin : backF (Lf lev) starts.length C 0 = b := by rw [hrel, List.drop_of_length_le (by rw [Hl.out]; omega)]; rfl
      have Hfin := hide hfin
      clear hfin hrel hsv hq
      go_wp2_with fail
      go_ret
      exact ⟨ret_int Hfin.out.symm, Hq.out⟩
/-- the values of what is taken back -/
def undoF (vals : List Int) : List Int → List Int
  | [] => vals
  | x :: xs => undoF (vals.set (litVar x).toNat 0) xs
theorem undoF_snoc : ∀ (l : List Int) (vals : List Int) (x : Int), undoF vals (l ++ [x]) = (undoF vals l).set (litVar x).toNat 0 := by
  intro l
  induction l with
  | nil => intro vals x; rfl
  | cons y l ih => intro vals x; exact ih _ x
def UndoP (B : Nat) (w : World) (g : Nat) (a : SA) (V : Nat) (cs ln : List (List Int)) (vals lev rea t : List Int) (starts : List Nat) (b s : Nat) (e : Ending) (w' : World) : Prop :=
  Ends e ∧ Below B w w' ∧ Sv B w' g a V cs ln (undoF vals (t.drop s)) lev rea (t.take s) (starts.take b)
/-- both rows cut short in the struct -/
theorem Sv.cut (h : Sv B w g a V cs ln vals lev rea t starts) {s b : Nat} (hs : s ≤ t.length) (hb : b ≤ starts.length) :
    Sv B ((w.setCell ⟨g, 6, none⟩ (.slice a.T s a.tc)).setCell ⟨g, 7, none⟩ (.slice a.S b a.sc)) g a V cs ln vals lev rea (t.take s) (starts.take b) ∧ Below B w ((w.setCell ⟨g, 6, none⟩ (.slice a.T s a.tc)).setCell ⟨g, 7, none⟩ (.slice a.S b a.sc)) := by
  have hg6 := only_set w g 6 (.slice a.T s a.tc)
  have hg7 := only_set (w.setCell ⟨g, 6, none⟩ (.slice a.T s a.tc)) g 7 (.slice a.S b a.sc)
  have hg := only_trans hg6 hg7
  have hB := h.ge 0 g rfl
  have ne : ∀ j, j ≠ 0 → ro g a j ≠ some g := fun j hj => h.ne (i := 0) (Ne.symm hj) rfl
  have hblk := (h.blk.set 6 (.slice a.T s a.tc)).set 7 (.slice a.S b a.sc)
  simp only [List.set_cons_zero, List.set_cons_succ] at hblk
  have l1 : (t.take s).length = s := by rw [List.length_take]; omega
  have l2 : (starts.take b).length = b := by rw [List.length_take]; omega
  have o1 := own_cut h.trl hs
  have o2 := own_cut h.sts hb
  rw [← List.map_take] at o1 o2
  refine ⟨⟨h.ge, h.ap, by rw [l1, l2]; exact hblk, h.val.grown hg (ne 1 (by decide)), h.vlen, h.lvl.grown hg (ne 2 (by decide)), h.llen, h.rsn.grown hg (ne 3 (by decide)), h.rlen, ?_, ?_,
    h.lst.other (mine (i := 0) rfl) hg (fun q hq e => ne 6 (by decide) (by injection e with e; rw [e]; exact hq)), h.lrn.other (mine (i := 0) rfl) hg (fun q hq e => ne 7 (by decide) (by injection e with e; rw [e]; exact hq))⟩, ((Below.refl _ _).setCell hB _).setCell hB _⟩
  · rw [l1]
    exact own_other o1 hg (fun q hq e => ne 4 (by decide) (by rw [own_blkO] at hq; rw [← e]; exact hq))
  · rw [l2]
    exact own_other o2 hg (fun q hq e => ne 5 (by decide) (by rw [own_blkO] at hq; rw [← e]; exact hq))
end
set_option maxRecDepth 100000 in
set_option maxHeartbeats 3200000 in
theorem undo_ct {B : Nat} {w : World} {g : Nat} {a : SA} {V : Nat} {cs ln : List (List Int)} {vals lev rea t : List Int} {starts : List Nat} {b s : Nat} (h : Sv B w g a V cs ln vals lev rea t starts) (hf : ∀ x ∈ t, Fits V x) (hs : starts[b]? = some s) (hst : s < t.length) (hV : V ≤ 1000) (htV : t.length ≤ V) :
    Calls Tryz.prog 82 #[.pointer (some ⟨g, 0, none⟩), .int .i64 b] w (UndoP B w g a V cs ln vals lev rea t starts b s) := by
  obtain ⟨gv, gl, gr, L, lc, D, dc, T, tc, S, sc⟩ := a
  obtain ⟨hbl, hbs⟩ := List.getElem?_eq_some_iff.1 hs
  obtain ⟨gT, hT⟩ := own_addr h.trl (by omega)
  obtain ⟨gS, hS⟩ := own_addr h.sts (by omega)
  simp only at hT hS
  subst hT hS
  obtain ⟨hc1, hc2⟩ := own_nil_or h.trl
  obtain ⟨hd1, hd2⟩ := own_nil_or h.sts
  simp only at hc1 hc2 hd1 hd2
  have hscell := h.sts.cells (g := gS) rfl b (.int .i64 (s : Int)) (by rw [List.getElem?_map, hs]; rfl)
  rw [add_plain, Nat.zero_add] at hscell
  obtain ⟨f0, f1, f2, f3, f4, f5, f6, f7⟩ := h.facts
  simp only at f0 f1 f2 f3 f4 f5 f6 f7
  have htc : ¬ tc = s := by omega
  have i1 : (s : Int) ≤ (t.length : Int) := by omega
  have i2 : (t.length : Int) ≤ (tc : Int) := by omega
  have i3 : (0 : Int) ≤ (s : Int) := by omega
  have i4 : (0 : Int) ≤ (b : Int) := by omega
  have i5 : (b : Int) < (starts.length : Int) := by omega
  have i6 : (s : Int) ≤ (tc : Int) := by omega
  have i7 : (b : Int) ≤ (sc : Int) := by omega
  have hgv : g ≠ gv := fun e => by have := h.ap 0 1 g rfl (by rw [e]; rfl); omega
  have H := hide h
  have Hf := hide hf
  have Hs := hide hs
  clear h hf hs hbs
  go_enter Tryz.func82, Tryz.ntmps82
  go_wp2_with fail
  clear f0 f1 f2 f3 f4 f5 f6 f7 hscell
  go_loopw [21] (fun i wr => ∃ (k : Nat), k ≤ t.length - s ∧ i = .int .i64 k ∧ Below B w wr ∧ Sv B wr g ⟨gv, gl, gr, L, lc, D, dc, some ⟨gT, 0, none⟩, tc, some ⟨gS, 0, none⟩, sc⟩ V cs ln (undoF vals ((t.drop s).take k)) lev rea t starts) (fun i _ => t.length - s - (intOf i).toNat)
  case atStart => exact ⟨0, by omega, rfl, Below.refl _ _, by simpa [undoF] using H.out⟩
  case round =>
    obtain ⟨k, hk, rfl, hb, hsv⟩ := hrel
    obtain ⟨f0, f1, f2, f3, f4, f5, f6, f7⟩ := hsv.facts
    simp only at f0 f1 f2 f3 f4 f5 f6 f7
    have Hb := hide hb
    have Hsv := hide hsv
    clear hb
    by_cases hlt : k < t.length - s
    · have hx : t[s + k]? = some (t[s + k]'(by omega)) := List.getElem?_eq_getElem _
      generalize t[s + k]'(by omega) = x at hx
      have hfx := Hf.out x (List.mem_of_getElem? hx)
      have hxb := hfx.2
      have hv := hfx.var
      obtain ⟨q, hqv⟩ : ∃ q : Nat, (q : Int) = litVar x := ⟨(litVar x).toNat, by omega⟩
      have hqn : (litVar x).toNat = q := by omega
      have hqV : q < V + 1 := by omega
      have hcell := hsv.trl.cells (g := gT) rfl (s + k) (.int .i64 x) (by rw [List.getElem?_map, hx]; rfl)
      rw [add_plain, Nat.zero_add] at hcell
      have hvarc := fun W => Variable_ct x W (by omega) (by omega)
      rw [← hqv] at hvarc
      have Hvarc := hide hvarc
      have hun : undoF vals ((t.drop s).take (k + 1)) = (undoF vals ((t.drop s).take k)).set q 0 := by
        rw [List.take_add_one, List.getElem?_drop, hx, Option.toList_some, undoF_snoc, hqn]
      have Hun := hide hun
      have hset := hsv.setVal q 0
      simp only at hset
      have hcv : ∃ u, wr.cell? ⟨gv, q, none⟩ = some (.int .i64 u) := ⟨_, hsv.val.cell (List.getElem?_eq_getElem (show q < (undoF vals ((t.drop s).take k)).length by rw [hsv.vlen]; exact hqV))⟩
      obtain ⟨u, hcv⟩ := hcv
      have hvf := hsv.val.frozen q
      have hvl := hsv.val.lt
      simp only at hvf hvl
      have hge := hsv.ge 1 gv rfl
      have hst3 := (hset.keep (Below.refl _ _).drew).blk.cell 3
      simp only [List.getElem?_cons_zero, List.getElem?_cons_succ] at hst3
      have hst3' := hset.blk.cell 3
      simp only [List.getElem?_cons_zero, List.getElem?_cons_succ] at hst3'
      have hq0' : (0 : Int) ≤ (q : Int) := by omega
      have hq1' : (q : Int) < (V : Int) + 1 := by omega
      have Hset := hide hset
      clear hsv hx hfx hv hqv hqn hun hvarc hset
      go_wp2_with fail
      refine wp_region_held_drew (S := (fun w' => w'.cell? ⟨g, 3, none⟩ = some (.slice (some ⟨gv, 0, none⟩) (V + 1) (V + 1)))) (by kernel_rfl) ?_ (fun hHeld => ?_)
      · (try dsimp only); exact f3
      refine take1 (i := 0) (v := ?_) (some 25) rfl rfl (by kernel_rfl) (by kernel_rfl) (by kernel_rfl) (fun _ _ _ h => h) (Or.inl ⟨by rfl, ?_⟩) (by assumption) ?_
      rotate_left
      · intro w hSw; (try dsimp only at hSw); first | (go_simp; done) | (go_simp; with_reducible rfl)
      try simp only [Act.put, List.setIfInBounds_toArray, List.set_cons_zero, List.set_cons_succ]
      refine take1 (i := 1) (v := ?_) (some 26) rfl rfl (by kernel_rfl) (by kernel_rfl) (by kernel_rfl) (fun _ _ _ h => h) (Or.inl ⟨by rfl, ?_⟩) (by assumption) ?_
      rotate_left
      · intro w hSw; (try dsimp only at hSw); first | (go_simp; done) | (go_simp; with_reducible rfl)
      try simp only [Act.put, List.setIfInBounds_toArray, List.set_cons_zero, List.set_cons_succ]
      refine take1 (i := 2) (v := ?_) (some 27) rfl rfl (by kernel_rfl) (by kernel_rfl) (by kernel_rfl) (fun _ _ _ h => h) (Or.inl ⟨by rfl, ?_⟩) (by assumption) ?_
      rotate_left
      · intro w hSw; (try dsimp only at hSw); first | (go_simp; done) | (go_simp; with_reducible rfl)
      try simp only [Act.put, List.setIfInBounds_toArray, List.set_cons_zero, List.set_cons_succ]
      refine take1 (i := 3) (v := ?_) (some 28) rfl rfl (by kernel_rfl) (by kernel_rfl) (by kernel_rfl) (fun _ _ _ h => h) (Or.inl ⟨by rfl, ?_⟩) (by assumption) ?_
      rotate_left
      · intro w hSw; (try dsimp only at hSw); first | (go_simp; done) | (go_simp; with_reducible rfl)
      try simp only [Act.put, List.setIfInBounds_toArray, List.set_cons_zero, List.set_cons_succ]
      refine take1 (i := 4) (v := ?_) (some 29) rfl rfl (by kernel_rfl) (by kernel_rfl) (by kernel_rfl) (fun _ _ _ h => h) (Or.inl ⟨by rfl, ?_⟩) (by assumption) ?_
      rotate_left
      · intro w hSw; (try dsimp only at hSw); first | (go_simp; done) | (go_simp; with_reducible rfl)
      try simp only [Act.put, List.setIfInBounds_toArray, List.set_cons_zero, List.set_cons_succ]
      refine wpAnyH_ready (rs := [5]) (by kernel_rfl) (by simp) ?_
      refine AllReadyH.cons rfl (fun K hK => ?_) AllReadyH.nil
      go_simp
      with_reducible refine (Hvarc.out _).mono ?_
      rintro e w1 ⟨rfl, rfl⟩
      refine hK.out _ _ ?_ (fun hHeld2 => ?_)
      · (try dsimp only); exact f3
      clear hK K hHeld
      try simp only [Act.put, List.setIfInBounds_toArray, List.set_cons_zero, List.set_cons_succ]
      have hHeld := hHeld2; clear hHeld2
      refine take1 (i := 6) (v := ?_) (some 31) rfl rfl (by kernel_rfl) (by kernel_rfl) (by kernel_rfl) (fun _ _ _ h => h) (Or.inl ⟨by rfl, ?_⟩) (by assumption) ?_
      rotate_left
      · intro w hSw; (try dsimp only at hSw); first | (go_simp; done) | (go_simp; with_reducible rfl)
      try simp only [Act.put, List.setIfInBounds_toArray, List.set_cons_zero, List.set_cons_succ]
      refine wpAnyH_ready (rs := [7]) (by kernel_rfl) (by simp) ?_
      refine AllReadyH.cons rfl (fun K hK => ?_) AllReadyH.nil
      go_simp
      refine hK.out _ _ ?_ (fun hHeld2 => ?_)
      · (try dsimp only); exact hst3
      clear hK K hHeld
      try simp only [Act.put, List.setIfInBounds_toArray, List.set_cons_zero, List.set_cons_succ]
      have hHeld := hHeld2; clear hHeld2
      refine wpAnyH_done (by kernel_rfl) ?_ _
      go_wp2_with fail
      clear hHeld hcv hvf hst3 hst3' hcell f0 f1 f2 f3 f4 f5 f6 f7
      go_roundw
      case rel => exact ⟨k + 1, by omega, by go_num, (Hb.out.setCell hge _).drew, by rw [Hun.out]; exact Hset.out.keep (Below.refl _ _).drew⟩
      case measure => simp [intOf]; omega
    · obtain rfl : k = t.length - s := by omega
      have hall : (t.drop s).take (t.length - s) = t.drop s := List.take_of_length_le (by rw [List.length_drop]; omega)
      rw [hall] at hsv
      have Hsv2 := hide hsv
      clear hsv hall Hsv
      go_wp2_with fail
      obtain ⟨hcc, hbb⟩ := Hsv2.out.cut (s := s) (b := b) (by omega) (by omega)
      simp only at hcc hbb
      have Hcc := hide hcc
      have Hbb := hide (Hb.out.trans hbb)
      have hfr6 := Hsv2.out.blk.frozen 6
      have hfr7 := Hsv2.out.blk.frozen 7
      have hgl := Hsv2.out.blk.lt
      clear hcc hbb
      refine wp_region_held_drew (S := (fun _ => True)) (by kernel_rfl) ?_ (fun hHeld => ?_)
      · exact True.intro
      refine take1 (i := 0) (v := ?_) (some 33) rfl rfl (by kernel_rfl) (by kernel_rfl) (by kernel_rfl) (fun _ _ _ h => h) (Or.inl ⟨by rfl, ?_⟩) (by assumption) ?_
      rotate_left
      · intro w hSw; (try dsimp only at hSw); first | (go_simp; done) | (go_simp; with_reducible rfl)
      try simp only [Act.put, List.setIfInBounds_toArray, List.set_cons_zero, List.set_cons_succ]
      refine take1 (i := 1) (v := ?_) (some 34) rfl rfl (by kernel_rfl) (by kernel_rfl) (by kernel_rfl) (fun _ _ _ h => h) (Or.inl ⟨by rfl, ?_⟩) (by assumption) ?_
      rotate_left
      · intro w hSw; (try dsimp only at hSw); first | (go_simp; done) | (go_simp; with_reducible rfl)
      try simp only [Act.put, List.setIfInBounds_toArray, List.set_cons_zero, List.set_cons_succ]
      refine take1 (i := 2) (v := ?_) (some 35) rfl rfl (by kernel_rfl) (by kernel_rfl) (by kernel_rfl) (fun _ _ _ h => h) (Or.inl ⟨by rfl, ?_⟩) (by assumption) ?_
      rotate_left
      · intro w hSw; (try dsimp only at hSw); first | (go_simp; done) | (go_simp; with_reducible rfl)
      try simp only [Act.put, List.setIfInBounds_toArray, List.set_cons_zero, List.set_cons_succ]
      refine take1 (i := 3) (v := ?_) (some 36) rfl rfl (by kernel_rfl) (by kernel_rfl) (by kernel_rfl) (fun _ _ _ h => h) (Or.inl ⟨by rfl, ?_⟩) (by assumption) ?_
      rotate_left
      · intro w hSw; (try dsimp only at hSw); first | (go_simp; done) | (go_simp; with_reducible rfl)
      try simp only [Act.put, List.setIfInBounds_toArray, List.set_cons_zero, List.set_cons_succ]
      refine take1 (i := 4) (v := ?_) (some 37) rfl rfl (by kernel_rfl) (by kernel_rfl) (by kernel_rfl) (fun _ _ _ h => h) (Or.inl ⟨by rfl, ?_⟩) (by assumption) ?_
      rotate_left
      · intro w hSw; (try dsimp only at hSw); first | (go_simp; done) | (go_simp; with_reducible rfl)
      try simp only [Act.put, List.setIfInBounds_toArray, List.set_cons_zero, List.set_cons_succ]
      refine take1 (i := 6) (v := ?_) (some 39) rfl rfl (by kernel_rfl) (by kernel_rfl) (by kernel_rfl) (fun _ _ _ h => h) (Or.inl ⟨by rfl, ?_⟩) (by assumption) ?_
      rotate_left
      · intro w hSw; (try dsimp only at hSw); first | (go_simp; done) | (go_simp; with_reducible rfl)
      try simp only [Act.put, List.setIfInBounds_toArray, List.set_cons_zero, List.set_cons_succ]
      refine take1 (i := 8) (v := ?_) (some 41) rfl rfl (by kernel_rfl) (by kernel_rfl) (by kernel_rfl) (fun _ _ _ h => h) (Or.inl ⟨by rfl, ?_⟩) (by assumption) ?_
      rotate_left
      · intro w hSw; (try dsimp only at hSw); first | (go_simp; done) | (go_simp; with_reducible rfl)
      try simp only [Act.put, List.setIfInBounds_toArray, List.set_cons_zero, List.set_cons_succ]
      refine take1 (i := 9) (v := ?_) (some 42) rfl rfl (by kernel_rfl) (by kernel_rfl) (by kernel_rfl) (fun _ _ _ h => h) (Or.inl ⟨by rfl, ?_⟩) (by assumption) ?_
      rotate_left
      · intro w hSw; (try dsimp only at hSw); first | (go_simp; done) | (go_simp; with_reducible rfl)
      try simp only [Act.put, List.setIfInBounds_toArray, List.set_cons_zero, List.set_cons_succ]
      refine take1 (i := 10) (v := ?_) (some 43) rfl rfl (by kernel_rfl) (by kernel_rfl) (by kernel_rfl) (fun _ _ _ h => h) (Or.inl ⟨by rfl, ?_⟩) (by assumption) ?_
      rotate_left
      · intro w hSw; (try dsimp only at hSw); first | (go_simp; done) | (go_simp; with_reducible rfl)
      try simp only [Act.put, List.setIfInBounds_toArray, List.set_cons_zero, List.set_cons_succ]
      refine take1 (i := 12) (v := ?_) (some 45) rfl rfl (by kernel_rfl) (by kernel_rfl) (by kernel_rfl) (fun _ _ _ h => h) (Or.inl ⟨by rfl, ?_⟩) (by assumption) ?_
      rotate_left
      · intro w hSw; (try dsimp only at hSw); first | (go_simp; done) | (go_simp; with_reducible rfl)
      try simp only [Act.put, List.setIfInBounds_toArray, List.set_cons_zero, List.set_cons_succ]
      refine wpAnyH_ready (rs := [5, 11]) (by kernel_rfl) (by simp) ?_
      refine AllReadyH.cons rfl (fun K hK => ?_) (AllReadyH.cons rfl (fun K hK => ?_) AllReadyH.nil)
      · go_simp
        refine hK.out _ _ ?_ (fun hHeld2 => ?_)
        · exact True.intro
        clear hK K hHeld
        try simp only [Act.put, List.setIfInBounds_toArray, List.set_cons_zero, List.set_cons_succ]
        have hHeld := hHeld2; clear hHeld2
        refine take1 (i := 7) (v := ?_) (some 40) rfl rfl (by kernel_rfl) (by kernel_rfl) (by kernel_rfl) (fun _ _ _ h => h) (Or.inl ⟨by rfl, ?_⟩) (by assumption) ?_
        rotate_left
        · intro w hSw; (try dsimp only at hSw); first | (go_simp; done) | (go_simp; with_reducible rfl)
        try simp only [Act.put, List.setIfInBounds_toArray, List.set_cons_zero, List.set_cons_succ]
        refine wpAnyH_ready (rs := [11]) (by kernel_rfl) (by simp) ?_
        refine AllReadyH.cons rfl (fun K hK => ?_) AllReadyH.nil
        go_simp
        refine hK.out _ _ ?_ (fun hHeld2 => ?_)
        · exact True.intro
        clear hK K hHeld
        try simp only [Act.put, List.setIfInBounds_toArray, List.set_cons_zero, List.set_cons_succ]
        have hHeld := hHeld2; clear hHeld2
        refine take1 (i := 13) (v := ?_) (some 46) rfl rfl (by kernel_rfl) (by kernel_rfl) (by kernel_rfl) (fun _ _ _ h => h) (Or.inl ⟨by rfl, ?_⟩) (by assumption) ?_
        rotate_left
        · intro w hSw; (try dsimp only at hSw); first | (go_simp; done) | (go_simp; with_reducible rfl)
        try simp only [Act.put, List.setIfInBounds_toArray, List.set_cons_zero, List.set_cons_succ]
        refine take1 (i := 14) (v := ?_) (some 47) rfl rfl (by kernel_rfl) (by kernel_rfl) (by kernel_rfl) (fun _ _ _ h => h) (Or.inl ⟨by rfl, ?_⟩) (by assumption) ?_
        rotate_left
        · intro w hSw; (try dsimp only at hSw); first | (go_simp; done) | (go_simp; with_reducible rfl)
        try simp only [Act.put, List.setIfInBounds_toArray, List.set_cons_zero, List.set_cons_succ]
        refine take1 (i := 15) (v := ?_) (some 48) rfl rfl (by kernel_rfl) (by kernel_rfl) (by kernel_rfl) (fun _ _ _ h => h) (Or.inl ⟨by rfl, ?_⟩) (by assumption) ?_
        rotate_left
        · intro w hSw; (try dsimp only at hSw); first | (go_simp; done) | (go_simp; with_reducible rfl)
        try simp only [Act.put, List.setIfInBounds_toArray, List.set_cons_zero, List.set_cons_succ]
        refine wpAnyH_ready (rs := [16]) (by kernel_rfl) (by simp) ?_
        refine AllReadyH.cons rfl (fun K hK => ?_) AllReadyH.nil
        go_simp
        refine hK.out _ _ ?_ (fun hHeld2 => ?_)
        · exact True.intro
        clear hK K hHeld
        try simp only [Act.put, List.setIfInBounds_toArray, List.set_cons_zero, List.set_cons_succ]
        have hHeld := hHeld2; clear hHeld2
        refine take1 (i := 17) (v := ?_) (some 49) rfl rfl (by kernel_rfl) (by kernel_rfl) (by kernel_rfl) (fun _ _ _ h => h) (Or.inl ⟨by rfl, ?_⟩) (by assumption) ?_
        rotate_left
        · intro w hSw; (try dsimp only at hSw); first | (go_simp; done) | (go_simp; with_reducible rfl)
        try simp only [Act.put, List.setIfInBounds_toArray, List.set_cons_zero, List.set_cons_succ]
        refine take1 (i := 18) (v := ?_) (some 50) rfl rfl (by kernel_rfl) (by kernel_rfl) (by kernel_rfl) (fun _ _ _ h => h) (Or.inl ⟨by rfl, ?_⟩) (by assumption) ?_
        rotate_left
        · intro w hSw; (try dsimp only at hSw); first | (go_simp; done) | (go_simp; with_reducible rfl)
        try simp only [Act.put, List.setIfInBounds_toArray, List.set_cons_zero, List.set_cons_succ]
        refine wpAnyH_ready (rs := [19]) (by kernel_rfl) (by simp) ?_
        refine AllReadyH.cons rfl (fun K hK => ?_) AllReadyH.nil
        go_simp
        refine hK.out _ _ ?_ (fun hHeld2 => ?_)
        · exact True.intro
        clear hK K hHeld
        try simp only [Act.put, List.setIfInBounds_toArray, List.set_cons_zero, List.set_cons_succ]
        have hHeld := hHeld2; clear hHeld2
        refine wpAnyH_done (by kernel_rfl) ?_ _
        go_wp2
        go_end0
        exact ⟨rfl, Hbb.out.drew, Hcc.out.keep (Below.refl _ _).drew⟩
      · go_simp
        refine hK.out _ _ ?_ (fun hHeld2 => ?_)
        · exact True.intro
        clear hK K hHeld
        try simp only [Act.put, List.setIfInBounds_toArray, List.set_cons_zero, List.set_cons_succ]
        have hHeld := hHeld2; clear hHeld2
        refine take1 (i := 13) (v := ?_) (some 46) rfl rfl (by kernel_rfl) (by kernel_rfl) (by kernel_rfl) (fun _ _ _ h => h) (Or.inl ⟨by rfl, ?_⟩) (by assumption) ?_
        rotate_left
        · intro w hSw; (try dsimp only at hSw); first | (go_simp; done) | (go_simp; with_reducible rfl)
        try simp only [Act.put, List.setIfInBounds_toArray, List.set_cons_zero, List.set_cons_succ]
        refine wpAnyH_ready (rs := [5]) (by kernel_rfl) (by simp) ?_
        refine AllReadyH.cons rfl (fun K hK => ?_) AllReadyH.nil
        go_simp
        refine hK.out _ _ ?_ (fun hHeld2 => ?_)
        · exact True.intro
        clear hK K hHeld
        try simp only [Act.put, List.setIfInBounds_toArray, List.set_cons_zero, List.set_cons_succ]
        have hHeld := hHeld2; clear hHeld2
        refine take1 (i := 7) (v := ?_) (some 40) rfl rfl (by kernel_rfl) (by kernel_rfl) (by kernel_rfl) (fun _ _ _ h => h) (Or.inl ⟨by rfl, ?_⟩) (by assumption) ?_
        rotate_left
        · intro w hSw; (try dsimp only at hSw); first | (go_simp; done) | (go_simp; with_reducible rfl)
        try simp only [Act.put, List.setIfInBounds_toArray, List.set_cons_zero, List.set_cons_succ]
        refine take1 (i := 14) (v := ?_) (some 47) rfl rfl (by kernel_rfl) (by kernel_rfl) (by kernel_rfl) (fun _ _ _ h => h) (Or.inl ⟨by rfl, ?_⟩) (by assumption) ?_
        rotate_left
        · intro w hSw; (try dsimp only at hSw); first | (go_simp; done) | (go_simp; with_reducible rfl)
        try simp only [Act.put, List.setIfInBounds_toArray, List.set_cons_zero, List.set_cons_succ]
        refine take1 (i := 15) (v := ?_) (some 48) rfl rfl (by kernel_rfl) (by kernel_rfl) (by kernel_rfl) (fun _ _ _ h => h) (Or.inl ⟨by rfl, ?_⟩) (by assumption) ?_
        rotate_left
        · intro w hSw; (try dsimp only at hSw); first | (go_simp; done) | (go_simp; with_reducible rfl)
        try simp only [Act.put, List.setIfInBounds_toArray, List.set_cons_zero, List.set_cons_succ]
        refine wpAnyH_ready (rs := [16]) (by kernel_rfl) (by simp) ?_
        refine AllReadyH.cons rfl (fun K hK => ?_) AllReadyH.nil
        go_simp
        refine hK.out _ _ ?_ (fun hHeld2 => ?_)
        · exact True.intro
        clear hK K hHeld
        try simp only [Act.put, List.setIfInBounds_toArray, List.set_cons_zero, List.set_cons_succ]
        have hHeld := hHeld2; clear hHeld2
        refine take1 (i := 17) (v := ?_) (some 49) rfl rfl (by kernel_rfl) (by kernel_rfl) (by kernel_rfl) (fun _ _ _ h => h) (Or.inl ⟨by rfl, ?_⟩) (by assumption) ?_
        rotate_left
        · intro w hSw; (try dsimp only at hSw); first | (go_simp; done) | (go_simp; with_reducible rfl)
        try simp only [Act.put, List.setIfInBounds_toArray, List.set_cons_zero, List.set_cons_succ]
        refine take1 (i := 18) (v := ?_) (some 50) rfl rfl (by kernel_rfl) (by kernel_rfl) (by kernel_rfl) (fun _ _ _ h => h) (Or.inl ⟨by rfl, ?_⟩) (by assumption) ?_
        rotate_left
        · intro w hSw; (try dsimp only at hSw); first | (go_simp; done) | (go_simp; with_reducible rfl)
        try simp only [Act.put, List.setIfInBounds_toArray, List.set_cons_zero, List.set_cons_succ]
        refine wpAnyH_ready (rs := [19]) (by kernel_rfl) (by simp) ?_
        refine AllReadyH.cons rfl (fun K hK => ?_) AllReadyH.nil
        go_simp
        refine hK.out _ _ ?_ (fun hHeld2 => ?_)
        · exact True.intro
        clear hK K hHeld
        try simp only [Act.put, List.setIfInBounds_toArray, List.set_cons_zero, List.set_cons_succ]
        have hHeld := hHeld2; clear hHeld2
        refine wpAnyH_done (by kernel_rfl) ?_ _
        go_wp2
        go_end0
        exact ⟨rfl, Hbb.out.drew, Hcc.out.keep (Below.refl _ _).drew⟩
end Go.Proofs.YtemiecammmbjdaaGreat
namespace Go.Proofs.YtemiecammmbjdaaGreat
set_option linter.unusedVariables false
set_option linter.unusedSimpArgs false
open Go.RowKit
theorem Blk.ne {t t' : TypeId} {w : World} {g g' : Nat} {cs cs' : List Value} (h : Blk t w g cs) (h' : Blk t' w g' cs') (ht : t ≠ t') : g ≠ g' := fun e => by
  subst e
  unfold Blk at h h'
  rw [h] at h'
  injection h' with h'
  injection h' with _ h' _
  exact ht h'
theorem own_ne {w : World} {B : Nat} {e t : TypeId} {size n : Nat} {v : Value} {xs : List Value} {g : Nat} {cs : List Value} (ho : w.ownsRow B e size v n xs) (hb : Blk t w g cs) (ht : e ≠ t) : v.ownBlock ≠ some g := fun h => by
  obtain ⟨_, cs', m, hc⟩ := own_block ho h
  unfold Blk at hb
  rw [hb] at hc
  injection hc with hc
  injection hc with _ hc _
  exact ht hc.symm
def Sb (l : List Bool) : Nat → Bool := fun v => l.getD v false
theorem Sb_set {l : List Bool} {q : Nat} (h : q < l.length) : Sb (l.set q true) = setBl (Sb l) q := by
  funext v
  show (l.set q true).getD v false = if v = q then true else l.getD v false
  rw [List.getD_eq_getElem?_getD, List.getD_eq_getElem?_getD, List.getElem?_set]
  by_cases e : q = v
  · rw [if_pos e, if_pos e.symm, if_pos (by omega)]
    rfl
  · rw [if_neg e, if_neg (fun h => e h.symm)]
theorem Sb_get {l : List Bool} {q : Nat} (h : q < l.length) : l[q]? = some (Sb l q) := by
  unfold Sb
  rw [List.getD_eq_getElem?_getD, List.getElem?_eq_getElem h]
  rfl

/-- the boxes that the closure holds -/
structure MkS (w2 w : World) (g V bS bR bP bO bL : Nat) (seen : List Bool) (out : List Int) (left : Nat) (O : Option Addr) (oc : Nat) : Prop where
  below : Below w2.heap.size w2 w
  ge : w2.heap.size ≤ bS ∧ w2.heap.size ≤ bR ∧ w2.heap.size ≤ bP ∧ w2.heap.size ≤ bO ∧ w2.heap.size ≤ bL
  sb : Blk 51 w bS [.slice (some ⟨bR, 0, none⟩) (V + 1) (V + 1)]
  sr : Blk 4 w bR (seen.map Value.bool)
  sl : seen.length = V + 1
  pb : Blk 88 w bP [.pointer (some ⟨g, 0, none⟩)]
  ob : Blk 22 w bO [.slice O out.length oc]
  orow : w.ownsRow w2.heap.size 3 1 (.slice O out.length oc) out.length (out.map (Value.int .i64))
  lb : Blk 3 w bL [.int .i64 (left : Int)]
  ap : blkO O ≠ some bL
section
variable {w2 w w' : World} {g V bS bR bP bO bL : Nat} {seen : List Bool} {out : List Int} {left : Nat} {O : Option Addr} {oc : Nat}
theorem MkS.keep (h : MkS w2 w g V bS bR bP bO bL seen out left O oc) (hb : Below w.heap.size w w') : MkS w2 w' g V bS bR bP bO bL seen out left O oc :=
  ⟨h.below.trans (hb.mono h.below.size), h.ge, h.sb.keep hb, h.sr.keep hb, h.sl, h.pb.keep hb, h.ob.keep hb, own_keep h.orow hb, h.lb.keep hb, h.ap⟩
theorem MkS.facts (h : MkS w2 w g V bS bR bP bO bL seen out left O oc) : w.cell? ⟨bS, 0, none⟩ = some (.slice (some ⟨bR, 0, none⟩) (V + 1) (V + 1)) ∧ w.cell? ⟨bP, 0, none⟩ = some (.pointer (some ⟨g, 0, none⟩)) ∧
    w.cell? ⟨bO, 0, none⟩ = some (.slice O out.length oc) ∧ w.cell? ⟨bL, 0, none⟩ = some (.int .i64 (left : Int)) ∧ bS < w.heap.size ∧ bR < w.heap.size ∧ bP < w.heap.size ∧ bO < w.heap.size ∧ bL < w.heap.size ∧
    w.frozen? ⟨bO, 0, none⟩ = false ∧ w.frozen? ⟨bL, 0, none⟩ = false :=
  ⟨h.sb.cell 0, h.pb.cell 0, h.ob.cell 0, h.lb.cell 0, h.sb.lt, h.sr.lt, h.pb.lt, h.ob.lt, h.lb.lt, h.ob.frozen 0, h.lb.frozen 0⟩
theorem MkS.setSeen (h : MkS w2 w g V bS bR bP bO bL seen out left O oc) (q : Nat) : MkS w2 (w.setCell ⟨bR, q, none⟩ (.bool true)) g V bS bR bP bO bL (seen.set q true) out left O oc := by
  have hb := only_set w bR q (.bool true)
  have hs := h.sr.set q (.bool true)
  rw [← List.map_set] at hs
  exact ⟨h.below.setCell h.ge.2.1 _, h.ge, h.sb.grown hb (fun e => h.sb.ne h.sr (by decide) (by injection e)), hs, by rw [List.length_set, h.sl], h.pb.grown hb (fun e => h.pb.ne h.sr (by decide) (by injection e)),
    h.ob.grown hb (fun e => h.ob.ne h.sr (by decide) (by injection e)), own_other h.orow hb (fun r hr e => own_ne h.orow h.sr (by decide) (by rw [hr, e])), h.lb.grown hb (fun e => h.lb.ne h.sr (by decide) (by injection e)), h.ap⟩
theorem MkS.setLeft (h : MkS w2 w g V bS bR bP bO bL seen out left O oc) (l : Nat) : MkS w2 (w.setCell ⟨bL, 0, none⟩ (.int .i64 (l : Int))) g V bS bR bP bO bL seen out l O oc := by
  have hb := only_set w bL 0 (.int .i64 (l : Int))
  have hs := h.lb.set 0 (.int .i64 (l : Int))
  exact ⟨h.below.setCell h.ge.2.2.2.2 _, h.ge, h.sb.grown hb (fun e => h.sb.ne h.lb (by decide) (by injection e)), h.sr.grown hb (fun e => h.sr.ne h.lb (by decide) (by injection e)), h.sl, h.pb.grown hb (fun e => h.pb.ne h.lb (by decide) (by injection e)),
    h.ob.grown hb (fun e => h.ob.ne h.lb (by decide) (by injection e)), own_other h.orow hb (fun r hr e => h.ap (by rw [← own_blkO O out.length oc, hr, e])), hs, h.ap⟩
theorem MkS.push (h : MkS w2 w g V bS bR bP bO bL seen out left O oc) {x : Int} {O' : Option Addr} {oc' : Nat} {o : Obj}
    (ho : w'.ownsRow w2.heap.size 3 1 (.slice O' (out.length + 1) oc') (out.length + 1) (out.map (Value.int .i64) ++ [.int .i64 x])) (hg : (w.alloc o).grownBy w' (Value.slice O out.length oc).ownBlock)
    (hat : (Value.slice O' (out.length + 1) oc').ownBlock = (Value.slice O out.length oc).ownBlock ∨ (Value.slice O' (out.length + 1) oc').ownBlock = some (w.heap.size + 1)) :
    Blk 22 w' bO [.slice O out.length oc] ∧ MkS w2 (w'.setCell ⟨bO, 0, none⟩ (.slice O' (out.length + 1) oc')) g V bS bR bP bO bL seen (out ++ [x]) left O' oc' := by
  have hb0 : Below w.heap.size w (w.alloc o) := (Below.refl _ _).alloc (Nat.le_refl _) _
  have h1 := h.keep hb0
  have hs := only_set w' bO 0 (.slice O' (out.length + 1) oc')
  have n1 : ∀ {t : TypeId} {b : Nat} {cs : List Value}, Blk t (w.alloc o) b cs → 3 ≠ t → some b ≠ (Value.slice O out.length oc).ownBlock := fun hbk ht e => own_ne h1.orow hbk ht e.symm
  have nL : some bL ≠ (Value.slice O out.length oc).ownBlock := fun e => h.ap (by rw [← own_blkO O out.length oc, ← e])
  have b1 : Below w2.heap.size w2 w' := h1.below.grown hg (by have := h1.below.size; exact this) (fun k hk => own_base h1.orow hk)
  have ob' := h1.ob.grown hg (n1 h1.ob (by decide))
  have sb' := h1.sb.grown hg (n1 h1.sb (by decide))
  have sr' := h1.sr.grown hg (n1 h1.sr (by decide))
  have pb' := h1.pb.grown hg (n1 h1.pb (by decide))
  have lb' := h1.lb.grown hg nL
  refine ⟨ob', b1.setCell h.ge.2.2.2.1 _, h.ge, sb'.grown hs (fun e => sb'.ne ob' (by decide) (by injection e)), sr'.grown hs (fun e => sr'.ne ob' (by decide) (by injection e)), h.sl, pb'.grown hs (fun e => pb'.ne ob' (by decide) (by injection e)), ?_, ?_, lb'.grown hs (fun e => lb'.ne ob' (by decide) (by injection e)), ?_⟩
  · have := ob'.set 0 (.slice O' (out.length + 1) oc')
    simpa using this
  · have := own_other ho hs (fun r hr e => own_ne ho ob' (by decide) (by rw [hr, e]))
    simpa using this
  · rw [own_blkO, own_blkO] at hat
    rcases hat with hat | hat
    · rw [hat]
      exact h.ap
    · rw [hat]
      intro e
      injection e with e
      have := h.lb.lt
      omega
end
end Go.Proofs.YtemiecammmbjdaaGreat
namespace Go.Proofs.YtemiecammmbjdaaGreat
set_option linter.unusedVariables false
set_option linter.unusedSimpArgs false
open Go.RowKit
def MarkP (w2 : World) (g V bS bR bP bO bL : Nat) (lev : Nat → Int) (cur : Nat) (C : List Int) (seen : List Bool) (out : List Int) (left : Nat) (e : Ending) (w' : World) : Prop :=
  Ends e ∧ ∃ (seen' : List Bool) (out' : List Int) (left' : Nat) (O : Option Addr) (oc : Nat), markF lev cur C (Sb seen, out, left) = (Sb seen', out', left') ∧ MkS w2 w' g V bS bR bP bO bL seen' out' left' O oc
theorem markF_skip {lev : Nat → Int} {cur : Nat} {x : Int} {xs : List Int} {seen : Nat → Bool} {out : List Int} {left q : Nat} (hq : (litVar x).toNat = q) (h : seen q = true ∨ lev q = 0) : markF lev cur (x :: xs) (seen, out, left) = markF lev cur xs (seen, out, left) := by
  subst hq
  rw [markF, if_pos h]
theorem markF_low {lev : Nat → Int} {cur : Nat} {x : Int} {xs : List Int} {seen : List Bool} {out : List Int} {left q : Nat} (hq : (litVar x).toNat = q) (hl : q < seen.length) (h : Sb seen q = false) (h0 : lev q ≠ 0) (h1 : lev q < cur) : markF lev cur (x :: xs) (Sb seen, out, left) = markF lev cur xs (Sb (seen.set q true), out ++ [x], left) := by
  subst hq
  rw [markF, if_neg (by simp [h, h0]), if_pos h1, Sb_set hl]
  rfl
theorem markF_cur {lev : Nat → Int} {cur : Nat} {x : Int} {xs : List Int} {seen : List Bool} {out : List Int} {left q : Nat} (hq : (litVar x).toNat = q) (hl : q < seen.length) (h : Sb seen q = false) (h0 : lev q ≠ 0) (h1 : ¬ lev q < cur) : markF lev cur (x :: xs) (Sb seen, out, left) = markF lev cur xs (Sb (seen.set q true), out, left + 1) := by
  subst hq
  rw [markF, if_neg (by simp [h, h0]), if_neg h1, Sb_set hl]
  rfl
set_option maxRecDepth 100000 in
set_option maxHeartbeats 3200000 in
theorem mark_ct {B : Nat} {w2 w : World} {g : Nat} {a : SA} {V : Nat} {cs ln : List (List Int)} {vals lev rea t : List Int} {starts : List Nat} {A : Option Addr} {n c : Nat} {C : List Int} {bS bR bP bO bL : Nat} {seen : List Bool} {out : List Int} {left : Nat} {O : Option Addr} {oc : Nat}
    (h : Sv B w2 g a V cs ln vals lev rea t starts) (hr : Rd Enc.int w2 A n c C) (hf : ∀ x ∈ C, Fits V x) (hV : V ≤ 1000) (hm : MkS w2 w g V bS bR bP bO bL seen out left O oc) (hl : left + n ≤ 1000000) (ho : out.length + n ≤ 1000000) :
    Calls Tryz.prog 108 #[.slice A n c, .pointer (some ⟨bS, 0, none⟩), .pointer (some ⟨bP, 0, none⟩), .pointer (some ⟨bO, 0, none⟩), .pointer (some ⟨bL, 0, none⟩)] w (MarkP w2 g V bS bR bP bO bL (Lf lev) starts.length C seen out left) := by
  have hsm := hr.low
  have Hl := hide hr.len
  have hsl : starts.length ≤ 9223372036854775807 := by have := own_nil_or h.sts; omega
  obtain ⟨gv, gl, gr, L, lc, D, dc, T, tc, S, sc⟩ := a
  have Hr := hide hr
  have H := hide h
  have Hf := hide hf
  have Hm := hide hm
  clear hr h hf hm
  go_enter Tryz.func108, Tryz.ntmps108
  go_wp2_with fail
  go_loopw [11] (fun i wr => ∃ (k : Nat) (seen' : List Bool) (out' : List Int) (left' : Nat) (O : Option Addr) (oc : Nat), k ≤ n ∧ i = .int .i64 k ∧ MkS w2 wr g V bS bR bP bO bL seen' out' left' O oc ∧ left' ≤ left + k ∧ out'.length ≤ out.length + k ∧ markF (Lf lev) starts.length C (Sb seen, out, left) = markF (Lf lev) starts.length (C.drop k) (Sb seen', out', left')) (fun i _ => n - (intOf i).toNat)
  case atStart => exact ⟨0, seen, out, left, O, oc, by omega, rfl, Hm.out, by omega, by omega, by simp⟩
  case round =>
    clear Hm
    obtain ⟨k, seen, out, left, O, oc, hk, rfl, hm, hkl, hko, hrel⟩ := hrel
    have hsv := H.out.keep hm.below
    obtain ⟨f0, f1, f2, f3, f4, f5, f6, f7⟩ := hsv.facts
    obtain ⟨m1, m2, m3, m4, m5, m6, m7, m8, m9, m10, m11⟩ := hm.facts
    simp only at f0 f1 f2 f3 f4 f5 f6 f7
    clear f0 f1 f2 f3 f5 f6
    have Hm := hide hm
    by_cases hlt : k < n
    · obtain ⟨b0, off, x, rfl, hx, hxl, hxh, hcx⟩ := (Hr.out.keep hm.below).int hlt
      rw [drop_cons hx] at hrel
      have hfx := Hf.out x (List.mem_of_getElem? hx)
      have hxb := hfx.2
      have hv := hfx.var
      obtain ⟨q, hqv⟩ : ∃ q : Nat, (q : Int) = litVar x := ⟨(litVar x).toNat, by omega⟩
      have hqn : (litVar x).toNat = q := by omega
      have Hqn := hide hqn
      have hqV : q < V + 1 := by omega
      have hvarc := fun W => Variable_ct x W (by omega) (by omega)
      rw [← hqv] at hvarc
      have hcl := hsv.lvl.cell (Lf_get (l := lev) (show q < lev.length by rw [hsv.llen]; exact hqV))
      simp only at hcl
      have hsl2 : q < seen.length := by rw [hm.sl]; exact hqV
      have hcs := hm.sr.cell q
      rw [List.getElem?_map, Sb_get hsl2] at hcs
      simp only [Option.map_some] at hcs
      have hcf := hm.sr.frozen q
      have nOR : bO ≠ bR := hm.ob.ne hm.sr (by decide)
      have nLR : bL ≠ bR := hm.lb.ne hm.sr (by decide)
      have hq0' : (0 : Int) ≤ (q : Int) := by omega
      have hq1' : (q : Int) < (V : Int) + 1 := by omega
      have Hvarc := hide hvarc
      have Hrel := hide hrel
      obtain ⟨b, hb⟩ : ∃ b, b = Sb seen q := ⟨_, rfl⟩
      obtain ⟨u, hu⟩ : ∃ u, u = Lf lev q := ⟨_, rfl⟩
      rw [← hb] at hcs
      rw [← hu] at hcl
      have Hb := hide hb
      have Hu := hide hu
      clear hx hfx hv hqn hqv hvarc hsv hm hrel hb hu
      cases b with
      | true =>
        have Hrel2 := hide (Hrel.out.trans (markF_skip Hqn.out (.inl Hb.out.symm)))
        clear Hrel
        go_wp2_with fail
        with_reducible refine (Hvarc.out _).mono ?_
        rintro e w1 ⟨rfl, rfl⟩
        go_wp2_with fail
        go_roundw
        case rel => exact ⟨k + 1, seen, out, left, O, oc, by omega, by go_num, Hm.out, by omega, by omega, Hrel2.out⟩
        case measure => simp [intOf]; omega
      | false =>
        by_cases h0 : u = 0
        · have Hrel2 := hide (Hrel.out.trans (markF_skip Hqn.out (.inr (by rw [← Hu.out, h0]))))
          clear Hrel
          subst h0
          go_wp2_with fail
          with_reducible refine (Hvarc.out _).mono ?_
          rintro e w1 ⟨rfl, rfl⟩
          go_wp2_with fail
          go_roundw
          case rel => exact ⟨k + 1, seen, out, left, O, oc, by omega, by go_num, Hm.out, by omega, by omega, Hrel2.out⟩
          case measure => simp [intOf]; omega
        · by_cases h1 : u < (starts.length : Int)
          · have Hrel2 := hide (Hrel.out.trans (markF_low Hqn.out hsl2 Hb.out.symm (by rw [← Hu.out]; exact h0) (by rw [← Hu.out]; exact h1)))
            clear Hrel
            go_wp2_with fail
            with_reducible refine (Hvarc.out _).mono ?_
            rintro e w1 ⟨rfl, rfl⟩
            go_wp2_with fail
            go_quiet (fail)
            go_upto_region 9 with (fail)
            have hset := (Hm.out.keep (((Qt.refl wr).drewN nq).below _)).setSeen q
            obtain ⟨W, hW⟩ : ∃ W, W = ((wr.drewN nq).setCell ⟨bR, q, none⟩ (.bool true)) := ⟨_, rfl⟩
            rw [← hW] at hset ⊢
            clear hW f4 f7 m1 m2 m3 m4 m5 m6 m7 m8 m9 m10 m11 hcl hcs hcf Hm
            obtain ⟨m1, m2, m3, m4, m5, m6, m7, m8, m9, m10, m11⟩ := hset.facts
            clear m1 m2 m4
            obtain ⟨i0, hi0, hz0, hz1, hz2⟩ := info_parts Tryz.intInfo
            have hWs := hset.below.size
            have Hset := hide hset
            clear hset
            go_wp2_with
              (at_builtin
               refine wpList_pushA rfl _ _ 22 rfl w2.heap.size 3 i0 (.int .i64 0) 1 8 Tryz.underlying22 hi0 hz0 hz1 hz2 rfl (by decide) _ _ _ rfl Hset.out.orow [.int .i64 x] rfl (by intro u hu; simp at hu; subst hu; rfl) rfl (by omega) (by omega) hWs ?_
               intro O6 oc6 w6 hown6 hg6 hat6
               obtain ⟨hbk6, hp6⟩ := Hset.out.push hown6 hg6 hat6
               have c6 := hbk6.cell 0
               have c6f := hbk6.frozen 0
               have c6l := hbk6.lt
               simp only [List.getElem?_cons_zero] at c6
               have Hp6 := hide hp6
               clear hown6 hg6 hat6 hp6 hbk6)
            go_roundw
            case rel => exact ⟨k + 1, seen.set q true, out ++ [x], left, O6, oc6, by omega, by go_num, by simpa using Hp6.out, by omega, by simp; omega, Hrel2.out⟩
            case measure => simp [intOf]; omega
          · have Hrel2 := hide (Hrel.out.trans (markF_cur Hqn.out hsl2 Hb.out.symm (by rw [← Hu.out]; exact h0) (by rw [← Hu.out]; exact h1)))
            clear Hrel
            go_wp2_with fail
            with_reducible refine (Hvarc.out _).mono ?_
            rintro e w1 ⟨rfl, rfl⟩
            go_wp2_with fail
            go_quiet (fail)
            go_wp2_with fail
            have hset := ((Hm.out.keep (((Qt.refl wr).drewN nq).below _)).setSeen q).setLeft (left + 1)
            have Hset := hide hset
            clear hset
            go_roundw
            case rel => exact ⟨k + 1, seen.set q true, out, left + 1, O, oc, by omega, by go_num, by simpa using Hset.out, by omega, by omega, Hrel2.out⟩
            case measure => simp [intOf]; omega
    · have hfin : markF (Lf lev) starts.length (C.drop k) (Sb seen, out, left) = (Sb seen, out, left) := by rw [List.drop_of_length_le (by rw [Hl.out]; omega)]; rfl
      have Hfin := hide (hrel.trans hfin)
      clear hfin hrel hsv hm
      go_wp2_with fail
      go_end0
      exact ⟨rfl, seen, out, left, O, oc, Hfin.out, Hm.out⟩
end Go.Proofs.YtemiecammmbjdaaGreat
namespace Go.Proofs.YtemiecammmbjdaaGreat
set_option linter.unusedVariables false
set_option linter.unusedSimpArgs false
open Go.RowKit
theorem boolInfo2 : (Tryz.prog.info? 4).map (fun i => (i.zero, i.size, i.bytes)) = some (some (.bool false), 1, 1) := by kernel_rfl
/-- n times false, as make lays them -/
def falsesA (n : Nat) : Array Value := ((List.replicate n false).map Value.bool).toArray
theorem run_make_bools {P : Program} (t e : TypeId) (i : TypeInfo) (ht : P.underlying t = some (.slice e)) (hi : P.info? e = some i) (hz : i.zero = some (.bool false)) (h1 : i.size = 1) (h8 : i.bytes = 1)
    (n : Nat) (hn : n ≤ 1000000000) (w : World) :
    (Instr.makeSlice t (.int .i64 (n : Int)) (.int .i64 (n : Int))).run P w = .ok (.slice (some ⟨w.heap.size, 0, none⟩) n n) (w.alloc (.cells (falsesA n) e)) := by
  have hr := run_make (P := P) w t e i _ ht hi hz .i64 .i64 n n (by omega) (by omega) (by rw [h8]; omega) (by omega)
  simp only [Int.toNat_natCast] at hr
  rw [hr, h1, Nat.mul_one]
  congr 3
  apply Array.ext'
  rw [falsesA, show (Value.bool false).cells = #[Value.bool false] from rfl, toList_madeCells_one]
  simp
theorem Clean.trail {V : Nat} {c : List Int} (h : Clean V c) : Trail V c := ⟨h.1, h.2.imp (fun {a b} hab e => by omega)⟩
theorem Clean.len {V : Nat} {c : List Int} (h : Clean V c) : c.length ≤ V := h.trail.len
section
variable {V : Nat} {cs : List (List Int)} {starts : List Nat} {t : List Int} {lev rea : Nat → Int} {n : Nat} {seen : Nat → Bool} {out : List Int} {left : Nat}
theorem LInv.left_le (h : LInv V cs starts t lev n seen out left) : left ≤ t.length := by
  rw [h.cnt]
  unfold nSeen
  exact Nat.le_trans List.countP_le_length (by rw [List.length_take]; omega)
theorem LInv.out_fits (h : LInv V cs starts t lev n seen out left) (hi : Inv V cs starts t lev rea) : ∀ y ∈ out, Fits V y := fun y hy => by
  have := hi.tr.fits _ (h.low y hy).1
  have h1 := this.1
  have h2 := this.2
  exact ⟨by omega, by omega, by omega⟩
theorem LInv.out_len (h : LInv V cs starts t lev n seen out left) (hi : Inv V cs starts t lev rea) : out.length ≤ V := (Trail.mk (h.out_fits hi) h.apart).len
end
/-- how the sort leaves the row -/
def SortQ (w : World) (base g n oc : Nat) (C : List Int) (e : Ending) (w' : World) : Prop :=
  Ends e ∧ w.grownBy w' (some g) ∧ ∃ C' : List Int, C'.Perm C ∧ C'.Pairwise (fun a b => litVar a ≤ litVar b) ∧ w'.ownsRow base 3 1 (.slice (some ⟨g, 0, none⟩) n oc) n (C'.map (Value.int .i64))
def SortC (V : Nat) : Prop := ∀ (w : World) (base g n oc : Nat) (C : List Int), w.ownsRow base 3 1 (.slice (some ⟨g, 0, none⟩) n oc) n (C.map (Value.int .i64)) → C.length = n → 0 < n → n ≤ V → (∀ x ∈ C, Fits V x) →
  Calls Tryz.prog 109 #[.slice (some ⟨g, 0, none⟩) n oc, .func (.func 110) #[] #[]] w (SortQ w base g n oc C)
def LearnP (w : World) (V : Nat) (cs : List (List Int)) (starts : List Nat) (t : List Int) (lev : Nat → Int) (e : Ending) (w' : World) : Prop :=
  ∃ (g oc : Nat) (C : List Int), e = .returned (.slice (some ⟨g, 0, none⟩) C.length oc) ∧ Below w.heap.size w w' ∧ w'.ownsRow w.heap.size 3 1 (.slice (some ⟨g, 0, none⟩) C.length oc) C.length (C.map (Value.int .i64)) ∧ Learnt V cs starts t lev C ∧ Clean V C
/-- the boxes, just laid -/
theorem mks_start (w : World) (g V : Nat) : MkS w (((((w.alloc (.cells #[.pointer (some ⟨g, 0, none⟩)] 88)).alloc (.cells (falsesA (V + 1)) 4)).alloc (.cells #[.slice (some ⟨w.heap.size + 1, 0, none⟩) (V + 1) (V + 1)] 51)).alloc
    (.cells #[.slice none 0 0] 22)).alloc (.cells #[.int .i64 0] 3)) g V (w.heap.size + 1 + 1) (w.heap.size + 1) w.heap.size (w.heap.size + 1 + 1 + 1) (w.heap.size + 1 + 1 + 1 + 1) (List.replicate (V + 1) false) [] 0 none 0 := by
  have s1 : (w.alloc (.cells #[.pointer (some ⟨g, 0, none⟩)] 88)).heap.size = w.heap.size + 1 := by simp
  have b1 := Blk.new w 88 [.pointer (some ⟨g, 0, none⟩)]
  have g1 : Below w.heap.size w (w.alloc (.cells #[.pointer (some ⟨g, 0, none⟩)] 88)) := (Below.refl _ _).alloc (Nat.le_refl _) _
  generalize (w.alloc (.cells #[.pointer (some ⟨g, 0, none⟩)] 88)) = w1 at s1 b1 g1 ⊢
  have b2 := Blk.new w1 4 ((List.replicate (V + 1) false).map Value.bool)
  have s2 : (w1.alloc (.cells (falsesA (V + 1)) 4)).heap.size = w.heap.size + 1 + 1 := by simp [s1]
  have g2 := g1.alloc (by omega) (.cells (falsesA (V + 1)) 4)
  rw [s1] at b2
  have b1 := b1.alloc (.cells (falsesA (V + 1)) 4)
  change Blk _ (w1.alloc (.cells (falsesA (V + 1)) 4)) _ _ at b2
  generalize (w1.alloc (.cells (falsesA (V + 1)) 4)) = w2 at s2 b1 b2 g2 ⊢
  have b3 := Blk.new w2 51 [.slice (some ⟨w.heap.size + 1, 0, none⟩) (V + 1) (V + 1)]
  have s3 : (w2.alloc (.cells #[.slice (some ⟨w.heap.size + 1, 0, none⟩) (V + 1) (V + 1)] 51)).heap.size = w.heap.size + 1 + 1 + 1 := by simp [s2]
  have g3 := g2.alloc (by omega) (.cells #[.slice (some ⟨w.heap.size + 1, 0, none⟩) (V + 1) (V + 1)] 51)
  rw [s2] at b3
  have b1 := b1.alloc (.cells #[.slice (some ⟨w.heap.size + 1, 0, none⟩) (V + 1) (V + 1)] 51)
  have b2 := b2.alloc (.cells #[.slice (some ⟨w.heap.size + 1, 0, none⟩) (V + 1) (V + 1)] 51)
  generalize (w2.alloc (.cells #[.slice (some ⟨w.heap.size + 1, 0, none⟩) (V + 1) (V + 1)] 51)) = w3 at s3 b1 b2 b3 g3 ⊢
  have b4 := Blk.new w3 22 [.slice none 0 0]
  have s4 : (w3.alloc (.cells #[.slice none 0 0] 22)).heap.size = w.heap.size + 1 + 1 + 1 + 1 := by simp [s3]
  have g4 := g3.alloc (by omega) (.cells #[.slice none 0 0] 22)
  rw [s3] at b4
  have b1 := b1.alloc (.cells #[.slice none 0 0] 22)
  have b2 := b2.alloc (.cells #[.slice none 0 0] 22)
  have b3 := b3.alloc (.cells #[.slice none 0 0] 22)
  generalize (w3.alloc (.cells #[.slice none 0 0] 22)) = w4 at s4 b1 b2 b3 b4 g4 ⊢
  have b5 := Blk.new w4 3 [.int .i64 0]
  rw [s4] at b5
  have g5 := g4.alloc (by omega) (.cells #[.int .i64 0] 3)
  exact ⟨g5, ⟨by omega, by omega, by omega, by omega, by omega⟩, b3.alloc _, b2.alloc _, by simp, b1.alloc _, b4.alloc _, World.ownsRow_nil _ _ _ _, b5, by simp [blkO]⟩
set_option maxRecDepth 100000 in
set_option maxHeartbeats 3200000 in
theorem learn_ct {B : Nat} {w : World} {g : Nat} {a : SA} {V : Nat} {cs ln : List (List Int)} {vals lev rea t : List Int} {starts : List Nat} {i : Nat} {c : List Int} (hsort : SortC V)
    (h : Sv B w g a V cs ln vals lev rea t starts) (hst : St V cs starts t vals lev rea) (hc : cs[i]? = some c) (hneg : ∀ y ∈ c, -y ∈ t) (hs : starts ≠ []) (hV : V ≤ 1000) :
    Calls Tryz.prog 81 #[.pointer (some ⟨g, 0, none⟩), .int .i64 i] w (LearnP w V cs starts t (Lf lev)) := by
  obtain ⟨gv, gl, gr, L, lc, D, dc, T, tc, S, sc⟩ := a
  obtain ⟨f0, f1, f2, f3, f4, f5, f6, f7⟩ := h.facts
  simp only at f0 f1 f2 f3 f4 f5 f6 f7
  have hgl := h.blk.lt
  have hil := (List.getElem?_eq_some_iff.1 hc).1
  obtain ⟨i0, hi0, hz0, hz1, hz2⟩ := info_parts boolInfo2
  have hmk := fun w => run_make_bools (P := Tryz.prog) 51 4 i0 Tryz.underlying51 hi0 hz0 hz1 hz2 (V + 1) (by omega) w
  simp only [Int.natCast_add, Int.natCast_one] at hmk
  have htl := hst.inv.tr.len
  have hcl := (hst.inv.clean c (List.mem_of_getElem? hc)).len
  obtain ⟨xs, hown, hxl, hxs⟩ := h.lst
  obtain ⟨gL, hgL⟩ := own_addr hown (by omega)
  simp only at hgL
  subst hgL
  have hcs63 := own_nil_or hown
  simp only at hcs63
  obtain ⟨A0, n0, c0, hx0, hrx0, _⟩ := hxs i c hc
  have Hxs := hide hxs
  have hn0 := hrx0.len
  have hgLl := (own_block hown (r := gL) (by rw [own_blkO]; rfl)).1
  have hcell0 := hown.cells (g := gL) rfl i (.slice A0 n0 c0) hx0
  rw [add_plain, Nat.zero_add] at hcell0
  have Hown := hide hown
  have H := hide h
  have Hst := hide hst
  have Hneg := hide hneg
  have Hc := hide hc
  have Hs := hide hs
  have Hsort := hide hsort
  have Hrx0 := hide hrx0
  clear h hst hneg hc hs hsort hxs hown hrx0 hx0
  go_enter Tryz.func81, Tryz.ntmps81
  go_upto_region 5 with (fail)
  have hm := mks_start w g V
  obtain ⟨W, hW⟩ : ∃ W, W = (((((w.alloc (.cells #[.pointer (some ⟨g, 0, none⟩)] 88)).alloc (.cells (falsesA (V + 1)) 4)).alloc (.cells #[.slice (some ⟨w.heap.size + 1, 0, none⟩) (V + 1) (V + 1)] 51)).alloc
    (.cells #[.slice none 0 0] 22)).alloc (.cells #[.int .i64 0] 3)) := ⟨_, rfl⟩
  rw [← hW] at hm ⊢
  clear hW hmk f0 f1 f2 f3 f4 f5 f6 f7
  generalize w.heap.size + 1 + 1 + 1 + 1 = bL at hm ⊢
  generalize w.heap.size + 1 + 1 + 1 = bO at hm ⊢
  generalize w.heap.size + 1 + 1 = bS at hm ⊢
  generalize w.heap.size + 1 = bR at hm ⊢
  obtain ⟨bP, hbP⟩ : ∃ bP, bP = w.heap.size := ⟨_, rfl⟩
  rw [← hbP] at hm ⊢
  have hbPge := hm.ge
  clear hbP
  have hsv := H.out.keep hm.below
  obtain ⟨f0, f1, f2, f3, f4, f5, f6, f7⟩ := hsv.facts
  obtain ⟨m1, m2, m3, m4, m5, m6, m7, m8, m9, m10, m11⟩ := hm.facts
  simp only at f0 f1 f2 f3 f4 f5 f6 f7
  have hcell : W.cell? ⟨gL, i, none⟩ = some (.slice A0 n0 c0) := (hm.below.cell (p := ⟨gL, i, none⟩) hgLl).trans hcell0
  have hmark := mark_ct H.out Hrx0.out ((Hst.out.inv.clean c (List.mem_of_getElem? Hc.out)).1) hV hm (by omega) (by simp; omega)
  obtain ⟨seen0, out0, left0, hm0, hl0⟩ := LInv.start Hst.out.inv (List.mem_of_getElem? Hc.out) Hneg.out Hs.out
  have Hm0 := hide hm0
  have Hl0 := hide hl0
  have Hmark := hide hmark
  have i1 : (i : Int) < (cs.length : Int) := by omega
  have i2 : (0 : Int) ≤ (i : Int) := by omega
  clear hmark hm hsv hm0 hl0 hcell0
  go_wp2_with fail
  with_reducible refine (Hmark.out).mono ?_
  rintro e w1 ⟨he, seen1, out1, left1, O1, oc1, hmf, hm1⟩
  unfold Ends at he
  subst he
  have Hm1 := hide hm1
  have hf2 : Sb (List.replicate (V + 1) false) = fun _ => false := by
    funext v
    show (List.replicate (V + 1) false).getD v false = false
    rw [List.getD_eq_getElem?_getD, List.getElem?_replicate]
    split <;> rfl
  rw [hf2, Hm0.out] at hmf
  injection hmf with hs1 hmf
  injection hmf with ho1 hle1
  subst hs1 ho1 hle1
  clear hf2 m1 m2 m3 m4 m5 m6 m7 m8 m9 m10 m11 f0 f1 f2 f3 f4 f5 f6 f7 Hmark Hm0 hcell
  have hsv := H.out.keep hm1.below
  obtain ⟨f0, f1, f2, f3, f4, f5, f6, f7⟩ := hsv.facts
  obtain ⟨m1, m2, m3, m4, m5, m6, m7, m8, m9, m10, m11⟩ := hm1.facts
  simp only at f0 f1 f2 f3 f4 f5 f6 f7
  clear hsv hm1
  have htp : 0 < t.length := Hl0.out.more
  obtain ⟨gT, hgT⟩ := own_addr H.out.trl htp
  simp only at hgT
  subst hgT
  clear m1 m3 m4 m5 m6 m7 m8 m9 m10 m11 f0 f1 f2 f3 f4 f5 f7
  go_wp2_with fail
  clear m2
  go_loopw [9] (fun i9 wr => ∃ (m : Nat) (seen : List Bool) (out : List Int) (left : Nat) (O : Option Addr) (oc : Nat), m < t.length ∧ i9 = .int .i64 m ∧ MkS w wr g V bS bR bP bO bL seen out left O oc ∧ LInv V cs starts t (Lf lev) (m + 1) (Sb seen) out left) (fun i _ => (intOf i).toNat)
  case atStart => exact ⟨t.length - 1, seen1, out0, left0, O1, oc1, by omega, by go_num, Hm1.out, by rw [show t.length - 1 + 1 = t.length from by omega]; exact Hl0.out⟩
  case round =>
    clear Hm1 Hl0 f6
    obtain ⟨m, seen, out, left, O, oc, hmt, rfl, hm, hl⟩ := hrel
    have hsv := H.out.keep hm.below
    obtain ⟨f0, f1, f2, f3, f4, f5, f6, f7⟩ := hsv.facts
    obtain ⟨m1, m2, m3, m4, m5, m6, m7, m8, m9, m10, m11⟩ := hm.facts
    simp only at f0 f1 f2 f3 f4 f5 f6 f7
    have hx : t[m]? = some (t[m]'hmt) := List.getElem?_eq_getElem _
    generalize t[m]'hmt = x at hx
    have hfx := Hst.out.inv.tr.fits x (List.mem_of_getElem? hx)
    have hxb := hfx.2
    have hv := hfx.var
    obtain ⟨q, hqv⟩ : ∃ q : Nat, (q : Int) = litVar x := ⟨(litVar x).toNat, by omega⟩
    have hqn : (litVar x).toNat = q := by omega
    have Hqn := hide hqn
    have hqV : q < V + 1 := by omega
    have hcT := hsv.trl.cells (g := gT) rfl m (.int .i64 x) (by rw [List.getElem?_map, hx]; rfl)
    rw [add_plain, Nat.zero_add] at hcT
    have hvarc := fun W => Variable_ct x W (by omega) (by omega)
    rw [← hqv] at hvarc
    have hsl2 : q < seen.length := by rw [hm.sl]; exact hqV
    have hcs := hm.sr.cell q
    rw [List.getElem?_map, Sb_get hsl2] at hcs
    simp only [Option.map_some] at hcs
    have hq0' : (0 : Int) ≤ (q : Int) := by omega
    have hq1' : (q : Int) < (V : Int) + 1 := by omega
    have j1 : (m : Int) < (t.length : Int) := by omega
    have j0 : (0 : Int) ≤ (m : Int) := by omega
    have Hx := hide hx
    have Hvarc := hide hvarc
    have Hm := hide hm
    have Hl := hide hl
    have Hsv := hide hsv
    obtain ⟨b, hb⟩ : ∃ b, b = Sb seen q := ⟨_, rfl⟩
    rw [← hb] at hcs
    have Hb := hide hb
    clear hx hfx hv hqn hqv hvarc hsv hm hl hb
    cases b with
    | false =>
      have hl2 := Hl.out.skip Hx.out (by rw [Hqn.out]; exact Hb.out.symm)
      have hm0 := hl2.more
      have Hl2 := hide hl2
      clear hl2
      go_wp2_with fail
      with_reducible refine (Hvarc.out _).mono ?_
      rintro e w1 ⟨rfl, rfl⟩
      go_wp2_with fail
      go_roundw
      case rel => exact ⟨m - 1, seen, out, left, O, oc, by omega, by go_num, Hm.out, by rw [show m - 1 + 1 = m from by omega]; exact Hl2.out⟩
      case measure => simp [intOf]; omega
    | true =>
      have hlo := Hl.out.out_len Hst.out.inv
      have hll := Hl.out.left_le
      have hlp := Hl.out.pos
      by_cases h1 : left = 1
      · subst h1
        have hdone := Hl.out.done Hst.out.inv Hx.out (by rw [Hqn.out]; exact Hb.out.symm) Hs.out
        have hfits : ∀ y ∈ out ++ [-x], Fits V y := fun y hy => by
          have := Hst.out.inv.tr.fits _ (hdone.neg y hy)
          have h1 := this.1
          have h2 := this.2
          exact ⟨by omega, by omega, by omega⟩
        have hwB := Hm.out.below.size
        have htrC : Trail V (out ++ [-x]) := ⟨hfits, hdone.apart⟩
        have Hdone := hide hdone
        have Hfits := hide hfits
        have HlenC := hide htrC.len
        clear hdone hfits htrC f0 f1 f2 f3 f4 f5 f7
        obtain ⟨i1, hi1, hy0, hy1, hy2⟩ := info_parts Tryz.intInfo
        go_wp2_with fail
        with_reducible refine (Hvarc.out _).mono ?_
        rintro e w1 ⟨rfl, rfl⟩
        go_wp2_with
          (at_builtin
           refine wpList_pushA rfl _ _ 22 rfl w.heap.size 3 i1 (.int .i64 0) 1 8 Tryz.underlying22 hi1 hy0 hy1 hy2 rfl (by decide) _ _ _ rfl Hm.out.orow [.int .i64 (-x)] rfl (by intro u hu; simp at hu; subst hu; rfl) rfl (by omega) (by omega) hwB ?_
           intro O6 oc6 w6 hown6 hg6 hat6
           obtain ⟨hbk6, hp6⟩ := Hm.out.push hown6 hg6 hat6
           obtain ⟨gO, hgO⟩ := own_addr hown6 (by omega)
           subst hgO
           have c6 := hbk6.cell 0
           have c6f := hbk6.frozen 0
           have c6l := hbk6.lt
           simp only [List.getElem?_cons_zero] at c6
           have hrow := hp6.orow
           have hlc : (out ++ [-x]).length = out.length + 1 := by simp
           rw [hlc] at hrow
           have hso := Hsort.out _ _ gO _ _ _ hrow hlc (by omega) (by have := HlenC.out; omega) Hfits.out
           have Hp6 := hide hp6
           have Hso := hide hso
           clear hown6 hg6 hat6 hp6 hbk6 hso hrow hlc)
        with_reducible refine Hso.out.mono ?_
        rintro e w7 ⟨he, hg7, C', hperm, hsorted, hrow7⟩
        unfold Ends at he
        subst he
        have hob := Hp6.out.ob.grown hg7 (fun e => own_ne Hp6.out.orow Hp6.out.ob (by decide) (by rw [e]; rfl))
        have hcO := hob.cell 0
        simp only [List.getElem?_cons_zero] at hcO
        have hlc : (out ++ [-x]).length = out.length + 1 := by simp
        rw [hlc] at hcO
        have hbel := Hp6.out.below.grown hg7 Hp6.out.below.size (fun k hk => own_base Hp6.out.orow (by rw [← hk]; rfl))
        have Hbel := hide hbel
        have Hperm := hide hperm
        have Hsorted := hide hsorted
        have Hrow7 := hide hrow7
        clear hbel hperm hsorted hrow7 hg7 hob
        go_wp2_with fail
        go_ret
        have hlc' : C'.length = out.length + 1 := by rw [Hperm.out.length_eq, hlc]
        have hL := Hdone.out.perm Hperm.out
        refine ⟨gO, oc6, C', by rw [hlc']; rfl, Hbel.out, by rw [hlc']; exact Hrow7.out, hL, fun y hy => Hfits.out y (Hperm.out.mem_iff.1 hy), ?_⟩
        exact (Hsorted.out.and hL.apart).imp (fun {a b} hab => by omega)
      · obtain ⟨ci, c2, hre, hc2, hxc, hall⟩ := Hl.out.reason Hst.out.inv Hx.out (by rw [Hqn.out]; exact Hb.out.symm) h1
        obtain ⟨seen3, out3, left3, hmf3, hl3⟩ := Hl.out.step Hst.out.inv Hx.out (by rw [Hqn.out]; exact Hb.out.symm) h1 hc2 hxc hall
        have Hmf3 := hide hmf3
        have Hl3 := hide hl3
        clear hmf3 hl3 hxc hall
        rw [Hqn.out] at hre
        obtain ⟨A1, n1, c1, hx1, hrx1, _⟩ := Hxs.out ci c2 hc2
        have hcil := (List.getElem?_eq_some_iff.1 hc2).1
        have hcl2 := Hst.out.inv.clean c2 (List.mem_of_getElem? hc2)
        have hn1 := hrx1.len
        have hcl2l := hcl2.len
        have hcell1 := Hown.out.cells (g := gL) rfl ci (.slice A1 n1 c1) hx1
        rw [add_plain, Nat.zero_add] at hcell1
        have hms := Hm.out.setLeft (left - 1)
        have hmark := fun W => fun hW : MkS w W g V bS bR bP bO bL seen out (left - 1) O oc => mark_ct H.out hrx1 hcl2.1 hV hW (by omega) (by omega)
        have hkeep : ∀ W : World, Below w.heap.size w W → Blk 88 W bP [.pointer (some ⟨g, 0, none⟩)] → W.cell? ⟨bP, 0, none⟩ = some (.pointer (some ⟨g, 0, none⟩)) ∧ W.cell? ⟨g, 1, none⟩ = some (.slice (some ⟨gL, 0, none⟩) cs.length lc) ∧ W.cell? ⟨g, 5, none⟩ = some (.slice (some ⟨gr, 0, none⟩) (V + 1) (V + 1)) ∧ W.cell? ⟨gr, q, none⟩ = some (.int .i64 (ci : Int)) ∧ W.cell? ⟨gL, ci, none⟩ = some (.slice A1 n1 c1) := fun W hW hbk => by
          have hsv := H.out.keep hW
          obtain ⟨f0, f1, f2, f3, f4, f5, f6, f7⟩ := hsv.facts
          refine ⟨hbk.cell 0, f1, f5, ?_, (hW.cell (p := ⟨gL, ci, none⟩) hgLl).trans hcell1⟩
          have := hsv.rsn.cell (Lf_get (l := rea) (show q < rea.length by rw [hsv.rlen]; exact hqV))
          rw [hre] at this
          exact this
        have Hmark := hide hmark
        have Hkeep := hide hkeep
        have Hms := hide hms
        have k1 : (ci : Int) < (cs.length : Int) := by omega
        have k0 : (0 : Int) ≤ (ci : Int) := by omega
        have hh1 : ¬ ((left : Int) = 1) := by omega
        have hle1 : ((left - 1 : Nat) : Int) = (left : Int) - 1 := by omega
        clear hmark hkeep hms hre hc2 hx1 hrx1 hcl2 hcell1 h1
        go_wp2_with fail
        with_reducible refine (Hvarc.out _).mono ?_
        rintro e w1 ⟨rfl, rfl⟩
        go_upto_region 14 with (fail)
        rw [← hle1]
        obtain ⟨W, hW⟩ : ∃ W : World, W = wr.setCell ⟨bL, 0, none⟩ (.int .i64 ((left - 1 : Nat) : Int)) := ⟨_, rfl⟩
        rw [← hW] at Hms ⊢
        have hmk2 := Hmark.out _ (Hms.out.keep (Below.refl _ _).drew)
        clear Hmark
        have Hmark := hide hmk2
        clear hmk2 hW f0 f1 f2 f3 f4 f5 f6 f7 m1 m2 m3 m4 m10 m11 hcs hcT
        have hS0 := Hkeep.out W Hms.out.below Hms.out.pb
        refine wp_region_held_drew (S := (fun w' => w'.cell? ⟨bP, 0, none⟩ = some (.pointer (some ⟨g, 0, none⟩)) ∧ w'.cell? ⟨g, 1, none⟩ = some (.slice (some ⟨gL, 0, none⟩) cs.length lc) ∧ w'.cell? ⟨g, 5, none⟩ = some (.slice (some ⟨gr, 0, none⟩) (V + 1) (V + 1)) ∧ w'.cell? ⟨gr, q, none⟩ = some (.int .i64 (ci : Int)) ∧ w'.cell? ⟨gL, ci, none⟩ = some (.slice A1 n1 c1))) (by kernel_rfl) ?_ (fun hHeld => ?_)
        · (try dsimp only); exact hS0
        refine take1 (i := 0) (v := ?_) (some 59) rfl rfl (by kernel_rfl) (by kernel_rfl) (by kernel_rfl) (fun _ _ _ h => h) (Or.inl ⟨by rfl, ?_⟩) (by assumption) ?_
        rotate_left
        · intro w hSw; (try dsimp only at hSw); obtain ⟨s1, s2, s3, s4, s5⟩ := hSw; first | (go_simp; done) | (go_simp; with_reducible rfl)
        try simp only [Act.put, List.setIfInBounds_toArray, List.set_cons_zero, List.set_cons_succ]
        refine take1 (i := 1) (v := ?_) (some 60) rfl rfl (by kernel_rfl) (by kernel_rfl) (by kernel_rfl) (fun _ _ _ h => h) (Or.inl ⟨by rfl, ?_⟩) (by assumption) ?_
        rotate_left
        · intro w hSw; (try dsimp only at hSw); obtain ⟨s1, s2, s3, s4, s5⟩ := hSw; first | (go_simp; done) | (go_simp; with_reducible rfl)
        try simp only [Act.put, List.setIfInBounds_toArray, List.set_cons_zero, List.set_cons_succ]
        refine take1 (i := 2) (v := ?_) (some 61) rfl rfl (by kernel_rfl) (by kernel_rfl) (by kernel_rfl) (fun _ _ _ h => h) (Or.inl ⟨by rfl, ?_⟩) (by assumption) ?_
        rotate_left
        · intro w hSw; (try dsimp only at hSw); obtain ⟨s1, s2, s3, s4, s5⟩ := hSw; first | (go_simp; done) | (go_simp; with_reducible rfl)
        try simp only [Act.put, List.setIfInBounds_toArray, List.set_cons_zero, List.set_cons_succ]
        refine take1 (i := 3) (v := ?_) (some 62) rfl rfl (by kernel_rfl) (by kernel_rfl) (by kernel_rfl) (fun _ _ _ h => h) (Or.inl ⟨by rfl, ?_⟩) (by assumption) ?_
        rotate_left
        · intro w hSw; (try dsimp only at hSw); obtain ⟨s1, s2, s3, s4, s5⟩ := hSw; first | (go_simp; done) | (go_simp; with_reducible rfl)
        try simp only [Act.put, List.setIfInBounds_toArray, List.set_cons_zero, List.set_cons_succ]
        refine take1 (i := 4) (v := ?_) (some 63) rfl rfl (by kernel_rfl) (by kernel_rfl) (by kernel_rfl) (fun _ _ _ h => h) (Or.inl ⟨by rfl, ?_⟩) (by assumption) ?_
        rotate_left
        · intro w hSw; (try dsimp only at hSw); obtain ⟨s1, s2, s3, s4, s5⟩ := hSw; first | (go_simp; done) | (go_simp; with_reducible rfl)
        try simp only [Act.put, List.setIfInBounds_toArray, List.set_cons_zero, List.set_cons_succ]
        refine take1 (i := 5) (v := ?_) (some 64) rfl rfl (by kernel_rfl) (by kernel_rfl) (by kernel_rfl) (fun _ _ _ h => h) (Or.inl ⟨by rfl, ?_⟩) (by assumption) ?_
        rotate_left
        · intro w hSw; (try dsimp only at hSw); obtain ⟨s1, s2, s3, s4, s5⟩ := hSw; first | (go_simp; done) | (go_simp; with_reducible rfl)
        try simp only [Act.put, List.setIfInBounds_toArray, List.set_cons_zero, List.set_cons_succ]
        refine take1 (i := 6) (v := ?_) (some 65) rfl rfl (by kernel_rfl) (by kernel_rfl) (by kernel_rfl) (fun _ _ _ h => h) (Or.inl ⟨by rfl, ?_⟩) (by assumption) ?_
        rotate_left
        · intro w hSw; (try dsimp only at hSw); obtain ⟨s1, s2, s3, s4, s5⟩ := hSw; first | (go_simp; done) | (go_simp; with_reducible rfl)
        try simp only [Act.put, List.setIfInBounds_toArray, List.set_cons_zero, List.set_cons_succ]
        refine take1 (i := 7) (v := ?_) (some 66) rfl rfl (by kernel_rfl) (by kernel_rfl) (by kernel_rfl) (fun _ _ _ h => h) (Or.inl ⟨by rfl, ?_⟩) (by assumption) ?_
        rotate_left
        · intro w hSw; (try dsimp only at hSw); obtain ⟨s1, s2, s3, s4, s5⟩ := hSw; first | (go_simp; done) | (go_simp; with_reducible rfl)
        try simp only [Act.put, List.setIfInBounds_toArray, List.set_cons_zero, List.set_cons_succ]
        refine take1 (i := 8) (v := ?_) (some 67) rfl rfl (by kernel_rfl) (by kernel_rfl) (by kernel_rfl) (fun _ _ _ h => h) (Or.inl ⟨by rfl, ?_⟩) (by assumption) ?_
        rotate_left
        · intro w hSw; (try dsimp only at hSw); obtain ⟨s1, s2, s3, s4, s5⟩ := hSw; first | (go_simp; done) | (go_simp; with_reducible rfl)
        try simp only [Act.put, List.setIfInBounds_toArray, List.set_cons_zero, List.set_cons_succ]
        refine take1 (i := 9) (v := ?_) (some 68) rfl rfl (by kernel_rfl) (by kernel_rfl) (by kernel_rfl) (fun _ _ _ h => h) (Or.inl ⟨by rfl, ?_⟩) (by assumption) ?_
        rotate_left
        · intro w hSw; (try dsimp only at hSw); obtain ⟨s1, s2, s3, s4, s5⟩ := hSw; first | (go_simp; done) | (go_simp; with_reducible rfl)
        try simp only [Act.put, List.setIfInBounds_toArray, List.set_cons_zero, List.set_cons_succ]
        refine take1 (i := 10) (v := ?_) (some 69) rfl rfl (by kernel_rfl) (by kernel_rfl) (by kernel_rfl) (fun _ _ _ h => h) (Or.inl ⟨by rfl, ?_⟩) (by assumption) ?_
        rotate_left
        · intro w hSw; (try dsimp only at hSw); obtain ⟨s1, s2, s3, s4, s5⟩ := hSw; first | (go_simp; done) | (go_simp; with_reducible rfl)
        try simp only [Act.put, List.setIfInBounds_toArray, List.set_cons_zero, List.set_cons_succ]
        refine take1 (i := 11) (v := ?_) (some 70) rfl rfl (by kernel_rfl) (by kernel_rfl) (by kernel_rfl) (fun _ _ _ h => h) (Or.inl ⟨by rfl, ?_⟩) (by assumption) ?_
        rotate_left
        · intro w hSw; (try dsimp only at hSw); obtain ⟨s1, s2, s3, s4, s5⟩ := hSw; first | (go_simp; done) | (go_simp; with_reducible rfl)
        try simp only [Act.put, List.setIfInBounds_toArray, List.set_cons_zero, List.set_cons_succ]
        refine take1 (i := 12) (v := ?_) (some 71) rfl rfl (by kernel_rfl) (by kernel_rfl) (by kernel_rfl) (fun _ _ _ h => h) (Or.inl ⟨by rfl, ?_⟩) (by assumption) ?_
        rotate_left
        · intro w hSw; (try dsimp only at hSw); obtain ⟨s1, s2, s3, s4, s5⟩ := hSw; first | (go_simp; done) | (go_simp; with_reducible rfl)
        try simp only [Act.put, List.setIfInBounds_toArray, List.set_cons_zero, List.set_cons_succ]
        refine take1 (i := 13) (v := ?_) (some 72) rfl rfl (by kernel_rfl) (by kernel_rfl) (by kernel_rfl) (fun _ _ _ h => h) (Or.inl ⟨by rfl, ?_⟩) (by assumption) ?_
        rotate_left
        · intro w hSw; (try dsimp only at hSw); obtain ⟨s1, s2, s3, s4, s5⟩ := hSw; first | (go_simp; done) | (go_simp; with_reducible rfl)
        try simp only [Act.put, List.setIfInBounds_toArray, List.set_cons_zero, List.set_cons_succ]
        refine wpAnyH_ready (rs := [14]) (by kernel_rfl) (by simp) ?_
        refine AllReadyH.cons rfl (fun K hK => ?_) AllReadyH.nil
        go_simp
        with_reducible refine (Hmark.out).mono ?_
        rintro e w1 ⟨he, seen2, out2, left2, O2, oc2, hmf, hm2⟩
        unfold Ends at he
        subst he
        have hS1 := Hkeep.out w1 hm2.below hm2.pb
        have Hmf := hide hmf
        have Hm2 := hide hm2
        clear hmf hm2
        refine hK.out _ _ ?_ (fun hHeld2 => ?_)
        · (try dsimp only); exact hS1
        clear hK K hHeld
        try simp only [Act.put, List.setIfInBounds_toArray, List.set_cons_zero, List.set_cons_succ]
        have hHeld := hHeld2; clear hHeld2
        refine wpAnyH_done (by kernel_rfl) ?_ _
        have hl4 : LInv V cs starts t (Lf lev) m (Sb seen2) out2 left2 := by
          have he := Hmf3.out.symm.trans Hmf.out
          injection he with he1 he
          injection he with he2 he3
          rw [← he1, ← he2, ← he3]
          exact Hl3.out
        have hm0 := hl4.more
        have Hl4 := hide hl4
        clear hl4 hHeld hS0 hS1
        go_wp2_with fail
        go_roundw
        case rel => exact ⟨m - 1, seen2, out2, left2, O2, oc2, by omega, by go_num, Hm2.out, by rw [show m - 1 + 1 = m from by omega]; exact Hl4.out⟩
        case measure => simp [intOf]; omega
end Go.Proofs.YtemiecammmbjdaaGreat
namespace Go.Proofs.YtemiecammmbjdaaGreat
set_option linter.unusedVariables false
set_option linter.unusedSimpArgs false
open Go.RowKit
/-- an owned row of bools reads as a list -/
theorem own_rdb {w : World} {base : Nat} {t : TypeId} {A : Option Addr} {n c : Nat} {l : List Bool} (h : w.ownsRow base t 1 (.slice A n c) n (l.map Value.bool)) (hl : l.length = n) : Rd Enc.bool w A n c l := by
  rcases h.2 with ⟨e, rfl⟩ | ⟨g, cap, cur, e, hb, hg, hnc, hcm, hcs, htake⟩
  · injection e with e1 e2 e3
    subst e1 e3
    obtain rfl : l = [] := List.eq_nil_of_length_eq_zero hl
    exact Rd.nil_ _ _
  · injection e with e1 e2 e3
    subst e1 e3
    refine ⟨hl, hnc, by unfold maxLen at hcm; omega, fun h => (by cases h), fun _ => ⟨g, 0, rfl, fun j x hj => ⟨[.bool x], rfl, fun i v hi => ?_⟩⟩⟩
    cases i with
    | succ i => simp at hi
    | zero =>
      simp at hi
      subst hi
      have := h.cells (g := g) rfl j (.bool x) (by rw [List.getElem?_map, hj]; rfl)
      rw [add_plain] at this
      simpa [Enc.bool] using this
end Go.Proofs.YtemiecammmbjdaaGreat
