/- The solver's of and assign. -/
import Derived.Test.YtnfeknfakkdbhaaRs1
import Derived.Deep.RegionHeld3
import Derived.Deep.DeepCutAuto
namespace Go.Proofs.Ytnfeknfakkdbhaa
set_option linter.unusedVariables false
set_option linter.unusedSimpArgs false
open Go.RowKit

theorem take1 {P : Program} {md : Region.Mode} {ops : Array Oper} {Q : Exit → Act → World → Prop} {S : World → Prop} {i : Nat} {oi : Oper} {v : Value} {fuel : Nat} {listed : Array Bool} {a : Act} {w : World} (d : Option Tmp) (hi : ops[i]? = some oi) (hd : oi.dst = d)
    (hs : Region.noSelect ops = true) (hf : Region.free md ops listed i = true) (hr : (Region.ready md ops listed).contains i = true)
    (hQ : ∀ c a w, Q (.panic c) (a.put d v) w → Q (.panic c) a w) (hy : YieldsIf P ops S oi v a) (hS : S w)
    (h : wpAnyH P md ops Q S fuel (listed.setIfInBounds i true) (a.put d v) w) : wpAnyH P md ops Q S (fuel + 1) listed a w := by
  subst hd
  exact wpAnyH_take hi hs hf hr hQ hy hS h

theorem valOf_get {vals : List Int} {q : Nat} {x u : Int} (hq : (q : Int) = litVar x) (hu : vals[q]? = some u) : valOf vals x = u := by
  rw [valOf, ← hq, Int.toNat_natCast, List.getD_eq_getElem?_getD, hu]
  rfl
section
variable {B : Nat} {w : World} {g : Nat} {a : SA} {V : Nat} {cs ln : List (List Int)} {vals lev rea t : List Int} {starts : List Nat}
theorem Sv.facts (h : Sv B w g a V cs ln vals lev rea t starts) : w.cell? ⟨g, 0, none⟩ = some (.int .i64 V) ∧ w.cell? ⟨g, 1, none⟩ = some (.slice a.L cs.length a.lc) ∧ w.cell? ⟨g, 2, none⟩ = some (.slice a.D ln.length a.dc) ∧
    w.cell? ⟨g, 3, none⟩ = some (.slice (some ⟨a.gv, 0, none⟩) (V + 1) (V + 1)) ∧ w.cell? ⟨g, 4, none⟩ = some (.slice (some ⟨a.gl, 0, none⟩) (V + 1) (V + 1)) ∧ w.cell? ⟨g, 5, none⟩ = some (.slice (some ⟨a.gr, 0, none⟩) (V + 1) (V + 1)) ∧
    w.cell? ⟨g, 6, none⟩ = some (.slice a.T t.length a.tc) ∧ w.cell? ⟨g, 7, none⟩ = some (.slice a.S starts.length a.sc) :=
  ⟨h.blk.cell 0, h.blk.cell 1, h.blk.cell 2, h.blk.cell 3, h.blk.cell 4, h.blk.cell 5, h.blk.cell 6, h.blk.cell 7⟩
set_option maxRecDepth 100000 in
set_option maxHeartbeats 800000 in
theorem of_ct (x : Int) (h : Sv B w g a V cs ln vals lev rea t starts) (hx : Fits V x) (hV : V ≤ 1000) (ht : Tri vals) :
    Calls Try.prog 120 #[.pointer (some ⟨g, 0, none⟩), .int .i64 x] w (Same w (.int .i64 (ofV vals x))) := by
  obtain ⟨f0, f1, f2, f3, f4, f5, f6, f7⟩ := h.facts
  have hv := hx.var
  obtain ⟨q, hq⟩ : ∃ q : Nat, (q : Int) = litVar x := ⟨(litVar x).toNat, by omega⟩
  have hql : q < vals.length := by rw [h.vlen]; omega
  have hu : vals[q]? = some (vals[q]'hql) := List.getElem?_eq_getElem _
  have htv := ht _ (List.getElem_mem hql)
  have hval := valOf_get hq hu
  have hc := h.val.cell hu
  have hqV : q < V + 1 := by omega
  have hqx : (x < 0 → (q : Int) = -x) ∧ (0 < x → (q : Int) = x) := by unfold litVar at hq; omega
  have hx0 := hx.1
  generalize vals[q]'hql = u at hval hc htv
  have hres : ofV vals x = if x < 0 then -u else u := by unfold ofV; rw [hval]
  have hu1 : -1 ≤ u ∧ u ≤ 1 := by omega
  obtain ⟨hu1, hu2⟩ := hu1
  have Hres := hide hres
  clear hres hval hu hv hx ht htv hq h f0 f1 f2 f4 f5 f6 f7 hql
  by_cases hneg : x < 0
  · obtain rfl : x = -(q : Int) := by have := hqx.1 hneg; omega
    clear hqx hx0
    go_enter Try.func120, Try.ntmps120
    go_wp2
    go_ret
    exact ⟨ret_int (by rw [Hres.out, if_pos hneg]), rfl⟩
  · obtain rfl : x = (q : Int) := by have := hqx.2 (by omega); omega
    clear hqx hx0
    go_enter Try.func120, Try.ntmps120
    go_wp2
    go_ret
    exact ⟨ret_int (by rw [Hres.out, if_neg (by omega)]), rfl⟩
end

/-- after an assignment -/
def AssignP (B : Nat) (w : World) (g : Nat) (a : SA) (V : Nat) (cs ln : List (List Int)) (vals lev rea t : List Int) (starts : List Nat) (e : Ending) (w' : World) : Prop :=
  Ends e ∧ Below B w w' ∧ ∃ O oc, Sv B w' g { a with T := O, tc := oc } V cs ln vals lev rea t starts
theorem Sv.pushT {B : Nat} {w w' : World} {g : Nat} {a : SA} {V : Nat} {cs ln : List (List Int)} {vals lev rea t : List Int} {starts : List Nat} (h : Sv B w g a V cs ln vals lev rea t starts) {x : Int} {O : Option Addr} {oc : Nat} {o : Obj}
    (ho : w'.ownsRow B 3 1 (.slice O (t.length + 1) oc) (t.length + 1) (t.map (Value.int .i64) ++ [.int .i64 x])) (hg : (w.alloc o).grownBy w' (Value.slice a.T t.length a.tc).ownBlock)
    (hat : (Value.slice O (t.length + 1) oc).ownBlock = (Value.slice a.T t.length a.tc).ownBlock ∨ (Value.slice O (t.length + 1) oc).ownBlock = some (w.heap.size + 1)) :
    Sv B (w'.setCell ⟨g, 6, none⟩ (.slice O (t.length + 1) oc)) g { a with T := O, tc := oc } V cs ln vals lev rea (t ++ [x]) starts ∧ Below B w (w'.setCell ⟨g, 6, none⟩ (.slice O (t.length + 1) oc)) := by
  have hB : B ≤ w.heap.size := by have := h.ge 0 g rfl; have := h.blk.lt; omega
  have hb0 : Below w.heap.size w (w.alloc o) := (Below.refl _ _).alloc (Nat.le_refl _) _
  have h1 := h.keep hb0
  rw [own_blkO, own_blkO] at hat
  rw [own_blkO] at hg
  obtain ⟨ap', ro'⟩ := roles_grown (w := w) (a' := { a with T := O, tc := oc }) (k := 4) (O := O) (fun i => ro_T i) h.ap (fun i r => h.lt) hat
  have ne : ∀ j, j ≠ 4 → ∀ r, ro g a j = some r → some r ≠ blkO a.T := fun j hj r hr e => hj (h.ap j 4 r hr e.symm)
  have ge' : ∀ i r, ro g { a with T := O, tc := oc } i = some r → B ≤ r := fun i r hi => by
    rcases ro' i r hi with ⟨j, hj⟩ | hge
    · exact h.ge j r hj
    · omega
  have ne6 : ∀ j, j ≠ 0 → j ≠ 4 → ro g a j ≠ some g := fun j hj _ => h.ne (i := 0) (Ne.symm hj) rfl
  have hOg : blkO O ≠ some g := fun e => by
    have := ap' 4 0 g (by rw [ro_T]; exact e) (by rw [ro_T]; rfl)
    omega
  have hs := only_set w' g 6 (.slice O (t.length + 1) oc)
  have neT : ∀ {r j}, j ≠ 4 → ro g a j = some r → some r ≠ blkO a.T := fun {r j} hj hr => ne j hj r hr
  have neg0 : ∀ {r j}, j ≠ 0 → ro g a j = some r → some r ≠ some g := fun {r j} hj hr e => by
    injection e with e
    subst e
    exact hj (h.ap j 0 r hr rfl)
  have other : ∀ {A : Option Addr} {n c : Nat} {xs : List (List Int)} (j : Nat), j ≠ 4 → j ≠ 0 → ro g a j = blkO A → Rows B w (Mine g a) A n c xs → Rows B (w'.setCell ⟨g, 6, none⟩ (.slice O (t.length + 1) oc)) (Mine g { a with T := O, tc := oc }) A n c xs := fun {A n c xs} j hj hj0 hro hr => by
    have r1 : Rows B w (fun b => Mine g a b ∨ Mine g { a with T := O, tc := oc } b) A n c xs := hr.more (fun b hb => by
      rcases hb with hb | ⟨i, hi⟩
      · exact .inl hb
      · rcases ro' i b hi with ⟨q, hq⟩ | hge
        · exact .inl ⟨q, hq⟩
        · exact .inr hge)
    have r2 := (r1.keep hb0).other (row := blkO a.T) (fun r e => .inl ⟨4, e⟩) hg (fun r e e2 => neT hj (hro.trans e) e2.symm)
    have r3 := r2.other (row := some g) (fun r e => by injection e with e; subst e; exact .inl ⟨0, rfl⟩) hs (fun r e e2 => neg0 hj0 (hro.trans e) e2.symm)
    exact r3.mono (fun b hb => .inr hb)
  have bB : Below B w (w'.setCell ⟨g, 6, none⟩ (.slice O (t.length + 1) oc)) :=
    (((Below.refl B w).alloc hB o).grown hg (by simp; omega) (fun k hk => h.ge 4 k hk)).setCell (h.ge 0 g rfl) _
  have hblk := ((h1.blk.grown hg (neT (r := g) (j := 0) (by decide) rfl)).set 6 (.slice O (t.length + 1) oc))
  refine ⟨⟨ge', ap', ?_, ?_, h.vlen, ?_, h.llen, ?_, h.rlen, ?_, ?_, other 6 (by decide) (by decide) rfl h.lst, other 7 (by decide) (by decide) rfl h.lrn⟩, bB⟩
  · simp only [List.set_cons_zero, List.set_cons_succ] at hblk
    simpa using hblk
  · exact (h1.val.grown hg (neT (j := 1) (by decide) rfl)).grown hs (neg0 (j := 1) (by decide) rfl)
  · exact (h1.lvl.grown hg (neT (j := 2) (by decide) rfl)).grown hs (neg0 (j := 2) (by decide) rfl)
  · exact (h1.rsn.grown hg (neT (j := 3) (by decide) rfl)).grown hs (neg0 (j := 3) (by decide) rfl)
  · have := own_other ho hs (fun r hr e => hOg (by rw [own_blkO] at hr; rw [hr, e]))
    simpa using this
  · exact own_other (own_other h1.sts hg (fun r hr => neT (j := 5) (by decide) (by rw [own_blkO] at hr; exact hr))) hs (fun r hr => neg0 (j := 5) (by decide) (by rw [own_blkO] at hr; exact hr))
set_option maxRecDepth 100000 in
set_option maxHeartbeats 3200000 in
theorem assign_ct {B : Nat} {w : World} {g : Nat} {a : SA} {V : Nat} {cs ln : List (List Int)} {vals lev rea t : List Int} {starts : List Nat} (x r : Int) (h : Sv B w g a V cs ln vals lev rea t starts) (hx : Fits V x) (hV : V ≤ 1000) (htl : t.length ≤ V) :
    Calls Try.prog 105 #[.pointer (some ⟨g, 0, none⟩), .int .i64 x, .int .i64 r] w (AssignP B w g a V cs ln (setLit vals x) (lev.set (litVar x).toNat starts.length) (rea.set (litVar x).toNat r) (t ++ [x]) starts) := by
  obtain ⟨f0, f1, f2, f3, f4, f5, f6, f7⟩ := h.facts
  have hv := hx.var
  obtain ⟨q, hq⟩ : ∃ q : Nat, (q : Int) = litVar x := ⟨(litVar x).toNat, by omega⟩
  have hqn : (litVar x).toNat = q := by omega
  have hqV : q < V + 1 := by omega
  have hqx : (x < 0 → (q : Int) = -x) ∧ (0 < x → (q : Int) = x) := by unfold litVar at hq; omega
  have hset : setLit vals x = (vals.set q 1).set q (if x < 0 then -1 else 1) := by
    rw [List.set_set, setLit, hqn]
  have hx0 := hx.1
  have hxb := hx.2
  have hfl := h.blk.lt
  have hvl := h.val.lt
  obtain ⟨u, hc0⟩ : ∃ u, w.cell? ⟨a.gv, q, none⟩ = some (.int .i64 u) := ⟨_, h.val.cell (List.getElem?_eq_getElem (show q < vals.length by rw [h.vlen]; omega))⟩
  have hf0 := h.val.frozen q
  have hgv : a.gv ≠ g := fun e => by have := h.ap 0 1 g rfl (by rw [← e]; rfl); omega
  have hgv' : g ≠ a.gv := Ne.symm hgv
  have hgl : g ≠ a.gl := fun e => by have := h.ap 0 2 g rfl (by rw [e]; rfl); omega
  have hgr : g ≠ a.gr := fun e => by have := h.ap 0 3 g rfl (by rw [e]; rfl); omega
  have hvarc := fun W => Variable_ct x W (by omega) (by omega)
  rw [← hq] at hvarc
  rw [hqn]
  have Hvarc := hide hvarc
  have H := hide h
  have Hset := hide hset
  have Hhq := hide hq
  clear h hx hv hset hvarc hq hqn hqx
  have hW : ∀ Q : World → Prop, (∀ W, Sv B W g a V cs ln (setLit vals x) lev rea t starts → Below B w W → Q W) → (¬ x < 0 → Q (w.setCell ⟨a.gv, q, none⟩ (.int .i64 1))) ∧ (x < 0 → Q ((w.setCell ⟨a.gv, q, none⟩ (.int .i64 1)).setCell ⟨a.gv, q, none⟩ (.int .i64 (-1)))) := fun Q hQ => by
    have hB : B ≤ a.gv := H.out.ge 1 a.gv rfl
    have h1 := H.out.setVal q 1
    refine ⟨fun hn => hQ _ ?_ ((Below.refl _ _).setCell hB _), fun hn => hQ _ ?_ (((Below.refl _ _).setCell hB _).setCell hB _)⟩
    · rw [Hset.out, if_neg hn, List.set_set]
      exact h1
    · rw [Hset.out, if_pos hn]
      exact h1.setVal q (-1)
  have HW := hide hW
  clear hW
  have tail : ∀ (W : World) (fr : Act), Sv B W g a V cs ln (setLit vals x) lev rea t starts → Below B w W → True := fun _ _ _ _ => trivial
  clear tail
  go_enter Try.func105, Try.ntmps105
  go_wp2_with fail
  refine (Hvarc.out _).mono ?_
  rintro e w1 ⟨rfl, rfl⟩
  by_cases hneg : x < 0
  · go_upto_region 4 with (fail)
    obtain ⟨W, hWd⟩ : ∃ W, W = ((w.setCell ⟨a.gv, q, none⟩ (.int .i64 1)).setCell ⟨a.gv, q, none⟩ (.int .i64 (-1))) := ⟨_, rfl⟩
    have hsv : Sv B W g a V cs ln (setLit vals x) lev rea t starts ∧ Below B w W := by
      rw [hWd]
      exact ((HW.out (fun W => Sv B W g a V cs ln (setLit vals x) lev rea t starts ∧ Below B w W) (fun W h1 h2 => ⟨h1, h2⟩)).2 hneg)
    rw [← hWd]
    obtain ⟨hsv, hbw⟩ := hsv
    clear hWd f0 f1 f2 f3 f4 f5 f6 f7 hc0 hf0
    obtain ⟨vals1, hv1⟩ : ∃ v1, v1 = setLit vals x := ⟨_, rfl⟩
    rw [← hv1] at hsv
    have Hv1 := hide hv1
    clear hv1
    clear Hset HW Hvarc
    have hll := hsv.llen
    have hrl := hsv.rlen
    obtain ⟨gv, gl, gr, L, lc, D, dc, T, tc, S, sc⟩ := a
    simp only at hgv hgv' hgl hgr hvl
    have hq0' : (0 : Int) ≤ (q : Int) := by omega
    have hq1' : (q : Int) < (V : Int) + 1 := by omega
    have hcl : ∃ u, W.cell? ⟨gl, q, none⟩ = some (.int .i64 u) := ⟨_, hsv.lvl.cell (List.getElem?_eq_getElem (show q < lev.length by omega))⟩
    have hcr : ∃ u, W.cell? ⟨gr, q, none⟩ = some (.int .i64 u) := ⟨_, hsv.rsn.cell (List.getElem?_eq_getElem (show q < rea.length by omega))⟩
    obtain ⟨u1, hcl⟩ := hcl
    obtain ⟨u2, hcr⟩ := hcr
    have hlf := hsv.lvl.frozen q
    have hrf := hsv.rsn.frozen q
    have hllt := hsv.lvl.lt
    have hrlt := hsv.rsn.lt
    have hlr : gl ≠ gr := fun e => by have := hsv.ap 2 3 gl rfl (by rw [e]; rfl); omega
    have hlr' : gr ≠ gl := Ne.symm hlr
    simp only at hcl hcr hlf hrf hllt hrlt
    have Hst := hide hsv
    refine wp_region_held_drew (S := (fun w' => Blk 96 w' g [.int .i64 V, .slice L cs.length lc, .slice D ln.length dc, .slice (some ⟨gv, 0, none⟩) (V + 1) (V + 1), .slice (some ⟨gl, 0, none⟩) (V + 1) (V + 1), .slice (some ⟨gr, 0, none⟩) (V + 1) (V + 1), .slice T t.length tc, .slice S starts.length sc])) (by kernel_rfl) ?_ (fun hHeld => ?_)
    · (try dsimp only); exact Hst.out.blk.qt (Qt.refl _).drew
    refine take1 (i := 0) (v := ?_) (some 23) rfl rfl (by kernel_rfl) (by kernel_rfl) (by kernel_rfl) (fun _ _ _ h => h) (Or.inl ⟨by rfl, ?_⟩) (by assumption) ?_
    rotate_left
    · intro w hSw; (try dsimp only at hSw); have z4 := (id hSw : Blk _ _ _ _).cell 4; have z5 := (id hSw : Blk _ _ _ _).cell 5; have z7 := (id hSw : Blk _ _ _ _).cell 7; simp only [List.getElem?_cons_zero, List.getElem?_cons_succ] at z4 z5 z7; clear hSw; first | (go_simp; done) | (go_simp; with_reducible rfl)
    try simp only [Act.put, List.setIfInBounds_toArray, List.set_cons_zero, List.set_cons_succ]
    refine take1 (i := 1) (v := ?_) (some 24) rfl rfl (by kernel_rfl) (by kernel_rfl) (by kernel_rfl) (fun _ _ _ h => h) (Or.inl ⟨by rfl, ?_⟩) (by assumption) ?_
    rotate_left
    · intro w hSw; (try dsimp only at hSw); have z4 := (id hSw : Blk _ _ _ _).cell 4; have z5 := (id hSw : Blk _ _ _ _).cell 5; have z7 := (id hSw : Blk _ _ _ _).cell 7; simp only [List.getElem?_cons_zero, List.getElem?_cons_succ] at z4 z5 z7; clear hSw; first | (go_simp; done) | (go_simp; with_reducible rfl)
    try simp only [Act.put, List.setIfInBounds_toArray, List.set_cons_zero, List.set_cons_succ]
    refine take1 (i := 2) (v := ?_) (some 25) rfl rfl (by kernel_rfl) (by kernel_rfl) (by kernel_rfl) (fun _ _ _ h => h) (Or.inl ⟨by rfl, ?_⟩) (by assumption) ?_
    rotate_left
    · intro w hSw; (try dsimp only at hSw); have z4 := (id hSw : Blk _ _ _ _).cell 4; have z5 := (id hSw : Blk _ _ _ _).cell 5; have z7 := (id hSw : Blk _ _ _ _).cell 7; simp only [List.getElem?_cons_zero, List.getElem?_cons_succ] at z4 z5 z7; clear hSw; first | (go_simp; done) | (go_simp; with_reducible rfl)
    try simp only [Act.put, List.setIfInBounds_toArray, List.set_cons_zero, List.set_cons_succ]
    refine take1 (i := 3) (v := ?_) (some 26) rfl rfl (by kernel_rfl) (by kernel_rfl) (by kernel_rfl) (fun _ _ _ h => h) (Or.inl ⟨by rfl, ?_⟩) (by assumption) ?_
    rotate_left
    · intro w hSw; (try dsimp only at hSw); have z4 := (id hSw : Blk _ _ _ _).cell 4; have z5 := (id hSw : Blk _ _ _ _).cell 5; have z7 := (id hSw : Blk _ _ _ _).cell 7; simp only [List.getElem?_cons_zero, List.getElem?_cons_succ] at z4 z5 z7; clear hSw; first | (go_simp; done) | (go_simp; with_reducible rfl)
    try simp only [Act.put, List.setIfInBounds_toArray, List.set_cons_zero, List.set_cons_succ]
    refine take1 (i := 4) (v := ?_) (some 27) rfl rfl (by kernel_rfl) (by kernel_rfl) (by kernel_rfl) (fun _ _ _ h => h) (Or.inl ⟨by rfl, ?_⟩) (by assumption) ?_
    rotate_left
    · intro w hSw; (try dsimp only at hSw); have z4 := (id hSw : Blk _ _ _ _).cell 4; have z5 := (id hSw : Blk _ _ _ _).cell 5; have z7 := (id hSw : Blk _ _ _ _).cell 7; simp only [List.getElem?_cons_zero, List.getElem?_cons_succ] at z4 z5 z7; clear hSw; first | (go_simp; done) | (go_simp; with_reducible rfl)
    try simp only [Act.put, List.setIfInBounds_toArray, List.set_cons_zero, List.set_cons_succ]
    refine take1 (i := 5) (v := ?_) (some 28) rfl rfl (by kernel_rfl) (by kernel_rfl) (by kernel_rfl) (fun _ _ _ h => h) (Or.inl ⟨by rfl, ?_⟩) (by assumption) ?_
    rotate_left
    · intro w hSw; (try dsimp only at hSw); have z4 := (id hSw : Blk _ _ _ _).cell 4; have z5 := (id hSw : Blk _ _ _ _).cell 5; have z7 := (id hSw : Blk _ _ _ _).cell 7; simp only [List.getElem?_cons_zero, List.getElem?_cons_succ] at z4 z5 z7; clear hSw; first | (go_simp; done) | (go_simp; with_reducible rfl)
    try simp only [Act.put, List.setIfInBounds_toArray, List.set_cons_zero, List.set_cons_succ]
    refine take1 (i := 6) (v := ?_) (some 29) rfl rfl (by kernel_rfl) (by kernel_rfl) (by kernel_rfl) (fun _ _ _ h => h) (Or.inl ⟨by rfl, ?_⟩) (by assumption) ?_
    rotate_left
    · intro w hSw; (try dsimp only at hSw); have z4 := (id hSw : Blk _ _ _ _).cell 4; have z5 := (id hSw : Blk _ _ _ _).cell 5; have z7 := (id hSw : Blk _ _ _ _).cell 7; simp only [List.getElem?_cons_zero, List.getElem?_cons_succ] at z4 z5 z7; clear hSw; first | (go_simp; done) | (go_simp; with_reducible rfl)
    try simp only [Act.put, List.setIfInBounds_toArray, List.set_cons_zero, List.set_cons_succ]
    refine take1 (i := 7) (v := ?_) (some 30) rfl rfl (by kernel_rfl) (by kernel_rfl) (by kernel_rfl) (fun _ _ _ h => h) (Or.inl ⟨by rfl, ?_⟩) (by assumption) ?_
    rotate_left
    · intro w hSw; (try dsimp only at hSw); have z4 := (id hSw : Blk _ _ _ _).cell 4; have z5 := (id hSw : Blk _ _ _ _).cell 5; have z7 := (id hSw : Blk _ _ _ _).cell 7; simp only [List.getElem?_cons_zero, List.getElem?_cons_succ] at z4 z5 z7; clear hSw; first | (go_simp; done) | (go_simp; with_reducible rfl)
    try simp only [Act.put, List.setIfInBounds_toArray, List.set_cons_zero, List.set_cons_succ]
    refine take1 (i := 8) (v := ?_) (some 31) rfl rfl (by kernel_rfl) (by kernel_rfl) (by kernel_rfl) (fun _ _ _ h => h) (Or.inl ⟨by rfl, ?_⟩) (by assumption) ?_
    rotate_left
    · intro w hSw; (try dsimp only at hSw); have z4 := (id hSw : Blk _ _ _ _).cell 4; have z5 := (id hSw : Blk _ _ _ _).cell 5; have z7 := (id hSw : Blk _ _ _ _).cell 7; simp only [List.getElem?_cons_zero, List.getElem?_cons_succ] at z4 z5 z7; clear hSw; first | (go_simp; done) | (go_simp; with_reducible rfl)
    try simp only [Act.put, List.setIfInBounds_toArray, List.set_cons_zero, List.set_cons_succ]
    refine take1 (i := 9) (v := ?_) (some 32) rfl rfl (by kernel_rfl) (by kernel_rfl) (by kernel_rfl) (fun _ _ _ h => h) (Or.inl ⟨by rfl, ?_⟩) (by assumption) ?_
    rotate_left
    · intro w hSw; (try dsimp only at hSw); have z4 := (id hSw : Blk _ _ _ _).cell 4; have z5 := (id hSw : Blk _ _ _ _).cell 5; have z7 := (id hSw : Blk _ _ _ _).cell 7; simp only [List.getElem?_cons_zero, List.getElem?_cons_succ] at z4 z5 z7; clear hSw; first | (go_simp; done) | (go_simp; with_reducible rfl)
    try simp only [Act.put, List.setIfInBounds_toArray, List.set_cons_zero, List.set_cons_succ]
    refine take1 (i := 10) (v := ?_) (some 33) rfl rfl (by kernel_rfl) (by kernel_rfl) (by kernel_rfl) (fun _ _ _ h => h) (Or.inl ⟨by rfl, ?_⟩) (by assumption) ?_
    rotate_left
    · intro w hSw; (try dsimp only at hSw); have z4 := (id hSw : Blk _ _ _ _).cell 4; have z5 := (id hSw : Blk _ _ _ _).cell 5; have z7 := (id hSw : Blk _ _ _ _).cell 7; simp only [List.getElem?_cons_zero, List.getElem?_cons_succ] at z4 z5 z7; clear hSw; first | (go_simp; done) | (go_simp; with_reducible rfl)
    try simp only [Act.put, List.setIfInBounds_toArray, List.set_cons_zero, List.set_cons_succ]
    refine take1 (i := 11) (v := ?_) (some 34) rfl rfl (by kernel_rfl) (by kernel_rfl) (by kernel_rfl) (fun _ _ _ h => h) (Or.inl ⟨by rfl, ?_⟩) (by assumption) ?_
    rotate_left
    · intro w hSw; (try dsimp only at hSw); have z4 := (id hSw : Blk _ _ _ _).cell 4; have z5 := (id hSw : Blk _ _ _ _).cell 5; have z7 := (id hSw : Blk _ _ _ _).cell 7; simp only [List.getElem?_cons_zero, List.getElem?_cons_succ] at z4 z5 z7; clear hSw; first | (go_simp; done) | (go_simp; with_reducible rfl)
    try simp only [Act.put, List.setIfInBounds_toArray, List.set_cons_zero, List.set_cons_succ]
    refine take1 (i := 12) (v := ?_) (some 35) rfl rfl (by kernel_rfl) (by kernel_rfl) (by kernel_rfl) (fun _ _ _ h => h) (Or.inl ⟨by rfl, ?_⟩) (by assumption) ?_
    rotate_left
    · intro w hSw; (try dsimp only at hSw); have z4 := (id hSw : Blk _ _ _ _).cell 4; have z5 := (id hSw : Blk _ _ _ _).cell 5; have z7 := (id hSw : Blk _ _ _ _).cell 7; simp only [List.getElem?_cons_zero, List.getElem?_cons_succ] at z4 z5 z7; clear hSw; first | (go_simp; done) | (go_simp; with_reducible rfl)
    try simp only [Act.put, List.setIfInBounds_toArray, List.set_cons_zero, List.set_cons_succ]
    refine take1 (i := 13) (v := ?_) (some 36) rfl rfl (by kernel_rfl) (by kernel_rfl) (by kernel_rfl) (fun _ _ _ h => h) (Or.inl ⟨by rfl, ?_⟩) (by assumption) ?_
    rotate_left
    · intro w hSw; (try dsimp only at hSw); have z4 := (id hSw : Blk _ _ _ _).cell 4; have z5 := (id hSw : Blk _ _ _ _).cell 5; have z7 := (id hSw : Blk _ _ _ _).cell 7; simp only [List.getElem?_cons_zero, List.getElem?_cons_succ] at z4 z5 z7; clear hSw; first | (go_simp; done) | (go_simp; with_reducible rfl)
    try simp only [Act.put, List.setIfInBounds_toArray, List.set_cons_zero, List.set_cons_succ]
    refine take1 (i := 14) (v := ?_) (some 37) rfl rfl (by kernel_rfl) (by kernel_rfl) (by kernel_rfl) (fun _ _ _ h => h) (Or.inl ⟨by rfl, ?_⟩) (by assumption) ?_
    rotate_left
    · intro w hSw; (try dsimp only at hSw); have z4 := (id hSw : Blk _ _ _ _).cell 4; have z5 := (id hSw : Blk _ _ _ _).cell 5; have z7 := (id hSw : Blk _ _ _ _).cell 7; simp only [List.getElem?_cons_zero, List.getElem?_cons_succ] at z4 z5 z7; clear hSw; first | (go_simp; done) | (go_simp; with_reducible rfl)
    try simp only [Act.put, List.setIfInBounds_toArray, List.set_cons_zero, List.set_cons_succ]
    refine take1 (i := 15) (v := ?_) (some 38) rfl rfl (by kernel_rfl) (by kernel_rfl) (by kernel_rfl) (fun _ _ _ h => h) (Or.inl ⟨by rfl, ?_⟩) (by assumption) ?_
    rotate_left
    · intro w hSw; (try dsimp only at hSw); have z4 := (id hSw : Blk _ _ _ _).cell 4; have z5 := (id hSw : Blk _ _ _ _).cell 5; have z7 := (id hSw : Blk _ _ _ _).cell 7; simp only [List.getElem?_cons_zero, List.getElem?_cons_succ] at z4 z5 z7; clear hSw; first | (go_simp; done) | (go_simp; with_reducible rfl)
    try simp only [Act.put, List.setIfInBounds_toArray, List.set_cons_zero, List.set_cons_succ]
    refine take1 (i := 16) (v := ?_) (some 39) rfl rfl (by kernel_rfl) (by kernel_rfl) (by kernel_rfl) (fun _ _ _ h => h) (Or.inl ⟨by rfl, ?_⟩) (by assumption) ?_
    rotate_left
    · intro w hSw; (try dsimp only at hSw); have z4 := (id hSw : Blk _ _ _ _).cell 4; have z5 := (id hSw : Blk _ _ _ _).cell 5; have z7 := (id hSw : Blk _ _ _ _).cell 7; simp only [List.getElem?_cons_zero, List.getElem?_cons_succ] at z4 z5 z7; clear hSw; first | (go_simp; done) | (go_simp; with_reducible rfl)
    try simp only [Act.put, List.setIfInBounds_toArray, List.set_cons_zero, List.set_cons_succ]
    refine wpAnyH_ready (rs := [17]) (by kernel_rfl) (by simp) ?_
    refine AllReadyH.cons rfl (fun K hK => ?_) AllReadyH.nil
    go_simp
    refine hK.out _ _ ?_ (fun hHeld2 => ?_)
    · (try dsimp only); exact Blk.far hHeld hgl _
    clear hK K hHeld
    try simp only [Act.put, List.setIfInBounds_toArray, List.set_cons_zero, List.set_cons_succ]
    have hHeld := hHeld2; clear hHeld2
    refine take1 (i := 18) (v := ?_) (some 40) rfl rfl (by kernel_rfl) (by kernel_rfl) (by kernel_rfl) (fun _ _ _ h => h) (Or.inl ⟨by rfl, ?_⟩) (by assumption) ?_
    rotate_left
    · intro w hSw; (try dsimp only at hSw); have z4 := (id hSw : Blk _ _ _ _).cell 4; have z5 := (id hSw : Blk _ _ _ _).cell 5; have z7 := (id hSw : Blk _ _ _ _).cell 7; simp only [List.getElem?_cons_zero, List.getElem?_cons_succ] at z4 z5 z7; clear hSw; first | (go_simp; done) | (go_simp; with_reducible rfl)
    try simp only [Act.put, List.setIfInBounds_toArray, List.set_cons_zero, List.set_cons_succ]
    refine wpAnyH_ready (rs := [19]) (by kernel_rfl) (by simp) ?_
    refine AllReadyH.cons rfl (fun K hK => ?_) AllReadyH.nil
    go_simp
    refine hK.out _ _ ?_ (fun hHeld2 => ?_)
    · (try dsimp only); exact Blk.far hHeld hgr _
    clear hK K hHeld
    try simp only [Act.put, List.setIfInBounds_toArray, List.set_cons_zero, List.set_cons_succ]
    have hHeld := hHeld2; clear hHeld2
    refine wpAnyH_done (by kernel_rfl) ?_ _
    have h5 := ((Hst.out.setLev q starts.length).setRea q r).keep (Below.refl _ _).drew
    have b5 : Below B w (((W.setCell ⟨gl, q, none⟩ (.int .i64 starts.length)).setCell ⟨gr, q, none⟩ (.int .i64 r)).drew) := ((hbw.setCell (Hst.out.ge 2 gl rfl) _).setCell (Hst.out.ge 3 gr rfl) _).drew
    obtain ⟨W5, hW5⟩ : ∃ W5, W5 = (((W.setCell ⟨gl, q, none⟩ (.int .i64 starts.length)).setCell ⟨gr, q, none⟩ (.int .i64 r)).drew) := ⟨_, rfl⟩
    rw [← hW5] at h5 b5 ⊢
    clear hW5 hHeld hcl hcr hlf hrf Hst hsv hbw H
    obtain ⟨lev1, hv1⟩ : ∃ v1, v1 = lev.set q (starts.length : Int) := ⟨_, rfl⟩
    obtain ⟨rea1, hv2⟩ : ∃ v1, v1 = rea.set q r := ⟨_, rfl⟩
    rw [← hv1, ← hv2] at h5
    have Hv2 := hide hv1
    have Hv3 := hide hv2
    clear hv1 hv2
    obtain ⟨f0, f1, f2, f3, f4, f5, f6, f7⟩ := h5.facts
    have hgl5 := h5.blk.lt
    obtain ⟨i0, hi0, hz0, hz1, hz2⟩ := info_parts Try.intInfo
    have hB5 : B ≤ W5.heap.size := by have := h5.ge 0 g rfl; omega
    have H5 := hide h5
    have B5 := hide b5
    clear h5 b5
    go_wp2_with
      (at_builtin
       refine wpList_pushA rfl _ _ 22 rfl B 3 i0 (.int .i64 0) 1 8 Try.underlying22 hi0 hz0 hz1 hz2 rfl (by decide) _ _ _ rfl H5.out.trl [.int .i64 x] rfl (by intro u hu; simp at hu; subst hu; rfl) rfl (by omega) (by omega) hB5 ?_
       intro O oc w6 hown6 hg6 hat6
       obtain ⟨hp6, hb6⟩ := H5.out.pushT hown6 hg6 hat6
       have hblk6 := (H5.out.blk.alloc (.cells #[.int .i64 x] 3)).grown hg6 (fun e => by
         have := H5.out.ap 4 0 g (by show blkO T = some g; rw [← own_blkO]; exact e.symm) rfl
         omega)
       have c6 := hblk6.cell 6
       have c6f := hblk6.frozen 6
       have c6l := hblk6.lt
       simp only [List.getElem?_cons_zero, List.getElem?_cons_succ] at c6
       have Hp6 := hide hp6
       have Hb6 := hide hb6
       clear hown6 hg6 hat6 hp6 hb6 hblk6 f0 f1 f2 f3 f4 f5 f6 f7)
    go_end0
    have e1 := Hv1.out
    have e2 := Hv2.out
    have e3 := Hv3.out
    subst e1 e2 e3
    exact ⟨rfl, B5.out.trans Hb6.out, O, oc, Hp6.out⟩
  · go_upto_region 4 with (fail)
    obtain ⟨W, hWd⟩ : ∃ W, W = (w.setCell ⟨a.gv, q, none⟩ (.int .i64 1)) := ⟨_, rfl⟩
    have hsv : Sv B W g a V cs ln (setLit vals x) lev rea t starts ∧ Below B w W := by
      rw [hWd]
      exact ((HW.out (fun W => Sv B W g a V cs ln (setLit vals x) lev rea t starts ∧ Below B w W) (fun W h1 h2 => ⟨h1, h2⟩)).1 (by omega))
    rw [← hWd]
    obtain ⟨hsv, hbw⟩ := hsv
    clear hWd f0 f1 f2 f3 f4 f5 f6 f7 hc0 hf0
    obtain ⟨vals1, hv1⟩ : ∃ v1, v1 = setLit vals x := ⟨_, rfl⟩
    rw [← hv1] at hsv
    have Hv1 := hide hv1
    clear hv1
    clear Hset HW Hvarc
    have hll := hsv.llen
    have hrl := hsv.rlen
    obtain ⟨gv, gl, gr, L, lc, D, dc, T, tc, S, sc⟩ := a
    simp only at hgv hgv' hgl hgr hvl
    have hq0' : (0 : Int) ≤ (q : Int) := by omega
    have hq1' : (q : Int) < (V : Int) + 1 := by omega
    have hcl : ∃ u, W.cell? ⟨gl, q, none⟩ = some (.int .i64 u) := ⟨_, hsv.lvl.cell (List.getElem?_eq_getElem (show q < lev.length by omega))⟩
    have hcr : ∃ u, W.cell? ⟨gr, q, none⟩ = some (.int .i64 u) := ⟨_, hsv.rsn.cell (List.getElem?_eq_getElem (show q < rea.length by omega))⟩
    obtain ⟨u1, hcl⟩ := hcl
    obtain ⟨u2, hcr⟩ := hcr
    have hlf := hsv.lvl.frozen q
    have hrf := hsv.rsn.frozen q
    have hllt := hsv.lvl.lt
    have hrlt := hsv.rsn.lt
    have hlr : gl ≠ gr := fun e => by have := hsv.ap 2 3 gl rfl (by rw [e]; rfl); omega
    have hlr' : gr ≠ gl := Ne.symm hlr
    simp only at hcl hcr hlf hrf hllt hrlt
    have Hst := hide hsv
    refine wp_region_held_drew (S := (fun w' => Blk 96 w' g [.int .i64 V, .slice L cs.length lc, .slice D ln.length dc, .slice (some ⟨gv, 0, none⟩) (V + 1) (V + 1), .slice (some ⟨gl, 0, none⟩) (V + 1) (V + 1), .slice (some ⟨gr, 0, none⟩) (V + 1) (V + 1), .slice T t.length tc, .slice S starts.length sc])) (by kernel_rfl) ?_ (fun hHeld => ?_)
    · (try dsimp only); exact Hst.out.blk.qt (Qt.refl _).drew
    refine take1 (i := 0) (v := ?_) (some 23) rfl rfl (by kernel_rfl) (by kernel_rfl) (by kernel_rfl) (fun _ _ _ h => h) (Or.inl ⟨by rfl, ?_⟩) (by assumption) ?_
    rotate_left
    · intro w hSw; (try dsimp only at hSw); have z4 := (id hSw : Blk _ _ _ _).cell 4; have z5 := (id hSw : Blk _ _ _ _).cell 5; have z7 := (id hSw : Blk _ _ _ _).cell 7; simp only [List.getElem?_cons_zero, List.getElem?_cons_succ] at z4 z5 z7; clear hSw; first | (go_simp; done) | (go_simp; with_reducible rfl)
    try simp only [Act.put, List.setIfInBounds_toArray, List.set_cons_zero, List.set_cons_succ]
    refine take1 (i := 1) (v := ?_) (some 24) rfl rfl (by kernel_rfl) (by kernel_rfl) (by kernel_rfl) (fun _ _ _ h => h) (Or.inl ⟨by rfl, ?_⟩) (by assumption) ?_
    rotate_left
    · intro w hSw; (try dsimp only at hSw); have z4 := (id hSw : Blk _ _ _ _).cell 4; have z5 := (id hSw : Blk _ _ _ _).cell 5; have z7 := (id hSw : Blk _ _ _ _).cell 7; simp only [List.getElem?_cons_zero, List.getElem?_cons_succ] at z4 z5 z7; clear hSw; first | (go_simp; done) | (go_simp; with_reducible rfl)
    try simp only [Act.put, List.setIfInBounds_toArray, List.set_cons_zero, List.set_cons_succ]
    refine take1 (i := 2) (v := ?_) (some 25) rfl rfl (by kernel_rfl) (by kernel_rfl) (by kernel_rfl) (fun _ _ _ h => h) (Or.inl ⟨by rfl, ?_⟩) (by assumption) ?_
    rotate_left
    · intro w hSw; (try dsimp only at hSw); have z4 := (id hSw : Blk _ _ _ _).cell 4; have z5 := (id hSw : Blk _ _ _ _).cell 5; have z7 := (id hSw : Blk _ _ _ _).cell 7; simp only [List.getElem?_cons_zero, List.getElem?_cons_succ] at z4 z5 z7; clear hSw; first | (go_simp; done) | (go_simp; with_reducible rfl)
    try simp only [Act.put, List.setIfInBounds_toArray, List.set_cons_zero, List.set_cons_succ]
    refine take1 (i := 3) (v := ?_) (some 26) rfl rfl (by kernel_rfl) (by kernel_rfl) (by kernel_rfl) (fun _ _ _ h => h) (Or.inl ⟨by rfl, ?_⟩) (by assumption) ?_
    rotate_left
    · intro w hSw; (try dsimp only at hSw); have z4 := (id hSw : Blk _ _ _ _).cell 4; have z5 := (id hSw : Blk _ _ _ _).cell 5; have z7 := (id hSw : Blk _ _ _ _).cell 7; simp only [List.getElem?_cons_zero, List.getElem?_cons_succ] at z4 z5 z7; clear hSw; first | (go_simp; done) | (go_simp; with_reducible rfl)
    try simp only [Act.put, List.setIfInBounds_toArray, List.set_cons_zero, List.set_cons_succ]
    refine take1 (i := 4) (v := ?_) (some 27) rfl rfl (by kernel_rfl) (by kernel_rfl) (by kernel_rfl) (fun _ _ _ h => h) (Or.inl ⟨by rfl, ?_⟩) (by assumption) ?_
    rotate_left
    · intro w hSw; (try dsimp only at hSw); have z4 := (id hSw : Blk _ _ _ _).cell 4; have z5 := (id hSw : Blk _ _ _ _).cell 5; have z7 := (id hSw : Blk _ _ _ _).cell 7; simp only [List.getElem?_cons_zero, List.getElem?_cons_succ] at z4 z5 z7; clear hSw; first | (go_simp; done) | (go_simp; with_reducible rfl)
    try simp only [Act.put, List.setIfInBounds_toArray, List.set_cons_zero, List.set_cons_succ]
    refine take1 (i := 5) (v := ?_) (some 28) rfl rfl (by kernel_rfl) (by kernel_rfl) (by kernel_rfl) (fun _ _ _ h => h) (Or.inl ⟨by rfl, ?_⟩) (by assumption) ?_
    rotate_left
    · intro w hSw; (try dsimp only at hSw); have z4 := (id hSw : Blk _ _ _ _).cell 4; have z5 := (id hSw : Blk _ _ _ _).cell 5; have z7 := (id hSw : Blk _ _ _ _).cell 7; simp only [List.getElem?_cons_zero, List.getElem?_cons_succ] at z4 z5 z7; clear hSw; first | (go_simp; done) | (go_simp; with_reducible rfl)
    try simp only [Act.put, List.setIfInBounds_toArray, List.set_cons_zero, List.set_cons_succ]
    refine take1 (i := 6) (v := ?_) (some 29) rfl rfl (by kernel_rfl) (by kernel_rfl) (by kernel_rfl) (fun _ _ _ h => h) (Or.inl ⟨by rfl, ?_⟩) (by assumption) ?_
    rotate_left
    · intro w hSw; (try dsimp only at hSw); have z4 := (id hSw : Blk _ _ _ _).cell 4; have z5 := (id hSw : Blk _ _ _ _).cell 5; have z7 := (id hSw : Blk _ _ _ _).cell 7; simp only [List.getElem?_cons_zero, List.getElem?_cons_succ] at z4 z5 z7; clear hSw; first | (go_simp; done) | (go_simp; with_reducible rfl)
    try simp only [Act.put, List.setIfInBounds_toArray, List.set_cons_zero, List.set_cons_succ]
    refine take1 (i := 7) (v := ?_) (some 30) rfl rfl (by kernel_rfl) (by kernel_rfl) (by kernel_rfl) (fun _ _ _ h => h) (Or.inl ⟨by rfl, ?_⟩) (by assumption) ?_
    rotate_left
    · intro w hSw; (try dsimp only at hSw); have z4 := (id hSw : Blk _ _ _ _).cell 4; have z5 := (id hSw : Blk _ _ _ _).cell 5; have z7 := (id hSw : Blk _ _ _ _).cell 7; simp only [List.getElem?_cons_zero, List.getElem?_cons_succ] at z4 z5 z7; clear hSw; first | (go_simp; done) | (go_simp; with_reducible rfl)
    try simp only [Act.put, List.setIfInBounds_toArray, List.set_cons_zero, List.set_cons_succ]
    refine take1 (i := 8) (v := ?_) (some 31) rfl rfl (by kernel_rfl) (by kernel_rfl) (by kernel_rfl) (fun _ _ _ h => h) (Or.inl ⟨by rfl, ?_⟩) (by assumption) ?_
    rotate_left
    · intro w hSw; (try dsimp only at hSw); have z4 := (id hSw : Blk _ _ _ _).cell 4; have z5 := (id hSw : Blk _ _ _ _).cell 5; have z7 := (id hSw : Blk _ _ _ _).cell 7; simp only [List.getElem?_cons_zero, List.getElem?_cons_succ] at z4 z5 z7; clear hSw; first | (go_simp; done) | (go_simp; with_reducible rfl)
    try simp only [Act.put, List.setIfInBounds_toArray, List.set_cons_zero, List.set_cons_succ]
    refine take1 (i := 9) (v := ?_) (some 32) rfl rfl (by kernel_rfl) (by kernel_rfl) (by kernel_rfl) (fun _ _ _ h => h) (Or.inl ⟨by rfl, ?_⟩) (by assumption) ?_
    rotate_left
    · intro w hSw; (try dsimp only at hSw); have z4 := (id hSw : Blk _ _ _ _).cell 4; have z5 := (id hSw : Blk _ _ _ _).cell 5; have z7 := (id hSw : Blk _ _ _ _).cell 7; simp only [List.getElem?_cons_zero, List.getElem?_cons_succ] at z4 z5 z7; clear hSw; first | (go_simp; done) | (go_simp; with_reducible rfl)
    try simp only [Act.put, List.setIfInBounds_toArray, List.set_cons_zero, List.set_cons_succ]
    refine take1 (i := 10) (v := ?_) (some 33) rfl rfl (by kernel_rfl) (by kernel_rfl) (by kernel_rfl) (fun _ _ _ h => h) (Or.inl ⟨by rfl, ?_⟩) (by assumption) ?_
    rotate_left
    · intro w hSw; (try dsimp only at hSw); have z4 := (id hSw : Blk _ _ _ _).cell 4; have z5 := (id hSw : Blk _ _ _ _).cell 5; have z7 := (id hSw : Blk _ _ _ _).cell 7; simp only [List.getElem?_cons_zero, List.getElem?_cons_succ] at z4 z5 z7; clear hSw; first | (go_simp; done) | (go_simp; with_reducible rfl)
    try simp only [Act.put, List.setIfInBounds_toArray, List.set_cons_zero, List.set_cons_succ]
    refine take1 (i := 11) (v := ?_) (some 34) rfl rfl (by kernel_rfl) (by kernel_rfl) (by kernel_rfl) (fun _ _ _ h => h) (Or.inl ⟨by rfl, ?_⟩) (by assumption) ?_
    rotate_left
    · intro w hSw; (try dsimp only at hSw); have z4 := (id hSw : Blk _ _ _ _).cell 4; have z5 := (id hSw : Blk _ _ _ _).cell 5; have z7 := (id hSw : Blk _ _ _ _).cell 7; simp only [List.getElem?_cons_zero, List.getElem?_cons_succ] at z4 z5 z7; clear hSw; first | (go_simp; done) | (go_simp; with_reducible rfl)
    try simp only [Act.put, List.setIfInBounds_toArray, List.set_cons_zero, List.set_cons_succ]
    refine take1 (i := 12) (v := ?_) (some 35) rfl rfl (by kernel_rfl) (by kernel_rfl) (by kernel_rfl) (fun _ _ _ h => h) (Or.inl ⟨by rfl, ?_⟩) (by assumption) ?_
    rotate_left
    · intro w hSw; (try dsimp only at hSw); have z4 := (id hSw : Blk _ _ _ _).cell 4; have z5 := (id hSw : Blk _ _ _ _).cell 5; have z7 := (id hSw : Blk _ _ _ _).cell 7; simp only [List.getElem?_cons_zero, List.getElem?_cons_succ] at z4 z5 z7; clear hSw; first | (go_simp; done) | (go_simp; with_reducible rfl)
    try simp only [Act.put, List.setIfInBounds_toArray, List.set_cons_zero, List.set_cons_succ]
    refine take1 (i := 13) (v := ?_) (some 36) rfl rfl (by kernel_rfl) (by kernel_rfl) (by kernel_rfl) (fun _ _ _ h => h) (Or.inl ⟨by rfl, ?_⟩) (by assumption) ?_
    rotate_left
    · intro w hSw; (try dsimp only at hSw); have z4 := (id hSw : Blk _ _ _ _).cell 4; have z5 := (id hSw : Blk _ _ _ _).cell 5; have z7 := (id hSw : Blk _ _ _ _).cell 7; simp only [List.getElem?_cons_zero, List.getElem?_cons_succ] at z4 z5 z7; clear hSw; first | (go_simp; done) | (go_simp; with_reducible rfl)
    try simp only [Act.put, List.setIfInBounds_toArray, List.set_cons_zero, List.set_cons_succ]
    refine take1 (i := 14) (v := ?_) (some 37) rfl rfl (by kernel_rfl) (by kernel_rfl) (by kernel_rfl) (fun _ _ _ h => h) (Or.inl ⟨by rfl, ?_⟩) (by assumption) ?_
    rotate_left
    · intro w hSw; (try dsimp only at hSw); have z4 := (id hSw : Blk _ _ _ _).cell 4; have z5 := (id hSw : Blk _ _ _ _).cell 5; have z7 := (id hSw : Blk _ _ _ _).cell 7; simp only [List.getElem?_cons_zero, List.getElem?_cons_succ] at z4 z5 z7; clear hSw; first | (go_simp; done) | (go_simp; with_reducible rfl)
    try simp only [Act.put, List.setIfInBounds_toArray, List.set_cons_zero, List.set_cons_succ]
    refine take1 (i := 15) (v := ?_) (some 38) rfl rfl (by kernel_rfl) (by kernel_rfl) (by kernel_rfl) (fun _ _ _ h => h) (Or.inl ⟨by rfl, ?_⟩) (by assumption) ?_
    rotate_left
    · intro w hSw; (try dsimp only at hSw); have z4 := (id hSw : Blk _ _ _ _).cell 4; have z5 := (id hSw : Blk _ _ _ _).cell 5; have z7 := (id hSw : Blk _ _ _ _).cell 7; simp only [List.getElem?_cons_zero, List.getElem?_cons_succ] at z4 z5 z7; clear hSw; first | (go_simp; done) | (go_simp; with_reducible rfl)
    try simp only [Act.put, List.setIfInBounds_toArray, List.set_cons_zero, List.set_cons_succ]
    refine take1 (i := 16) (v := ?_) (some 39) rfl rfl (by kernel_rfl) (by kernel_rfl) (by kernel_rfl) (fun _ _ _ h => h) (Or.inl ⟨by rfl, ?_⟩) (by assumption) ?_
    rotate_left
    · intro w hSw; (try dsimp only at hSw); have z4 := (id hSw : Blk _ _ _ _).cell 4; have z5 := (id hSw : Blk _ _ _ _).cell 5; have z7 := (id hSw : Blk _ _ _ _).cell 7; simp only [List.getElem?_cons_zero, List.getElem?_cons_succ] at z4 z5 z7; clear hSw; first | (go_simp; done) | (go_simp; with_reducible rfl)
    try simp only [Act.put, List.setIfInBounds_toArray, List.set_cons_zero, List.set_cons_succ]
    refine wpAnyH_ready (rs := [17]) (by kernel_rfl) (by simp) ?_
    refine AllReadyH.cons rfl (fun K hK => ?_) AllReadyH.nil
    go_simp
    refine hK.out _ _ ?_ (fun hHeld2 => ?_)
    · (try dsimp only); exact Blk.far hHeld hgl _
    clear hK K hHeld
    try simp only [Act.put, List.setIfInBounds_toArray, List.set_cons_zero, List.set_cons_succ]
    have hHeld := hHeld2; clear hHeld2
    refine take1 (i := 18) (v := ?_) (some 40) rfl rfl (by kernel_rfl) (by kernel_rfl) (by kernel_rfl) (fun _ _ _ h => h) (Or.inl ⟨by rfl, ?_⟩) (by assumption) ?_
    rotate_left
    · intro w hSw; (try dsimp only at hSw); have z4 := (id hSw : Blk _ _ _ _).cell 4; have z5 := (id hSw : Blk _ _ _ _).cell 5; have z7 := (id hSw : Blk _ _ _ _).cell 7; simp only [List.getElem?_cons_zero, List.getElem?_cons_succ] at z4 z5 z7; clear hSw; first | (go_simp; done) | (go_simp; with_reducible rfl)
    try simp only [Act.put, List.setIfInBounds_toArray, List.set_cons_zero, List.set_cons_succ]
    refine wpAnyH_ready (rs := [19]) (by kernel_rfl) (by simp) ?_
    refine AllReadyH.cons rfl (fun K hK => ?_) AllReadyH.nil
    go_simp
    refine hK.out _ _ ?_ (fun hHeld2 => ?_)
    · (try dsimp only); exact Blk.far hHeld hgr _
    clear hK K hHeld
    try simp only [Act.put, List.setIfInBounds_toArray, List.set_cons_zero, List.set_cons_succ]
    have hHeld := hHeld2; clear hHeld2
    refine wpAnyH_done (by kernel_rfl) ?_ _
    have h5 := ((Hst.out.setLev q starts.length).setRea q r).keep (Below.refl _ _).drew
    have b5 : Below B w (((W.setCell ⟨gl, q, none⟩ (.int .i64 starts.length)).setCell ⟨gr, q, none⟩ (.int .i64 r)).drew) := ((hbw.setCell (Hst.out.ge 2 gl rfl) _).setCell (Hst.out.ge 3 gr rfl) _).drew
    obtain ⟨W5, hW5⟩ : ∃ W5, W5 = (((W.setCell ⟨gl, q, none⟩ (.int .i64 starts.length)).setCell ⟨gr, q, none⟩ (.int .i64 r)).drew) := ⟨_, rfl⟩
    rw [← hW5] at h5 b5 ⊢
    clear hW5 hHeld hcl hcr hlf hrf Hst hsv hbw H
    obtain ⟨lev1, hv1⟩ : ∃ v1, v1 = lev.set q (starts.length : Int) := ⟨_, rfl⟩
    obtain ⟨rea1, hv2⟩ : ∃ v1, v1 = rea.set q r := ⟨_, rfl⟩
    rw [← hv1, ← hv2] at h5
    have Hv2 := hide hv1
    have Hv3 := hide hv2
    clear hv1 hv2
    obtain ⟨f0, f1, f2, f3, f4, f5, f6, f7⟩ := h5.facts
    have hgl5 := h5.blk.lt
    obtain ⟨i0, hi0, hz0, hz1, hz2⟩ := info_parts Try.intInfo
    have hB5 : B ≤ W5.heap.size := by have := h5.ge 0 g rfl; omega
    have H5 := hide h5
    have B5 := hide b5
    clear h5 b5
    go_wp2_with
      (at_builtin
       refine wpList_pushA rfl _ _ 22 rfl B 3 i0 (.int .i64 0) 1 8 Try.underlying22 hi0 hz0 hz1 hz2 rfl (by decide) _ _ _ rfl H5.out.trl [.int .i64 x] rfl (by intro u hu; simp at hu; subst hu; rfl) rfl (by omega) (by omega) hB5 ?_
       intro O oc w6 hown6 hg6 hat6
       obtain ⟨hp6, hb6⟩ := H5.out.pushT hown6 hg6 hat6
       have hblk6 := (H5.out.blk.alloc (.cells #[.int .i64 x] 3)).grown hg6 (fun e => by
         have := H5.out.ap 4 0 g (by show blkO T = some g; rw [← own_blkO]; exact e.symm) rfl
         omega)
       have c6 := hblk6.cell 6
       have c6f := hblk6.frozen 6
       have c6l := hblk6.lt
       simp only [List.getElem?_cons_zero, List.getElem?_cons_succ] at c6
       have Hp6 := hide hp6
       have Hb6 := hide hb6
       clear hown6 hg6 hat6 hp6 hb6 hblk6 f0 f1 f2 f3 f4 f5 f6 f7)
    go_end0
    have e1 := Hv1.out
    have e2 := Hv2.out
    have e3 := Hv3.out
    subst e1 e2 e3
    exact ⟨rfl, B5.out.trans Hb6.out, O, oc, Hp6.out⟩
end Go.Proofs.Ytnfeknfakkdbhaa
