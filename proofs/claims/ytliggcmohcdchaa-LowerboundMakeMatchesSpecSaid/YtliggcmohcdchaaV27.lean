/- What the law of made tables' costs asks for, part 27: Lo4 Lo5 Lo6. -/
import Derived.Test.YtliggcmohcdchaaV1
import Derived.Test.YtliggcmohcdchaaV2
import Derived.Test.YtliggcmohcdchaaV3
import Derived.Test.YtliggcmohcdchaaV4
import Derived.Test.YtliggcmohcdchaaV5
import Derived.Test.YtliggcmohcdchaaV6
import Derived.Test.YtliggcmohcdchaaV7
import Derived.Test.YtliggcmohcdchaaV8
import Derived.Test.YtliggcmohcdchaaV13
import Derived.Test.YtliggcmohcdchaaV15
import Derived.Test.YtliggcmohcdchaaV16
import Derived.Test.YtliggcmohcdchaaV17
import Derived.Test.YtliggcmohcdchaaV18
import Derived.Test.YtliggcmohcdchaaV19
import Derived.Test.YtliggcmohcdchaaV20
import Derived.Test.YtliggcmohcdchaaV26
import Derived.BigQuiet
import Derived.Deep.AppendLies
import Derived.Deep.DeepCutAuto
import Derived.Deep.Draws
import Derived.Deep.Fields
import Derived.Deep.LoopGhost
import Derived.Deep.QuietTactic
import Derived.Deep.RegionHeld3
import Derived.Deep.Slices
import Derived.DeepKeys4
import Derived.Ground.Names2Prog
import Derived.Ground.SlgnProg
import Derived.Ground.SlsfProg
import Derived.IntWalk
import Derived.Laws.AppendOwnNone
import Derived.Laws.BitsAllLaws
import Derived.Laws.OwnMore
import Derived.Lib.Hide
import Derived.Lib.SlicesCompact
import Derived.LoopIn
import Derived.LoopNIn
import Derived.Maps.AppendAt
import Derived.Maps.OwnIn
import Derived.Maps.OwnOps
import Derived.Maps.OwnSet
import Derived.OrdersHeld
import Derived.OrdersIn
import Derived.OwnWalkIn
import Derived.RangeFuncBound
import Derived.RangeFuncCalls
import Derived.RangeFuncLeaves
import Derived.RangeFuncNested
import Derived.Shelf.Abstract
import Derived.Shelf.RegionOpen
import Derived.Shelf.Slices.Cells
import Derived.Shelf.Slices.Clone
import Derived.Shelf.Slices.CompactI
import Derived.Shelf.Slices.Empties
import Derived.Shelf.Slices.In.SortNone
import Derived.Shelf.Slices.SearchI
import Derived.Shelf.Sort.Plain
import Derived.Sort.OwnSortedInts
import Derived.StillTail
import Derived.StillTailTactics
import Derived.TacticsInMore
import Derived.Test.YtliggcmohcdchaaProg
import Derived.WalkKit
namespace Go.Proofs.Ytliggcmohcdchaa
set_option linter.unusedVariables false
set_option linter.unusedSimpArgs false
open Go.RowKit Go.Shelf Go.Maps
attribute [local go_sem] Oper.semAt_some
section
variable {F : Fence} {P : Program}
theorem calm_nil {o : Oper} {x : Operand} (ho : o.op = .nilCheck x) : CalmO F P o := by
  refine ⟨fun ρ w f hf => (by simp only [Oper.about, ho] at hf; cases hf), fun ρ => Oper.semAt_plain F _ _ (by rw [ho]; intro c h; cases h), fun ρ w r w' h => ?_⟩
  unfold execOp at h
  simp only [ho] at h
  split at h
  · simp [go_sem, runtimePanic] at h
  · simp [go_sem, runtimePanic] at h
  · simp [go_sem, runtimePanic] at h
  · split at h
    · simp [go_sem, runtimePanic] at h
    · rw [Sem.run_bind] at h
      generalize (Sem.run P program w) = r0 at h
      cases r0 with
      | halt y w2 => simp [Result.andThen] at h
      | ok p w2 =>
        simp only [Result.andThen] at h
        rw [Sem.run_bind] at h
        generalize (Sem.run P _ w2) = r1 at h
        cases r1 with
        | halt y w3 => simp [Result.andThen] at h
        | ok q w3 =>
          simp only [Result.andThen] at h
          split at h
          · simp [go_sem, unsupported] at h
          · simp [go_sem] at h
            exact .inl ⟨_, h.1.symm⟩
    · simp [go_sem] at h
      exact .inl ⟨_, h.1.symm⟩
  · simp [go_sem] at h
    exact .inl ⟨_, h.1.symm⟩
theorem calm_min {o : Oper} {args : Array Operand} {tys : Array TypeId} (ho : o.op = .call { callee := .builtin .min, args := args, argTypes := tys }) : CalmO F P o := by
  refine ⟨fun ρ w f hf => ?_, fun ρ => Oper.semAt_plain F _ _ (by rw [ho]; intro c h; cases h), fun ρ w x w' h => ?_⟩
  · unfold Oper.about at hf
    rw [ho] at hf
    simp [resolve, go_sem] at hf
  · unfold execOp at h
    simp only [ho, resolve, invoke, builtin, Sem.run_bind, Sem.run_pure, Result.andThen_ok] at h
    cases hr : (Builtin.min_ tys o.type (Array.map ρ args)).run P w with
    | ok v w2 =>
      rw [hr] at h
      simp only [Result.andThen] at h
      injection h with h1 h2
      exact .inl ⟨v, h1.symm⟩
    | halt y w2 =>
      rw [hr] at h
      simp [Result.andThen] at h
def moreB (o : Oper) : Bool := calmB o || match o.op with | .nilCheck _ => true | .binOp _ _ _ _ _ => true | .store _ _ _ => true | .call { callee := .builtin .min, args := _, argTypes := _ } => true | _ => false
theorem calm_more {o : Oper} (h : moreB o = true) : CalmO F P o := by
  unfold moreB at h
  rw [Bool.or_eq_true] at h
  rcases h with h | h
  · exact calm_of h
  · split at h
    · rename_i x ho; exact calm_nil ho
    · rename_i op t x y yt ho
      exact calm_value (fun ρ => do eqGuard op t x y (ρ x) (ρ y); binOp op t (ρ x) (ρ y)) (fun ρ => by simp only [execOp, ho]) (fun ρ w => by simp only [Oper.about, ho]) (by rw [ho]; intro c h; cases h)
    · rename_i t a x ho
      exact calm_skip (fun ρ => Instr.storeAt t (ρ a) (ρ x)) (fun ρ => by simp only [execOp, ho]) (fun ρ w => by simp only [Oper.about, ho]) (by rw [ho]; intro c h; cases h)
    · rename_i args tys ho; exact calm_min ho
    · cases h
end
theorem tabV_get (l : List Ent) (w : Nat) : (tabV l w).getD (.int .i64 0) = .int .i64 (bW l w) := by
  unfold tabV bW
  cases tabM l w <;> rfl
theorem sumW_range {N : Nat} {l : List Ent} (h : TabOk N l) : ∀ (xs : List (Nat × Int × Nat)), (∀ x ∈ xs, 0 ≤ x.2.1) → 0 ≤ sumW l xs ∧ sumW l xs ≤ infC := by
  have key : ∀ (xs : List (Nat × Int × Nat)) (n : Int), 0 ≤ n → n ≤ infC → (∀ x ∈ xs, 0 ≤ x.2.1) → 0 ≤ xs.foldl (lstW l) n ∧ xs.foldl (lstW l) n ≤ infC := by
    intro xs
    induction xs with
    | nil => intro n h1 h2 _; exact ⟨h1, h2⟩
    | cons x xs ih =>
      intro n h1 h2 h3
      rw [List.foldl_cons]
      have hx := h3 x List.mem_cons_self
      have hb := bW_range h x.2.2
      refine ih _ ?_ ?_ fun y hy => h3 y (List.mem_cons_of_mem _ hy)
      · unfold lstW; omega
      · unfold lstW; omega
  exact fun xs hx => key xs infC (by simp [infC]) (Int.le_refl _) hx
/-- what holds between two steps: the sum's box, and what was there -/
def LsJ (w : World) (l : List Ent) {ms : List Mk} {s : Nat} (Bn gv Bp Bs : Nat) (pre : List (Stp ms s)) (W : World) : Prop :=
  Below w.heap.size w W ∧ Blk 3 W Bn [.int .i64 (sumW l (pre.map (·.1)))] ∧ Blk 68 W Bp [.pointer (some ⟨gv, 0, none⟩)] ∧ Bs < W.heap.size
theorem LsJ.own {w : World} {l : List Ent} {ms : List Mk} {s : Nat} {Bn gv Bp Bs BL : Nat} (hB : w.heap.size ≤ BL) : OwnFrom BL (LsJ w l (ms := ms) (s := s) Bn gv Bp Bs) := by
  rintro pre X Y row ⟨h1, h2, h3, h4⟩ hg hr
  exact ⟨h1.grown hg h1.size (fun k e => by have := (hr k e).1; omega), h2.grown hg (turn_ne hr h2.cells), h3.grown hg (turn_ne hr h3.cells), Nat.lt_of_lt_of_le h4 hg.size⟩
theorem LsJ.keep {w W W' : World} {l : List Ent} {ms : List Mk} {s : Nat} {Bn gv Bp Bs : Nat} {pre : List (Stp ms s)} (h : LsJ w l Bn gv Bp Bs pre W) (hb : Below W.heap.size W W') : LsJ w l Bn gv Bp Bs pre W' :=
  ⟨h.1.trans (hb.mono h.1.size), h.2.1.keep hb, h.2.2.1.keep hb, Nat.lt_of_lt_of_le h.2.2.2 hb.size⟩
set_option maxRecDepth 100000 in
set_option maxHeartbeats 6400000 in
theorem least_ct (gv s0 gl : Nat) (ms : List Mk) (N : Nat) (l : List Ent) (s : Nat) (w : World) (h : ValsR w gv s0 gl ms l) (htab : TabOk N l) (hs : s < 4294967296) :
    Calls Try.prog 40 #[.pointer (some ⟨gv, 0, none⟩), .int .u32 s] w (Gives w (.int .i64 (leastW gl ms l s))) := by
  obtain ⟨gW, mb, cnt, hv, hWr, hm⟩ := h.at_
  have hgoal := fun W hW => Goal_ct gW s0 gl ms s W (hWr.keep hW) hs
  obtain ⟨v1, hv1⟩ : ∃ z, z = goalW gl s := ⟨_, rfl⟩
  obtain ⟨R, hR⟩ : ∃ z, z = leastW gl ms l s := ⟨_, rfl⟩
  rw [← hR]
  unfold leastW at hR
  rw [← hv1] at hR
  simp only [← hv1] at hgoal
  have HR := hide hR
  have Hgoal := hide hgoal
  have Hv := hide hv
  have HW := hide hWr
  have Hm := hide hm
  clear h hR hgoal hv hWr hm hv1
  have hb0 := (Below.refl w.heap.size w).alloc (Nat.le_refl _) (.cells #[.pointer (some ⟨gv, 0, none⟩)] 68)
  refine (callsIn_wide (n := 8)).1 (callsIn_of_wp_marks Try.func40 rfl trivial (wpIn_wide.2 ?_) rfl)
  simp only [Try.ntmps40, List.size_toArray, List.length_cons, List.length_nil, Nat.reduceAdd, Nat.reduceSub, Array.replicate_succ, Array.replicate_zero, List.push_toArray, List.append_toArray, List.nil_append, List.cons_append]
  go_upto_region 1 with (fail)
  have hp := Blk.new w 68 [.pointer (some ⟨gv, 0, none⟩)]
  have hvl := Hv.out.lt
  obtain ⟨w0, hw0⟩ : ∃ W, W = w.alloc (.cells #[.pointer (some ⟨gv, 0, none⟩)] 68) := ⟨_, rfl⟩
  rw [← hw0] at hb0 hp ⊢
  clear hw0
  have Hb0 := hide hb0
  have HP := hide hp
  have p0 := hp.cell 0
  have v0 := (Hv.out.keep hb0).cell 0
  simp only [List.getElem?_cons_zero] at p0 v0
  have pl := hp.lt
  clear hb0 hp
  go_wp2_with fail
  with_reducible refine (Hgoal.out _ Hb0.out).mono ?_
  rintro e w1 ⟨rfl, hq⟩
  have Hb1 := hide (Hb0.out.trans (hq.below _))
  replace HP := hide (HP.out.qt hq)
  clear hq p0 v0 pl
  have p0 := HP.out.cell 0
  have v0 := (Hv.out.keep Hb1.out).cell 0
  simp only [List.getElem?_cons_zero] at p0 v0
  have pl := HP.out.lt
  cases v1 with
  | true =>
    go_wp2_with fail
    refine leaves_marks [] w1 (fun D hD => by cases hD) List.nodup_nil fun W' hc => ?_
    refine ⟨.int .i64 0, by simp [results, Try.results40, go_sem], ?_⟩
    exact ⟨ret_int (by rw [HR.out]; rfl), Hb1.out.trans (hc.below (fun i hi => by cases hi) Hb1.out.size)⟩
  | false =>
    have hR2 := HR.out
    rw [if_neg (by simp)] at hR2
    replace HR := hide hR2
    clear hR2
    go_upto_region 4 with (fail)
    have hn0 := Blk.new w1 3 [.int .i64 1000000000]
    have hbn := (Below.refl w1.heap.size w1).alloc (Nat.le_refl _) (.cells #[.int .i64 1000000000] 3)
    have hw1s := Hb1.out.size
    obtain ⟨w2, hw2⟩ : ∃ W, W = w1.alloc (.cells #[.int .i64 1000000000] 3) := ⟨_, rfl⟩
    rw [← hw2] at hn0 hbn ⊢
    clear hw2
    replace HP := hide (HP.out.keep hbn)
    have Hb2 := hide (Hb1.out.trans (hbn.mono hw1s))
    have Hn := hide hn0
    clear hbn hn0 p0 v0
    have hBp : w.heap.size < w1.heap.size := pl
    generalize hBn : w1.heap.size = Bn at Hn hBp ⊢
    have p0 := HP.out.cell 0
    have v0 := (Hv.out.keep Hb2.out).cell 0
    simp only [List.getElem?_cons_zero] at p0 v0
    clear pl
    have pl := HP.out.lt
    go_wp2_with (go_at_call 74; refine (SSteps_ct gW s _).mono ?_; rintro e w' ⟨rfl, rfl⟩)
    have hz2 := Hb2.out.size
    have hBs := Blk.new (w2.alloc (.cells #[.pointer (some ⟨gW, 0, none⟩)] 71)) 75 [.int .u32 s]
    have hBw := (Blk.new w2 71 [.pointer (some ⟨gW, 0, none⟩)]).alloc (.cells #[.int .u32 s] 75)
    have hbL := below_two w2 (.cells #[.pointer (some ⟨gW, 0, none⟩)] 71) (.cells #[.int .u32 s] 75)
    have hzL : ((w2.alloc (.cells #[.pointer (some ⟨gW, 0, none⟩)] 71)).alloc (.cells #[.int .u32 s] 75)).heap.size = w2.heap.size + 1 + 1 := by simp only [World.size_alloc]
    simp only [World.size_alloc] at hBs
    obtain ⟨WL, hWL⟩ : ∃ W, W = (w2.alloc (.cells #[.pointer (some ⟨gW, 0, none⟩)] 71)).alloc (.cells #[.int .u32 s] 75) := ⟨_, rfl⟩
    rw [← hWL] at hBs hBw hbL hzL ⊢
    clear hWL
    have cBs := hBs.cell 0
    have cBw := hBw.cell 0
    simp only [List.getElem?_cons_zero] at cBs cBw
    have hbW := Hb2.out.trans (hbL.mono hz2)
    have hJ0 : LsJ w l (ms := ms) (s := s) Bn gv w.heap.size (w2.heap.size + 1) [] WL := ⟨hbW, Hn.out.keep hbL, HP.out.keep hbL, by omega⟩
    have hWr := HW.out
    have HbW := hide hbW
    have HJ0 := hide hJ0
    clear hBs hBw hbL hJ0 p0 v0 pl hbW
    refine (wpIn_wide (n := 8)).1 (wpIn_rangeFunc_ownH (w := WL) rfl (by omega) (gf := 106) (lb := #[.pointer (some ⟨w2.heap.size, 0, none⟩), .pointer (some ⟨w2.heap.size + 1, 0, none⟩)]) rfl trivial (enters_of Try.func106 (by kernel_rfl) rfl)
      (steps_stops Fence.wide 7 trivial rfl (by omega) w2.heap.size (w2.heap.size + 1) gW s0 gl s ms w WL hWr hs HbW.out cBw cBs) kpS_t (kpS_b (by omega) (by omega)) (Below.refl _ _) (fun _ => rfl)
      (LsJ w l (ms := ms) (s := s) Bn gv w.heap.size (w2.heap.size + 1)) (fun _ _ _ => False) (LsJ.own (by omega)) (fun _ _ _ _ _ hs _ _ => hs) HJ0.out
      (StpBox (fun bx sv => #[.pointer (some ⟨gv, 0, none⟩), .int .u32 s, .pointer (some ⟨w.heap.size, 0, none⟩), undef, .int .i64 0, .pointer (some ⟨Bn, 0, none⟩), bx, .pointer (some ⟨gv, 0, none⟩), .pointer (some ⟨gv, 0, none⟩), .pointer (some ⟨gv, 0, none⟩), .pointer (some ⟨gW, 0, none⟩), .int .u32 s, .bool false, .pointer (some ⟨gv, 0, none⟩), .pointer (some ⟨gv, 0, none⟩), .pointer (some ⟨gv, 0, none⟩), .pointer (some ⟨gW, 0, none⟩), .int .u32 s, .func (.func 106) #[] #[.pointer (some ⟨w2.heap.size, 0, none⟩), .pointer (some ⟨w2.heap.size + 1, 0, none⟩)], sv, undef, undef, undef, undef, undef, undef, undef, undef, undef, undef, undef, undef, undef])) StpBox.own ?assign ?body ?done ?stop)
    case assign =>
      intro l0 pre x W K hi hK
      have HK := hide hK
      have Hi := hide hi
      clear hK hi
      obtain ⟨⟨xi, xc, xt⟩, hx⟩ := x
      unfold encStp stpV
      dsimp only
      gi_wp2
      exact HK.out _ _ ((KeepsOthers.alloc _ _).from _) ⟨(Below.refl _ _).alloc (Hi.out.1.size) _, Below.heap_alloc _ _ _ Hi.out.2.2.2⟩ (Hi.out.keep ((Below.refl _ _).alloc (Nat.le_refl _) _)) ⟨W.heap.size, Blk.new _ _ _, rfl⟩
    case body =>
      rintro l0 pre ⟨⟨xi, xc, xt⟩, hx⟩ a' W hl ⟨r, hr⟩ ⟨j1, j2, j3, j4⟩ ⟨Bx, hBx, rfl⟩ hlt
      dsimp only at hBx
      obtain ⟨x1, x2, x3, _⟩ := stepsW_ok ms 0 s hs HW.out.ok _ hx
      dsimp only at x1 x2 x3
      have cX1 := hBx.cell 1
      have cX2 := hBx.cell 2
      have cN := j2.cell 0
      have fN := j2.frozen 0
      have lN := j2.lt
      have cP := j3.cell 0
      have cV := (Hv.out.below j1 hvl).cell 1
      simp only [List.getElem?_cons_zero, List.getElem?_cons_succ] at cX1 cX2 cN cP cV
      have hz3 : ∀ w : World, (zeroValue 3).run Try.prog w = .ok (.int .i64 0) w := fun w => by kernel_rfl
      have hlook := fun W' e => (Hm.out.keep j1).look1 (int_keyed Try.underlying75) (T := 72) (E := 3) Try.underlying72 hz3 (keyW Try.underlying75 x1) W' e
      simp only [tabV_get, encW] at hlook
      have hlook1 := hlook W.drew rfl
      obtain ⟨b1, b2⟩ := bW_range htab xt
      unfold infC at b2
      have hsn := sumW_snoc l (pre.map (·.1)) (xi, xc, xt)
      dsimp only at hsn
      have hn0 := sumW_range htab (pre.map (·.1)) (fun y hy => by
        obtain ⟨z, hz, rfl⟩ := List.mem_map.1 hy
        exact (stepsW_ok ms 0 s hs HW.out.ok _ z.2).2.1)
      unfold infC at hn0
      obtain ⟨vt, hvt⟩ : ∃ z, z = bW l xt := ⟨_, rfl⟩
      obtain ⟨vs, hvs⟩ : ∃ z, z = sumW l (pre.map (·.1)) := ⟨_, rfl⟩
      rw [← hvt] at hlook1 b1 b2 hsn
      rw [← hvs] at cN hsn hn0
      have J1 := hide j1
      have J2 := hide j2
      have J3 := hide j3
      have HBx := hide hBx
      have Hsn := hide hsn
      clear j1 j2 j3 hBx hlook hsn hvt hvs hz3
      dsimp only [stpV]
      gi_wp2
      refine wpIn_still_tail 12 (by kernel_rfl) ?_ (fun o ho => calm_more (List.all_eq_true.1 (by kernel_rfl) o ho)) (by kernel_rfl) ?_
      · rintro ⟨_, _, h⟩
        exact h
      simp only [List.take_succ_cons, List.take_zero, List.drop_succ_cons, List.drop_zero]
      repeat still_step
      refine wpStill_nil ?_
      go_wp2
      have hBnl := Hn.out.lt
      have hww : w.heap.size ≤ Bn := by omega
      have heq : (W.setCell ⟨Bn, 0, none⟩ (.int .i64 (min vs (xc + vt)))).drew = W.drew.setCell ⟨Bn, 0, none⟩ (.int .i64 (min vs (xc + vt))) := rfl
      rw [heq]
      have hq := (Qt.refl W).drew
      have hset := Chg.set W.drew Bn 0 (.int .i64 (min vs (xc + vt)))
      have hlow : Below w.heap.size W (W.drew.setCell ⟨Bn, 0, none⟩ (.int .i64 (min vs (xc + vt)))) := (Below.refl _ _).drew.setCell (p := ⟨Bn, 0, none⟩) hww _
      have hsz : W.heap.size ≤ (W.drew.setCell ⟨Bn, 0, none⟩ (.int .i64 (min vs (xc + vt)))).heap.size := by simp [World.setCell]
      refine ⟨⟨hsz, fun k o hk ho hc => ?_⟩, ⟨hlow, ?_⟩, J1.out.trans hlow, ?_, hset.blk (J3.out.qt hq) (by omega), by omega⟩
      · exact (hset.block k (Array.getElem?_eq_some_iff.1 ho).1 (by omega)).trans ho
      · exact hset.block _ j4 (by omega)
      · rw [List.map_append]
        show Blk _ _ _ [.int .i64 (sumW l (pre.map (·.1) ++ [(xi, xc, xt)]))]
        rw [Hsn.out]
        exact (J2.out.qt hq).set 0 _
    case done =>
      intro D ys W hD hys hJy hKD
      obtain ⟨j1, j2, j3, j4⟩ := hJy
      have cN := j2.cell 0
      have lN := j2.lt
      simp only [List.getElem?_cons_zero] at cN
      rw [hys] at cN
      have hR := HR.out
      rw [← hR] at cN
      have J1 := hide j1
      have HKD := hide hKD
      clear j1 j2 j3 hys hKD hR
      dsimp only
      go_wp2
      refine leaves_marks [D] W (fun E hE => by obtain rfl := List.mem_singleton.1 hE; exact HKD.out) (by simp) fun W' hc => ?_
      refine ⟨.int .i64 R, by simp [results, Try.results40, go_sem], rfl, ?_⟩
      exact J1.out.trans (hc.below (fun i hi => by obtain rfl := List.mem_singleton.1 hi; have := HbW.out.size; omega) J1.out.size)
    case stop =>
      intro D cc pre W _ _ h _
      exact h.elim
end Go.Proofs.Ytliggcmohcdchaa
namespace Go.Proofs.Ytliggcmohcdchaa
set_option linter.unusedVariables false
set_option linter.unusedSimpArgs false
open Go.RowKit Go.Maps
theorem takeH {P : Program} {md : Region.Mode} {ops : Array Oper} {Q : Exit → Act → World → Prop} {S : World → Prop} {i : Nat} {oi : Oper} {v : Value} {fuel : Nat} {listed : Array Bool} {a : Act} {w : World} (d : Option Tmp) (hi : ops[i]? = some oi) (hd : oi.dst = d)
    (hs : Region.noSelect ops = true) (hf : Region.free md ops listed i = true) (hr : (Region.ready md ops listed).contains i = true)
    (hQ : ∀ c a w, Q (.panic c) (a.put d v) w → Q (.panic c) a w) (hy : YieldsIf P ops S oi v a) (hS : S w)
    (h : wpAnyH P md ops Q S fuel (listed.setIfInBounds i true) (a.put d v) w) : wpAnyH P md ops Q S (fuel + 1) listed a w := by
  subst hd
  exact wpAnyH_take hi hs hf hr hQ hy hS h
/-- slices.IndexFunc: the first place where it holds -/
def firstQ {α : Type} (p : α → Bool) : Nat → List α → Int
  | _, [] => -1
  | k, x :: xs => if p x = true then k else firstQ p (k + 1) xs
theorem firstQ_sign {α : Type} (p : α → Bool) (k : Nat) (xs : List α) : decide (0 ≤ firstQ p k xs) = xs.any p := by
  induction xs generalizing k with
  | nil => simp [firstQ]
  | cons x xs ih =>
    unfold firstQ
    by_cases h : p x = true
    · simp [h]
    · rw [if_neg h, ih]
      simp [h]
/-- an entry's value is above the least sum -/
def aboveB (gl : Nat) (ms : List Mk) (l : List Ent) (e : Ent) : Bool := decide (leastW gl ms l (wordF e.st) < e.val)
set_option maxRecDepth 100000 in
set_option maxHeartbeats 3200000 in
theorem hold1_ct (gb gv s0 gl : Nat) (ms : List Mk) (N : Nat) (l : List Ent) (A1 : Option Addr) (n1 c1 : Nat) (e : Ent) (w : World) (h : ValsR w gv s0 gl ms l) (htab : TabOk N l) (hN : N ≤ 24) (hb : w.cell? ⟨gb, 0, none⟩ = some (.pointer (some ⟨gv, 0, none⟩)))
    (hr : Rd Enc.int w A1 n1 c1 e.st) (hset : setB N e.st = true) :
    Calls Try.prog 72 #[.agg #[.slice A1 n1 c1, .int .i64 e.val], .pointer (some ⟨gb, 0, none⟩)] w (Gives w (.bool (aboveB gl ms l e))) := by
  have hwl : wordF e.st < 4294967296 := word_lt (set_range hN hset)
  have hwd := fun W hb => Word_ct A1 n1 c1 e.st W (hr.keep hb) (set_range hN hset)
  have hls := fun W hW => least_ct gv s0 gl ms N l (wordF e.st) W (h.keep hW) htab hwl
  have ha : aboveB gl ms l e = decide (leastW gl ms l (wordF e.st) < e.val) := rfl
  rw [ha]
  obtain ⟨x, hx⟩ : ∃ x, x = wordF e.st := ⟨_, rfl⟩
  simp only [← hx] at hwd hls ⊢
  obtain ⟨y, hy⟩ : ∃ y, y = leastW gl ms l x := ⟨_, rfl⟩
  simp only [← hy] at hls ⊢
  have Hwd := hide hwd
  have Hls := hide hls
  have hbl := World.block_lt_of_cell? w _ hb
  have Hb := hide hb
  clear hx hy hwd hls h htab hr hset ha hb
  go_enter Try.func72, Try.ntmps72
  go_upto_region 1 with (fail)
  have hY := Blk.new w 38 [.slice A1 n1 c1, .int .i64 e.val]
  have hby := (Below.refl w.heap.size w).alloc (Nat.le_refl _) (.cells #[.slice A1 n1 c1, .int .i64 e.val] 38)
  obtain ⟨W1, hW1⟩ : ∃ W, W = w.alloc (.cells #[.slice A1 n1 c1, .int .i64 e.val] 38) := ⟨_, rfl⟩
  rw [← hW1] at hY hby ⊢
  clear hW1
  have hsz := hby.size
  have HW2 := hide (hby.drew)
  generalize w.heap.size = ge at hY ⊢
  have y0 := hY.cell 0
  have y1 := hY.cell 1
  simp only [List.getElem?_cons_zero, List.getElem?_cons_succ] at y0 y1
  have b0 := (hby.cell (p := ⟨gb, 0, none⟩) hbl).trans Hb.out
  have HY := hide hY
  clear hY hby
  refine wp_region_held_drew (S := (fun w' => w'.cell? ⟨ge, 0, none⟩ = some (.slice A1 n1 c1) ∧ w'.cell? ⟨ge, 1, none⟩ = some (.int .i64 e.val) ∧ w'.cell? ⟨gb, 0, none⟩ = some (.pointer (some ⟨gv, 0, none⟩)))) (by kernel_rfl) ?_ (fun hHeld => ?_)
  · (try dsimp only); exact ⟨y0, y1, b0⟩
  refine takeH (i := 0) (v := ?_) (some 4) rfl rfl (by kernel_rfl) (by kernel_rfl) (by kernel_rfl) (fun _ _ _ h => h) (Or.inl ⟨by rfl, ?_⟩) (by assumption) ?_
  rotate_left
  · intro w hSw; (try dsimp only at hSw); obtain ⟨s1, s2, s3⟩ := hSw; first | (go_simp; done) | (go_simp; with_reducible rfl)
  try simp only [Act.put, List.setIfInBounds_toArray, List.set_cons_zero, List.set_cons_succ]
  refine takeH (i := 1) (v := ?_) (some 5) rfl rfl (by kernel_rfl) (by kernel_rfl) (by kernel_rfl) (fun _ _ _ h => h) (Or.inl ⟨by rfl, ?_⟩) (by assumption) ?_
  rotate_left
  · intro w hSw; (try dsimp only at hSw); obtain ⟨s1, s2, s3⟩ := hSw; first | (go_simp; done) | (go_simp; with_reducible rfl)
  try simp only [Act.put, List.setIfInBounds_toArray, List.set_cons_zero, List.set_cons_succ]
  refine takeH (i := 2) (v := ?_) (some 6) rfl rfl (by kernel_rfl) (by kernel_rfl) (by kernel_rfl) (fun _ _ _ h => h) (Or.inl ⟨by rfl, ?_⟩) (by assumption) ?_
  rotate_left
  · intro w hSw; (try dsimp only at hSw); obtain ⟨s1, s2, s3⟩ := hSw; first | (go_simp; done) | (go_simp; with_reducible rfl)
  try simp only [Act.put, List.setIfInBounds_toArray, List.set_cons_zero, List.set_cons_succ]
  refine takeH (i := 3) (v := ?_) (some 7) rfl rfl (by kernel_rfl) (by kernel_rfl) (by kernel_rfl) (fun _ _ _ h => h) (Or.inl ⟨by rfl, ?_⟩) (by assumption) ?_
  rotate_left
  · intro w hSw; (try dsimp only at hSw); obtain ⟨s1, s2, s3⟩ := hSw; first | (go_simp; done) | (go_simp; with_reducible rfl)
  try simp only [Act.put, List.setIfInBounds_toArray, List.set_cons_zero, List.set_cons_succ]
  refine takeH (i := 4) (v := ?_) (some 8) rfl rfl (by kernel_rfl) (by kernel_rfl) (by kernel_rfl) (fun _ _ _ h => h) (Or.inl ⟨by rfl, ?_⟩) (by assumption) ?_
  rotate_left
  · intro w hSw; (try dsimp only at hSw); obtain ⟨s1, s2, s3⟩ := hSw; first | (go_simp; done) | (go_simp; with_reducible rfl)
  try simp only [Act.put, List.setIfInBounds_toArray, List.set_cons_zero, List.set_cons_succ]
  refine wpAnyH_ready (rs := [5]) (by kernel_rfl) (by simp) ?_
  refine AllReadyH.cons rfl (fun K hK => ?_) AllReadyH.nil
  go_simp
  with_reducible refine (Hwd.out W1.drew HW2.out).mono ?_
  rintro e1 w1 ⟨rfl, rfl⟩
  refine hK.out _ _ ?_ (fun hHeld2 => ?_)
  · (try dsimp only); exact ⟨y0, y1, b0⟩
  clear hK K hHeld
  try simp only [Act.put, List.setIfInBounds_toArray, List.set_cons_zero, List.set_cons_succ]
  have hHeld := hHeld2; clear hHeld2
  refine wpAnyH_ready (rs := [6]) (by kernel_rfl) (by simp) ?_
  refine AllReadyH.cons rfl (fun K hK => ?_) AllReadyH.nil
  go_simp
  with_reducible refine (Hls.out W1.drew HW2.out).mono ?_
  rintro e1 w2 ⟨rfl, hb2⟩
  have HB3 := hide (HW2.out.trans (hb2.mono HW2.out.size))
  have hY3 := (HY.out.qt (Qt.refl W1).drew).keep hb2
  clear y0 y1 b0
  have y0 := hY3.cell 0
  have y1 := hY3.cell 1
  simp only [List.getElem?_cons_zero, List.getElem?_cons_succ] at y0 y1
  have b0 := (HB3.out.cell (p := ⟨gb, 0, none⟩) hbl).trans Hb.out
  clear hY3 hb2
  refine hK.out _ _ ?_ (fun hHeld2 => ?_)
  · (try dsimp only); exact ⟨y0, y1, b0⟩
  clear hK K hHeld
  try simp only [Act.put, List.setIfInBounds_toArray, List.set_cons_zero, List.set_cons_succ]
  have hHeld := hHeld2; clear hHeld2
  refine takeH (i := 7) (v := ?_) (some 11) rfl rfl (by kernel_rfl) (by kernel_rfl) (by kernel_rfl) (fun _ _ _ h => h) (Or.inl ⟨by rfl, ?_⟩) (by assumption) ?_
  rotate_left
  · intro w hSw; (try dsimp only at hSw); obtain ⟨s1, s2, s3⟩ := hSw; first | (go_simp; done) | (go_simp; with_reducible rfl)
  try simp only [Act.put, List.setIfInBounds_toArray, List.set_cons_zero, List.set_cons_succ]
  refine takeH (i := 8) (v := ?_) (some 3) rfl rfl (by kernel_rfl) (by kernel_rfl) (by kernel_rfl) (fun _ _ _ h => h) (Or.inl ⟨by rfl, ?_⟩) (by assumption) ?_
  rotate_left
  · intro w hSw; (try dsimp only at hSw); obtain ⟨s1, s2, s3⟩ := hSw; first | (go_simp; done) | (go_simp; with_reducible rfl)
  try simp only [Act.put, List.setIfInBounds_toArray, List.set_cons_zero, List.set_cons_succ]
  refine wpAnyH_done (by kernel_rfl) ?_ _
  go_wp2_with fail
  go_ret
  exact ⟨rfl, HB3.out⟩
set_option maxRecDepth 100000 in
set_option maxHeartbeats 1600000 in
theorem IndexHold_ct (gb : Nat) (p : Ent → Bool) (B : Option Addr) (n c : Nat) (xs : List Ent) (w : World) (hx : Rd Enc.ent w B n c xs)
    (hf : ∀ (A1 : Option Addr) (n1 c1 : Nat) (x : Ent) (W : World), x ∈ xs → Below w.heap.size w W → Rd Enc.int W A1 n1 c1 x.st → Calls Try.prog 72 #[.agg #[.slice A1 n1 c1, .int .i64 x.val], .pointer (some ⟨gb, 0, none⟩)] W (Gives W (.bool (p x)))) :
    Calls Try.prog 105 #[.slice B n c, .func (.func 72) #[] #[.pointer (some ⟨gb, 0, none⟩)]] w (Gives w (.int .i64 (firstQ p 0 xs))) := by
  have hsm := hx.low
  have Hl := hide hx.len
  have Hx := hide hx
  have Hf := hide hf
  clear hf hx
  go_enter Try.func105, Try.ntmps105
  go_wp2
  go_loopw [8] (fun i wr => ∃ k : Nat, k ≤ n ∧ i = .int .i64 k ∧ Below w.heap.size w wr ∧ firstQ p 0 xs = firstQ p k (xs.drop k)) (fun i _ => n - (intOf i).toNat)
  case atStart => exact ⟨0, by omega, rfl, Below.refl _ _, by simp⟩
  case round =>
    obtain ⟨k, hk, rfl, hb, hrel⟩ := hrel
    by_cases hlt : k < n
    · obtain ⟨b, off, x, A1, n1, c1, rfl, hxx, g0, g1, r1, r2⟩ := (Hx.out.keep hb).ent hlt
      rw [drop_cons hxx] at hrel
      have Hfx := hide (Hf.out A1 n1 c1 x wr (List.mem_of_getElem? hxx) hb r1)
      have Hrel := hide hrel
      have Hb := hide hb
      obtain ⟨hv1, hv2⟩ := r2
      have hki : (k : Int) < (n : Int) := by omega
      clear hrel hxx r1 hb
      obtain ⟨b, hb⟩ : ∃ b, b = p x := ⟨_, rfl⟩
      rw [← hb] at Hfx
      have Hbb := hide hb
      clear hb
      go_wp2_with fail
      refine (Hfx.out).mono ?_
      rintro e w1 ⟨rfl, hb1⟩
      have Hb2 := hide (Hb.out.trans (hb1.mono Hb.out.size))
      clear hb1
      cases b with
      | true =>
        go_wp2
        go_ret
        exact ⟨ret_int (by rw [Hrel.out, firstQ, if_pos Hbb.out.symm]), Hb2.out⟩
      | false =>
        go_wp2
        go_roundw
        case rel => exact ⟨k + 1, by omega, by go_num, Hb2.out, by rw [Hrel.out, firstQ, if_neg (by rw [← Hbb.out]; simp)]⟩
        case measure => simp [intOf]; omega
    · have Hrel := hide hrel
      have Hb := hide hb
      clear hrel hb
      go_wp2
      go_ret
      refine ⟨ret_int ?_, Hb.out⟩
      rw [Hrel.out, List.drop_of_length_le (by rw [Hl.out]; omega), firstQ]
set_option maxHeartbeats 800000 in
theorem ContainsHold_ct (gb : Nat) (p : Ent → Bool) (B : Option Addr) (n c : Nat) (xs : List Ent) (w : World) (hx : Rd Enc.ent w B n c xs)
    (hf : ∀ (A1 : Option Addr) (n1 c1 : Nat) (x : Ent) (W : World), x ∈ xs → Below w.heap.size w W → Rd Enc.int W A1 n1 c1 x.st → Calls Try.prog 72 #[.agg #[.slice A1 n1 c1, .int .i64 x.val], .pointer (some ⟨gb, 0, none⟩)] W (Gives W (.bool (p x)))) :
    Calls Try.prog 71 #[.slice B n c, .func (.func 72) #[] #[.pointer (some ⟨gb, 0, none⟩)]] w (Gives w (.bool (xs.any p))) := by
  have Hi := hide (IndexHold_ct gb p B n c xs w hx hf)
  clear hf hx
  have hs := firstQ_sign p 0 xs
  obtain ⟨z, hz⟩ : ∃ z, z = firstQ p 0 xs := ⟨_, rfl⟩
  rw [← hz] at Hi hs
  have Hs := hide hs
  clear hz hs
  go_enter Try.func71, Try.ntmps71
  go_wp2_with fail
  refine Hi.out.mono ?_
  rintro e w1 ⟨rfl, hb⟩
  have Hb := hide hb
  clear hb
  go_wp2
  go_ret
  exact ⟨ret_bool Hs.out, Hb.out⟩
set_option maxHeartbeats 1600000 in
theorem hold_ct (gv s0 gl : Nat) (ms : List Mk) (N : Nat) (A : Option Addr) (n c : Nat) (l : List Ent) (w : World) (h : ValsR w gv s0 gl ms l) (htab : TabOk N l) (hN : N ≤ 24) (hl : Rd Enc.ent w A n c l) :
    Calls Try.prog 37 #[.pointer (some ⟨gv, 0, none⟩), .slice A n c] w (Gives w (.bool (!l.any (aboveB gl ms l)))) := by
  have hb0 := (Below.refl w.heap.size w).alloc (Nat.le_refl _) (.cells #[.pointer (some ⟨gv, 0, none⟩)] 68)
  have hp := (Blk.new w 68 [.pointer (some ⟨gv, 0, none⟩)])
  have p0 := hp.cell 0
  have pl := hp.lt
  simp only [List.getElem?_cons_zero] at p0
  have hc := ContainsHold_ct w.heap.size (aboveB gl ms l) A n c l _ (hl.keep hb0) (fun A1 n1 c1 x W hx hW hr => hold1_ct w.heap.size gv s0 gl ms N l A1 n1 c1 x W ((h.keep hb0).keep hW) htab hN ((hW.cell (p := ⟨w.heap.size, 0, none⟩) pl).trans p0) hr (htab.set x hx))
  have Hc := hide hc
  have Hb0 := hide hb0
  clear hc hp p0 pl h hl hb0
  go_enter Try.func37, Try.ntmps37
  go_wp2_with fail
  with_reducible refine Hc.out.mono ?_
  rintro e w1 ⟨rfl, hb⟩
  have Hb1 := hide (Hb0.out.trans (hb.mono Hb0.out.size))
  clear hb
  go_wp2
  go_ret
  exact ⟨rfl, Hb1.out⟩
end Go.Proofs.Ytliggcmohcdchaa
namespace Go.Proofs.Ytliggcmohcdchaa
set_option linter.unusedVariables false
set_option linter.unusedSimpArgs false
open Go.RowKit Go.Maps
/-- what Check answers -/
def chkF (T : Tsk) (l : List Ent) : Int × Bool × Int × Int :=
  if (boundsF T l).1 ≠ 0 then (0, false, (boundsF T l).1, (boundsF T l).2) else if holdB infC T l = true then (bOf l T.init, true, 0, 0) else (0, false, 0, 0)
def chkV (r : Int × Bool × Int × Int) : Value := .tuple #[.int .i64 r.1, .bool r.2.1, fault r.2.2.1 r.2.2.2]
theorem chk_bad {T : Tsk} {l : List Ent} (h : (boundsF T l).1 ≠ 0) : chkF T l = (0, false, (boundsF T l).1, (boundsF T l).2) := by unfold chkF; rw [if_pos h]
theorem chk_no {T : Tsk} {l : List Ent} (h : (boundsF T l).1 = 0) (h2 : holdB infC T l = false) : chkF T l = (0, false, 0, 0) := by unfold chkF; rw [if_neg (by simp [h]), if_neg (by simp [h2])]
theorem chk_yes {T : Tsk} {l : List Ent} (h : (boundsF T l).1 = 0) (h2 : holdB infC T l = true) : chkF T l = (bOf l T.init, true, 0, 0) := by unfold chkF; rw [if_neg (by simp [h]), if_pos h2]
set_option maxRecDepth 100000 in
set_option maxHeartbeats 6400000 in
theorem Check_ct (a : TA) (T : Tsk) (A : Option Addr) (n c : Nat) (l : List Ent) (w : World) (h : TkR w a T) (hl : Rd Enc.ent w A n c l) :
    Calls Try.prog 12 #[.agg #[.int .i64 T.facts, .slice a.I a.nI a.cI, .slice a.G a.nG a.cG, .slice a.O a.nO a.cO], .slice A n c] w (Gives w (chkV (chkF T l))) := by
  have hval := fun W hT hW => validate_ct a T A n c l W hT hW
  have hnv := fun N W hT hok hW htab => newValues_ct a T N A n c l W hT hok hW htab
  obtain ⟨I, nI, cI, G, nG, cG, O, nO, cO⟩ := a
  simp only at hval hnv ⊢
  obtain ⟨R, hR⟩ : ∃ R, R = chkF T l := ⟨_, rfl⟩
  rw [← hR]
  rcases hq : boundsF T l with ⟨ec, ei⟩
  rw [hq] at hval
  have H := hide h
  have Hl := hide hl
  have HR := hide hR
  have Hval := hide hval
  have Hnv := hide hnv
  have Hq := hide hq
  clear h hl hq hval hR hnv
  have Hbl := hide (Below.refl w.heap.size w)
  go_enter Try.func12, Try.ntmps12
  go_upto_region 1 with (fail)
  obtain ⟨B0, hB0⟩ : ∃ B0, B0 = w.heap.size := ⟨_, rfl⟩
  have HB0 := hide hB0
  clear hB0
  have s_0 : B0 ≤ w.heap.size := Nat.le_trans (Nat.le_of_eq HB0.out) Hbl.out.size
  have hyt := Blk.new (w) 25 [.int .i64 T.facts, .slice I nI cI, .slice G nG cG, .slice O nO cO]
  have hyf := Blk.new ((w).alloc (.cells #[.int .i64 T.facts, .slice I nI cI, .slice G nG cG, .slice O nO cO] 25)) 29 [.int .i64 0, .int .i64 0]
  replace hyt := hyt.alloc (.cells #[.int .i64 0, .int .i64 0] 29)
  have hbW := below_two w (.cells #[.int .i64 T.facts, .slice I nI cI, .slice G nG cG, .slice O nO cO] 25) (.cells #[.int .i64 0, .int .i64 0] 29)
  simp only [World.size_alloc] at hyf
  obtain ⟨w0, hW⟩ : ∃ W, W = ((w).alloc (.cells #[.int .i64 T.facts, .slice I nI cI, .slice G nG cG, .slice O nO cO] 25)).alloc (.cells #[.int .i64 0, .int .i64 0] 29) := ⟨_, rfl⟩
  rw [← hW] at hyt hyf hbW ⊢
  replace Hbl := hide (Hbl.out.trans (hbW.mono Hbl.out.size))
  have Ht := hide hyt
  have Hf := hide hyf
  clear hW hbW hyt hyf
  generalize w.heap.size = gT at Ht Hf s_0 ⊢
  have t0 := Ht.out.cell 0
  have t1 := Ht.out.cell 1
  have t2 := Ht.out.cell 2
  have t3 := Ht.out.cell 3
  have tl := Ht.out.lt
  have f0 := Hf.out.cell 0
  have f1 := Hf.out.cell 1
  have fl := Hf.out.lt
  simp only [List.getElem?_cons_zero, List.getElem?_cons_succ] at t0 t1 t2 t3 f0 f1
  have a_t : B0 ≤ gT := by omega
  have a_f : B0 ≤ gT + 1 := by omega
  clear s_0
  have n_t_f : ¬ gT = gT + 1 := by omega
  have n_f_t : ¬ gT + 1 = gT := by omega
  go_wp2_with fail
  with_reducible refine (Hval.out w0 (H.out.keep Hbl.out) (Hl.out.keep Hbl.out)).mono ?_
  rintro e w1 ⟨rfl, hb⟩
  clear t0 t1 t2 t3 f0 f1 tl fl
  replace Ht := hide (Ht.out.keep hb)
  replace Hf := hide (Hf.out.keep hb)
  replace Hbl := hide (Hbl.out.trans (hb.mono Hbl.out.size))
  clear hb
  have t0 := Ht.out.cell 0
  have t1 := Ht.out.cell 1
  have t2 := Ht.out.cell 2
  have t3 := Ht.out.cell 3
  have tl := Ht.out.lt
  have f0 := Hf.out.cell 0
  have f1 := Hf.out.cell 1
  have fl := Hf.out.lt
  simp only [List.getElem?_cons_zero, List.getElem?_cons_succ] at t0 t1 t2 t3 f0 f1
  unfold fault
  go_upto_region 2 with (fail)
  have n_t_p : ¬ gT = w1.heap.size := by omega
  have n_p_t : ¬ w1.heap.size = gT := by omega
  have n_f_p : ¬ gT + 1 = w1.heap.size := by omega
  have n_p_f : ¬ w1.heap.size = gT + 1 := by omega
  have s_t : gT < w1.heap.size := tl
  have s_f : gT + 1 < w1.heap.size := fl
  have s_0 : B0 ≤ w1.heap.size := Nat.le_trans (Nat.le_of_eq HB0.out) Hbl.out.size
  have hyp := Blk.new (w1) 29 [.int .i64 ec, .int .i64 ei]
  have hbW : Below (w1).heap.size (w1) ((w1).alloc (.cells #[.int .i64 ec, .int .i64 ei] 29)) := (Below.refl _ _).alloc (Nat.le_refl _) _
  obtain ⟨w2, hW⟩ : ∃ W, W = (w1).alloc (.cells #[.int .i64 ec, .int .i64 ei] 29) := ⟨_, rfl⟩
  rw [← hW] at hyp hbW ⊢
  replace Ht := hide (Ht.out.keep hbW)
  replace Hf := hide (Hf.out.keep hbW)
  replace Hbl := hide (Hbl.out.trans (hbW.mono Hbl.out.size))
  have Hp := hide hyp
  clear hW hbW hyp
  generalize w1.heap.size = gp at Hp n_t_p n_p_t n_f_p n_p_f s_t s_f s_0 ⊢
  have t0 := Ht.out.cell 0
  have t1 := Ht.out.cell 1
  have t2 := Ht.out.cell 2
  have t3 := Ht.out.cell 3
  have tl := Ht.out.lt
  have f0 := Hf.out.cell 0
  have f1 := Hf.out.cell 1
  have fl := Hf.out.lt
  have p0 := Hp.out.cell 0
  have p1 := Hp.out.cell 1
  have pl := Hp.out.lt
  simp only [List.getElem?_cons_zero, List.getElem?_cons_succ] at t0 t1 t2 t3 f0 f1 p0 p1
  clear s_t
  clear s_f
  have a_p : B0 ≤ gp := by omega
  clear s_0
  by_cases hec : ec = 0
  rotate_left
  · skip
    have ff0 := Hf.out.frozen 0
    have ff1 := Hf.out.frozen 1
    go_upto_region 3 with (fail)
    go_region
    all_goals go_wp2_with fail
    all_goals refine bodyPost_ret (v := .tuple #[.int .i64 0, .bool false, fault ec ei]) (by simp [results, Try.results12, go_sem, fault, f0, f1, fl]) rfl ?_
    have hbx := HB0.out
    refine ⟨by rw [HR.out, chk_bad (by rw [Hq.out]; exact hec), Hq.out]; rfl, ?_⟩
    repeat' (first | (with_reducible exact Hbl.out) | (with_reducible refine Below.drew ?_) | (with_reducible refine below_setL ?_ ?_ _ _) | (with_reducible refine below_drewN ?_ _) | omega)
  subst hec
  have hz := boundsF_zero (T := T) (l := l) (by rw [Hq.out])
  rw [Hq.out] at hz
  obtain ⟨_, e2⟩ := Prod.mk.inj hz
  subst e2
  clear hz
  obtain ⟨N, hok, htab⟩ := boundsF_ok (T := T) (l := l) (by rw [Hq.out])
  have Hok := hide hok
  have Htab := hide htab
  have hN := hok.low
  clear hok htab
  have hfl2 := fl
  go_wp2_with fail
  with_reducible refine (Hnv.out N w2 (H.out.keep Hbl.out) Hok.out (Hl.out.keep Hbl.out) Htab.out).mono ?_
  rintro e w3 ⟨hb, gv, rfl, hgv, hvals⟩
  have Hvals := hide hvals
  clear hvals
  clear t0 t1 t2 t3 f0 f1 p0 p1 tl fl pl
  replace Ht := hide (Ht.out.keep hb)
  replace Hf := hide (Hf.out.keep hb)
  replace Hp := hide (Hp.out.keep hb)
  replace Hbl := hide (Hbl.out.trans (hb.mono Hbl.out.size))
  clear hb
  have t0 := Ht.out.cell 0
  have t1 := Ht.out.cell 1
  have t2 := Ht.out.cell 2
  have t3 := Ht.out.cell 3
  have tl := Ht.out.lt
  have f0 := Hf.out.cell 0
  have f1 := Hf.out.cell 1
  have fl := Hf.out.lt
  have p0 := Hp.out.cell 0
  have p1 := Hp.out.cell 1
  have pl := Hp.out.lt
  simp only [List.getElem?_cons_zero, List.getElem?_cons_succ] at t0 t1 t2 t3 f0 f1 p0 p1
  obtain ⟨v1, hv1⟩ : ∃ z, z = holdB infC T l := ⟨_, rfl⟩
  have hho := hold_ct gv (wordF T.init) (wordF T.goal) (T.ops.map mkOp) N A n c l w3 Hvals.out Htab.out hN (Hl.out.keep Hbl.out)
  have hany : l.any (aboveB (wordF T.goal) (T.ops.map mkOp) l) = !holdB infC T l := hold_any Hok.out Htab.out
  rw [hany, ← hv1, Bool.not_not] at hho
  have Hho := hide hho
  have Hv1 := hide hv1
  clear hho hany hv1
  go_wp2_with fail
  with_reducible refine (Hho.out).mono ?_
  rintro e w4 ⟨rfl, hb⟩
  clear t0 t1 t2 t3 f0 f1 p0 p1 tl fl pl
  replace Ht := hide (Ht.out.keep hb)
  replace Hf := hide (Hf.out.keep hb)
  replace Hp := hide (Hp.out.keep hb)
  replace Hvals := hide (Hvals.out.keep hb)
  replace Hbl := hide (Hbl.out.trans (hb.mono Hbl.out.size))
  clear hb
  have t0 := Ht.out.cell 0
  have t1 := Ht.out.cell 1
  have t2 := Ht.out.cell 2
  have t3 := Ht.out.cell 3
  have tl := Ht.out.lt
  have f0 := Hf.out.cell 0
  have f1 := Hf.out.cell 1
  have fl := Hf.out.lt
  have p0 := Hp.out.cell 0
  have p1 := Hp.out.cell 1
  have pl := Hp.out.lt
  simp only [List.getElem?_cons_zero, List.getElem?_cons_succ] at t0 t1 t2 t3 f0 f1 p0 p1
  cases v1 with
  | false =>
    have ff0 := Hf.out.frozen 0
    have ff1 := Hf.out.frozen 1
    go_wp2_with fail
    refine bodyPost_ret (v := .tuple #[.int .i64 0, .bool false, fault 0 0]) (by simp [results, Try.results12, go_sem, fault, f0, f1, fl]) rfl ?_
    have hbx := HB0.out
    refine ⟨by rw [HR.out, chk_no (by rw [Hq.out]) Hv1.out.symm]; rfl, ?_⟩
    repeat' (first | (with_reducible exact Hbl.out) | (with_reducible refine Below.drew ?_) | (with_reducible refine below_setL ?_ ?_ _ _) | (with_reducible refine below_drewN ?_ _) | omega)
  | true =>
    obtain ⟨gW, mb, cnt, hv, hWr, hm⟩ := Hvals.out.at_
    have v0 := hv.cell 0
    have v1 := hv.cell 1
    simp only [List.getElem?_cons_zero, List.getElem?_cons_succ] at v0 v1
    have hst := fun W hW => Start_ct gW _ _ _ W (hWr.keep hW)
    have hs0 := hWr.start
    have hz3 : ∀ w : World, (zeroValue 3).run Try.prog w = .ok (.int .i64 0) w := fun w => by kernel_rfl
    have hlook := fun W' e => hm.look1 (int_keyed Try.underlying75) (T := 72) (E := 3) Try.underlying72 hz3 (keyW Try.underlying75 hs0) W' e
    simp only [tabV_get, encW] at hlook
    have hbw : bW l (wordF T.init) = bOf l T.init := bW_of hN Htab.out.set Hok.out.init
    rw [hbw] at hlook
    obtain ⟨s0, hs0e⟩ : ∃ x, x = wordF T.init := ⟨_, rfl⟩
    rw [← hs0e] at hst hlook
    obtain ⟨vb, hvb⟩ : ∃ x, x = bOf l T.init := ⟨_, rfl⟩
    rw [← hvb] at hlook
    have hl4 := hlook w4 rfl
    have Hst := hide hst
    have Hvb := hide hvb
    have hgl := hv.lt
    have hnm : mb ≠ gT + 1 := hm.ne Hf.out
    have hng : gv ≠ gT + 1 := by omega
    have hc6 : Chg (fun b => b = gT + 1) w4 ((w4.drew.setCell ⟨gT + 1, 0, none⟩ (.int .i64 0)).setCell ⟨gT + 1, 1, none⟩ (.int .i64 0)) := (Chg.of_below ((Below.refl w4.heap.size w4).drew) _).trans ((Chg.set w4.drew (gT + 1) 0 (.int .i64 0)).trans (Chg.set _ (gT + 1) 1 (.int .i64 0)))
    have hl6 := hlook _ (hc6.block mb hm.lt hnm)
    have hv6 := hc6.blk hv hng
    have v06 := hv6.cell 0
    have v16 := hv6.cell 1
    simp only [List.getElem?_cons_zero, List.getElem?_cons_succ] at v06 v16
    have hl5 := hlook w4.drew rfl
    have v0d : w4.drew.cell? ⟨gv, 0, none⟩ = some (.pointer (some ⟨gW, 0, none⟩)) := v0
    have v1d : w4.drew.cell? ⟨gv, 1, none⟩ = some (.map (some mb)) := v1
    clear hc6 hv6 hnm hst hlook hm hv hWr hs0e hvb hs0 hbw hz3 hl4
    have ff0 := Hf.out.frozen 0
    have ff1 := Hf.out.frozen 1
    go_upto_region 7 with (fail)
    refine wp_region_held_drew (S := (fun w' => w'.cell? ⟨gv, 0, none⟩ = some (.pointer (some ⟨gW, 0, none⟩)) ∧ w'.cell? ⟨gv, 1, none⟩ = some (.map (some mb)) ∧ (Instr.lookup 72 (.map (some mb)) (.int .u32 s0) false).run Try.prog w' = .ok (.int .i64 vb) w')) (by kernel_rfl) ?_ (fun hHeld => ?_)
    · (try dsimp only); exact ⟨v0d, v1d, hl5⟩
    refine takeH (i := 0) (v := ?_) (some 24) rfl rfl (by kernel_rfl) (by kernel_rfl) (by kernel_rfl) (fun _ _ _ h => h) (Or.inl ⟨by rfl, ?_⟩) (by assumption) ?_
    rotate_left
    · intro w hSw; (try dsimp only at hSw); obtain ⟨s1, s2, s3⟩ := hSw; first | (go_simp; done) | (go_simp; with_reducible rfl)
    try simp only [Act.put, List.setIfInBounds_toArray, List.set_cons_zero, List.set_cons_succ]
    refine takeH (i := 1) (v := ?_) (some 25) rfl rfl (by kernel_rfl) (by kernel_rfl) (by kernel_rfl) (fun _ _ _ h => h) (Or.inl ⟨by rfl, ?_⟩) (by assumption) ?_
    rotate_left
    · intro w hSw; (try dsimp only at hSw); obtain ⟨s1, s2, s3⟩ := hSw; first | (go_simp; done) | (go_simp; with_reducible rfl)
    try simp only [Act.put, List.setIfInBounds_toArray, List.set_cons_zero, List.set_cons_succ]
    refine takeH (i := 2) (v := ?_) (some 26) rfl rfl (by kernel_rfl) (by kernel_rfl) (by kernel_rfl) (fun _ _ _ h => h) (Or.inl ⟨by rfl, ?_⟩) (by assumption) ?_
    rotate_left
    · intro w hSw; (try dsimp only at hSw); obtain ⟨s1, s2, s3⟩ := hSw; first | (go_simp; done) | (go_simp; with_reducible rfl)
    try simp only [Act.put, List.setIfInBounds_toArray, List.set_cons_zero, List.set_cons_succ]
    refine takeH (i := 3) (v := ?_) (some 27) rfl rfl (by kernel_rfl) (by kernel_rfl) (by kernel_rfl) (fun _ _ _ h => h) (Or.inl ⟨by rfl, ?_⟩) (by assumption) ?_
    rotate_left
    · intro w hSw; (try dsimp only at hSw); obtain ⟨s1, s2, s3⟩ := hSw; first | (go_simp; done) | (go_simp; with_reducible rfl)
    try simp only [Act.put, List.setIfInBounds_toArray, List.set_cons_zero, List.set_cons_succ]
    refine takeH (i := 4) (v := ?_) (some 28) rfl rfl (by kernel_rfl) (by kernel_rfl) (by kernel_rfl) (fun _ _ _ h => h) (Or.inl ⟨by rfl, ?_⟩) (by assumption) ?_
    rotate_left
    · intro w hSw; (try dsimp only at hSw); obtain ⟨s1, s2, s3⟩ := hSw; first | (go_simp; done) | (go_simp; with_reducible rfl)
    try simp only [Act.put, List.setIfInBounds_toArray, List.set_cons_zero, List.set_cons_succ]
    refine takeH (i := 5) (v := ?_) (some 29) rfl rfl (by kernel_rfl) (by kernel_rfl) (by kernel_rfl) (fun _ _ _ h => h) (Or.inl ⟨by rfl, ?_⟩) (by assumption) ?_
    rotate_left
    · intro w hSw; (try dsimp only at hSw); obtain ⟨s1, s2, s3⟩ := hSw; first | (go_simp; done) | (go_simp; with_reducible rfl)
    try simp only [Act.put, List.setIfInBounds_toArray, List.set_cons_zero, List.set_cons_succ]
    refine takeH (i := 6) (v := ?_) (some 30) rfl rfl (by kernel_rfl) (by kernel_rfl) (by kernel_rfl) (fun _ _ _ h => h) (Or.inl ⟨by rfl, ?_⟩) (by assumption) ?_
    rotate_left
    · intro w hSw; (try dsimp only at hSw); obtain ⟨s1, s2, s3⟩ := hSw; first | (go_simp; done) | (go_simp; with_reducible rfl)
    try simp only [Act.put, List.setIfInBounds_toArray, List.set_cons_zero, List.set_cons_succ]
    refine takeH (i := 7) (v := ?_) (some 31) rfl rfl (by kernel_rfl) (by kernel_rfl) (by kernel_rfl) (fun _ _ _ h => h) (Or.inl ⟨by rfl, ?_⟩) (by assumption) ?_
    rotate_left
    · intro w hSw; (try dsimp only at hSw); obtain ⟨s1, s2, s3⟩ := hSw; first | (go_simp; done) | (go_simp; with_reducible rfl)
    try simp only [Act.put, List.setIfInBounds_toArray, List.set_cons_zero, List.set_cons_succ]
    refine takeH (i := 10) (v := ?_) (some 34) rfl rfl (by kernel_rfl) (by kernel_rfl) (by kernel_rfl) (fun _ _ _ h => h) (Or.inl ⟨by rfl, ?_⟩) (by assumption) ?_
    rotate_left
    · intro w hSw; (try dsimp only at hSw); obtain ⟨s1, s2, s3⟩ := hSw; first | (go_simp; done) | (go_simp; with_reducible rfl)
    try simp only [Act.put, List.setIfInBounds_toArray, List.set_cons_zero, List.set_cons_succ]
    refine wpAnyH_ready (rs := [8]) (by kernel_rfl) (by simp) ?_
    refine AllReadyH.cons rfl (fun K hK => ?_) AllReadyH.nil
    go_simp
    with_reducible refine (Hst.out w4.drew ((Below.refl _ _).drew)).mono ?_
    rintro e1 w1 ⟨rfl, rfl⟩
    refine hK.out _ _ ?_ (fun hHeld2 => ?_)
    · (try dsimp only); exact ⟨v0d, v1d, hl5⟩
    clear hK K hHeld
    try simp only [Act.put, List.setIfInBounds_toArray, List.set_cons_zero, List.set_cons_succ]
    have hHeld := hHeld2; clear hHeld2
    refine takeH (i := 9) (v := ?_) (some 33) rfl rfl (by kernel_rfl) (by kernel_rfl) (by kernel_rfl) (fun _ _ _ h => h) (Or.inl ⟨by rfl, ?_⟩) (by assumption) ?_
    rotate_left
    · intro w hSw; (try dsimp only at hSw); obtain ⟨s1, s2, s3⟩ := hSw; first | (go_simp; done) | (go_simp; with_reducible rfl)
    try simp only [Act.put, List.setIfInBounds_toArray, List.set_cons_zero, List.set_cons_succ]
    refine takeH (i := 11) (v := ?_) (some 4) rfl rfl (by kernel_rfl) (by kernel_rfl) (by kernel_rfl) (fun _ _ _ h => h) (Or.inl ⟨by rfl, ?_⟩) (by assumption) ?_
    rotate_left
    · intro w hSw; (try dsimp only at hSw); obtain ⟨s1, s2, s3⟩ := hSw; first | (go_simp; done) | (go_simp; with_reducible rfl)
    try simp only [Act.put, List.setIfInBounds_toArray, List.set_cons_zero, List.set_cons_succ]
    refine takeH (i := 12) (v := ?_) (some 5) rfl rfl (by kernel_rfl) (by kernel_rfl) (by kernel_rfl) (fun _ _ _ h => h) (Or.inl ⟨by rfl, ?_⟩) (by assumption) ?_
    rotate_left
    · intro w hSw; (try dsimp only at hSw); obtain ⟨s1, s2, s3⟩ := hSw; first | (go_simp; done) | (go_simp; with_reducible rfl)
    try simp only [Act.put, List.setIfInBounds_toArray, List.set_cons_zero, List.set_cons_succ]
    refine wpAnyH_ready (rs := [13]) (by kernel_rfl) (by simp) ?_
    refine AllReadyH.cons rfl (fun K hK => ?_) AllReadyH.nil
    go_simp
    refine hK.out _ _ ?_ (fun hHeld2 => ?_)
    · (try dsimp only); exact ⟨v06, v16, hl6⟩
    clear hK K hHeld
    try simp only [Act.put, List.setIfInBounds_toArray, List.set_cons_zero, List.set_cons_succ]
    have hHeld := hHeld2; clear hHeld2
    refine wpAnyH_done (by kernel_rfl) ?_ _
    go_wp2_with fail
    refine bodyPost_ret (v := .tuple #[.int .i64 vb, .bool true, fault 0 0]) (by simp [results, Try.results12, go_sem, fault, f0, f1, fl]) rfl ?_
    have hbx := HB0.out
    refine ⟨by rw [HR.out, chk_yes (by rw [Hq.out]) Hv1.out.symm, Hvb.out]; rfl, ?_⟩
    repeat' (first | (with_reducible exact Hbl.out) | (with_reducible refine Below.drew ?_) | (with_reducible refine below_setL ?_ ?_ _ _) | (with_reducible refine below_drewN ?_ _) | omega)
end Go.Proofs.Ytliggcmohcdchaa
