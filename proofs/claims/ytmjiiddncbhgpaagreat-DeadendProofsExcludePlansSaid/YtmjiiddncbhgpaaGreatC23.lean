/- Dead ends: the law that a proof excludes plans and covers all reachable states. No condition., part 23: Mc3 St Cq Mc5 Mc8 Mj Er Ts1 Ts2 Ts3 SpExec. -/
import Derived.Test.YtmjiiddncbhgpaaGreatC1
import Derived.Test.YtmjiiddncbhgpaaGreatC2
import Derived.Test.YtmjiiddncbhgpaaGreatC3
import Derived.Test.YtmjiiddncbhgpaaGreatC20
import Derived.Test.YtmjiiddncbhgpaaGreatC21
import Derived.Test.YtmjiiddncbhgpaaGreatC22
import Derived.BigQuiet
import Derived.Deep.AppendLies
import Derived.Deep.DeepCutAuto
import Derived.Deep.Draws
import Derived.Deep.Fields
import Derived.Deep.LoopGhost
import Derived.Deep.QuietTactic
import Derived.Deep.RegionHeld3
import Derived.Deep.Slices
import Derived.Ground.Names2Prog
import Derived.Ground.SlgnProg
import Derived.IntWalk
import Derived.Laws.AppendOwnNone
import Derived.Laws.OwnMore
import Derived.Lib.Hide
import Derived.Lib.SlicesCompact
import Derived.Maps.AppendAt
import Derived.Shelf.Slices.Cells
import Derived.Shelf.Slices.Clone
import Derived.Shelf.Slices.CompactI
import Derived.Shelf.Slices.Empties
import Derived.Shelf.Slices.In.SortNone
import Derived.Shelf.Slices.SearchI
import Derived.Shelf.Sort.Plain
import Derived.Sort.OwnSortedInts
import Derived.Test.YtmjiiddncbhgpaaGreatProg
import Derived.WalkKit
namespace Go.Proofs.YtmjiiddncbhgpaaGreat
set_option linter.unusedVariables false
set_option linter.unusedSimpArgs false
open Go.RowKit
def outB (k : Nat) (x : Int) : Bool := decide (x < 0 ∨ (k : Int) ≤ x)
end Go.Proofs.YtmjiiddncbhgpaaGreat
namespace Go.Proofs.YtmjiiddncbhgpaaGreat
set_option linter.unusedVariables false
set_option linter.unusedSimpArgs false
open Go.RowKit
/-- the fault of a plan over k operators -/
def stepsFault (k : Nat) (l : List Int) : Int × Int := if 60 < l.length then (2, -5) else if l.any (outB k) = true then (3, -6) else (0, 0)
theorem any_succ {p : Int → Bool} {l : List Int} {k : Nat} {x : Int} (h : (l.take k).any p = false) (hx : l[k]? = some x) (hp : p x = false) : (l.take (k + 1)).any p = false := by
  rw [List.take_add_one, List.any_append, h, hx]
  simp [hp]
set_option maxRecDepth 100000 in
set_option maxHeartbeats 1600000 in
theorem Steps_ct (n : Nat) (A : Option Addr) (m c : Nat) (l : List Int) (w : World) (h : Rd Enc.int w A m c l) (hn : n ≤ 9223372036854775807) :
    Calls Tryz.prog 104 #[.int .i64 n, .slice A m c] w (Gives w (fault (stepsFault n l).1 (stepsFault n l).2)) := by
  have hsm := h.low
  have hX := Blk.new w 29 [.int .i64 0, .int .i64 0]
  have y0 := hX.cell 0
  have y1 := hX.cell 1
  have y2 := hX.frozen 0
  have y3 := hX.frozen 1
  simp only [List.getElem?_cons_zero, List.getElem?_cons_succ] at y0 y1
  have hbw : Below w.heap.size w (w.alloc (.cells #[.int .i64 0, .int .i64 0] 29)) := (Below.refl _ _).alloc (Nat.le_refl _) _
  have Hbw := hide hbw
  have Hl := hide h.len
  have H := hide (h.keep hbw)
  clear h hbw hX
  by_cases h1 : 60 < m
  · have hres : stepsFault n l = (2, -5) := by unfold stepsFault; rw [Hl.out, if_pos h1]
    rw [hres]
    clear hres
    go_enter Tryz.func104, Tryz.ntmps104
    go_wp2_with fail
    exact bodyPost_ret (v := fault 2 (-5)) (by simp [results, Tryz.results104, go_sem, fault]) rfl ⟨rfl, (Below.refl _ _).alloc (Nat.le_refl _) _⟩
  · have hres : stepsFault n l = if l.any (outB n) = true then (3, -6) else (0, 0) := by unfold stepsFault; rw [Hl.out, if_neg h1]
    have Hres := hide hres
    clear hres
    go_enter Tryz.func104, Tryz.ntmps104
    go_upto_region 3 with (fail)
    obtain ⟨W0, hW0⟩ : ∃ W0, W0 = w.alloc (.cells #[.int .i64 0, .int .i64 0] 29) := ⟨_, rfl⟩
    rw [← hW0] at H Hbw y0 y1 y2 y3 ⊢
    clear hW0
    obtain ⟨gb, hgb⟩ : ∃ gb, gb = w.heap.size := ⟨_, rfl⟩
    rw [← hgb] at y0 y1 y2 y3 ⊢
    have Hgb := hide hgb
    clear hgb
    go_wp2_with fail
    go_loop [13] (fun i => ∃ k : Nat, k ≤ m ∧ i = .int .i64 k ∧ (l.take k).any (outB n) = false) (fun i => m - (intOf i).toNat)
    case atStart => exact ⟨0, by omega, rfl, by simp⟩
    case round =>
      obtain ⟨k, hk, rfl, hset⟩ := hrel
      have Hset := hide hset
      clear hset
      by_cases hlt : k < m
      · obtain ⟨b, off, x, rfl, hx, hx1, hx2, hcx⟩ := H.out.int hlt
        have Hx := hide hx
        clear hx
        have hbad : outB n x = true → stepsFault n l = (3, -6) := fun hb => by
          rw [Hres.out, if_pos (List.any_eq_true.2 ⟨x, List.mem_of_getElem? Hx.out, hb⟩)]
        have Hbad := hide hbad
        clear hbad
        by_cases h0 : x < 0
        · have hres := Hbad.out (by unfold outB; rw [decide_eq_true_iff]; omega)
          have Hr := hide hres
          clear hres
          go_wp2_with fail
          exact bodyPost_ret (v := fault 3 (-6)) (by simp [results, Tryz.results104, go_sem, fault, y0, y1]) rfl ⟨by rw [Hr.out], below_res2 Hbw.out (by have := Hgb.out; omega) _ _⟩
        · by_cases h2 : (n : Int) ≤ x
          · have hres := Hbad.out (by unfold outB; rw [decide_eq_true_iff]; omega)
            have Hr := hide hres
            clear hres
            go_wp2_with fail
            exact bodyPost_ret (v := fault 3 (-6)) (by simp [results, Tryz.results104, go_sem, fault, y0, y1]) rfl ⟨by rw [Hr.out], below_res2 Hbw.out (by have := Hgb.out; omega) _ _⟩
          · go_wp2_with fail
            go_round
            case rel => exact ⟨k + 1, by omega, by go_num, any_succ Hset.out Hx.out (by unfold outB; rw [decide_eq_false_iff_not]; omega)⟩
            case measure => simp [intOf]; omega
      · obtain rfl : k = m := by omega
        have hres := Hres.out
        have hs := Hset.out
        rw [List.take_of_length_le (by rw [Hl.out]; omega)] at hs
        rw [hs, if_neg (by simp)] at hres
        have Hr := hide hres
        clear hres hs
        go_wp2_with fail
        exact bodyPost_ret (v := fault 0 0) (by simp [results, Tryz.results104, go_sem, fault, y0, y1]) rfl ⟨by rw [Hr.out], below_res2 Hbw.out (by have := Hgb.out; omega) _ _⟩
end Go.Proofs.YtmjiiddncbhgpaaGreat
namespace Go.Proofs.YtmjiiddncbhgpaaGreat
set_option linter.unusedVariables false
set_option linter.unusedSimpArgs false
open Go.RowKit
/-- what is known of a fact: its state, whether it changed, whether it is asked for -/
structure FS where
  now : Int
  ch : Bool
  pr : Bool
def factStep (p : Int) (o : Opr) (s : FS) : Option FS :=
  if hasB o.pre p = true ∧ s.now < 0 then none else
  some ⟨if hasB o.del p = true then -1 else if hasB o.add p = true then 1 else if hasB o.pre p = true ∧ s.now = 0 then 1 else s.now, s.ch || hasB o.add p || hasB o.del p, s.pr || (hasB o.pre p && decide (s.now = 0))⟩
def factRun (p : Int) : FS → List Opr → Option FS
  | s, [] => some s
  | s, o :: os => match factStep p o s with
    | none => none
    | some s' => factRun p s' os
def fr (os : List Opr) (p : Int) : Option FS := factRun p ⟨0, false, false⟩ os
end Go.Proofs.YtmjiiddncbhgpaaGreat
namespace Go.Proofs.YtmjiiddncbhgpaaGreat
set_option linter.unusedVariables false
set_option linter.unusedSimpArgs false
open Go.RowKit
theorem own_low {w : World} {B B' : Nat} {e : TypeId} {size n : Nat} {v : Value} {xs : List Value} (h : w.ownsRow B e size v n xs) (hB : B' ≤ B) : w.ownsRow B' e size v n xs := by
  refine ⟨h.1, ?_⟩
  rcases h.2 with h3 | ⟨r, cap, cur, e1, hr, hc, rest⟩
  · exact .inl h3
  · exact .inr ⟨r, cap, cur, e1, by omega, hc, rest⟩
/-- the rows of a copy that is being made -/
structure CpA where
  gT : Nat
  gO : Nat
  B0 : Nat
  H1 : Nat
  AI : Option Addr
  nI : Nat
  cI : Nat
  AG : Option Addr
  nG : Nat
  cG : Nat
section
variable {w W W' : World} {T : Tsk} {tc : List Value} {a : CpA} {k oc : Nat} {O : Option Addr} {vs : List Value}
end
end Go.Proofs.YtmjiiddncbhgpaaGreat
namespace Go.Proofs.YtmjiiddncbhgpaaGreat
set_option linter.unusedVariables false
set_option linter.unusedSimpArgs false
open Go.RowKit
theorem opAt_mem {os : List Opr} {x : Int} (h0 : 0 ≤ x) (h1 : x < os.length) : opAt os x ∈ os := by
  obtain ⟨k, rfl⟩ : ∃ k : Nat, x = k := ⟨x.toNat, by omega⟩
  have hk : k < os.length := by omega
  rw [opAt_eq (List.getElem?_eq_getElem hk)]
  exact List.getElem_mem _
structure ExA where
  gT : Nat
  gX : Nat
  B : Nat
  Bl : Nat
  AI : Option Addr
  nI : Nat
  cI : Nat
  AG : Option Addr
  nG : Nat
  cG : Nat
section
variable {w W W' : World} {T : Tsk} {tc : List Value} {a : ExA} {n oc : Nat} {O : Option Addr} {vs : List Value} {os : List Opr}
end
end Go.Proofs.YtmjiiddncbhgpaaGreat
namespace Go.Proofs.YtmjiiddncbhgpaaGreat
set_option linter.unusedVariables false
set_option linter.unusedSimpArgs false
open Go.RowKit
theorem steps_ok {n : Nat} {l : List Int} (h : (stepsFault n l).1 = 0) : stepsFault n l = (0, 0) ∧ l.length ≤ 60 ∧ ∀ x ∈ l, 0 ≤ x ∧ x < n := by
  unfold stepsFault at h ⊢
  by_cases h1 : 60 < l.length
  · rw [if_pos h1] at h; simp at h
  · rw [if_neg h1] at h ⊢
    by_cases h2 : l.any (outB n) = true
    · rw [if_pos h2] at h; simp at h
    · rw [if_neg h2]
      refine ⟨rfl, by omega, fun x hx => ?_⟩
      have := List.any_eq_false.1 (by simpa using h2) x hx
      unfold outB at this
      simp at this
      omega
end Go.Proofs.YtmjiiddncbhgpaaGreat
namespace Go.Proofs.YtmjiiddncbhgpaaGreat
set_option linter.unusedVariables false
set_option linter.unusedSimpArgs false
/-- the states behind s that the steps reach, as far as they are applicable -/
def runT : List Int → List Opr → List (List Int)
  | _, [] => []
  | s, o :: os => if subsetB o.pre s = true then updF s o.add o.del :: runT (updF s o.add o.del) os else []
/-- the state behind all the steps -/
def execO : List Int → List Opr → Option (List Int)
  | s, [] => some s
  | s, o :: os => if subsetB o.pre s = true then execO (updF s o.add o.del) os else none
def runF (os : List Opr) (s : List Int) (l : List Int) : List (List Int) := s :: runT s (l.map (opAt os))
theorem exec_some : ∀ (os : List Opr) (s r : List Int), execO s os = some r → (runT s os).length = os.length ∧ (s :: runT s os)[os.length]? = some r := by
  intro os
  induction os with
  | nil => intro s r h; unfold execO at h; obtain rfl := Option.some.inj h; simp [runT]
  | cons o os ih =>
    intro s r h
    unfold execO at h
    split at h
    · rename_i hp
      obtain ⟨h1, h2⟩ := ih _ _ h
      unfold runT
      rw [if_pos hp]
      refine ⟨by simp [h1], ?_⟩
      rw [List.length_cons, List.getElem?_cons_succ]
      exact h2
    · cases h
theorem exec_none : ∀ (os : List Opr) (s : List Int), execO s os = none → (runT s os).length < os.length := by
  intro os
  induction os with
  | nil => intro s h; unfold execO at h; cases h
  | cons o os ih =>
    intro s h
    unfold execO at h
    unfold runT
    split at h
    · rename_i hp
      have := ih _ h
      rw [if_pos hp]
      simp only [List.length_cons]
      omega
    · rename_i hp
      rw [if_neg hp]
      simp
/-- all states are sets -/
theorem runT_sets {N : Nat} : ∀ (os : List Opr) (s : List Int), setB N s = true → (∀ o ∈ os, setB N o.add = true) → ∀ r ∈ runT s os, setB N r = true := by
  intro os
  induction os with
  | nil => intro s _ _ r hr; simp [runT] at hr
  | cons o os ih =>
    intro s hs ho r hr
    have hn : setB N (updF s o.add o.del) = true := updF_set (setB_iff.1 hs).2 (setB_iff.1 (ho o (List.mem_cons_self ..))).2
    unfold runT at hr
    split at hr
    · rcases List.mem_cons.1 hr with rfl | hr
      · exact hn
      · exact ih _ hn (fun q hq => ho q (List.mem_cons_of_mem _ hq)) r hr
    · cases hr
end Go.Proofs.YtmjiiddncbhgpaaGreat
namespace Go.Proofs.YtmjiiddncbhgpaaGreat
set_option linter.unusedVariables false
set_option linter.unusedSimpArgs false
open Go.RowKit
def planFault (T : Tsk) (l : List Int) : Int × Int := if (taskFault T).1 ≠ 0 then taskFault T else stepsFault T.ops.length l
theorem planFault_ok {T : Tsk} {l : List Int} (h : (planFault T l).1 = 0) : planFault T l = (0, 0) ∧ (taskFault T).1 = 0 ∧ l.length ≤ 60 ∧ ∀ x ∈ l, 0 ≤ x ∧ x < T.ops.length := by
  unfold planFault at h ⊢
  split
  · rename_i e
    rw [if_pos e] at h
    exact absurd h e
  · rename_i e
    rw [if_neg e] at h
    obtain ⟨h1, h2, h3⟩ := steps_ok h
    exact ⟨h1, by simpa using e, h2, h3⟩
set_option maxRecDepth 100000 in
set_option maxHeartbeats 3200000 in
theorem SPlanFault_ct (a : TA) (T : Tsk) (B : Option Addr) (m d : Nat) (l : List Int) (w : World) (h : TkR w a T) (hl : Rd Enc.int w B m d l) :
    Calls Tryz.prog 76 #[.agg #[.int .i64 T.facts, .slice a.I a.nI a.cI, .slice a.G a.nG a.cG, .slice a.O a.nO a.cO], .slice B m d] w (Gives w (fault (planFault T l).1 (planFault T l).2)) := by
  obtain ⟨I, nI, cI, G, nG, cG, O, nO, cO⟩ := a
  have hval := SValidate_ct ⟨I, nI, cI, G, nG, cG, O, nO, cO⟩ T
  simp only at hval ⊢
  rcases hq : taskFault T with ⟨ec, ei⟩
  rw [hq] at hval
  have hlO := h.ops.len
  simp only at hlO
  have Hq := hide hq
  have HlO := hide hlO
  have H := hide h
  have Hl := hide hl
  have Hval := hide hval
  clear hq h hl hval hlO
  have Hbl := hide (Below.refl w.heap.size w)
  go_enter Tryz.func76, Tryz.ntmps76
  go_upto_region 1 with (fail)
  obtain ⟨B0, hB0⟩ : ∃ B0, B0 = w.heap.size := ⟨_, rfl⟩
  have HB0 := hide hB0
  clear hB0
  have s_0 : B0 ≤ w.heap.size := Nat.le_trans (Nat.le_of_eq HB0.out) Hbl.out.size
  have hyt := Blk.new (w) 25 [.int .i64 T.facts, .slice I nI cI, .slice G nG cG, .slice O nO cO]
  have hyr := Blk.new ((w).alloc (.cells #[.int .i64 T.facts, .slice I nI cI, .slice G nG cG, .slice O nO cO] 25)) 29 [.int .i64 0, .int .i64 0]
  replace hyt := hyt.alloc (.cells #[.int .i64 0, .int .i64 0] 29)
  have hbW := below_two w (.cells #[.int .i64 T.facts, .slice I nI cI, .slice G nG cG, .slice O nO cO] 25) (.cells #[.int .i64 0, .int .i64 0] 29)
  simp only [World.size_alloc] at hyr
  obtain ⟨w0, hW⟩ : ∃ W, W = ((w).alloc (.cells #[.int .i64 T.facts, .slice I nI cI, .slice G nG cG, .slice O nO cO] 25)).alloc (.cells #[.int .i64 0, .int .i64 0] 29) := ⟨_, rfl⟩
  rw [← hW] at hyt hyr hbW ⊢
  replace Hbl := hide (Hbl.out.trans (hbW.mono Hbl.out.size))
  have Ht := hide hyt
  have Hr := hide hyr
  clear hW hbW hyt hyr
  generalize w.heap.size = gT at Ht Hr s_0 ⊢
  have t0 := Ht.out.cell 0
  have t1 := Ht.out.cell 1
  have t2 := Ht.out.cell 2
  have t3 := Ht.out.cell 3
  have tl := Ht.out.lt
  have r0 := Hr.out.cell 0
  have r1 := Hr.out.cell 1
  have rl := Hr.out.lt
  simp only [List.getElem?_cons_zero, List.getElem?_cons_succ] at t0 t1 t2 t3 r0 r1
  have a_t : B0 ≤ gT := by omega
  have a_r : B0 ≤ gT + 1 := by omega
  clear s_0
  have n_t_r : ¬ gT = gT + 1 := by omega
  have n_r_t : ¬ gT + 1 = gT := by omega
  go_wp2_with fail
  with_reducible refine (Hval.out w0 (H.out.keep Hbl.out)).mono ?_
  rintro e w1 ⟨rfl, hb⟩
  clear t0 t1 t2 t3 r0 r1 tl rl
  replace Ht := hide (Ht.out.keep hb)
  replace Hr := hide (Hr.out.keep hb)
  replace Hbl := hide (Hbl.out.trans (hb.mono Hbl.out.size))
  clear hb
  unfold fault
  have t0 := Ht.out.cell 0
  have t1 := Ht.out.cell 1
  have t2 := Ht.out.cell 2
  have t3 := Ht.out.cell 3
  have tl := Ht.out.lt
  have r0 := Hr.out.cell 0
  have r1 := Hr.out.cell 1
  have rl := Hr.out.lt
  simp only [List.getElem?_cons_zero, List.getElem?_cons_succ] at t0 t1 t2 t3 r0 r1
  have rf0 := Hr.out.frozen 0
  have rf1 := Hr.out.frozen 1
  go_upto_region 2 with (fail)
  clear rf0 rf1
  have n_t_p : ¬ gT = w1.heap.size := by omega
  have n_p_t : ¬ w1.heap.size = gT := by omega
  have n_r_p : ¬ gT + 1 = w1.heap.size := by omega
  have n_p_r : ¬ w1.heap.size = gT + 1 := by omega
  have s_t : gT < w1.heap.size := tl
  have s_r : gT + 1 < w1.heap.size := rl
  have s_0 : B0 ≤ w1.heap.size := Nat.le_trans (Nat.le_of_eq HB0.out) Hbl.out.size
  have hyp := Blk.new (w1) 29 [.int .i64 ec, .int .i64 ei]
  have hbW : Below (w1).heap.size (w1) ((w1).alloc (.cells #[.int .i64 ec, .int .i64 ei] 29)) := (Below.refl _ _).alloc (Nat.le_refl _) _
  obtain ⟨w2, hW⟩ : ∃ W, W = (w1).alloc (.cells #[.int .i64 ec, .int .i64 ei] 29) := ⟨_, rfl⟩
  rw [← hW] at hyp hbW ⊢
  replace Ht := hide (Ht.out.keep hbW)
  replace Hr := hide (Hr.out.keep hbW)
  replace Hbl := hide (Hbl.out.trans (hbW.mono Hbl.out.size))
  have Hp := hide hyp
  clear hW hbW hyp
  generalize w1.heap.size = gp at Hp n_t_p n_p_t n_r_p n_p_r s_t s_r s_0 ⊢
  have t0 := Ht.out.cell 0
  have t1 := Ht.out.cell 1
  have t2 := Ht.out.cell 2
  have t3 := Ht.out.cell 3
  have tl := Ht.out.lt
  have r0 := Hr.out.cell 0
  have r1 := Hr.out.cell 1
  have rl := Hr.out.lt
  have p0 := Hp.out.cell 0
  have p1 := Hp.out.cell 1
  have pl := Hp.out.lt
  simp only [List.getElem?_cons_zero, List.getElem?_cons_succ] at t0 t1 t2 t3 r0 r1 p0 p1
  clear s_t
  clear s_r
  have a_p : B0 ≤ gp := by omega
  clear s_0
  by_cases hec : ec = 0
  · subst hec
    have hz := taskFault_zero (T := T) (by rw [Hq.out])
    rw [Hq.out] at hz
    obtain ⟨_, e2⟩ := Prod.mk.inj hz
    subst e2
    clear hz
    have hlow := H.out.ops.low
    simp only at hlow
    have hct := Steps_ct nO B m d l w2 (Hl.out.keep Hbl.out) hlow
    rw [← HlO.out] at hct
    obtain ⟨sc, si, hsf⟩ : ∃ sc si, stepsFault T.ops.length l = (sc, si) := ⟨_, _, rfl⟩
    rw [hsf] at hct
    have Hs := hide hsf
    rw [HlO.out] at hct
    clear hsf
    go_wp2_with fail
    with_reducible refine (hct).mono ?_
    rintro e w3 ⟨rfl, hb⟩
    clear t0 t1 t2 t3 r0 r1 p0 p1 tl rl pl
    replace Ht := hide (Ht.out.keep hb)
    replace Hr := hide (Hr.out.keep hb)
    replace Hp := hide (Hp.out.keep hb)
    replace Hbl := hide (Hbl.out.trans (hb.mono Hbl.out.size))
    clear hb
    clear hct
    unfold fault
    have t0 := Ht.out.cell 0
    have t1 := Ht.out.cell 1
    have t2 := Ht.out.cell 2
    have t3 := Ht.out.cell 3
    have tl := Ht.out.lt
    have r0 := Hr.out.cell 0
    have r1 := Hr.out.cell 1
    have rl := Hr.out.lt
    have p0 := Hp.out.cell 0
    have p1 := Hp.out.cell 1
    have pl := Hp.out.lt
    simp only [List.getElem?_cons_zero, List.getElem?_cons_succ] at t0 t1 t2 t3 r0 r1 p0 p1
    have rf0 := Hr.out.frozen 0
    have rf1 := Hr.out.frozen 1
    go_wp2_with fail
    exact bodyPost_ret (v := fault sc si) (by simp [results, Tryz.results76, go_sem, fault, r0, r1, rl]) rfl ⟨by unfold planFault; rw [Hq.out, if_neg (by simp), Hs.out], by
      repeat' (first | (with_reducible exact Hbl.out) | (with_reducible refine Below.drew ?_) | (with_reducible refine below_set ?_ ?_ _ _) | (have := HB0.out; omega))⟩
  · have hne : (ec != 0) = true := by simpa using hec
    have rf0 := Hr.out.frozen 0
    have rf1 := Hr.out.frozen 1
    go_wp2_with fail
    exact bodyPost_ret (v := fault ec ei) (by simp [results, Tryz.results76, go_sem, fault, r0, r1, rl]) rfl ⟨by unfold planFault; rw [Hq.out, if_pos hec], by
      repeat' (first | (with_reducible exact Hbl.out) | (with_reducible refine Below.drew ?_) | (with_reducible refine below_set ?_ ?_ _ _) | (have := HB0.out; omega))⟩
set_option maxRecDepth 100000 in
set_option maxHeartbeats 3200000 in
theorem Can_ct (a : TA) (T : Tsk) (N : Nat) (B : Option Addr) (m d : Nat) (l : List Int) (q : Nat) (w : World) (h : TkR w a T) (hl : Rd Enc.int w B m d l) (hos : ∀ o ∈ T.ops, setB N o.pre = true ∧ setB N o.add = true ∧ setB N o.del = true) (hN : N ≤ 1000) (hs : setB N l = true) (hq : q < a.nO) :
    Calls Tryz.prog 139 #[.agg #[.int .i64 T.facts, .slice a.I a.nI a.cI, .slice a.G a.nG a.cG, .slice a.O a.nO a.cO], .slice B m d, .int .i64 q] w (Gives w (.bool (subsetB (opAt T.ops q).pre l))) := by
  obtain ⟨I, nI, cI, G, nG, cG, O, nO, cO⟩ := a
  simp only at hq ⊢
  have H := hide h
  have Hl := hide hl
  obtain ⟨b1, off1, o, A1, n1, d1, A2, n2, d2, A3, n3, d3, rfl, hoq, g0, g1, g2, g3, r1, r2, r3, r4⟩ := h.ops.op hq
  have hb1 : b1 < w.heap.size := World.block_lt_of_cell? w _ g0
  have hgo := opAt_eq hoq
  have hok := hos o (List.mem_of_getElem? hoq)
  have hlow := h.ops.low
  simp only at hlow
  have hl1 := r1.low
  have hl2 := r2.low
  have hl3 := r3.low
  have q1 := setB_len hok.1
  have q2 := setB_len hok.2.1
  have q3 := setB_len hok.2.2
  rw [r1.len] at q1
  rw [r2.len] at q2
  rw [r3.len] at q3
  have Hgo := hide hgo
  have Hok := hide hok
  have R1 := hide r1
  have R2 := hide r2
  have R3_ := hide r3
  have K0 := hide g0
  have K1 := hide g1
  have K2 := hide g2
  have K3 := hide g3
  clear h hl hos hoq r1 r2 r3 r4 g0 g1 g2 g3 hok hgo
  have Hbl := hide (Below.refl w.heap.size w)
  go_enter Tryz.func139, Tryz.ntmps139
  go_upto_region 1 with (fail)
  obtain ⟨B0, hB0⟩ : ∃ B0, B0 = w.heap.size := ⟨_, rfl⟩
  have HB0 := hide hB0
  clear hB0
  have s_0 : B0 ≤ w.heap.size := Nat.le_trans (Nat.le_of_eq HB0.out) Hbl.out.size
  have hyt := Blk.new (w) 25 [.int .i64 T.facts, .slice I nI cI, .slice G nG cG, .slice (some ⟨b1, off1, none⟩) nO cO]
  have hbW : Below (w).heap.size (w) ((w).alloc (.cells #[.int .i64 T.facts, .slice I nI cI, .slice G nG cG, .slice (some ⟨b1, off1, none⟩) nO cO] 25)) := (Below.refl _ _).alloc (Nat.le_refl _) _
  obtain ⟨w0, hW⟩ : ∃ W, W = (w).alloc (.cells #[.int .i64 T.facts, .slice I nI cI, .slice G nG cG, .slice (some ⟨b1, off1, none⟩) nO cO] 25) := ⟨_, rfl⟩
  rw [← hW] at hyt hbW ⊢
  replace Hbl := hide (Hbl.out.trans (hbW.mono Hbl.out.size))
  have Ht := hide hyt
  clear hW hbW hyt
  generalize w.heap.size = gT at Ht s_0 ⊢
  have t0 := Ht.out.cell 0
  have t1 := Ht.out.cell 1
  have t2 := Ht.out.cell 2
  have t3 := Ht.out.cell 3
  have tl := Ht.out.lt
  simp only [List.getElem?_cons_zero, List.getElem?_cons_succ] at t0 t1 t2 t3
  have a_t : B0 ≤ gT := by omega
  clear s_0
  have k0 := ((olds Hbl.out).1 _ _ hb1).trans K0.out
  have k1 := ((olds Hbl.out).1 _ _ hb1).trans K1.out
  have k2 := ((olds Hbl.out).1 _ _ hb1).trans K2.out
  have k3 := ((olds Hbl.out).1 _ _ hb1).trans K3.out
  have hmk : ((q : Nat) : Int) < (nO : Int) := by omega
  go_wp2_with fail
  have hct := Contains_ct B A1 m d n1 d1 l o.pre w0 (Hl.out.keep Hbl.out) (R1.out.keep Hbl.out) (setB_iff.1 hs).1 (setB_iff.1 Hok.out.1).1
  with_reducible refine hct.mono ?_
  rintro e w1 ⟨rfl, rfl⟩
  clear hct
  go_wp2_with fail
  go_ret
  exact ⟨ret_bool (by rw [Hgo.out]), Hbl.out⟩
set_option maxRecDepth 100000 in
set_option maxHeartbeats 3200000 in
theorem Next_ct (a : TA) (T : Tsk) (N : Nat) (B : Option Addr) (m d : Nat) (l : List Int) (q : Nat) (w : World) (h : TkR w a T) (hl : Rd Enc.int w B m d l) (hos : ∀ o ∈ T.ops, setB N o.pre = true ∧ setB N o.add = true ∧ setB N o.del = true) (hN : N ≤ 1000) (hs : setB N l = true) (hq : q < a.nO) :
    Calls Tryz.prog 140 #[.agg #[.int .i64 T.facts, .slice a.I a.nI a.cI, .slice a.G a.nG a.cG, .slice a.O a.nO a.cO], .slice B m d, .int .i64 q] w (MadeI w (updF l (opAt T.ops q).add (opAt T.ops q).del)) := by
  obtain ⟨I, nI, cI, G, nG, cG, O, nO, cO⟩ := a
  simp only at hq ⊢
  have H := hide h
  have Hl := hide hl
  obtain ⟨b1, off1, o, A1, n1, d1, A2, n2, d2, A3, n3, d3, rfl, hoq, g0, g1, g2, g3, r1, r2, r3, r4⟩ := h.ops.op hq
  have hb1 : b1 < w.heap.size := World.block_lt_of_cell? w _ g0
  have hgo := opAt_eq hoq
  have hok := hos o (List.mem_of_getElem? hoq)
  have hlow := h.ops.low
  simp only at hlow
  have hl1 := r1.low
  have hl2 := r2.low
  have hl3 := r3.low
  have q1 := setB_len hok.1
  have q2 := setB_len hok.2.1
  have q3 := setB_len hok.2.2
  rw [r1.len] at q1
  rw [r2.len] at q2
  rw [r3.len] at q3
  have Hgo := hide hgo
  have Hok := hide hok
  have R1 := hide r1
  have R2 := hide r2
  have R3_ := hide r3
  have K0 := hide g0
  have K1 := hide g1
  have K2 := hide g2
  have K3 := hide g3
  clear h hl hos hoq r1 r2 r3 r4 g0 g1 g2 g3 hok hgo
  have Hbl := hide (Below.refl w.heap.size w)
  go_enter Tryz.func140, Tryz.ntmps140
  go_upto_region 1 with (fail)
  obtain ⟨B0, hB0⟩ : ∃ B0, B0 = w.heap.size := ⟨_, rfl⟩
  have HB0 := hide hB0
  clear hB0
  have s_0 : B0 ≤ w.heap.size := Nat.le_trans (Nat.le_of_eq HB0.out) Hbl.out.size
  have hyt := Blk.new (w) 25 [.int .i64 T.facts, .slice I nI cI, .slice G nG cG, .slice (some ⟨b1, off1, none⟩) nO cO]
  have hbW : Below (w).heap.size (w) ((w).alloc (.cells #[.int .i64 T.facts, .slice I nI cI, .slice G nG cG, .slice (some ⟨b1, off1, none⟩) nO cO] 25)) := (Below.refl _ _).alloc (Nat.le_refl _) _
  obtain ⟨w0, hW⟩ : ∃ W, W = (w).alloc (.cells #[.int .i64 T.facts, .slice I nI cI, .slice G nG cG, .slice (some ⟨b1, off1, none⟩) nO cO] 25) := ⟨_, rfl⟩
  rw [← hW] at hyt hbW ⊢
  replace Hbl := hide (Hbl.out.trans (hbW.mono Hbl.out.size))
  have Ht := hide hyt
  clear hW hbW hyt
  generalize w.heap.size = gT at Ht s_0 ⊢
  have t0 := Ht.out.cell 0
  have t1 := Ht.out.cell 1
  have t2 := Ht.out.cell 2
  have t3 := Ht.out.cell 3
  have tl := Ht.out.lt
  simp only [List.getElem?_cons_zero, List.getElem?_cons_succ] at t0 t1 t2 t3
  have a_t : B0 ≤ gT := by omega
  clear s_0
  have k0 := ((olds Hbl.out).1 _ _ hb1).trans K0.out
  have k1 := ((olds Hbl.out).1 _ _ hb1).trans K1.out
  have k2 := ((olds Hbl.out).1 _ _ hb1).trans K2.out
  have k3 := ((olds Hbl.out).1 _ _ hb1).trans K3.out
  have hmk : ((q : Nat) : Int) < (nO : Int) := by omega
  go_upto_region 2 with (fail)
  have n_t_o : ¬ gT = w0.heap.size := by omega
  have n_o_t : ¬ w0.heap.size = gT := by omega
  have s_t : gT < w0.heap.size := tl
  have s_0 : B0 ≤ w0.heap.size := Nat.le_trans (Nat.le_of_eq HB0.out) Hbl.out.size
  have hyo := Blk.new (w0) 81 [.slice A1 n1 d1, .slice A2 n2 d2, .slice A3 n3 d3, .int .i64 o.cost]
  have hbW : Below (w0).heap.size (w0) ((w0).alloc (.cells #[.slice A1 n1 d1, .slice A2 n2 d2, .slice A3 n3 d3, .int .i64 o.cost] 81)) := (Below.refl _ _).alloc (Nat.le_refl _) _
  obtain ⟨w1, hW⟩ : ∃ W, W = (w0).alloc (.cells #[.slice A1 n1 d1, .slice A2 n2 d2, .slice A3 n3 d3, .int .i64 o.cost] 81) := ⟨_, rfl⟩
  rw [← hW] at hyo hbW ⊢
  replace Ht := hide (Ht.out.keep hbW)
  replace Hbl := hide (Hbl.out.trans (hbW.mono Hbl.out.size))
  have Ho := hide hyo
  clear hW hbW hyo
  generalize w0.heap.size = gO at Ho n_t_o n_o_t s_t s_0 ⊢
  have t0 := Ht.out.cell 0
  have t1 := Ht.out.cell 1
  have t2 := Ht.out.cell 2
  have t3 := Ht.out.cell 3
  have tl := Ht.out.lt
  have o0 := Ho.out.cell 0
  have o1 := Ho.out.cell 1
  have o2 := Ho.out.cell 2
  have o3 := Ho.out.cell 3
  have ol := Ho.out.lt
  simp only [List.getElem?_cons_zero, List.getElem?_cons_succ] at t0 t1 t2 t3 o0 o1 o2 o3
  clear s_t
  have a_o : B0 ≤ gO := by omega
  clear s_0
  have hlm := setB_len hs
  rw [Hl.out.len] at hlm
  clear k0 k1 k2 k3
  go_wp2_with fail
  have hct := Update_ct B A2 A3 m d n2 d2 n3 d3 l o.add o.del w1 (Hl.out.keep Hbl.out) (R2.out.keep Hbl.out) (R3_.out.keep Hbl.out) (by omega) (by omega) (by omega) (up_le (setB_iff.1 Hok.out.2.2).1)
  with_reducible refine hct.mono ?_
  rintro e w2 ⟨hb, A, c, rfl, hown⟩
  have Hown := hide hown
  have Hb := hide hb
  clear hct hown hb
  go_wp2_with fail
  go_ret
  rw [Hgo.out]
  exact ⟨Hbl.out.trans (Hb.out.mono Hbl.out.size), A, c, rfl, own_low Hown.out Hbl.out.size⟩
end Go.Proofs.YtmjiiddncbhgpaaGreat
namespace Go.Proofs.YtmjiiddncbhgpaaGreat
set_option linter.unusedVariables false
set_option linter.unusedSimpArgs false
open Go.RowKit
theorem rowInfoT : (Tryz.prog.info? 22).map (fun i => (i.zero, i.size, i.bytes)) = some (some (.slice none 0 0), 1, 24) := by kernel_rfl
/-- rows that a call has made: they read so whatever happens to blocks that were there before -/
def RowsP (w : World) (rs : List (List Int)) (e : Ending) (w' : World) : Prop :=
  Below w.heap.size w w' ∧ ∃ (A : Option Addr) (c : Nat), e = .returned (.slice A rs.length c) ∧ ∀ w'', Chg (fun b => b < w.heap.size) w' w'' → Rd (Enc.sl Enc.int) w'' A rs.length c rs
theorem own_fresh {w : World} {B : Nat} {t : TypeId} {size n : Nat} {us : List Value} (hB : B ≤ w.heap.size) (hn : n ≤ 1000000) (hl : us.length = n * size) : (w.alloc (.cells us.toArray t)).ownsRow B t size (.slice (some ⟨w.heap.size, 0, none⟩) n n) n us :=
  ⟨hl, .inr ⟨w.heap.size, n, us.toArray, rfl, hB, Blk.new w t us, Nat.le_refl _, by unfold maxLen; omega, by simpa using hl, by simp; exact List.take_of_length_le (by omega)⟩⟩
/-- one element alone -/
theorem OwnE.one {α : Type} {E : Enc α} {t : TypeId} {B : Nat} {M : Nat → Prop} {w : World} {us : List Value} {x : α} (hB : B ≤ w.heap.size) (hf : Firm E M w us x) (hM : ∀ i, i < w.heap.size + 1 → M i → i < w.heap.size ∨ i = w.heap.size) : OwnE E t B (fun b => M b ∨ w.heap.size ≤ b) (w.alloc (.cells us.toArray t)) (some ⟨w.heap.size, 0, none⟩) 1 1 us [x] :=
  ⟨own_fresh hB (by omega) (by rw [E.len hf.ok]; omega), rfl, fun i y hi => by
    cases i with
    | zero =>
      simp at hi
      subst hi
      exact ⟨us, fun j v hj => by simpa using hj, hf.chg (Chg.of_below ((Below.refl _ _).alloc (Nat.le_refl _) _) M)⟩
    | succ i => simp at hi⟩
theorem firm_row {w : World} {B : Nat} {t : TypeId} {M : Nat → Prop} {A : Option Addr} {n c : Nat} {l : List Int} (h : w.ownsRow B t 1 (.slice A n c) n (l.map (Value.int .i64))) (hl : l.length = n) (hr : ∀ x ∈ l, -9223372036854775808 ≤ x ∧ x ≤ 9223372036854775807) (hM : ∀ i, i < w.heap.size → M i → i < B) : Firm (Enc.sl Enc.int) M w [.slice A n c] l :=
  fun w' hc => ⟨A, n, c, rfl, RdM.own h (fun r hr e => by
    have h1 := own_base h (by rw [own_blkA]; exact hr)
    have h2 := (own_block h (by rw [own_blkA]; exact hr)).1
    have := hM r h2 e
    omega) hl hr w' hc⟩
theorem set_ints {N : Nat} {l : List Int} (h : setB N l = true) (hN : N ≤ 1000) : ∀ x ∈ l, -9223372036854775808 ≤ x ∧ x ≤ 9223372036854775807 := fun x hx => by
  have := (setB_iff.1 h).2 x hx
  omega
/-- the rows of Run, and what else may change -/
def RunM (B : Nat) (w : World) (O : Option Addr) : Nat → Prop := fun b => blkA O = some b ∨ b < B ∨ w.heap.size ≤ b
set_option maxRecDepth 100000 in
set_option maxHeartbeats 3200000 in
theorem Run_ct (a : TA) (T : Tsk) (N : Nat) (P : Option Addr) (np dp : Nat) (s : List Int) (B : Option Addr) (m d : Nat) (l : List Int) (w : World) (h : TkR w a T) (hs : Rd Enc.int w P np dp s) (hl : Rd Enc.int w B m d l)
    (hos : ∀ o ∈ T.ops, setB N o.pre = true ∧ setB N o.add = true ∧ setB N o.del = true) (hN : N ≤ 1000) (hset : setB N s = true) (hr : ∀ x ∈ l, 0 ≤ x ∧ x < T.ops.length) (hm : m ≤ 1000000) :
    Calls Tryz.prog 105 #[.agg #[.int .i64 T.facts, .slice a.I a.nI a.cI, .slice a.G a.nG a.cG, .slice a.O a.nO a.cO], .slice P np dp, .slice B m d] w (RowsP w (runF T.ops s l)) := by
  have hcan := fun B m d l q w h hl hs hq => Can_ct a T N B m d l q w h hl hos hN hs hq
  have hnext := fun B m d l q w h hl hs hq => Next_ct a T N B m d l q w h hl hos hN hs hq
  obtain ⟨i1, hi1, hy0, hy1, hy2⟩ := info_parts rowInfoT
  obtain ⟨I, nI, cI, G, nG, cG, O, nO, cO⟩ := a
  simp only at hcan hnext ⊢
  have hlO := h.ops.len
  have hlow := h.ops.low
  have hlm := hl.low
  simp only at hlO hlow
  have Hcan := hide hcan
  have Hnext := hide hnext
  have H := hide h
  have Hl := hide hl
  have Hll := hide hl.len
  have Hs := hide hs
  have HlO := hide hlO
  have Hr := hide hr
  have Hset := hide hset
  have Hos := hide hos
  clear hcan hnext h hl hlO hs hr hset hos
  have Hbl := hide (Below.refl w.heap.size w)
  go_enter Tryz.func105, Tryz.ntmps105
  go_upto_region 1 with (fail)
  obtain ⟨B0, hB0⟩ : ∃ B0, B0 = w.heap.size := ⟨_, rfl⟩
  have HB0 := hide hB0
  clear hB0
  have s_0 : B0 ≤ w.heap.size := Nat.le_trans (Nat.le_of_eq HB0.out) Hbl.out.size
  have hyt := Blk.new (w) 25 [.int .i64 T.facts, .slice I nI cI, .slice G nG cG, .slice O nO cO]
  have hbW : Below (w).heap.size (w) ((w).alloc (.cells #[.int .i64 T.facts, .slice I nI cI, .slice G nG cG, .slice O nO cO] 25)) := (Below.refl _ _).alloc (Nat.le_refl _) _
  obtain ⟨w0, hW⟩ : ∃ W, W = (w).alloc (.cells #[.int .i64 T.facts, .slice I nI cI, .slice G nG cG, .slice O nO cO] 25) := ⟨_, rfl⟩
  rw [← hW] at hyt hbW ⊢
  replace Hbl := hide (Hbl.out.trans (hbW.mono Hbl.out.size))
  have Ht := hide hyt
  clear hW hbW hyt
  generalize w.heap.size = gT at Ht s_0 ⊢
  have t0 := Ht.out.cell 0
  have t1 := Ht.out.cell 1
  have t2 := Ht.out.cell 2
  have t3 := Ht.out.cell 3
  have tl := Ht.out.lt
  simp only [List.getElem?_cons_zero, List.getElem?_cons_succ] at t0 t1 t2 t3
  have a_t : B0 ≤ gT := by omega
  clear s_0
  obtain ⟨B1, hB1⟩ : ∃ B1, B1 = gT + 1 := ⟨_, rfl⟩
  have hBg : gT < B1 := by omega
  have hB01 : B0 ≤ B1 := by omega
  have hsz0 : B1 ≤ w0.heap.size := by omega
  clear hB1
  have hnp := setB_len Hset.out
  rw [Hs.out.len] at hnp
  go_wp2_with fail
  have hct := CloneI_ct P np dp s w0 (Hs.out.keep Hbl.out) (by omega)
  with_reducible refine hct.mono ?_
  rintro e w1 ⟨hb, A1, c1, rfl, hown⟩
  clear t0 t1 t2 t3 tl
  replace Ht := hide (Ht.out.keep hb)
  have hsz01 := hb.size
  replace Hbl := hide (Hbl.out.trans (hb.mono Hbl.out.size))
  have hf1 := firm_row (M := RunM B1 w1 none) hown Hs.out.len (set_ints Hset.out hN) (fun i hi e => by
    rcases e with e | e | e
    · cases e
    · omega
    · omega)
  have Hf1 := hide hf1
  clear hb hct hown hf1
  have t0 := Ht.out.cell 0
  have t1 := Ht.out.cell 1
  have t2 := Ht.out.cell 2
  have t3 := Ht.out.cell 3
  have tl := Ht.out.lt
  simp only [List.getElem?_cons_zero, List.getElem?_cons_succ] at t0 t1 t2 t3
  go_upto_region 2 with (fail)
  have hsz1 : B1 ≤ w1.heap.size := by omega
  have ho1 := OwnE.one (t := 22) (B := B1) hsz1 Hf1.out (fun i hi e => by omega)
  obtain ⟨g1, hg1⟩ : ∃ g, g = w1.heap.size := ⟨_, rfl⟩
  have hbW : Below w1.heap.size w1 (w1.alloc (.cells #[.slice A1 np c1] 22)) := (Below.refl _ _).alloc (Nat.le_refl _) _
  have ho2 : OwnE (Enc.sl Enc.int) 22 B1 (RunM B1 (w1.alloc (.cells #[.slice A1 np c1] 22)) (some ⟨g1, 0, none⟩)) (w1.alloc (.cells #[.slice A1 np c1] 22)) (some ⟨g1, 0, none⟩) 1 1 [.slice A1 np c1] [s] := by
    rw [hg1]
    exact ho1.less (fun i hi e => by
      simp only [World.size_alloc] at hi
      rcases e with e | e | e
      · have : w1.heap.size = i := by simpa [blkA] using e
        exact .inr (by omega)
      · exact .inl (.inr (.inl e))
      · simp only [World.size_alloc] at e
        omega)
  rw [← hg1]
  obtain ⟨w2, hW⟩ : ∃ W, W = w1.alloc (.cells #[.slice A1 np c1] 22) := ⟨_, rfl⟩
  rw [← hW] at ho2 hbW ⊢
  clear t0 t1 t2 t3 tl
  replace Ht := hide (Ht.out.keep hbW)
  replace Hbl := hide (Hbl.out.trans (hbW.mono Hbl.out.size))
  have Hrow := hide ho2
  have hgb : B1 ≤ g1 := by omega
  have hsz12 : w1.heap.size ≤ w2.heap.size := by rw [hW]; simp
  clear hW hbW ho1 ho2 hg1 Hf1
  have t0 := Ht.out.cell 0
  have t1 := Ht.out.cell 1
  have t2 := Ht.out.cell 2
  have t3 := Ht.out.cell 3
  have tl := Ht.out.lt
  simp only [List.getElem?_cons_zero, List.getElem?_cons_succ] at t0 t1 t2 t3
  have hsz2 : B1 ≤ w2.heap.size := by omega
  go_wp2_with fail
  clear t0 t1 t2 t3 tl
  have Hst := hide (show runF T.ops s l = [s] ++ runT s ((l.drop 0).map (opAt T.ops)) from rfl)
  have Hcur := hide (show RdM (fun b => B0 ≤ b) w2 P np dp s from fun w' hc => (Hs.out.keep Hbl.out).keep ((Below.refl _ _)) |> fun _ => Hs.out.keep (Hbl.out.trans (hc.below (B := w.heap.size) (fun i e => by have := HB0.out; omega) Hbl.out.size)))
  go_loopw [1, 7, 15] (fun sv ov i wr => ∃ (k : Nat) (s' : List Int) (P' : Option Addr) (np' dp' : Nat) (O' : Option Addr) (oc : Nat) (vs : List Value) (rs : List (List Int)), k ≤ m ∧ i = .int .i64 k ∧ sv = .slice P' np' dp' ∧ ov = .slice O' (k + 1) oc ∧
    OwnE (Enc.sl Enc.int) 22 B1 (RunM B1 wr O') wr O' (k + 1) oc vs rs ∧ RdM (fun b => blkA O' = some b ∨ wr.heap.size ≤ b) wr P' np' dp' s' ∧ setB N s' = true ∧ Below w.heap.size w wr ∧ B1 ≤ wr.heap.size ∧ Blk 25 wr gT [.int .i64 T.facts, .slice I nI cI, .slice G nG cG, .slice O nO cO] ∧ runF T.ops s l = rs ++ runT s' ((l.drop k).map (opAt T.ops))) (fun _ _ i _ => m - (intOf i).toNat)
  case atStart => exact ⟨0, s, P, np, dp, _, 1, _, [s], by omega, rfl, rfl, rfl, Hrow.out, Hcur.out.mono (fun i hi e => by
    rcases e with e | e
    · have : g1 = i := by simpa [blkA] using e
      show B0 ≤ i
      omega
    · show B0 ≤ i
      omega), Hset.out, Hbl.out, hsz2, Ht.out, Hst.out⟩
  case round =>
    clear Hst Hcur Hrow Ht Hbl
    obtain ⟨k, s', P', np', dp', O', oc, vs, rs, hk, rfl, rfl, rfl, hown, hcur, hset', hbl, hbr, ht, hst⟩ := hrel
    have Hown := hide hown
    have Hcur := hide hcur
    have Hset' := hide hset'
    have Hbl := hide hbl
    have Ht := hide ht
    have Hst := hide hst
    clear hown hcur hset' hbl ht hst
    have t0 := Ht.out.cell 0
    have t1 := Ht.out.cell 1
    have t2 := Ht.out.cell 2
    have t3 := Ht.out.cell 3
    have tl := Ht.out.lt
    simp only [List.getElem?_cons_zero, List.getElem?_cons_succ] at t0 t1 t2 t3
    have hszr : B1 ≤ wr.heap.size := hbr
    by_cases hlt : k < m
    · obtain ⟨b, off, x, rfl, hx, hx1, hx2, hcx⟩ := (Hl.out.keep Hbl.out).int hlt
      have hxr := Hr.out x (List.mem_of_getElem? hx)
      obtain ⟨q, rfl⟩ : ∃ q : Nat, x = (q : Int) := ⟨x.toNat, by omega⟩
      have hq : q < nO := by have := HlO.out; omega
      have hdrop := drop_cons hx
      have Hdrop := hide hdrop
      clear hx hxr hdrop
      have hct := Hcan.out P' np' dp' s' q wr (H.out.keep Hbl.out) Hcur.out.rd Hset'.out hq
      go_wp2_with fail
      with_reducible refine hct.mono ?_
      rintro e w3 ⟨rfl, hb⟩
      clear hct hcx t0 t1 t2 t3 tl
      replace Ht := hide (Ht.out.keep hb)
      replace Hown := hide ((Hown.out.keep hb).less (M' := RunM B1 w3 O') (fun i hi e => by
        have := hb.size
        rcases e with e | e | e
        · exact .inl e
        · exact .inr (.inl e)
        · omega))
      replace Hcur := hide ((Hcur.out.keep hb).mono (M' := fun b => blkA O' = some b ∨ w3.heap.size ≤ b) (fun i hi e => by
        have := hb.size
        rcases e with e | e
        · exact .inl e
        · omega))
      replace Hbl := hide (Hbl.out.trans (hb.mono Hbl.out.size))
      have hsz3 : B1 ≤ w3.heap.size := by have := hb.size; omega
      clear hb
      have t0 := Ht.out.cell 0
      have t1 := Ht.out.cell 1
      have t2 := Ht.out.cell 2
      have t3 := Ht.out.cell 3
      have tl := Ht.out.lt
      simp only [List.getElem?_cons_zero, List.getElem?_cons_succ] at t0 t1 t2 t3
      cases hcan : subsetB (opAt T.ops q).pre s' with
      | false =>
        have hend : runF T.ops s l = rs := by
          rw [Hst.out, Hdrop.out, List.map_cons]
          conv => lhs; rhs; unfold runT
          rw [if_neg (by rw [hcan]; simp), List.append_nil]
        have hlen := Hown.out.len
        have Hend := hide hend
        have Hlen := hide hlen
        clear hend hlen hcan
        go_wp2_with fail
        go_ret
        rw [Hend.out]
        refine ⟨Hbl.out, O', oc, by rw [Hlen.out]; rfl, fun w'' hc => ?_⟩
        rw [Hlen.out]
        exact (Hown.out.chg hc (fun i e => .inr (.inl (by have := HB0.out; omega))) (fun r hr e => by have := (Hown.out.base hr).1; have := HB0.out; omega)).rd
      | true =>
        have Hcan' := hide hcan
        clear hcan
        have hct := Hnext.out P' np' dp' s' q w3 (H.out.keep Hbl.out) Hcur.out.rd Hset'.out hq
        go_wp2_with fail
        with_reducible refine hct.mono ?_
        rintro e w4 ⟨hb, A2, c2, rfl, hown2⟩
        clear hct t0 t1 t2 t3 tl
        have hop := Hos.out (opAt T.ops q) (opAt_mem (by omega) (by have := HlO.out; omega))
        have hset2 : setB N (updF s' (opAt T.ops q).add (opAt T.ops q).del) = true := updF_set (setB_iff.1 Hset'.out).2 (setB_iff.1 hop.2.1).2
        have hnext2 : runF T.ops s l = (rs ++ [updF s' (opAt T.ops q).add (opAt T.ops q).del]) ++ runT (updF s' (opAt T.ops q).add (opAt T.ops q).del) ((l.drop (k + 1)).map (opAt T.ops)) := by
          rw [Hst.out, Hdrop.out, List.map_cons]
          conv => lhs; rhs; unfold runT
          rw [if_pos Hcan'.out, List.append_assoc]
          rfl
        generalize updF s' (opAt T.ops q).add (opAt T.ops q).del = s2 at hown2 hset2 hnext2 ⊢
        have hsz34 := hb.size
        replace Ht := hide (Ht.out.keep hb)
        have hO3 : ∀ r, blkA O' = some r → r < w3.heap.size := fun r hr => (Hown.out.base hr).2
        replace Hown := hide ((Hown.out.keep hb).less (M' := RunM B1 w4 O') (fun i hi e => by
          rcases e with e | e | e
          · exact .inl e
          · exact .inr (.inl e)
          · omega))
        have hf2 := firm_row (M := RunM B1 w4 O') hown2 rfl (set_ints hset2 hN) (fun i hi e => by
          rcases e with e | e | e
          · exact hO3 i e
          · omega
          · omega)
        have hcur2 := RdM.own (M := fun b => blkA O' = some b ∨ w4.heap.size ≤ b) hown2 (fun r hr e => by
          have h1 := own_base hown2 (by rw [own_blkA]; exact hr)
          have h2 := (own_block hown2 (by rw [own_blkA]; exact hr)).1
          rcases e with e | e
          · have := hO3 r e
            omega
          · omega) rfl (set_ints hset2 hN)
        replace Hbl := hide (Hbl.out.trans (hb.mono Hbl.out.size))
        have hsz4 : B1 ≤ w4.heap.size := by omega
        have Hf2 := hide hf2
        have Hcur2 := hide hcur2
        have Hset2 := hide hset2
        have Hnext2 := hide hnext2
        have hmle : s2.length ≤ 1000 := by have := setB_len hset2; omega
        clear hown2 hb hf2 hcur2 hset2 hnext2 hop Hst Hcur hO3
        have t0 := Ht.out.cell 0
        have tl := Ht.out.lt
        simp only [List.getElem?_cons_zero] at t0
        generalize s2.length = nn at Hf2 Hcur2 hmle ⊢
        go_wp2_with
          (at_builtin
           refine wpList_pushE rfl _ _ 42 rfl B1 22 i1 _ 24 Tryz.underlying42 hi1 hy0 hy1 hy2 rfl (by decide) rfl Hown.out (fun r hr => .inl hr) [.slice A2 nn c2] s2 (by intro u hu; simp at hu; subst hu; rfl) rfl Hf2.out (by omega) (by omega) hsz4 ?_
           intro O6 oc6 w6 hown6 hch6 hat6
           have hne6 : ∀ i, blkA O' = some i → B1 ≤ i := fun i e => (Hown.out.base e).1
           have hsz6 := hch6.size
           have hown7 := hown6.less (M' := RunM B1 w6 O6) (fun i hi e => by
             rcases e with e | e | e
             · rcases hat6 with hat6 | hat6
               · exact .inl (.inl (by rw [← hat6]; exact e))
               · rw [hat6] at e
                 injection e with e
                 exact .inr (by omega)
             · exact .inl (.inr (.inl e))
             · omega)
           have hcur6 := RdM.mono (M' := fun b => blkA O6 = some b ∨ w6.heap.size ≤ b) (show RdM (fun b => (blkA O' = some b ∨ w4.heap.size ≤ b)) w6 A2 nn c2 s2 from Hcur2.out.chg (hch6.mono fun b e => .inl e)) (fun i hi e => by
             rcases e with e | e
             · rcases hat6 with hat6 | hat6
               · exact .inl (by rw [← hat6]; exact e)
               · rw [hat6] at e
                 injection e with e
                 exact .inr (by omega)
             · omega)
           have hbl6 := Hbl.out.trans (hch6.below (B := w.heap.size) (fun i e => by have := hne6 i e; have := HB0.out; omega) Hbl.out.size)
           have ht6 := hch6.blk Ht.out (fun e => by have h9 := (Hown.out.base e).1; omega)
           have Hown6 := hide hown7
           have Hcur6 := hide hcur6
           have Hbl6 := hide hbl6
           have Ht6 := hide ht6
           clear hown6 hch6 hat6 hne6 hown7 hcur6 hbl6 ht6 t0 tl)
        go_roundw
        case rel => exact ⟨k + 1, s2, A2, nn, c2, O6, oc6, _, _, by omega, by go_num, rfl, rfl, Hown6.out, Hcur6.out, Hset2.out, Hbl6.out, by omega, Ht6.out, Hnext2.out⟩
        case measure => simp [intOf]; omega
    · obtain rfl : k = m := by omega
      have hend : runF T.ops s l = rs := by
        rw [Hst.out, List.drop_of_length_le (by rw [Hll.out]; omega)]
        simp [runT]
      have hlen := Hown.out.len
      have Hend := hide hend
      have Hlen := hide hlen
      clear hend hlen
      go_wp2_with fail
      go_ret
      rw [Hend.out]
      refine ⟨Hbl.out, O', oc, by rw [Hlen.out]; rfl, fun w'' hc => ?_⟩
      rw [Hlen.out]
      exact (Hown.out.chg hc (fun i e => .inr (.inl (by have := HB0.out; omega))) (fun r hr e => by have := (Hown.out.base hr).1; have := HB0.out; omega)).rd
end Go.Proofs.YtmjiiddncbhgpaaGreat
namespace Go.Proofs.YtmjiiddncbhgpaaGreat
set_option linter.unusedVariables false
set_option linter.unusedSimpArgs false
open Go.RowKit
def worksF (T : Tsk) (s l : List Int) : Bool := match execO s (l.map (opAt T.ops)) with
  | some r => subsetB T.goal r
  | none => false
theorem works_len {T : Tsk} {s l : List Int} : (worksF T s l = true → (runF T.ops s l).length = l.length + 1) ∧ ((runF T.ops s l).length ≠ l.length + 1 → execO s (l.map (opAt T.ops)) = none) ∧ ∀ r, (runF T.ops s l).length = l.length + 1 → (runF T.ops s l)[l.length]? = some r → execO s (l.map (opAt T.ops)) = some r := by
  have e1 := fun r => exec_some (l.map (opAt T.ops)) s r
  have e2 := exec_none (l.map (opAt T.ops)) s
  rw [List.length_map] at e1 e2
  cases he : execO s (l.map (opAt T.ops)) with
  | none =>
    have := e2 he
    unfold runF worksF
    rw [he]
    refine ⟨fun h => (by cases h), fun _ => rfl, fun r h => ?_⟩
    rw [List.length_cons] at h
    omega
  | some r =>
    obtain ⟨h1, h2⟩ := e1 r he
    unfold runF worksF
    rw [he]
    refine ⟨fun _ => by rw [List.length_cons, h1], fun h => absurd (by rw [List.length_cons, h1]) h, fun q _ hq => ?_⟩
    rw [h2] at hq
    exact hq
def solvesR (T : Tsk) (l : List Int) : Bool × Int × Int := if (planFault T l).1 ≠ 0 then (false, planFault T l) else (worksF T T.init l, 0, 0)
theorem okt_sets {T : Tsk} {N : Nat} (h : OkT T N) : ∀ o ∈ T.ops, setB N o.pre = true ∧ setB N o.add = true ∧ setB N o.del = true := fun o ho => ⟨(h.ops o ho).pre, (h.ops o ho).add, (h.ops o ho).del⟩
set_option maxRecDepth 100000 in
set_option maxHeartbeats 3200000 in
theorem Works_ct (a : TA) (T : Tsk) (N : Nat) (P : Option Addr) (np dp : Nat) (s : List Int) (B : Option Addr) (m d : Nat) (l : List Int) (w : World) (h : TkR w a T) (hs : Rd Enc.int w P np dp s) (hl : Rd Enc.int w B m d l)
    (hos : ∀ o ∈ T.ops, setB N o.pre = true ∧ setB N o.add = true ∧ setB N o.del = true) (hN : N ≤ 1000) (hgoal : setB N T.goal = true) (hset : setB N s = true) (hr : ∀ x ∈ l, 0 ≤ x ∧ x < T.ops.length) (hm : m ≤ 1000000) :
    Calls Tryz.prog 77 #[.agg #[.int .i64 T.facts, .slice a.I a.nI a.cI, .slice a.G a.nG a.cG, .slice a.O a.nO a.cO], .slice P np dp, .slice B m d] w (Gives w (.bool (worksF T s l))) := by
  have hrun := Run_ct a T N P np dp s B m d l w
  have hg0 := hgoal
  obtain ⟨I, nI, cI, G, nG, cG, O, nO, cO⟩ := a
  have H := hide h
  have Hl := hide hl
  have Hs := hide hs
  have Hll := hide hl.len
  have hlm := hl.low
  have Hos := hide hos
  have Hset := hide hset
  have Hr := hide hr
  have Hgoal := hide hgoal
  simp only
  clear h hl hs hos hset hr hgoal hg0 hrun
  have Hbl := hide (Below.refl w.heap.size w)
  go_enter Tryz.func77, Tryz.ntmps77
  go_upto_region 1 with (fail)
  obtain ⟨B0, hB0⟩ : ∃ B0, B0 = w.heap.size := ⟨_, rfl⟩
  have HB0 := hide hB0
  clear hB0
  have s_0 : B0 ≤ w.heap.size := Nat.le_trans (Nat.le_of_eq HB0.out) Hbl.out.size
  have hyt := Blk.new (w) 25 [.int .i64 T.facts, .slice I nI cI, .slice G nG cG, .slice O nO cO]
  have hbW : Below (w).heap.size (w) ((w).alloc (.cells #[.int .i64 T.facts, .slice I nI cI, .slice G nG cG, .slice O nO cO] 25)) := (Below.refl _ _).alloc (Nat.le_refl _) _
  obtain ⟨w0, hW⟩ : ∃ W, W = (w).alloc (.cells #[.int .i64 T.facts, .slice I nI cI, .slice G nG cG, .slice O nO cO] 25) := ⟨_, rfl⟩
  rw [← hW] at hyt hbW ⊢
  replace Hbl := hide (Hbl.out.trans (hbW.mono Hbl.out.size))
  have Ht := hide hyt
  clear hW hbW hyt
  generalize w.heap.size = gT at Ht s_0 ⊢
  have t0 := Ht.out.cell 0
  have t1 := Ht.out.cell 1
  have t2 := Ht.out.cell 2
  have t3 := Ht.out.cell 3
  have tl := Ht.out.lt
  simp only [List.getElem?_cons_zero, List.getElem?_cons_succ] at t0 t1 t2 t3
  have a_t : B0 ≤ gT := by omega
  clear s_0
  have hct := Run_ct ⟨I, nI, cI, G, nG, cG, O, nO, cO⟩ T N P np dp s B m d l w0 (H.out.keep Hbl.out) (Hs.out.keep Hbl.out) (Hl.out.keep Hbl.out) Hos.out hN Hset.out Hr.out (by omega)
  go_wp2_with fail
  with_reducible refine hct.mono ?_
  rintro e w1 ⟨hb, A, c, rfl, hrows⟩
  have hrd := hrows w1 (Chg.refl _ _)
  clear hrows hct
  clear t0 t1 t2 t3 tl
  replace Ht := hide (Ht.out.keep hb)
  replace Hbl := hide (Hbl.out.trans (hb.mono Hbl.out.size))
  clear hb
  have t0 := Ht.out.cell 0
  have t1 := Ht.out.cell 1
  have t2 := Ht.out.cell 2
  have t3 := Ht.out.cell 3
  have tl := Ht.out.lt
  simp only [List.getElem?_cons_zero, List.getElem?_cons_succ] at t0 t1 t2 t3
  have hlaw := works_len (T := T) (s := s) (l := l)
  rw [Hll.out] at hlaw
  have hsets : ∀ r ∈ runF T.ops s l, setB N r = true := fun r hr => by
    unfold runF at hr
    rcases List.mem_cons.1 hr with rfl | hr
    · exact Hset.out
    · refine runT_sets _ s Hset.out (fun o ho => ?_) r hr
      obtain ⟨x, hx, rfl⟩ := List.mem_map.1 ho
      have := Hr.out x hx
      exact (Hos.out _ (opAt_mem this.1 this.2)).2.1
  generalize hrs : runF T.ops s l = rs at hrd hlaw hsets ⊢
  clear hrs
  have Hlaw := hide hlaw
  have Hsets := hide hsets
  have hlow := hrd.low
  have Hrl := hide hrd.len
  have Hrd := hide hrd
  clear hlaw hsets hrd
  generalize hq : rs.length = q at *
  have Hq := hide hq
  clear hq
  go_upto_region 2 with (fail)
  by_cases hqm : q = m + 1
  · have Hqm := hide hqm
    obtain ⟨b2, off2, r, A2, n2, c2, rfl, hr2, hc2, hrd2⟩ := Hrd.out.sl (show m < q by omega)
    have hex := Hlaw.out.2.2 r hqm hr2
    have hset2 := Hsets.out r (List.mem_of_getElem? hr2)
    have hres : worksF T s l = subsetB T.goal r := by unfold worksF; rw [hex]
    have hcell := hc2
    have hct := fun w2 (hb : Below w1.heap.size w1 w2) => Contains_ct A2 G n2 c2 nG cG r T.goal w2 (hrd2.keep hb) (H.out.goal.keep (Hbl.out.trans (hb.mono Hbl.out.size))) (setB_iff.1 hset2).1 (setB_iff.1 Hgoal.out).1
    have Hct := hide hct
    have Hres := hide hres
    have hgd : (q : Int) = (m : Int) + 1 := by omega
    have hmq : (m : Int) < (q : Int) := by omega
    clear hr2 hrd2 hex hset2 hres hct hqm hc2
    go_quiet ((go_at_call 46; exact same_call (Hct.out _ (below_drewN (Below.refl _ _) _))))
    go_wp2_with fail
    go_ret
    exact ⟨ret_bool Hres.out.symm, below_drewN Hbl.out _⟩
  · have hex := Hlaw.out.2.1 hqm
    have hres : worksF T s l = false := by unfold worksF; rw [hex]
    have Hres := hide hres
    have hgd : ((q : Int) == (m : Int) + 1) = false := by simp; omega
    have hgd2 : decide ((q : Int) = (m : Int) + 1) = false := by simp; omega
    clear hex hres hqm
    go_quiet (fail)
    go_wp2_with fail
    go_ret
    exact ⟨ret_bool Hres.out.symm, below_drewN Hbl.out _⟩
set_option maxRecDepth 100000 in
set_option maxHeartbeats 3200000 in
theorem SSolves_ct (a : TA) (T : Tsk) (B : Option Addr) (m d : Nat) (l : List Int) (w : World) (h : TkR w a T) (hl : Rd Enc.int w B m d l) :
    Calls Tryz.prog 32 #[.agg #[.int .i64 T.facts, .slice a.I a.nI a.cI, .slice a.G a.nG a.cG, .slice a.O a.nO a.cO], .slice B m d] w (Gives w (.tuple #[.bool (solvesR T l).1, fault (solvesR T l).2.1 (solvesR T l).2.2])) := by
  have hpf := SPlanFault_ct a T B m d l
  obtain ⟨I, nI, cI, G, nG, cG, O, nO, cO⟩ := a
  simp only at hpf ⊢
  rcases hq : planFault T l with ⟨ec, ei⟩
  rw [hq] at hpf
  have H := hide h
  have Hl := hide hl
  have Hll := hide hl.len
  have hlm := hl.low
  have hlO := h.ops.len
  have hlow := h.ops.low
  simp only at hlO hlow
  have HlO := hide hlO
  have Hq := hide hq
  have Hpf := hide hpf
  clear h hl hlO hq hpf
  have Hbl := hide (Below.refl w.heap.size w)
  go_enter Tryz.func32, Tryz.ntmps32
  go_upto_region 1 with (fail)
  obtain ⟨B0, hB0⟩ : ∃ B0, B0 = w.heap.size := ⟨_, rfl⟩
  have HB0 := hide hB0
  clear hB0
  have s_0 : B0 ≤ w.heap.size := Nat.le_trans (Nat.le_of_eq HB0.out) Hbl.out.size
  have hyt := Blk.new (w) 25 [.int .i64 T.facts, .slice I nI cI, .slice G nG cG, .slice O nO cO]
  have hyf := Blk.new ((w).alloc (.cells #[.int .i64 T.facts, .slice I nI cI, .slice G nG cG, .slice O nO cO] 25)) 29 [.int .i64 0, .int .i64 0]
  replace hyt := hyt.alloc (.cells #[.int .i64 0, .int .i64 0] 29)
  have hbW := below_two w (.cells #[.int .i64 T.facts, .slice I nI cI, .slice G nG cG, .slice O nO cO] 25) (.cells #[.int .i64 0, .int .i64 0] 29)
  simp only [World.size_alloc] at hyf
  obtain ⟨w0, hW⟩ : ∃ W, W = ((w).alloc (.cells #[.int .i64 T.facts, .slice I nI cI, .slice G nG cG, .slice O nO cO] 25)).alloc (.cells #[.int .i64 0, .int .i64 0] 29) := ⟨_, rfl⟩
  rw [← hW] at hyt hyf hbW ⊢
  replace Hbl := hide (Hbl.out.trans (hbW.mono Hbl.out.size))
  have Ht := hide hyt
  have Hf := hide hyf
  clear hW hbW hyt hyf
  generalize w.heap.size = gT at Ht Hf s_0 ⊢
  have t0 := Ht.out.cell 0
  have t1 := Ht.out.cell 1
  have t2 := Ht.out.cell 2
  have t3 := Ht.out.cell 3
  have tl := Ht.out.lt
  have f0 := Hf.out.cell 0
  have f1 := Hf.out.cell 1
  have fl := Hf.out.lt
  simp only [List.getElem?_cons_zero, List.getElem?_cons_succ] at t0 t1 t2 t3 f0 f1
  have a_t : B0 ≤ gT := by omega
  have a_f : B0 ≤ gT + 1 := by omega
  clear s_0
  have n_t_f : ¬ gT = gT + 1 := by omega
  have n_f_t : ¬ gT + 1 = gT := by omega
  go_wp2_with fail
  with_reducible refine (Hpf.out w0 (H.out.keep Hbl.out) (Hl.out.keep Hbl.out)).mono ?_
  rintro e w1 ⟨rfl, hb⟩
  clear t0 t1 t2 t3 f0 f1 tl fl
  replace Ht := hide (Ht.out.keep hb)
  replace Hf := hide (Hf.out.keep hb)
  replace Hbl := hide (Hbl.out.trans (hb.mono Hbl.out.size))
  clear hb
  unfold fault
  have t0 := Ht.out.cell 0
  have t1 := Ht.out.cell 1
  have t2 := Ht.out.cell 2
  have t3 := Ht.out.cell 3
  have tl := Ht.out.lt
  have f0 := Hf.out.cell 0
  have f1 := Hf.out.cell 1
  have fl := Hf.out.lt
  simp only [List.getElem?_cons_zero, List.getElem?_cons_succ] at t0 t1 t2 t3 f0 f1
  go_upto_region 2 with (fail)
  have n_t_p : ¬ gT = w1.heap.size := by omega
  have n_p_t : ¬ w1.heap.size = gT := by omega
  have n_f_p : ¬ gT + 1 = w1.heap.size := by omega
  have n_p_f : ¬ w1.heap.size = gT + 1 := by omega
  have s_t : gT < w1.heap.size := tl
  have s_f : gT + 1 < w1.heap.size := fl
  have s_0 : B0 ≤ w1.heap.size := Nat.le_trans (Nat.le_of_eq HB0.out) Hbl.out.size
  have hyp := Blk.new (w1) 29 [.int .i64 ec, .int .i64 ei]
  have hbW : Below (w1).heap.size (w1) ((w1).alloc (.cells #[.int .i64 ec, .int .i64 ei] 29)) := (Below.refl _ _).alloc (Nat.le_refl _) _
  obtain ⟨w2, hW⟩ : ∃ W, W = (w1).alloc (.cells #[.int .i64 ec, .int .i64 ei] 29) := ⟨_, rfl⟩
  rw [← hW] at hyp hbW ⊢
  replace Ht := hide (Ht.out.keep hbW)
  replace Hf := hide (Hf.out.keep hbW)
  replace Hbl := hide (Hbl.out.trans (hbW.mono Hbl.out.size))
  have Hp := hide hyp
  clear hW hbW hyp
  generalize w1.heap.size = gp at Hp n_t_p n_p_t n_f_p n_p_f s_t s_f s_0 ⊢
  have t0 := Ht.out.cell 0
  have t1 := Ht.out.cell 1
  have t2 := Ht.out.cell 2
  have t3 := Ht.out.cell 3
  have tl := Ht.out.lt
  have f0 := Hf.out.cell 0
  have f1 := Hf.out.cell 1
  have fl := Hf.out.lt
  have p0 := Hp.out.cell 0
  have p1 := Hp.out.cell 1
  have pl := Hp.out.lt
  simp only [List.getElem?_cons_zero, List.getElem?_cons_succ] at t0 t1 t2 t3 f0 f1 p0 p1
  clear s_t
  clear s_f
  have a_p : B0 ≤ gp := by omega
  clear s_0
  by_cases hec : ec = 0
  · subst hec
    obtain ⟨hz, htf, h60, hr⟩ := planFault_ok (T := T) (l := l) (by rw [Hq.out])
    rw [Hq.out] at hz
    obtain ⟨_, e2⟩ := Prod.mk.inj hz
    subst e2
    obtain ⟨N, hok⟩ := taskFault_ok htf
    rw [Hll.out] at h60
    have Hok := hide hok
    have Hr := hide hr
    clear hz htf hok hr
    have hct := Works_ct ⟨I, nI, cI, G, nG, cG, O, nO, cO⟩ T N I nI cI T.init B m d l w2 (H.out.keep Hbl.out) (H.out.keep Hbl.out).init (Hl.out.keep Hbl.out) (okt_sets Hok.out) (by have := Hok.out.low; omega) Hok.out.goal Hok.out.init Hr.out (by omega)
    obtain ⟨bo, hbo⟩ : ∃ bo, bo = worksF T T.init l := ⟨_, rfl⟩
    rw [← hbo] at hct
    have Hbo := hide hbo
    clear hbo
    go_wp2_with fail
    with_reducible refine (hct).mono ?_
    rintro e w3 ⟨rfl, hb⟩
    clear t0 t1 t2 t3 f0 f1 p0 p1 tl fl pl
    replace Ht := hide (Ht.out.keep hb)
    replace Hf := hide (Hf.out.keep hb)
    replace Hp := hide (Hp.out.keep hb)
    replace Hbl := hide (Hbl.out.trans (hb.mono Hbl.out.size))
    clear hb
    clear hct
    have t0 := Ht.out.cell 0
    have t1 := Ht.out.cell 1
    have t2 := Ht.out.cell 2
    have t3 := Ht.out.cell 3
    have tl := Ht.out.lt
    have f0 := Hf.out.cell 0
    have f1 := Hf.out.cell 1
    have fl := Hf.out.lt
    have p0 := Hp.out.cell 0
    have p1 := Hp.out.cell 1
    have pl := Hp.out.lt
    simp only [List.getElem?_cons_zero, List.getElem?_cons_succ] at t0 t1 t2 t3 f0 f1 p0 p1
    have ff0 := Hf.out.frozen 0
    have ff1 := Hf.out.frozen 1
    go_wp2_with fail
    refine bodyPost_ret (v := .tuple #[.bool bo, fault 0 0]) (by simp [results, Tryz.results32, go_sem, fault, f0, f1, fl]) rfl ?_
    have hres : solvesR T l = (bo, 0, 0) := by
      unfold solvesR
      rw [Hq.out, if_neg (by simp), Hbo.out]
    rw [hres]
    have hbx := HB0.out
    refine ⟨rfl, ?_⟩
    repeat' (first | (with_reducible exact Hbl.out) | (with_reducible refine Below.drew ?_) | (with_reducible refine below_set ?_ ?_ _ _) | (have := HB0.out; omega))
  · have hne : (ec != 0) = true := by simpa using hec
    have ff0 := Hf.out.frozen 0
    have ff1 := Hf.out.frozen 1
    go_wp2_with fail
    go_region
    all_goals go_wp2_with fail
    all_goals refine bodyPost_ret (v := .tuple #[.bool false, fault ec ei]) (by simp [results, Tryz.results32, go_sem, fault, f0, f1, fl]) rfl ?_
    have hres : solvesR T l = (false, ec, ei) := by
      unfold solvesR
      rw [Hq.out, if_pos hec]
    rw [hres]
    have hbx := HB0.out
    refine ⟨rfl, ?_⟩
    repeat' (first | (with_reducible exact Hbl.out) | (with_reducible refine Below.drew ?_) | (with_reducible refine below_set ?_ ?_ _ _) | (have := HB0.out; omega))
end Go.Proofs.YtmjiiddncbhgpaaGreat
namespace Go.Proofs.YtmjiiddncbhgpaaGreat
/-- a plan that ends in a goal state is a way of its cost -/
theorem exec_way {T : Tsk} {N : Nat} (hok : OkT T N) : ∀ (os : List Opr) (s r : List Int), (∀ o ∈ os, o ∈ T.ops) → setB N s = true → execO s os = some r → subsetB T.goal r = true → Way (arcW (T.ops.map mkOp)) (goalW (wordF T.goal)) (wordF s) (os.map Opr.cost).sum := by
  intro os
  induction os with
  | nil =>
    intro s r _ hs he hg
    obtain rfl : s = r := by simpa [execO] using he
    exact .here (by rw [goal_word hs hok.goal]; exact hg)
  | cons o os ih =>
    intro s r ho hs he hg
    have hm := ho o List.mem_cons_self
    unfold execO at he
    split at he
    · rename_i hp
      have h := ih _ r (fun p hp => ho p (List.mem_cons_of_mem _ hp)) (upd_setB hs (hok.ops o hm)) he hg
      have h2 := Way.step ((arc_iff hok hs).2 ⟨o, hm, hp, rfl, rfl⟩) h
      rw [List.map_cons, List.sum_cons, Int.add_comm]
      exact h2
    · cases he
end Go.Proofs.YtmjiiddncbhgpaaGreat
