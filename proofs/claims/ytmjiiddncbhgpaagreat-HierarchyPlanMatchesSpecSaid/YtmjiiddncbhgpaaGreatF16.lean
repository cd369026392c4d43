/- The law HierarchyPlanMatchesSpec of the package hierarchy holds, without a condition., part 16: Mc3 Cq Mf Mc5 Mc8 St Er Hw Hi1 Hi2 Hi3 Ts1 Ts2 Hi4 Es Ts3 Mg Hr5. -/
import Derived.Test.YtmjiiddncbhgpaaGreatF1
import Derived.Test.YtmjiiddncbhgpaaGreatF2
import Derived.Test.YtmjiiddncbhgpaaGreatF3
import Derived.Test.YtmjiiddncbhgpaaGreatF13
import Derived.Test.YtmjiiddncbhgpaaGreatF14
import Derived.Test.YtmjiiddncbhgpaaGreatF15
import Derived.BigQuiet
import Derived.Deep.AppendLies
import Derived.Deep.DeepCutAuto
import Derived.Deep.Draws
import Derived.Deep.Fields
import Derived.Deep.LoopGhost
import Derived.Deep.QuietTactic
import Derived.Deep.RegionHeld3
import Derived.Deep.Slices
import Derived.Ground.Names2Prog
import Derived.Ground.SlgnProg
import Derived.Ground.SlsfProg
import Derived.IntWalk
import Derived.Laws.AppendOwnNone
import Derived.Laws.OwnMore
import Derived.Lib.Hide
import Derived.Lib.SlicesCompact
import Derived.Maps.AppendAt
import Derived.Shelf.Slices.Cells
import Derived.Shelf.Slices.Clone
import Derived.Shelf.Slices.CompactI
import Derived.Shelf.Slices.Empties
import Derived.Shelf.Slices.In.SortNone
import Derived.Shelf.Slices.SearchI
import Derived.Shelf.Sort.Plain
import Derived.Sort.OwnSortedInts
import Derived.Test.YtmjiiddncbhgpaaGreatProg
import Derived.WalkKit
namespace Go.Proofs.YtmjiiddncbhgpaaGreat
set_option linter.unusedVariables false
set_option linter.unusedSimpArgs false
open Go.RowKit
def outB (k : Nat) (x : Int) : Bool := decide (x < 0 ∨ (k : Int) ≤ x)
end Go.Proofs.YtmjiiddncbhgpaaGreat
namespace Go.Proofs.YtmjiiddncbhgpaaGreat
set_option linter.unusedVariables false
set_option linter.unusedSimpArgs false
open Go.RowKit
/-- what is known of a fact: its state, whether it changed, whether it is asked for -/
structure FS where
  now : Int
  ch : Bool
  pr : Bool
def factStep (p : Int) (o : Opr) (s : FS) : Option FS :=
  if hasB o.pre p = true ∧ s.now < 0 then none else
  some ⟨if hasB o.del p = true then -1 else if hasB o.add p = true then 1 else if hasB o.pre p = true ∧ s.now = 0 then 1 else s.now, s.ch || hasB o.add p || hasB o.del p, s.pr || (hasB o.pre p && decide (s.now = 0))⟩
def factRun (p : Int) : FS → List Opr → Option FS
  | s, [] => some s
  | s, o :: os => match factStep p o s with
    | none => none
    | some s' => factRun p s' os
def fr (os : List Opr) (p : Int) : Option FS := factRun p ⟨0, false, false⟩ os
def upto (n : Nat) : List Int := (List.range n).map Int.ofNat
end Go.Proofs.YtmjiiddncbhgpaaGreat
namespace Go.Proofs.YtmjiiddncbhgpaaGreat
set_option linter.unusedVariables false
set_option linter.unusedSimpArgs false
open Go.RowKit
theorem anyF_succ {p : Int → Bool} {l : List Int} {k : Nat} {x : Int} (h : (l.take k).any p = false) (hx : l[k]? = some x) (hp : p x = false) : (l.take (k + 1)).any p = false := by
  rw [List.take_add_one, List.any_append, h, hx]
  simp [hp]
theorem inB_outB {k : Nat} {x : Int} : inB x 0 ((k : Int) - 1) = !outB k x := by
  rw [Bool.eq_iff_iff, inB_iff]
  unfold outB
  simp
  omega
end Go.Proofs.YtmjiiddncbhgpaaGreat
namespace Go.Proofs.YtmjiiddncbhgpaaGreat
set_option linter.unusedVariables false
set_option linter.unusedSimpArgs false
open Go.RowKit
theorem own_low {w : World} {B B' : Nat} {e : TypeId} {size n : Nat} {v : Value} {xs : List Value} (h : w.ownsRow B e size v n xs) (hB : B' ≤ B) : w.ownsRow B' e size v n xs := by
  refine ⟨h.1, ?_⟩
  rcases h.2 with h3 | ⟨r, cap, cur, e1, hr, hc, rest⟩
  · exact .inl h3
  · exact .inr ⟨r, cap, cur, e1, by omega, hc, rest⟩
/-- one element more in a region that draws -/
theorem step_pushE {α : Type} {E : Enc α} {P : Program} {w : World} {ops : Array Oper} {o : Oper} {a : Act} {K : Act → World → Prop} {Q : Exit → Act → World → Prop} {X : Prop} (hgd : o.guard = none) (s x : Operand) (t : TypeId)
    (ho : o.op = .call { callee := .builtin .append, args := #[s, x], argTypes := #[t, t] })
    (base : Nat) (e : TypeId) (i : TypeInfo) (z : Value) (bytes : Nat) (ht : P.underlying t = some (.slice e)) (hi : P.info? e = some i) (hz : i.zero = some z)
    (hsize : i.size = E.size) (hby : i.bytes = bytes) (hzs : z.cells.size = E.size) (hsz : 0 < E.size)
    {A : Option Addr} {n c : Nat} {M : Nat → Prop} {vs : List Value} {xs : List α} (hs : a.eval s = .slice A n c) (hown : OwnE E e base M w A n c vs xs) (hA : ∀ r, blkA A = some r → M r)
    (us : List Value) (y : α) (h1 : ∀ u ∈ us, u.oneCell' = true) (hx : a.eval x = .slice (some ⟨w.heap.size, 0, none⟩) 1 1) (hf : Firm E M w us y)
    (h63 : n + 1 ≤ 1000000000000) (hbytes : (n + 1) * bytes ≤ 140737488355328) (hbase : base ≤ w.heap.size)
    (h : ∀ O oc w', OwnE E e base (fun b => M b ∨ w.heap.size ≤ b) w' O (n + 1) oc (vs ++ us) (xs ++ [y]) → Chg (fun b => blkA A = some b) w w' → (blkA O = blkA A ∨ blkA O = some (w.heap.size + 1)) → K (a.put o.dst (.slice O (n + 1) oc)) w') :
    if Region.wanted o (yielded ops a.tmps) = true then Oper.wp P o a (w.alloc (.cells us.toArray e)) K Q else X := by
  have hus : us.length = E.size := E.len hf.ok
  have hw : Region.wanted o (yielded ops a.tmps) = true := by simp [Region.wanted, hgd]
  rw [if_pos hw]
  obtain ⟨g, cap', w', hr, h2, h3, h4, h5⟩ := run_append_lies (P := P) (w := w.alloc (.cells us.toArray e)) t o.type base e i z E.size bytes ht hi hz hsize hby hzs hsz _ n vs (hown.own.alloc _) ⟨w.heap.size, 0, none⟩ 1 1 us (by omega) (by
    intro j u hj
    rw [add_plain, Nat.zero_add]
    have := (Blk.new w e us).cell j
    rw [hj] at this
    exact this) h1 (by omega) (by unfold maxLen; omega) hbytes (by simp; omega) (w.heap.size + 1) (by simp)
  unfold Oper.wp execOp
  simp only [ho, resolve, invoke, builtin, Sem.run_bind, Sem.run_pure, Result.andThen_ok, List.map_toArray, List.map_cons, List.map_nil, hs, hx, hr]
  have hg : (w.alloc (.cells us.toArray e)).grownBy w' (blkA A) := by rw [← own_blkA A n c]; exact h3
  have hch : Chg (fun b => blkA A = some b) w w' := (Chg.of_below ((Below.refl w.heap.size w).alloc (Nat.le_refl _) (.cells us.toArray e)) _).trans (Chg.of_grown hg)
  refine h (some ⟨g, 0, none⟩) cap' w' ⟨h2, by rw [List.length_append, hown.len]; rfl, fun j u hj => ?_⟩ hch ?_
  · rcases Nat.lt_or_ge j n with hjn | hjn
    · rw [List.getElem?_append_left (by rw [hown.len]; exact hjn)] at hj
      obtain ⟨us', e1, e2⟩ := hown.elem j u hj
      refine ⟨us', fun k v hk => ?_, e2.chg (hch.mono hA)⟩
      have := e1 k v hk
      rw [List.getElem?_append_left (List.getElem?_eq_some_iff.1 this).1]
      exact this
    · rw [List.getElem?_append_right (by rw [hown.len]; exact hjn), hown.len] at hj
      have hjn2 : j = n := by
        have := (List.getElem?_eq_some_iff.1 hj).1
        simp at this
        omega
      subst hjn2
      simp at hj
      subst hj
      refine ⟨us, fun k v hk => ?_, hf.chg (hch.mono hA)⟩
      rw [List.getElem?_append_right (by rw [hown.vlen]; omega), hown.vlen, Nat.add_sub_cancel_left]
      exact hk
  · rw [own_blkA] at h4
    rcases h4 with h4 | h4
    · exact .inl h4.symm
    · exact .inr (by rw [h4]; rfl)
/-- the rows of a copy that is being made -/
structure CpA where
  gT : Nat
  gO : Nat
  B0 : Nat
  H1 : Nat
  AI : Option Addr
  nI : Nat
  cI : Nat
  AG : Option Addr
  nG : Nat
  cG : Nat
section
variable {w W W' : World} {T : Tsk} {tc : List Value} {a : CpA} {k oc : Nat} {O : Option Addr} {vs : List Value}
end
end Go.Proofs.YtmjiiddncbhgpaaGreat
namespace Go.Proofs.YtmjiiddncbhgpaaGreat
set_option linter.unusedVariables false
set_option linter.unusedSimpArgs false
open Go.RowKit
theorem opAt_mem {os : List Opr} {x : Int} (h0 : 0 ≤ x) (h1 : x < os.length) : opAt os x ∈ os := by
  obtain ⟨k, rfl⟩ : ∃ k : Nat, x = k := ⟨x.toNat, by omega⟩
  have hk : k < os.length := by omega
  rw [opAt_eq (List.getElem?_eq_getElem hk)]
  exact List.getElem_mem _
structure ExA where
  gT : Nat
  gX : Nat
  B : Nat
  Bl : Nat
  AI : Option Addr
  nI : Nat
  cI : Nat
  AG : Option Addr
  nG : Nat
  cG : Nat
section
variable {w W W' : World} {T : Tsk} {tc : List Value} {a : ExA} {n oc : Nat} {O : Option Addr} {vs : List Value} {os : List Opr}
end
end Go.Proofs.YtmjiiddncbhgpaaGreat
namespace Go.Proofs.YtmjiiddncbhgpaaGreat
set_option linter.unusedVariables false
set_option linter.unusedSimpArgs false
open Go.RowKit
/-- the fault of a plan over k operators -/
def stepsFault (k : Nat) (l : List Int) : Int × Int := if 60 < l.length then (2, -5) else if l.any (outB k) = true then (3, -6) else (0, 0)
theorem any_succ {p : Int → Bool} {l : List Int} {k : Nat} {x : Int} (h : (l.take k).any p = false) (hx : l[k]? = some x) (hp : p x = false) : (l.take (k + 1)).any p = false := by
  rw [List.take_add_one, List.any_append, h, hx]
  simp [hp]
set_option maxRecDepth 100000 in
set_option maxHeartbeats 1600000 in
theorem Steps_ct (n : Nat) (A : Option Addr) (m c : Nat) (l : List Int) (w : World) (h : Rd Enc.int w A m c l) (hn : n ≤ 9223372036854775807) :
    Calls Tryz.prog 104 #[.int .i64 n, .slice A m c] w (Gives w (fault (stepsFault n l).1 (stepsFault n l).2)) := by
  have hsm := h.low
  have hX := Blk.new w 29 [.int .i64 0, .int .i64 0]
  have y0 := hX.cell 0
  have y1 := hX.cell 1
  have y2 := hX.frozen 0
  have y3 := hX.frozen 1
  simp only [List.getElem?_cons_zero, List.getElem?_cons_succ] at y0 y1
  have hbw : Below w.heap.size w (w.alloc (.cells #[.int .i64 0, .int .i64 0] 29)) := (Below.refl _ _).alloc (Nat.le_refl _) _
  have Hbw := hide hbw
  have Hl := hide h.len
  have H := hide (h.keep hbw)
  clear h hbw hX
  by_cases h1 : 60 < m
  · have hres : stepsFault n l = (2, -5) := by unfold stepsFault; rw [Hl.out, if_pos h1]
    rw [hres]
    clear hres
    go_enter Tryz.func104, Tryz.ntmps104
    go_wp2_with fail
    exact bodyPost_ret (v := fault 2 (-5)) (by simp [results, Tryz.results104, go_sem, fault]) rfl ⟨rfl, (Below.refl _ _).alloc (Nat.le_refl _) _⟩
  · have hres : stepsFault n l = if l.any (outB n) = true then (3, -6) else (0, 0) := by unfold stepsFault; rw [Hl.out, if_neg h1]
    have Hres := hide hres
    clear hres
    go_enter Tryz.func104, Tryz.ntmps104
    go_upto_region 3 with (fail)
    obtain ⟨W0, hW0⟩ : ∃ W0, W0 = w.alloc (.cells #[.int .i64 0, .int .i64 0] 29) := ⟨_, rfl⟩
    rw [← hW0] at H Hbw y0 y1 y2 y3 ⊢
    clear hW0
    obtain ⟨gb, hgb⟩ : ∃ gb, gb = w.heap.size := ⟨_, rfl⟩
    rw [← hgb] at y0 y1 y2 y3 ⊢
    have Hgb := hide hgb
    clear hgb
    go_wp2_with fail
    go_loop [13] (fun i => ∃ k : Nat, k ≤ m ∧ i = .int .i64 k ∧ (l.take k).any (outB n) = false) (fun i => m - (intOf i).toNat)
    case atStart => exact ⟨0, by omega, rfl, by simp⟩
    case round =>
      obtain ⟨k, hk, rfl, hset⟩ := hrel
      have Hset := hide hset
      clear hset
      by_cases hlt : k < m
      · obtain ⟨b, off, x, rfl, hx, hx1, hx2, hcx⟩ := H.out.int hlt
        have Hx := hide hx
        clear hx
        have hbad : outB n x = true → stepsFault n l = (3, -6) := fun hb => by
          rw [Hres.out, if_pos (List.any_eq_true.2 ⟨x, List.mem_of_getElem? Hx.out, hb⟩)]
        have Hbad := hide hbad
        clear hbad
        by_cases h0 : x < 0
        · have hres := Hbad.out (by unfold outB; rw [decide_eq_true_iff]; omega)
          have Hr := hide hres
          clear hres
          go_wp2_with fail
          exact bodyPost_ret (v := fault 3 (-6)) (by simp [results, Tryz.results104, go_sem, fault, y0, y1]) rfl ⟨by rw [Hr.out], below_res2 Hbw.out (by have := Hgb.out; omega) _ _⟩
        · by_cases h2 : (n : Int) ≤ x
          · have hres := Hbad.out (by unfold outB; rw [decide_eq_true_iff]; omega)
            have Hr := hide hres
            clear hres
            go_wp2_with fail
            exact bodyPost_ret (v := fault 3 (-6)) (by simp [results, Tryz.results104, go_sem, fault, y0, y1]) rfl ⟨by rw [Hr.out], below_res2 Hbw.out (by have := Hgb.out; omega) _ _⟩
          · go_wp2_with fail
            go_round
            case rel => exact ⟨k + 1, by omega, by go_num, any_succ Hset.out Hx.out (by unfold outB; rw [decide_eq_false_iff_not]; omega)⟩
            case measure => simp [intOf]; omega
      · obtain rfl : k = m := by omega
        have hres := Hres.out
        have hs := Hset.out
        rw [List.take_of_length_le (by rw [Hl.out]; omega)] at hs
        rw [hs, if_neg (by simp)] at hres
        have Hr := hide hres
        clear hres hs
        go_wp2_with fail
        exact bodyPost_ret (v := fault 0 0) (by simp [results, Tryz.results104, go_sem, fault, y0, y1]) rfl ⟨by rw [Hr.out], below_res2 Hbw.out (by have := Hgb.out; omega) _ _⟩
end Go.Proofs.YtmjiiddncbhgpaaGreat
namespace Go.Proofs.YtmjiiddncbhgpaaGreat
set_option linter.unusedVariables false
set_option linter.unusedSimpArgs false
/-- the states behind s that the steps reach, as far as they are applicable -/
def runT : List Int → List Opr → List (List Int)
  | _, [] => []
  | s, o :: os => if subsetB o.pre s = true then updF s o.add o.del :: runT (updF s o.add o.del) os else []
/-- the state behind all the steps -/
def execO : List Int → List Opr → Option (List Int)
  | s, [] => some s
  | s, o :: os => if subsetB o.pre s = true then execO (updF s o.add o.del) os else none
def runF (os : List Opr) (s : List Int) (l : List Int) : List (List Int) := s :: runT s (l.map (opAt os))
theorem runT_len (s : List Int) (os : List Opr) : (runT s os).length ≤ os.length := by
  induction os generalizing s with
  | nil => simp [runT]
  | cons o os ih =>
    unfold runT
    split
    · simp only [List.length_cons]
      have := ih (updF s o.add o.del)
      omega
    · simp
theorem runF_len (os : List Opr) (s : List Int) (l : List Int) : (runF os s l).length ≤ l.length + 1 := by
  have := runT_len s (l.map (opAt os))
  rw [List.length_map] at this
  unfold runF
  simp only [List.length_cons]
  omega
theorem exec_some : ∀ (os : List Opr) (s r : List Int), execO s os = some r → (runT s os).length = os.length ∧ (s :: runT s os)[os.length]? = some r := by
  intro os
  induction os with
  | nil => intro s r h; unfold execO at h; obtain rfl := Option.some.inj h; simp [runT]
  | cons o os ih =>
    intro s r h
    unfold execO at h
    split at h
    · rename_i hp
      obtain ⟨h1, h2⟩ := ih _ _ h
      unfold runT
      rw [if_pos hp]
      refine ⟨by simp [h1], ?_⟩
      rw [List.length_cons, List.getElem?_cons_succ]
      exact h2
    · cases h
theorem execO_append (a b : List Opr) (s : List Int) : execO s (a ++ b) = (execO s a).bind fun r => execO r b := by
  induction a generalizing s with
  | nil => rfl
  | cons o a ih =>
    rw [List.cons_append]
    show (if subsetB o.pre s = true then execO (updF s o.add o.del) (a ++ b) else none) = (if subsetB o.pre s = true then execO (updF s o.add o.del) a else none).bind fun r => execO r b
    split
    · exact ih _
    · rfl
/-- all states are sets -/
theorem runT_sets {N : Nat} : ∀ (os : List Opr) (s : List Int), setB N s = true → (∀ o ∈ os, setB N o.add = true) → ∀ r ∈ runT s os, setB N r = true := by
  intro os
  induction os with
  | nil => intro s _ _ r hr; simp [runT] at hr
  | cons o os ih =>
    intro s hs ho r hr
    have hn : setB N (updF s o.add o.del) = true := updF_set (setB_iff.1 hs).2 (setB_iff.1 (ho o (List.mem_cons_self ..))).2
    unfold runT at hr
    split at hr
    · rcases List.mem_cons.1 hr with rfl | hr
      · exact hn
      · exact ih _ hn (fun q hq => ho q (List.mem_cons_of_mem _ hq)) r hr
    · cases hr
theorem exec_set {N : Nat} : ∀ (os : List Opr) (s r : List Int), setB N s = true → (∀ o ∈ os, setB N o.add = true) → execO s os = some r → setB N r = true := by
  intro os
  induction os with
  | nil => intro s r hs _ h; unfold execO at h; obtain rfl := Option.some.inj h; exact hs
  | cons o os ih =>
    intro s r hs ho h
    unfold execO at h
    split at h
    · exact ih _ _ (updF_set (setB_iff.1 hs).2 (setB_iff.1 (ho o (List.mem_cons_self ..))).2) (fun q hq => ho q (List.mem_cons_of_mem _ hq)) h
    · cases h
end Go.Proofs.YtmjiiddncbhgpaaGreat
namespace Go.Proofs.YtmjiiddncbhgpaaGreat
set_option linter.unusedVariables false
set_option linter.unusedSimpArgs false
/-- an operator leads from the state with index i to that with index k -/
def aftT (T : Tsk) (S : Nat → List Int) (nS : Nat) (x i k : Nat) : Prop := x < T.ops.length ∧ i < nS ∧ k < nS ∧ subsetB (opAt T.ops (x : Int)).pre (S i) = true ∧ S k = updF (S i) (opAt T.ops (x : Int)).add (opAt T.ops (x : Int)).del
def canT (S : Nat → List Int) (nS : Nat) (m : Hm) (i : Nat) : Prop := i < nS ∧ subsetB m.pre (S i) = true
/-- the states along a plan that can be executed -/
theorem run_at : ∀ (os : List Opr) (s : List Int), (runT s os).length = os.length → ∀ (t : Nat) (o : Opr), os[t]? = some o → ∃ a, (s :: runT s os)[t]? = some a ∧ subsetB o.pre a = true ∧ (s :: runT s os)[t + 1]? = some (updF a o.add o.del) := by
  intro os
  induction os with
  | nil => intro s _ t o h; simp at h
  | cons p os ih =>
    intro s hl t o ho
    unfold runT at hl ⊢
    split at hl
    · rename_i hp
      rw [if_pos hp]
      cases t with
      | zero =>
        obtain rfl : p = o := by simpa using ho
        exact ⟨s, rfl, hp, rfl⟩
      | succ t =>
        obtain ⟨a, h1, h2, h3⟩ := ih (updF s p.add p.del) (by simpa using hl) t o (by simpa using ho)
        exact ⟨a, by simpa using h1, h2, by simpa using h3⟩
    · simp at hl
section
variable {T : Tsk} {S : Nat → List Int} {nS : Nat} {ms : List Hm}
/-- what a segment's operators are, and what they do -/
theorem SegI.exec {l p : List Int} {i j : Nat} (h : SegI (aftT T S nS) (canT S nS) ms l i p j) : execO (S i) (p.map (opAt T.ops)) = some (S j) ∧ ∀ x ∈ p, 0 ≤ x ∧ x < T.ops.length := by
  induction h with
  | nil => exact ⟨rfl, fun x h => by cases h⟩
  | @op x xs l i k j h0 ha _ ih =>
    obtain ⟨h1, _, _, h2, h3⟩ := ha
    have e : ((x.toNat : Nat) : Int) = x := by omega
    rw [e] at h2 h3
    refine ⟨?_, fun y hy => ?_⟩
    · rw [List.map_cons]
      unfold execO
      rw [if_pos h2, ← h3]
      exact ih.1
    · rcases List.mem_cons.1 hy with rfl | hy
      · exact ⟨h0, by omega⟩
      · exact ih.2 y hy
  | task _ _ _ _ _ _ ih1 ih2 =>
    refine ⟨?_, fun y hy => ?_⟩
    · rw [List.map_append, execO_append, ih1.1]
      exact ih2.1
    · rcases List.mem_append.1 hy with hy | hy
      · exact ih1.2 y hy
      · exact ih2.2 y hy
/-- a segment in its place of a plan -/
theorem SegI.seq {plan : List Int} {st : Nat → List Int} (hst : ∀ (t : Nat) (x : Int), plan[t]? = some x → st (t + 1) = updF (st t) (opAt T.ops x).add (opAt T.ops x).del) {l p : List Int} {i j : Nat} (h : SegI (aftT T S nS) (canT S nS) ms l i p j) :
    ∀ k, (∀ (t : Nat) (x : Int), p[t]? = some x → plan[k + t]? = some x) → st k = S i → SeqP ms plan st l k (k + p.length) ∧ st (k + p.length) = S j := by
  induction h with
  | nil => intro k _ hs; exact ⟨.nil, hs⟩
  | @op x xs l i k' j h0 ha _ ih =>
    intro k hp hs
    have hx := hp 0 x rfl
    rw [Nat.add_zero] at hx
    obtain ⟨_, _, _, _, h3⟩ := ha
    have e : ((x.toNat : Nat) : Int) = x := by omega
    rw [e] at h3
    obtain ⟨h4, h5⟩ := ih (k + 1) (fun t y hy => by rw [show k + 1 + t = k + (t + 1) by omega]; exact hp (t + 1) y (by simpa using hy)) (by rw [hst k x hx, hs, h3])
    rw [List.length_cons, show k + (l.length + 1) = k + 1 + l.length by omega]
    exact ⟨.op h0 hx h4, h5⟩
  | @task x xs l1 l2 m i k' j h0 hm e hc _ _ ih1 ih2 =>
    intro k hp hs
    obtain ⟨h1, h2⟩ := ih1 k (fun t y hy => hp t y (by rw [List.getElem?_append_left (List.getElem?_eq_some_iff.1 hy).1]; exact hy)) hs
    obtain ⟨h3, h4⟩ := ih2 (k + l1.length) (fun t y hy => by
      rw [Nat.add_assoc]
      refine hp (l1.length + t) y ?_
      rw [List.getElem?_append_right (by omega), Nat.add_sub_cancel_left]
      exact hy) h2
    rw [List.length_append, ← Nat.add_assoc]
    exact ⟨.task h0 hm e (by rw [hs]; exact hc.2) h1 h3, h4⟩
/-- a part of a plan as a segment -/
theorem seq_seg {plan : List Int} {st : Nat → List Int} (hst : ∀ (t : Nat) (x : Int), plan[t]? = some x → (0 ≤ x ∧ x < T.ops.length) ∧ subsetB (opAt T.ops x).pre (st t) = true ∧ st (t + 1) = updF (st t) (opAt T.ops x).add (opAt T.ops x).del)
    (hcl : ∀ (x i : Nat), x < T.ops.length → i < nS → subsetB (opAt T.ops (x : Int)).pre (S i) = true → ∃ k, k < nS ∧ S k = updF (S i) (opAt T.ops (x : Int)).add (opAt T.ops (x : Int)).del) {l : List Int} {a b : Nat} (h : SeqP ms plan st l a b) :
    ∀ i, i < nS → st a = S i → ∃ j p, j < nS ∧ st b = S j ∧ a + p.length = b ∧ (∀ t, t < p.length → p[t]? = plan[a + t]?) ∧ SegI (aftT T S nS) (canT S nS) ms l i p j := by
  induction h with
  | nil => intro i hi hs; exact ⟨i, [], hi, hs, rfl, fun t ht => by simp at ht, .nil⟩
  | @op x xs a b h0 hx _ ih =>
    intro i hi hs
    obtain ⟨⟨h1, h2⟩, h3, h4⟩ := hst a x hx
    have e : ((x.toNat : Nat) : Int) = x := by omega
    rw [hs] at h3 h4
    obtain ⟨k, hk, h5⟩ := hcl x.toNat i (by omega) hi (by rw [e]; exact h3)
    rw [e] at h5
    obtain ⟨j, p, g1, g2, g3, g4, g5⟩ := ih k hk (by rw [h4, h5])
    refine ⟨j, x :: p, g1, g2, by rw [List.length_cons]; omega, fun t ht => ?_, .op h0 ⟨by omega, hi, hk, by rw [e]; exact h3, by rw [e]; exact h5⟩ g5⟩
    cases t with
    | zero => rw [Nat.add_zero, hx]; rfl
    | succ t => rw [List.getElem?_cons_succ, g4 t (by simpa using ht)]; congr 1; omega
  | @task x xs m a k b h0 hm e hp _ _ ih1 ih2 =>
    intro i hi hs
    obtain ⟨j1, p1, g1, g2, g3, g4, g5⟩ := ih1 i hi hs
    obtain ⟨j2, p2, f1, f2, f3, f4, f5⟩ := ih2 j1 g1 g2
    refine ⟨j2, p1 ++ p2, f1, f2, by rw [List.length_append]; omega, fun t ht => ?_, .task h0 hm e ⟨hi, by rw [← hs]; exact hp⟩ g5 f5⟩
    rcases Nat.lt_or_ge t p1.length with h1 | h1
    · rw [List.getElem?_append_left h1]; exact g4 t h1
    · rw [List.getElem?_append_right h1, f4 (t - p1.length) (by rw [List.length_append] at ht; omega)]
      congr 1
      omega
end
end Go.Proofs.YtmjiiddncbhgpaaGreat
namespace Go.Proofs.YtmjiiddncbhgpaaGreat
set_option linter.unusedVariables false
set_option linter.unusedSimpArgs false
open Go.RowKit
theorem below_setH {B : Nat} {w w' : World} (h : Below B w w') {g : Nat} (hg : B ≤ g) (i : Nat) (u : Value) : Below B w (w'.setCell ⟨g, i, none⟩ u) := h.setCell hg u
set_option maxRecDepth 100000 in
set_option maxHeartbeats 1600000 in
theorem list1_ct (gb : Nat) (K : Int) (O : Option Addr) (nO cO : Nat) (x : Int) (w : World) (hK : 0 ≤ K ∧ K ≤ 16) (h4 : w.cell? ⟨gb, 4, none⟩ = some (.int .i64 K)) (h3 : w.cell? ⟨gb, 3, none⟩ = some (.slice O nO cO)) (hn : nO ≤ 9223372036854775807) (hx : -9223372036854775808 ≤ x ∧ x ≤ 9223372036854775807) :
    Calls Tryz.prog 141 #[.int .i64 x, .pointer (some ⟨gb, 0, none⟩)] w (Quiet w (.bool (outH K nO x))) := by
  have hw : IntKind.i64.wrap (-K) = -K := IntWalk.i64_in _ (by omega)
  by_cases h1 : x < -K
  · have e : outH K nO x = true := by unfold outH; rw [decide_eq_true h1]; rfl
    rw [e]
    have hd : decide (x < -K) = true := decide_eq_true h1
    go_enter Tryz.func141, Tryz.ntmps141
    go_wp2
    go_ret
    exact ⟨rfl, Qt.refl _⟩
  · have e : outH K nO x = decide ((nO : Int) ≤ x) := by unfold outH; rw [decide_eq_false h1]; rfl
    rw [e]
    have hd : decide (x < -K) = false := decide_eq_false h1
    clear e
    go_enter Tryz.func141, Tryz.ntmps141
    go_wp2
    go_ret
    exact ⟨rfl, Qt.refl _⟩
set_option maxRecDepth 100000 in
set_option maxHeartbeats 800000 in
theorem IndexHi_ct (g : Nat) (p : Int → Bool) (B : Option Addr) (n c : Nat) (xs : List Int) (w : World) (hx : Rd Enc.int w B n c xs)
    (hf : ∀ x ∈ xs, ∀ d, Calls Tryz.prog 141 #[.int .i64 x, .pointer (some ⟨g, 0, none⟩)] (w.drewN d) (Quiet (w.drewN d) (.bool (p x)))) :
    Calls Tryz.prog 129 #[.slice B n c, .func (.func 141) #[] #[.pointer (some ⟨g, 0, none⟩)]] w (Quiet w (.int .i64 (firstP p 0 xs))) := by
  have hsm := hx.low
  have Hl := hide hx.len
  have Hf := hide hf
  clear hf
  go_enter Tryz.func129, Tryz.ntmps129
  go_wp2
  go_loopw [8] (fun i wr => ∃ k : Nat, k ≤ n ∧ i = .int .i64 k ∧ Qt w wr ∧ firstP p 0 xs = firstP p k (xs.drop k)) (fun i _ => n - (intOf i).toNat)
  case atStart => exact ⟨0, by omega, rfl, Qt.refl _, by simp⟩
  case round =>
    obtain ⟨k, hk, rfl, ⟨d, rfl⟩, hrel⟩ := hrel
    by_cases hlt : k < n
    · obtain ⟨b, off, x, rfl, hxx, hxl, hxh, hcx⟩ := hx.int hlt
      rw [drop_cons hxx] at hrel
      have Hfx := hide (Hf.out x (List.mem_of_getElem? hxx) d)
      have Hrel := hide hrel
      clear hrel hxx
      obtain ⟨b, hb⟩ : ∃ b, b = p x := ⟨_, rfl⟩
      rw [← hb] at Hfx
      have Hb := hide hb
      clear hb
      go_wp2_with fail
      with_reducible refine (Hfx.out).mono ?_
      rintro e w1 ⟨rfl, d1, rfl⟩
      cases b with
      | true =>
        go_wp2
        go_ret
        exact ⟨ret_int (by rw [Hrel.out, firstP, if_pos Hb.out.symm]), d + d1, rfl⟩
      | false =>
        go_wp2
        go_roundw
        case rel => exact ⟨k + 1, by omega, by go_num, ⟨d + d1, rfl⟩, by rw [Hrel.out, firstP, if_neg (by rw [← Hb.out]; simp)]⟩
        case measure => simp [intOf]; omega
    · have Hrel := hide hrel
      clear hrel
      go_wp2
      go_ret
      refine ⟨ret_int ?_, d, rfl⟩
      rw [Hrel.out, List.drop_of_length_le (by rw [Hl.out]; omega), firstP]
set_option maxHeartbeats 400000 in
theorem ContainsHi_ct (g : Nat) (p : Int → Bool) (B : Option Addr) (n c : Nat) (xs : List Int) (w : World) (hx : Rd Enc.int w B n c xs)
    (hf : ∀ x ∈ xs, ∀ d, Calls Tryz.prog 141 #[.int .i64 x, .pointer (some ⟨g, 0, none⟩)] (w.drewN d) (Quiet (w.drewN d) (.bool (p x)))) :
    Calls Tryz.prog 87 #[.slice B n c, .func (.func 141) #[] #[.pointer (some ⟨g, 0, none⟩)]] w (Quiet w (.bool (xs.any p))) := by
  have Hf := hide hf
  clear hf
  go_enter Tryz.func87, Tryz.ntmps87
  go_wp2_with fail
  refine (IndexHi_ct g p B n c xs _ hx Hf.out).mono ?_
  rintro e w1 ⟨rfl, d1, rfl⟩
  go_wp2
  go_ret
  exact ⟨ret_bool (firstP_sign p 0 xs), d1, rfl⟩

set_option maxRecDepth 100000 in
set_option maxHeartbeats 1600000 in
theorem hlist_ct (b : HA) (h : Hy) (A : Option Addr) (n c : Nat) (l : List Int) (w : World) (hh : HyR w b h) (hK : 0 ≤ h.tasks ∧ h.tasks ≤ 16) (hl : Rd Enc.int w A n c l) :
    Calls Tryz.prog 109 #[.agg #[.int .i64 h.T.facts, .slice b.a.I b.a.nI b.a.cI, .slice b.a.G b.a.nG b.a.cG, .slice b.a.O b.a.nO b.a.cO, .int .i64 h.tasks, .slice b.M b.nM b.cM, .slice b.L b.nL b.cL], .slice A n c] w (Gives w (.int .i64 (listCode h.tasks h.T.ops.length l))) := by
  have hol := hh.task.ops.len
  have hon := hh.task.ops.low
  obtain ⟨⟨I, nI, cI, G, nG, cG, O, nO, cO⟩, M, nM, cM, L, nL, cL⟩ := b
  simp only at hol hon ⊢
  rw [hol]
  obtain ⟨T, K, ms, li⟩ := h
  simp only at hK hol ⊢
  have hlow := hl.low
  have hll := hl.len
  have hr := rd_ints hl
  obtain ⟨R, hR⟩ : ∃ R, R = listCode K nO l := ⟨_, rfl⟩
  rw [← hR]
  unfold listCode at hR
  have HR := hide hR
  have Hl := hide hl
  have Hr := hide hr
  have hmf : ∀ (fn : Fn) (first cap : Array Value) (w : World), (Instr.makeFunc fn first cap).run Tryz.prog w = .ok (.func fn first cap) w := fun _ _ _ _ => rfl
  clear hh hl hr hR
  have Hbl := hide (Below.refl w.heap.size w)
  go_enter Tryz.func109, Tryz.ntmps109
  go_upto_region 1 with (fail)
  obtain ⟨B0, hB0⟩ : ∃ B0, B0 = w.heap.size := ⟨_, rfl⟩
  have HB0 := hide hB0
  clear hB0
  have s_0 : B0 ≤ w.heap.size := Nat.le_trans (Nat.le_of_eq HB0.out) Hbl.out.size
  have hyh_ := Blk.new (w) 50 [.int .i64 T.facts, .slice I nI cI, .slice G nG cG, .slice O nO cO, .int .i64 K, .slice M nM cM, .slice L nL cL]
  have hbW : Below (w).heap.size (w) ((w).alloc (.cells #[.int .i64 T.facts, .slice I nI cI, .slice G nG cG, .slice O nO cO, .int .i64 K, .slice M nM cM, .slice L nL cL] 50)) := (Below.refl _ _).alloc (Nat.le_refl _) _
  obtain ⟨w0, hW⟩ : ∃ W, W = (w).alloc (.cells #[.int .i64 T.facts, .slice I nI cI, .slice G nG cG, .slice O nO cO, .int .i64 K, .slice M nM cM, .slice L nL cL] 50) := ⟨_, rfl⟩
  rw [← hW] at hyh_ hbW ⊢
  replace Hbl := hide (Hbl.out.trans (hbW.mono Hbl.out.size))
  have Hh_ := hide hyh_
  clear hW hbW hyh_
  generalize w.heap.size = gh at Hh_ s_0 ⊢
  have h_0 := Hh_.out.cell 0
  have h_1 := Hh_.out.cell 1
  have h_2 := Hh_.out.cell 2
  have h_3 := Hh_.out.cell 3
  have h_4 := Hh_.out.cell 4
  have h_5 := Hh_.out.cell 5
  have h_6 := Hh_.out.cell 6
  have h_l := Hh_.out.lt
  simp only [List.getElem?_cons_zero, List.getElem?_cons_succ] at h_0 h_1 h_2 h_3 h_4 h_5 h_6
  have a_h_ : B0 ≤ gh := by omega
  clear s_0
  by_cases h4 : 4 < n
  · have h4i : (4 : Int) < (n : Int) := by omega
    go_wp2_with fail
    go_ret
    exact ⟨ret_int (by rw [HR.out, if_pos (by rw [hll]; exact h4)]), Hbl.out⟩
  have h4i : ¬ (4 : Int) < (n : Int) := by omega
  have hcc := ContainsHi_ct gh (outH K nO) A n c l w0 (Hl.out.keep Hbl.out) (fun x hx d => list1_ct gh K O nO cO x _ hK (by rw [World.cell?_drewN]; exact h_4) (by rw [World.cell?_drewN]; exact h_3) hon (Hr.out x hx))
  obtain ⟨v, hv⟩ : ∃ z, z = l.any (outH K nO) := ⟨_, rfl⟩
  rw [← hv] at hcc
  have hR2 := HR.out
  rw [if_neg (by rw [hll]; exact h4), ← hv] at hR2
  replace HR := hide hR2
  have Hcc := hide hcc
  clear hcc hv hR2
  go_wp2_with fail
  with_reducible refine Hcc.out.mono ?_
  rintro e w1 ⟨rfl, hq⟩
  have Hb1 := hide (Hbl.out.trans (hq.below _))
  clear hq
  cases v with
  | true =>
    go_wp2_with fail
    go_ret
    exact ⟨ret_int (by rw [HR.out, if_pos (by simp)]), Hb1.out⟩
  | false =>
    go_wp2_with fail
    go_ret
    exact ⟨ret_int (by rw [HR.out, if_neg (by simp)]), Hb1.out⟩
set_option maxRecDepth 100000 in
set_option maxHeartbeats 3200000 in
theorem hmethod_ct (b : HA) (h : Hy) (A B : Option Addr) (n c k d : Nat) (m : Hm) (w : World) (hh : HyR w b h) (hK : 0 ≤ h.tasks ∧ h.tasks ≤ 16) (hm : I64s m.task) (h1 : Rd Enc.int w A n c m.pre) (h2 : Rd Enc.int w B k d m.steps) :
    Calls Tryz.prog 108 #[.agg #[.int .i64 h.T.facts, .slice b.a.I b.a.nI b.a.cI, .slice b.a.G b.a.nG b.a.cG, .slice b.a.O b.a.nO b.a.cO, .int .i64 h.tasks, .slice b.M b.nM b.cM, .slice b.L b.nL b.cL], .agg #[.int .i64 m.task, .slice A n c, .slice B k d]] w (Gives w (.int .i64 (meCode h.T.facts h.tasks h.T.ops.length m))) := by
  have hli := fun W hW hl => hlist_ct b h B k d m.steps W hW hK hl
  have hh2 := hh
  obtain ⟨⟨I, nI, cI, G, nG, cG, O, nO, cO⟩, M, nM, cM, L, nL, cL⟩ := b
  simp only at hli ⊢
  obtain ⟨T, K, ms, li⟩ := h
  simp only at hK hli ⊢
  obtain ⟨R, hR⟩ : ∃ R, R = meCode T.facts K T.ops.length m := ⟨_, rfl⟩
  rw [← hR]
  unfold meCode at hR
  obtain ⟨hm1, hm2⟩ := hm
  have hci := fun W (hW : Below w.heap.size w W) => SIsSet_ct A n c m.pre T.facts W (h1.keep hW)
  have HR := hide hR
  have HH := hide hh
  have H2 := hide h2
  have Hli := hide hli
  have Hci := hide hci
  clear hh hh2 h1 h2 hR hli hci
  have Hbl := hide (Below.refl w.heap.size w)
  go_enter Tryz.func108, Tryz.ntmps108
  go_upto_region 1 with (fail)
  obtain ⟨B0, hB0⟩ : ∃ B0, B0 = w.heap.size := ⟨_, rfl⟩
  have HB0 := hide hB0
  clear hB0
  have s_0 : B0 ≤ w.heap.size := Nat.le_trans (Nat.le_of_eq HB0.out) Hbl.out.size
  have hyh_ := Blk.new (w) 50 [.int .i64 T.facts, .slice I nI cI, .slice G nG cG, .slice O nO cO, .int .i64 K, .slice M nM cM, .slice L nL cL]
  have hym_ := Blk.new ((w).alloc (.cells #[.int .i64 T.facts, .slice I nI cI, .slice G nG cG, .slice O nO cO, .int .i64 K, .slice M nM cM, .slice L nL cL] 50)) 116 [.int .i64 m.task, .slice A n c, .slice B k d]
  replace hyh_ := hyh_.alloc (.cells #[.int .i64 m.task, .slice A n c, .slice B k d] 116)
  have hbW := below_two w (.cells #[.int .i64 T.facts, .slice I nI cI, .slice G nG cG, .slice O nO cO, .int .i64 K, .slice M nM cM, .slice L nL cL] 50) (.cells #[.int .i64 m.task, .slice A n c, .slice B k d] 116)
  simp only [World.size_alloc] at hym_
  obtain ⟨w0, hW⟩ : ∃ W, W = ((w).alloc (.cells #[.int .i64 T.facts, .slice I nI cI, .slice G nG cG, .slice O nO cO, .int .i64 K, .slice M nM cM, .slice L nL cL] 50)).alloc (.cells #[.int .i64 m.task, .slice A n c, .slice B k d] 116) := ⟨_, rfl⟩
  rw [← hW] at hyh_ hym_ hbW ⊢
  replace Hbl := hide (Hbl.out.trans (hbW.mono Hbl.out.size))
  have Hh_ := hide hyh_
  have Hm_ := hide hym_
  clear hW hbW hyh_ hym_
  generalize w.heap.size = gh at Hh_ Hm_ s_0 ⊢
  have h_0 := Hh_.out.cell 0
  have h_1 := Hh_.out.cell 1
  have h_2 := Hh_.out.cell 2
  have h_3 := Hh_.out.cell 3
  have h_4 := Hh_.out.cell 4
  have h_5 := Hh_.out.cell 5
  have h_6 := Hh_.out.cell 6
  have h_l := Hh_.out.lt
  have m_0 := Hm_.out.cell 0
  have m_1 := Hm_.out.cell 1
  have m_2 := Hm_.out.cell 2
  have m_l := Hm_.out.lt
  simp only [List.getElem?_cons_zero, List.getElem?_cons_succ] at h_0 h_1 h_2 h_3 h_4 h_5 h_6 m_0 m_1 m_2
  have a_h_ : B0 ≤ gh := by omega
  have a_m_ : B0 ≤ gh + 1 := by omega
  clear s_0
  have n_h__m_ : ¬ gh = gh + 1 := by omega
  have n_m__h_ : ¬ gh + 1 = gh := by omega
  by_cases t1 : m.task < 0
  · have d1 : decide (m.task < 0) = true := decide_eq_true t1
    go_wp2_with fail
    go_ret
    exact ⟨ret_int (by rw [HR.out, if_pos (.inl t1)]), Hbl.out⟩
  have d1 : decide (m.task < 0) = false := decide_eq_false t1
  by_cases t2 : K ≤ m.task
  · go_wp2_with fail
    go_ret
    exact ⟨ret_int (by rw [HR.out, if_pos (.inr t2)]), Hbl.out⟩
  have hR2 := HR.out
  rw [if_neg (by omega)] at hR2
  obtain ⟨v, hv⟩ : ∃ z, z = setB T.facts m.pre := ⟨_, rfl⟩
  rw [← hv] at hR2
  replace HR := hide hR2
  have hci := Hci.out w0 Hbl.out
  rw [← hv] at hci
  replace Hci := hide hci
  clear hR2 hv hci
  go_wp2_with fail
  with_reducible refine Hci.out.mono ?_
  rintro e w1 ⟨rfl, rfl⟩
  cases v with
  | false =>
    go_wp2_with fail
    go_ret
    exact ⟨ret_int (by rw [HR.out, if_pos (by simp)]), Hbl.out⟩
  | true =>
    go_wp2_with fail
    with_reducible refine (Hli.out _ (HH.out.keep Hbl.out) (H2.out.keep Hbl.out)).mono ?_
    rintro e w2 ⟨rfl, hb⟩
    clear h_0 h_1 h_2 h_3 h_4 h_5 h_6 m_0 m_1 m_2 h_l m_l
    replace Hh_ := hide (Hh_.out.keep hb)
    replace Hm_ := hide (Hm_.out.keep hb)
    replace Hbl := hide (Hbl.out.trans (hb.mono Hbl.out.size))
    clear hb
    have h_0 := Hh_.out.cell 0
    have h_1 := Hh_.out.cell 1
    have h_2 := Hh_.out.cell 2
    have h_3 := Hh_.out.cell 3
    have h_4 := Hh_.out.cell 4
    have h_5 := Hh_.out.cell 5
    have h_6 := Hh_.out.cell 6
    have h_l := Hh_.out.lt
    have m_0 := Hm_.out.cell 0
    have m_1 := Hm_.out.cell 1
    have m_2 := Hm_.out.cell 2
    have m_l := Hm_.out.lt
    simp only [List.getElem?_cons_zero, List.getElem?_cons_succ] at h_0 h_1 h_2 h_3 h_4 h_5 h_6 m_0 m_1 m_2
    go_wp2_with fail
    go_ret
    exact ⟨ret_int (by rw [HR.out, if_neg (by simp)]), Hbl.out⟩
theorem cellOf_lowH {w w' : World} (h : Below w.heap.size w w') {a : Addr} {v : Value} (hc : w.cell? a = some v) : w'.cell? a = some v := (h.cell (World.block_lt_of_cell? _ _ hc)).trans hc
set_option maxRecDepth 100000 in
set_option maxHeartbeats 6400000 in
theorem hvalidate_ct (b : HA) (h : Hy) (w : World) (hh : HyR w b h) :
    Calls Tryz.prog 61 #[.agg #[.int .i64 h.T.facts, .slice b.a.I b.a.nI b.a.cI, .slice b.a.G b.a.nG b.a.cG, .slice b.a.O b.a.nO b.a.cO, .int .i64 h.tasks, .slice b.M b.nM b.cM, .slice b.L b.nL b.cL]] w (Gives w (fault (hierFault h).1 (hierFault h).2)) := by
  have hval := fun W hW => SValidate_ct b.a h.T W hW
  have hme := fun A B n c k d m W hW hK hm h1 h2 => hmethod_ct b h A B n c k d m W hW hK hm h1 h2
  have hli := fun W hW hK hl => hlist_ct b h b.L b.nL b.cL h.list W hW hK hl
  obtain ⟨⟨I, nI, cI, G, nG, cG, O, nO, cO⟩, M, nM, cM, L, nL, cL⟩ := b
  simp only at hval hme hli ⊢
  have hml := hh.ms.len
  have hmn := hh.ms.low
  obtain ⟨T, K, ms, li⟩ := h
  simp only at hval hme hli hml hmn ⊢
  obtain ⟨R, hR⟩ : ∃ R, R = hierFault ⟨T, K, ms, li⟩ := ⟨_, rfl⟩
  rw [← hR]
  unfold hierFault at hR
  simp only at hR
  rcases hq : taskFault T with ⟨ec, ei⟩
  rw [hq] at hval hR
  simp only at hval hR
  obtain ⟨hK1, hK2⟩ := hh.tasks
  simp only at hK1 hK2
  have HH := hide hh
  have HR := hide hR
  have Hval := hide hval
  have Hme := hide hme
  have Hli := hide hli
  have Hq := hide hq
  clear hh hR hval hme hli hq
  have Hbl := hide (Below.refl w.heap.size w)
  go_enter Tryz.func61, Tryz.ntmps61
  go_upto_region 1 with (fail)
  obtain ⟨B0, hB0⟩ : ∃ B0, B0 = w.heap.size := ⟨_, rfl⟩
  have HB0 := hide hB0
  clear hB0
  have s_0 : B0 ≤ w.heap.size := Nat.le_trans (Nat.le_of_eq HB0.out) Hbl.out.size
  have hyh_ := Blk.new (w) 50 [.int .i64 T.facts, .slice I nI cI, .slice G nG cG, .slice O nO cO, .int .i64 K, .slice M nM cM, .slice L nL cL]
  have hyf := Blk.new ((w).alloc (.cells #[.int .i64 T.facts, .slice I nI cI, .slice G nG cG, .slice O nO cO, .int .i64 K, .slice M nM cM, .slice L nL cL] 50)) 29 [.int .i64 0, .int .i64 0]
  replace hyh_ := hyh_.alloc (.cells #[.int .i64 0, .int .i64 0] 29)
  have hbW := below_two w (.cells #[.int .i64 T.facts, .slice I nI cI, .slice G nG cG, .slice O nO cO, .int .i64 K, .slice M nM cM, .slice L nL cL] 50) (.cells #[.int .i64 0, .int .i64 0] 29)
  simp only [World.size_alloc] at hyf
  obtain ⟨w0, hW⟩ : ∃ W, W = ((w).alloc (.cells #[.int .i64 T.facts, .slice I nI cI, .slice G nG cG, .slice O nO cO, .int .i64 K, .slice M nM cM, .slice L nL cL] 50)).alloc (.cells #[.int .i64 0, .int .i64 0] 29) := ⟨_, rfl⟩
  rw [← hW] at hyh_ hyf hbW ⊢
  replace Hbl := hide (Hbl.out.trans (hbW.mono Hbl.out.size))
  have Hh_ := hide hyh_
  have Hf := hide hyf
  clear hW hbW hyh_ hyf
  generalize w.heap.size = gh at Hh_ Hf s_0 ⊢
  have h_0 := Hh_.out.cell 0
  have h_1 := Hh_.out.cell 1
  have h_2 := Hh_.out.cell 2
  have h_3 := Hh_.out.cell 3
  have h_4 := Hh_.out.cell 4
  have h_5 := Hh_.out.cell 5
  have h_6 := Hh_.out.cell 6
  have h_l := Hh_.out.lt
  have f0 := Hf.out.cell 0
  have f1 := Hf.out.cell 1
  have fl := Hf.out.lt
  simp only [List.getElem?_cons_zero, List.getElem?_cons_succ] at h_0 h_1 h_2 h_3 h_4 h_5 h_6 f0 f1
  have a_h_ : B0 ≤ gh := by omega
  have a_f : B0 ≤ gh + 1 := by omega
  clear s_0
  have n_h__f : ¬ gh = gh + 1 := by omega
  have n_f_h_ : ¬ gh + 1 = gh := by omega
  go_wp2_with fail
  with_reducible refine (Hval.out w0 (HH.out.keep Hbl.out).task).mono ?_
  rintro e w1 ⟨rfl, hb⟩
  clear h_0 h_1 h_2 h_3 h_4 h_5 h_6 f0 f1 h_l fl
  replace Hh_ := hide (Hh_.out.keep hb)
  replace Hf := hide (Hf.out.keep hb)
  replace Hbl := hide (Hbl.out.trans (hb.mono Hbl.out.size))
  clear hb
  have h_0 := Hh_.out.cell 0
  have h_1 := Hh_.out.cell 1
  have h_2 := Hh_.out.cell 2
  have h_3 := Hh_.out.cell 3
  have h_4 := Hh_.out.cell 4
  have h_5 := Hh_.out.cell 5
  have h_6 := Hh_.out.cell 6
  have h_l := Hh_.out.lt
  have f0 := Hf.out.cell 0
  have f1 := Hf.out.cell 1
  have fl := Hf.out.lt
  simp only [List.getElem?_cons_zero, List.getElem?_cons_succ] at h_0 h_1 h_2 h_3 h_4 h_5 h_6 f0 f1
  unfold fault
  go_upto_region 2 with (fail)
  have n_h__p : ¬ gh = w1.heap.size := by omega
  have n_p_h_ : ¬ w1.heap.size = gh := by omega
  have n_f_p : ¬ gh + 1 = w1.heap.size := by omega
  have n_p_f : ¬ w1.heap.size = gh + 1 := by omega
  have s_h_ : gh < w1.heap.size := h_l
  have s_f : gh + 1 < w1.heap.size := fl
  have s_0 : B0 ≤ w1.heap.size := Nat.le_trans (Nat.le_of_eq HB0.out) Hbl.out.size
  have hyp := Blk.new (w1) 29 [.int .i64 ec, .int .i64 ei]
  have hbW : Below (w1).heap.size (w1) ((w1).alloc (.cells #[.int .i64 ec, .int .i64 ei] 29)) := (Below.refl _ _).alloc (Nat.le_refl _) _
  obtain ⟨w2, hW⟩ : ∃ W, W = (w1).alloc (.cells #[.int .i64 ec, .int .i64 ei] 29) := ⟨_, rfl⟩
  rw [← hW] at hyp hbW ⊢
  replace Hh_ := hide (Hh_.out.keep hbW)
  replace Hf := hide (Hf.out.keep hbW)
  replace Hbl := hide (Hbl.out.trans (hbW.mono Hbl.out.size))
  have Hp := hide hyp
  clear hW hbW hyp
  generalize w1.heap.size = gp at Hp n_h__p n_p_h_ n_f_p n_p_f s_h_ s_f s_0 ⊢
  have h_0 := Hh_.out.cell 0
  have h_1 := Hh_.out.cell 1
  have h_2 := Hh_.out.cell 2
  have h_3 := Hh_.out.cell 3
  have h_4 := Hh_.out.cell 4
  have h_5 := Hh_.out.cell 5
  have h_6 := Hh_.out.cell 6
  have h_l := Hh_.out.lt
  have f0 := Hf.out.cell 0
  have f1 := Hf.out.cell 1
  have fl := Hf.out.lt
  have p0 := Hp.out.cell 0
  have p1 := Hp.out.cell 1
  have pl := Hp.out.lt
  simp only [List.getElem?_cons_zero, List.getElem?_cons_succ] at h_0 h_1 h_2 h_3 h_4 h_5 h_6 f0 f1 p0 p1
  clear s_h_
  clear s_f
  have a_p : B0 ≤ gp := by omega
  clear s_0
  by_cases hec : ec = 0
  rotate_left
  · skip
    have ff0 := Hf.out.frozen 0
    have ff1 := Hf.out.frozen 1
    go_wp2_with fail
    refine bodyPost_ret (v := fault ec ei) (by simp [results, Tryz.results61, go_sem, fault, f0, f1, fl]) rfl ?_
    have hbx := HB0.out
    refine ⟨by rw [HR.out]; rw [if_pos hec], ?_⟩
    repeat' (first | (with_reducible exact Hbl.out) | (with_reducible refine Below.drew ?_) | (with_reducible refine below_setH ?_ ?_ _ _) | omega)
  subst hec
  have hz := taskFault_zero (T := T) (by rw [Hq.out])
  rw [Hq.out] at hz
  obtain ⟨_, e2⟩ := Prod.mk.inj hz
  subst e2
  clear hz
  have hR2 := HR.out
  rw [if_neg (by simp)] at hR2
  replace HR := hide hR2
  clear hR2
  by_cases k1 : K < 0
  · have d1 : decide (K < 0) = true := decide_eq_true k1
    have ff0 := Hf.out.frozen 0
    have ff1 := Hf.out.frozen 1
    go_wp2_with fail
    refine bodyPost_ret (v := fault 3 (-10)) (by simp [results, Tryz.results61, go_sem, fault, f0, f1, fl]) rfl ?_
    have hbx := HB0.out
    refine ⟨by rw [HR.out]; rw [if_pos (.inl k1)], ?_⟩
    repeat' (first | (with_reducible exact Hbl.out) | (with_reducible refine Below.drew ?_) | (with_reducible refine below_setH ?_ ?_ _ _) | omega)
  have d1 : decide (K < 0) = false := decide_eq_false k1
  by_cases k2 : 16 < K
  · skip
    have ff0 := Hf.out.frozen 0
    have ff1 := Hf.out.frozen 1
    go_wp2_with fail
    refine bodyPost_ret (v := fault 3 (-10)) (by simp [results, Tryz.results61, go_sem, fault, f0, f1, fl]) rfl ?_
    have hbx := HB0.out
    refine ⟨by rw [HR.out]; rw [if_pos (.inr k2)], ?_⟩
    repeat' (first | (with_reducible exact Hbl.out) | (with_reducible refine Below.drew ?_) | (with_reducible refine below_setH ?_ ?_ _ _) | omega)
  have hR2 := HR.out
  rw [if_neg (by omega)] at hR2
  replace HR := hide hR2
  clear hR2
  by_cases m1 : 16 < nM
  · have m1i : (16 : Int) < (nM : Int) := by omega
    have ff0 := Hf.out.frozen 0
    have ff1 := Hf.out.frozen 1
    go_wp2_with fail
    refine bodyPost_ret (v := fault 2 (-10)) (by simp [results, Tryz.results61, go_sem, fault, f0, f1, fl]) rfl ?_
    have hbx := HB0.out
    refine ⟨by rw [HR.out]; rw [if_pos (by rw [hml]; exact m1)], ?_⟩
    repeat' (first | (with_reducible exact Hbl.out) | (with_reducible refine Below.drew ?_) | (with_reducible refine below_setH ?_ ?_ _ _) | omega)
  have m1i : ¬ (16 : Int) < (nM : Int) := by omega
  have hR2 := HR.out
  rw [if_neg (by rw [hml]; exact m1)] at hR2
  obtain ⟨R2, hR3⟩ : ∃ z, z = mesFault T.facts K T.ops.length 0 ms := ⟨_, rfl⟩
  rw [← hR3] at hR2
  replace HR := hide hR2
  have HR2 := hide (show R2 = mesFault T.facts K T.ops.length 0 (ms.drop 0) by simpa using hR3)
  clear hR2 hR3
  go_wp2_with fail
  have hbx2 := hide Hbl.out.size
  have Kh_ := Hh_
  have Kf := Hf
  have Kp := Hp
  have Kbl := Hbl
  clear h_0 h_1 h_2 h_3 h_4 h_5 h_6 f0 f1 p0 p1 h_l fl pl
  go_loopw [34] (fun i wr => ∃ k : Nat, k ≤ nM ∧ i = .int .i64 k ∧ Below w2.heap.size w2 wr ∧ R2 = mesFault T.facts K T.ops.length k (ms.drop k)) (fun i _ => nM - (intOf i).toNat)
  case atStart => exact ⟨0, by omega, rfl, Below.refl _ _, HR2.out⟩
  case round =>
    obtain ⟨k, hk, rfl, hb, hrk⟩ := hrel
    replace HR2 := hide hrk
    have Hb2 := hide hb
    replace Hbl := hide (Kbl.out.trans (hb.mono Kbl.out.size))
    clear hrk hb
    replace Hh_ := hide (Kh_.out.keep Hb2.out)
    replace Hf := hide (Kf.out.keep Hb2.out)
    replace Hp := hide (Kp.out.keep Hb2.out)
    have h_0 := Hh_.out.cell 0
    have h_1 := Hh_.out.cell 1
    have h_2 := Hh_.out.cell 2
    have h_3 := Hh_.out.cell 3
    have h_4 := Hh_.out.cell 4
    have h_5 := Hh_.out.cell 5
    have h_6 := Hh_.out.cell 6
    have h_l := Hh_.out.lt
    have f0 := Hf.out.cell 0
    have f1 := Hf.out.cell 1
    have fl := Hf.out.lt
    have p0 := Hp.out.cell 0
    have p1 := Hp.out.cell 1
    have pl := Hp.out.lt
    simp only [List.getElem?_cons_zero, List.getElem?_cons_succ] at h_0 h_1 h_2 h_3 h_4 h_5 h_6 f0 f1 p0 p1
    by_cases hlt : k < nM
    rotate_left
    · obtain rfl : k = nM := by omega
      have hR2 := HR.out
      rw [HR2.out, mesFault_end (by rw [hml]; exact Nat.le_refl _), if_neg (by simp)] at hR2
      replace HR := hide hR2
      obtain ⟨v, hv⟩ : ∃ z, z = listCode K T.ops.length li := ⟨_, rfl⟩
      rw [← hv] at hR2
      replace HR := hide hR2
      have hli := Hli.out wr (HH.out.keep Hbl.out) ⟨by omega, by omega⟩ (HH.out.keep Hbl.out).list
      rw [← hv] at hli
      have Hli2 := hide hli
      clear hR2 hli hv
      go_wp2_with fail
      with_reducible refine (Hli2.out).mono ?_
      rintro e w5 ⟨rfl, hb⟩
      clear h_0 h_1 h_2 h_3 h_4 h_5 h_6 f0 f1 p0 p1 h_l fl pl
      replace Hh_ := hide (Hh_.out.keep hb)
      replace Hf := hide (Hf.out.keep hb)
      replace Hp := hide (Hp.out.keep hb)
      replace Hbl := hide (Hbl.out.trans (hb.mono Hbl.out.size))
      clear hb
      have h_0 := Hh_.out.cell 0
      have h_1 := Hh_.out.cell 1
      have h_2 := Hh_.out.cell 2
      have h_3 := Hh_.out.cell 3
      have h_4 := Hh_.out.cell 4
      have h_5 := Hh_.out.cell 5
      have h_6 := Hh_.out.cell 6
      have h_l := Hh_.out.lt
      have f0 := Hf.out.cell 0
      have f1 := Hf.out.cell 1
      have fl := Hf.out.lt
      have p0 := Hp.out.cell 0
      have p1 := Hp.out.cell 1
      have pl := Hp.out.lt
      simp only [List.getElem?_cons_zero, List.getElem?_cons_succ] at h_0 h_1 h_2 h_3 h_4 h_5 h_6 f0 f1 p0 p1
      by_cases hv0 : v = 0
      · subst hv0
        have hR2 := HR.out
        rw [if_neg (by simp)] at hR2
        replace HR := hide hR2
        clear hR2
        have ff0 := Hf.out.frozen 0
        have ff1 := Hf.out.frozen 1
        go_wp2_with fail
        refine bodyPost_ret (v := fault 0 0) (by simp [results, Tryz.results61, go_sem, fault, f0, f1, fl]) rfl ?_
        have hbx := HB0.out
        refine ⟨by rw [HR.out], ?_⟩
        repeat' (first | (with_reducible exact Hbl.out) | (with_reducible refine Below.drew ?_) | (with_reducible refine below_setH ?_ ?_ _ _) | omega)
      have hvn : (v != 0) = true := by simpa using hv0
      have ff0 := Hf.out.frozen 0
      have ff1 := Hf.out.frozen 1
      go_wp2_with fail
      refine bodyPost_ret (v := fault v (-11)) (by simp [results, Tryz.results61, go_sem, fault, f0, f1, fl]) rfl ?_
      have hbx := HB0.out
      refine ⟨by rw [HR.out]; rw [if_pos hv0], ?_⟩
      repeat' (first | (with_reducible exact Hbl.out) | (with_reducible refine Below.drew ?_) | (with_reducible refine below_setH ?_ ?_ _ _) | omega)
    obtain ⟨b, off, m, A1, n1, c1, A2, n2, c2, rfl, hx, y0, y1, y2, mt, r1, r2⟩ := HH.out.ms.me hlt
    have g0 := cellOf_lowH Hbl.out y0
    have g1 := cellOf_lowH Hbl.out y1
    have g2 := cellOf_lowH Hbl.out y2
    have hki : (k : Int) < (nM : Int) := by omega
    have hR3 := HR2.out
    rw [mesFault_at hx] at hR3
    replace HR2 := hide hR3
    have hmm := fun W (hW : Below w.heap.size w W) => Hme.out A1 A2 n1 c1 n2 c2 m W (HH.out.keep hW) ⟨by omega, by omega⟩ mt (r1.keep hW) (r2.keep hW)
    obtain ⟨v, hv⟩ : ∃ z, z = meCode T.facts K T.ops.length m := ⟨_, rfl⟩
    rw [← hv] at hR3
    replace HR2 := hide hR3
    simp only [← hv] at hmm
    have Hmm := hide hmm
    obtain ⟨mt1, mt2⟩ := mt
    clear hR3 hx r1 r2 hmm hv y0 y1 y2
    go_upto_region 11 with (fail)
    have n_h__m_ : ¬ gh = wr.heap.size := by omega
    have n_m__h_ : ¬ wr.heap.size = gh := by omega
    have n_f_m_ : ¬ gh + 1 = wr.heap.size := by omega
    have n_m__f : ¬ wr.heap.size = gh + 1 := by omega
    have n_p_m_ : ¬ gp = wr.heap.size := by omega
    have n_m__p : ¬ wr.heap.size = gp := by omega
    have s_h_ : gh < wr.heap.size := h_l
    have s_f : gh + 1 < wr.heap.size := fl
    have s_p : gp < wr.heap.size := pl
    have s_0 : B0 ≤ wr.heap.size := Nat.le_trans (Nat.le_of_eq HB0.out) Hbl.out.size
    have hym_ := Blk.new (wr) 116 [.int .i64 m.task, .slice A1 n1 c1, .slice A2 n2 c2]
    have hbW : Below (wr).heap.size (wr) ((wr).alloc (.cells #[.int .i64 m.task, .slice A1 n1 c1, .slice A2 n2 c2] 116)) := (Below.refl _ _).alloc (Nat.le_refl _) _
    obtain ⟨w3, hW⟩ : ∃ W, W = (wr).alloc (.cells #[.int .i64 m.task, .slice A1 n1 c1, .slice A2 n2 c2] 116) := ⟨_, rfl⟩
    rw [← hW] at hym_ hbW ⊢
    replace Hh_ := hide (Hh_.out.keep hbW)
    replace Hf := hide (Hf.out.keep hbW)
    replace Hp := hide (Hp.out.keep hbW)
    replace Hbl := hide (Hbl.out.trans (hbW.mono Hbl.out.size))
    replace Hb2 := hide (Hb2.out.trans (hbW.mono Hb2.out.size))
    have Hm_ := hide hym_
    clear hW hbW hym_
    generalize wr.heap.size = gm at Hm_ n_h__m_ n_m__h_ n_f_m_ n_m__f n_p_m_ n_m__p s_h_ s_f s_p s_0 ⊢
    have h_0 := Hh_.out.cell 0
    have h_1 := Hh_.out.cell 1
    have h_2 := Hh_.out.cell 2
    have h_3 := Hh_.out.cell 3
    have h_4 := Hh_.out.cell 4
    have h_5 := Hh_.out.cell 5
    have h_6 := Hh_.out.cell 6
    have h_l := Hh_.out.lt
    have f0 := Hf.out.cell 0
    have f1 := Hf.out.cell 1
    have fl := Hf.out.lt
    have p0 := Hp.out.cell 0
    have p1 := Hp.out.cell 1
    have pl := Hp.out.lt
    have m_0 := Hm_.out.cell 0
    have m_1 := Hm_.out.cell 1
    have m_2 := Hm_.out.cell 2
    have m_l := Hm_.out.lt
    simp only [List.getElem?_cons_zero, List.getElem?_cons_succ] at h_0 h_1 h_2 h_3 h_4 h_5 h_6 f0 f1 p0 p1 m_0 m_1 m_2
    clear s_h_
    clear s_f
    clear s_p
    have a_m_ : B0 ≤ gm := by omega
    clear s_0
    go_wp2_with fail
    with_reducible refine (Hmm.out _ Hbl.out).mono ?_
    rintro e w4 ⟨rfl, hb⟩
    clear h_0 h_1 h_2 h_3 h_4 h_5 h_6 f0 f1 p0 p1 m_0 m_1 m_2 h_l fl pl m_l
    replace Hh_ := hide (Hh_.out.keep hb)
    replace Hf := hide (Hf.out.keep hb)
    replace Hp := hide (Hp.out.keep hb)
    replace Hm_ := hide (Hm_.out.keep hb)
    replace Hbl := hide (Hbl.out.trans (hb.mono Hbl.out.size))
    replace Hb2 := hide (Hb2.out.trans (hb.mono Hb2.out.size))
    clear hb
    have h_0 := Hh_.out.cell 0
    have h_1 := Hh_.out.cell 1
    have h_2 := Hh_.out.cell 2
    have h_3 := Hh_.out.cell 3
    have h_4 := Hh_.out.cell 4
    have h_5 := Hh_.out.cell 5
    have h_6 := Hh_.out.cell 6
    have h_l := Hh_.out.lt
    have f0 := Hf.out.cell 0
    have f1 := Hf.out.cell 1
    have fl := Hf.out.lt
    have p0 := Hp.out.cell 0
    have p1 := Hp.out.cell 1
    have pl := Hp.out.lt
    have m_0 := Hm_.out.cell 0
    have m_1 := Hm_.out.cell 1
    have m_2 := Hm_.out.cell 2
    have m_l := Hm_.out.lt
    simp only [List.getElem?_cons_zero, List.getElem?_cons_succ] at h_0 h_1 h_2 h_3 h_4 h_5 h_6 f0 f1 p0 p1 m_0 m_1 m_2
    by_cases hv0 : v = 0
    · subst hv0
      have hR2 := HR2.out
      rw [if_pos rfl] at hR2
      replace HR2 := hide hR2
      clear hR2
      go_wp2_with fail
      go_roundw
      case rel => exact ⟨k + 1, by omega, by go_num, Hb2.out, HR2.out⟩
      case measure => simp [intOf]; omega
    have hvn : (v != 0) = true := by simpa using hv0
    have hR2 := HR.out
    rw [HR2.out, if_neg hv0, if_pos hv0] at hR2
    replace HR := hide hR2
    have hw20 : IntKind.i64.wrap (-20 - (k : Int)) = -20 - (k : Int) := IntWalk.i64_in _ (by omega)
    clear hR2
    have ff0 := Hf.out.frozen 0
    have ff1 := Hf.out.frozen 1
    go_wp2_with fail
    refine bodyPost_ret (v := fault v (-20 - (k : Int))) (by simp [results, Tryz.results61, go_sem, fault, f0, f1, fl]) rfl ?_
    have hbx := HB0.out
    refine ⟨by rw [HR.out], ?_⟩
    repeat' (first | (with_reducible exact Hbl.out) | (with_reducible refine Below.drew ?_) | (with_reducible refine below_setH ?_ ?_ _ _) | omega)
end Go.Proofs.YtmjiiddncbhgpaaGreat
namespace Go.Proofs.YtmjiiddncbhgpaaGreat
set_option linter.unusedVariables false
set_option linter.unusedSimpArgs false
open Go.RowKit
theorem takeC {P : Program} {md : Region.Mode} {ops : Array Oper} {Q : Exit → Act → World → Prop} {S : World → Prop} {i : Nat} {oi : Oper} {v : Value} {fuel : Nat} {listed : Array Bool} {a : Act} {w : World} (d : Option Tmp) (hi : ops[i]? = some oi) (hd : oi.dst = d)
    (hs : Region.noSelect ops = true) (hf : Region.free md ops listed i = true) (hr : (Region.ready md ops listed).contains i = true)
    (hQ : ∀ c a w, Q (.panic c) (a.put d v) w → Q (.panic c) a w) (hy : YieldsIf P ops S oi v a) (hS : S w)
    (h : wpAnyH P md ops Q S fuel (listed.setIfInBounds i true) (a.put d v) w) : wpAnyH P md ops Q S (fuel + 1) listed a w := by
  subst hd
  exact wpAnyH_take hi hs hf hr hQ hy hS h
/-- a row of bools -/
def rowB (n : Nat) (a : Nat → Bool) : List Value := (List.range (n + 1)).map fun j => .bool (a j)
theorem rowB_get {n : Nat} {a : Nat → Bool} {j : Nat} (h : j ≤ n) : (rowB n a)[j]? = some (.bool (a j)) := by
  unfold rowB
  rw [List.getElem?_map, List.getElem?_range (by omega)]
  rfl
theorem rowB_set {n : Nat} {a : Nat → Bool} {j : Nat} {b : Bool} : (rowB n a).set j (.bool b) = rowB n (fun i => if i = j then b else a i) := by
  refine List.ext_getElem? (fun i => ?_)
  unfold rowB
  rw [List.getElem?_set, List.getElem?_map, List.getElem?_map]
  by_cases hi : i < n + 1
  · rw [List.getElem?_range hi]
    by_cases e : j = i
    · subst e; simp [hi]
    · rw [if_neg e]; simp [Ne.symm e]
  · rw [List.getElem?_eq_none (by simp; omega)]
    by_cases e : j = i
    · subst e; simp [hi]
    · rw [if_neg e]; rfl
theorem rowB_new (n : Nat) : List.replicate (n + 1) (Value.bool false) = rowB n (fun _ => false) := by
  unfold rowB
  refine List.ext_getElem? (fun i => ?_)
  rw [List.getElem?_map]
  by_cases hi : i < n + 1
  · rw [List.getElem?_range hi, List.getElem?_replicate, if_pos hi]; rfl
  · rw [List.getElem?_replicate, if_neg hi, List.getElem?_eq_none (by simp; omega)]; rfl
theorem run_makeZ {P : Program} (t e : TypeId) (i : TypeInfo) (z : Value) (ht : P.underlying t = some (.slice e)) (hi : P.info? e = some i) (hz : i.zero = some z) (hzc : z.cells = #[z]) (h1 : i.size = 1) (h8 : i.bytes ≤ 24)
    (n : Nat) (hn : n ≤ 1000000) (w : World) :
    (Instr.makeSlice t (.int .i64 (n : Int)) (.int .i64 (n : Int))).run P w = .ok (.slice (some ⟨w.heap.size, 0, none⟩) n n) (w.alloc (.cells (List.replicate n z).toArray e)) := by
  have hr := run_make (P := P) w t e i _ ht hi hz .i64 .i64 n n (by omega) (by omega) (by
    have : i.bytes * n ≤ 24 * 1000000 := Nat.mul_le_mul h8 hn
    have h9 : n * i.bytes ≤ 24 * 1000000 := by rw [Nat.mul_comm]; exact this
    omega) (by omega)
  simp only [Int.toNat_natCast] at hr
  rw [hr, h1, Nat.mul_one]
  congr 3
  apply Array.ext'
  rw [hzc, toList_madeCells_one]
theorem boolInfoH : (Tryz.prog.info? 4).map (fun i => (i.zero, i.size, i.bytes)) = some (some (.bool false), 1, 1) := by kernel_rfl
theorem rowInfoH : (Tryz.prog.info? 168).map (fun i => (i.zero, i.size, i.bytes)) = some (some (.slice none 0 0), 1, 24) := by kernel_rfl
theorem rowsInfoH : (Tryz.prog.info? 170).map (fun i => (i.zero, i.size, i.bytes)) = some (some (.slice none 0 0), 1, 24) := by kernel_rfl
/-- a row of slices, one for each block -/
def rowS (k n : Nat) (A : Nat → Nat) : List Value := (List.range k).map fun i => .slice (some ⟨A i, 0, none⟩) (n + 1) (n + 1)
/-- the first m of k slices are laid -/
def rowP (k n m : Nat) (A : Nat → Nat) : List Value := (List.range k).map fun i => if i < m then .slice (some ⟨A i, 0, none⟩) (n + 1) (n + 1) else .slice none 0 0
theorem rowP_set {k n m : Nat} {A : Nat → Nat} (hm : m < k) : (rowP k n m A).set m (.slice (some ⟨A m, 0, none⟩) (n + 1) (n + 1)) = rowP k n (m + 1) A := by
  refine List.ext_getElem? (fun i => ?_)
  unfold rowP
  rw [List.getElem?_set, List.getElem?_map, List.getElem?_map]
  by_cases hi : i < k
  · rw [List.getElem?_range hi]
    by_cases e : m = i
    · subst e; simp [hm]
    · rw [if_neg e]
      by_cases h2 : i < m
      · simp [h2, show i < m + 1 by omega]
      · simp [h2, show ¬ i < m + 1 by omega]
  · rw [List.getElem?_eq_none (by simp; omega), if_neg (by omega)]
    rfl
theorem rowP_new (k n : Nat) (A : Nat → Nat) : List.replicate k (Value.slice none 0 0) = rowP k n 0 A := by
  unfold rowP
  refine List.ext_getElem? (fun i => ?_)
  rw [List.getElem?_map]
  by_cases hi : i < k
  · rw [List.getElem?_range hi, List.getElem?_replicate, if_pos hi]; simp
  · rw [List.getElem?_replicate, if_neg hi, List.getElem?_eq_none (by simp; omega)]; rfl
theorem rowP_all (k n : Nat) (A : Nat → Nat) : rowP k n k A = rowS k n A := by
  unfold rowP rowS
  refine List.map_congr_left (fun i hi => ?_)
  rw [if_pos (List.mem_range.1 hi)]
theorem rowP_at {k n m i : Nat} {A : Nat → Nat} (hi : i < m) (hm : m ≤ k) : (rowP k n m A)[i]? = some (.slice (some ⟨A i, 0, none⟩) (n + 1) (n + 1)) := by
  unfold rowP
  rw [List.getElem?_map, List.getElem?_range (by omega)]
  simp [hi]
theorem rowS_at {k n i : Nat} {A : Nat → Nat} (hi : i < k) : (rowS k n A)[i]? = some (.slice (some ⟨A i, 0, none⟩) (n + 1) (n + 1)) := by
  unfold rowS
  rw [List.getElem?_map, List.getElem?_range hi]
  rfl
/-- a chart in memory: its rows and what they say -/
structure ChartS (B : Nat) (W : World) (g K n : Nat) (A : Nat → Nat) (R : Nat → Nat → Nat) (f : Nat → Nat → Nat → Bool) : Prop where
  top : Blk 170 W g (rowS K n A)
  mid : ∀ t, t < K → Blk 168 W (A t) (rowS (n + 1) n (R t))
  low : ∀ t i, t < K → i ≤ n → Blk 4 W (R t i) (rowB n (f t i))
  one : ∀ t i t' i', t < K → i ≤ n → t' < K → i' ≤ n → R t i = R t' i' → t = t' ∧ i = i'
  base : B ≤ g ∧ (∀ t, t < K → B ≤ A t) ∧ ∀ t i, t < K → i ≤ n → B ≤ R t i
theorem ChartS.keep {B : Nat} {W W' : World} {g K n : Nat} {A : Nat → Nat} {R : Nat → Nat → Nat} {f : Nat → Nat → Nat → Bool} (h : ChartS B W g K n A R f) (hb : Below W.heap.size W W') : ChartS B W' g K n A R f :=
  ⟨h.top.keep hb, fun t ht => (h.mid t ht).keep hb, fun t i ht hi => (h.low t i ht hi).keep hb, h.one, h.base⟩
/-- block numbers, as they are given -/
def chA (g n t : Nat) : Nat := g + 1 + t * (n + 2)
def chR (g n t i : Nat) : Nat := g + 2 + t * (n + 2) + i
theorem chR_one {g n t i t' i' : Nat} (hi : i ≤ n) (hi' : i' ≤ n) (h : chR g n t i = chR g n t' i') : t = t' ∧ i = i' := by
  unfold chR at h
  have h1 : t * (n + 2) + i = t' * (n + 2) + i' := by omega
  rcases Nat.lt_trichotomy t t' with h2 | h2 | h2
  · have := Nat.mul_le_mul_right (n + 2) (show t + 1 ≤ t' from h2)
    rw [Nat.add_mul] at this
    omega
  · subst h2; omega
  · have := Nat.mul_le_mul_right (n + 2) (show t' + 1 ≤ t from h2)
    rw [Nat.add_mul] at this
    omega
theorem chA_succ (g n t : Nat) : chA g n (t + 1) = chA g n t + (n + 2) := by unfold chA; rw [Nat.add_mul]; omega
theorem chR_A (g n t i : Nat) : chR g n t i = chA g n t + 1 + i := by unfold chA chR; omega
theorem chA_lt {g n t k : Nat} (h : t < k) : chA g n t + (n + 2) ≤ chA g n k := by
  rw [← chA_succ]
  unfold chA
  have := Nat.mul_le_mul_right (n + 2) (show t + 1 ≤ k from h)
  omega
/-- charts being made: t whole tasks -/
structure ChM (w W : World) (g K n t : Nat) : Prop where
  below : Below g w W
  top : Blk 170 W g (rowP K n t (chA g n))
  mid : ∀ s, s < t → Blk 168 W (chA g n s) (rowS (n + 1) n (chR g n s))
  low : ∀ s i, s < t → i ≤ n → Blk 4 W (chR g n s i) (rowB n (fun _ => false))
set_option maxRecDepth 100000 in
set_option maxHeartbeats 6400000 in
theorem newChart_ct (K n : Nat) (hK : K ≤ 16) (hn : n ≤ 1000) (w : World) :
    Calls Tryz.prog 106 #[.int .i64 K, .int .i64 n] w (fun e w' => Below w.heap.size w w' ∧ ∃ g A R, e = .returned (.slice (some ⟨g, 0, none⟩) K K) ∧ ChartS w.heap.size w' g K n A R (fun _ _ _ => false)) := by
  obtain ⟨i1, hi1, hy0, hy1, hy2⟩ := info_parts boolInfoH
  obtain ⟨i2, hi2, hz0, hz1, hz2⟩ := info_parts rowInfoH
  obtain ⟨i3, hi3, hv0, hv1, hv2⟩ := info_parts rowsInfoH
  have hm3 := fun w => run_makeZ (P := Tryz.prog) 166 170 i3 (.slice none 0 0) Tryz.underlying166 hi3 hv0 rfl hv1 (by omega) K (by omega) w
  have hm2 := fun w => run_makeZ (P := Tryz.prog) 170 168 i2 (.slice none 0 0) Tryz.underlying170 hi2 hz0 rfl hz1 (by omega) (n + 1) (by omega) w
  have hm1 := fun w => run_makeZ (P := Tryz.prog) 168 4 i1 (.bool false) Tryz.underlying168 hi1 hy0 rfl hy1 (by omega) (n + 1) (by omega) w
  simp only [rowP_new K n (chA w.heap.size n)] at hm3
  simp only [rowB_new n] at hm1
  have e1 : (((n + 1 : Nat) : Int)) = (n : Int) + 1 := by omega
  simp only [e1] at hm1 hm2
  go_enter Tryz.func106, Tryz.ntmps106
  obtain ⟨g, hg⟩ : ∃ z, z = w.heap.size := ⟨_, rfl⟩
  have Hg := hide hg
  have Hm2 := hide hm2
  have Hm1 := hide hm1
  clear hm2 hm1
  simp only [← hg] at hm3
  clear hg
  go_upto_region 3 with (fail)
  have hg := Hg.out
  obtain ⟨w0, hw0⟩ : ∃ W, W = w.alloc (.cells (rowP K n 0 (chA g n)).toArray 170) := ⟨_, rfl⟩
  have hb0 : Below g w w0 := by rw [hw0, hg]; exact (Below.refl _ _).alloc (Nat.le_refl _) _
  have ht0 : Blk 170 w0 g (rowP K n 0 (chA g n)) := by rw [hw0, hg]; exact Blk.new w _ _
  have hz0 : w0.heap.size = chA g n 0 := by rw [hw0]; simp [chA, hg]
  have HM0 := hide (show ChM w w0 g K n 0 from ⟨hb0, ht0, fun s h => by omega, fun s i h => by omega⟩)
  rw [← hw0, ← hg]
  clear hw0 hb0 ht0 hm3 hg
  go_wp2_with fail
  go_loopw [12] (fun o wr => ∃ t : Nat, t ≤ K ∧ o = .int .i64 t ∧ wr.heap.size = chA g n t ∧ ChM w wr g K n t) (fun o _ => K - (intOf o).toNat)
  case atStart => exact ⟨0, by omega, rfl, hz0, HM0.out⟩
  case round =>
    obtain ⟨t, htK, rfl, hsz, hM⟩ := hrel
    have HM := hide hM
    clear hM
    by_cases hlt : t < K
    rotate_left
    · obtain rfl : t = K := by omega
      go_wp2_with fail
      go_ret
      have hM := HM.out
      have hgw := Hg.out
      refine ⟨by rw [← hgw]; exact hM.below, g, chA g n, chR g n, rfl, ⟨by rw [← rowP_all]; exact hM.top, hM.mid, hM.low, fun t i t' i' _ hi _ hi' e => chR_one hi hi' e, by omega, fun s _ => by unfold chA; omega, fun s i _ _ => by unfold chR; omega⟩⟩
    · have hm2 := Hm2.out
      simp only [rowP_new (n + 1) n (chR g n t)] at hm2
      obtain ⟨wo, rfl⟩ : ∃ V, V = wr := ⟨_, rfl⟩
      have hki : (t : Int) < (K : Int) := by omega
      have hM := HM.out
      have hgw := hM.top.lt
      have htop1 := hM.top.alloc (.cells (rowP (n + 1) n 0 (chR g n t)).toArray 168)
      have q0 : (wo.alloc (.cells (rowP (n + 1) n 0 (chR g n t)).toArray 168)).cell? ⟨g, t, none⟩ = some (.slice none 0 0) := by
        rw [htop1.cell t]
        unfold rowP
        rw [List.getElem?_map, List.getElem?_range hlt]
        simp
      have qf := htop1.frozen t
      go_upto_region 6 with (fail)
      have hrow1 := Blk.new wo 168 (rowP (n + 1) n 0 (chR g n t))
      rw [hsz] at hrow1
      have hgne : g ≠ chA g n t := by unfold chA; omega
      obtain ⟨w1, hw1⟩ : ∃ W, W = (wo.alloc (.cells (rowP (n + 1) n 0 (chR g n t)).toArray 168)).setCell ⟨g, t, none⟩ (.slice (some ⟨chA g n t, 0, none⟩) (n + 1) (n + 1)) := ⟨_, rfl⟩
      have htop2 := htop1.set t (.slice (some ⟨chA g n t, 0, none⟩) (n + 1) (n + 1))
      rw [rowP_set hlt] at htop2
      have hc := Chg.set (wo.alloc (.cells (rowP (n + 1) n 0 (chR g n t)).toArray 168)) g t (.slice (some ⟨chA g n t, 0, none⟩) (n + 1) (n + 1))
      have hrow2 := hc.blk hrow1 (fun e => hgne e.symm)
      have hb1 : Below g w w1 := by rw [hw1]; exact (hM.below.alloc (by rw [hsz]; unfold chA; omega) _).setCell (Nat.le_refl g) _
      have hz1 : w1.heap.size = chA g n t + 1 + 0 := by rw [hw1]; simp [World.setCell, hsz]
      have hmid1 : ∀ s, s < t → Blk 168 w1 (chA g n s) (rowS (n + 1) n (chR g n s)) := fun s hs => by
        rw [hw1]
        exact hc.blk ((hM.mid s hs).alloc _) (by unfold chA; omega)
      have hlow1 : ∀ s i, s < t → i ≤ n → Blk 4 w1 (chR g n s i) (rowB n (fun _ => false)) := fun s i hs hi => by
        rw [hw1]
        exact hc.blk ((hM.low s i hs hi).alloc _) (by unfold chR; omega)
      rw [← hw1] at htop2 hrow2 ⊢
      have Htop := hide htop2
      have Hrow := hide hrow2
      have Hmid := hide hmid1
      have Hlow := hide hlow1
      have Hb1 := hide hb1
      clear hw1 htop1 q0 qf hrow1 htop2 hc hrow2 hb1 hmid1 hlow1 hM hm2 HM hsz
      have q1 : w1.cell? ⟨g, t, none⟩ = some (.slice (some ⟨chA g n t, 0, none⟩) (n + 1) (n + 1)) := (Htop.out.cell t).trans (rowP_at (by omega) (by omega))
      have e2 : chA g n (t + 1) = chA g n t + (n + 2) := chA_succ g n t
      go_wp2_with fail
      clear q1
      go_loopw [26] (fun o wr => ∃ i : Nat, i ≤ n + 1 ∧ o = .int .i64 i ∧ wr.heap.size = chA g n t + 1 + i ∧ Below g w wr ∧ Blk 170 wr g (rowP K n (t + 1) (chA g n)) ∧ Blk 168 wr (chA g n t) (rowP (n + 1) n i (chR g n t)) ∧ (∀ s, s < t → Blk 168 wr (chA g n s) (rowS (n + 1) n (chR g n s))) ∧ (∀ s i, s < t → i ≤ n → Blk 4 wr (chR g n s i) (rowB n (fun _ => false))) ∧ ∀ i', i' < i → Blk 4 wr (chR g n t i') (rowB n (fun _ => false))) (fun o _ => n + 1 - (intOf o).toNat)
      case atStart => exact ⟨0, by omega, rfl, hz1, Hb1.out, Htop.out, Hrow.out, Hmid.out, Hlow.out, fun i' h => by omega⟩
      case round =>
        obtain ⟨i, hi, rfl, hsz, hb, htp, hrw, hmd, hlw, hcu⟩ := hrel
        have Hb := hide hb
        have Htp := hide htp
        have Hrw := hide hrw
        have Hmd := hide hmd
        have Hlw := hide hlw
        have Hcu := hide hcu
        clear hb htp hrw hmd hlw hcu
        by_cases hli : i < n + 1
        rotate_left
        · obtain rfl : i = n + 1 := by omega
          have hnl : ¬ (((n + 1 : Nat) : Int)) < (n : Int) + 1 := by omega
          go_wp2_with fail
          go_roundw
          case rel =>
            have hM : ChM w wr g K n (t + 1) := ⟨Hb.out, Htp.out, fun s hs => by
              rcases Nat.lt_or_ge s t with h | h
              · exact Hmd.out s h
              · obtain rfl : s = t := by omega
                rw [← rowP_all]
                exact Hrw.out, fun s j hs hj => by
              rcases Nat.lt_or_ge s t with h | h
              · exact Hlw.out s j h hj
              · obtain rfl : s = t := by omega
                exact Hcu.out j (by omega)⟩
            exact ⟨t + 1, by omega, by go_num, by omega, hM⟩
          case measure => simp [intOf]; omega
        · have hii : (i : Int) < (n : Int) + 1 := by omega
          have hKt : t + 1 ≤ K := by omega
          have hm1 := Hm1.out
          have e3 : chR g n t i = chA g n t + 1 + i := chR_A g n t i
          have gT0 : wr.cell? ⟨g, t, none⟩ = some (.slice (some ⟨chA g n t, 0, none⟩) (n + 1) (n + 1)) := (Htp.out.cell t).trans (rowP_at (by omega) (by omega))
          go_upto_region 9 with (fail)
          obtain ⟨V, hV⟩ : ∃ Z, Z = wr.drew := ⟨_, rfl⟩
          have hVs : V.heap.size = chA g n t + 1 + i := by rw [hV]; exact hsz
          have hbV : Below wr.heap.size wr V := by rw [hV]; exact (Below.refl _ _).drew
          refine wp_region_held_drew (S := (fun w' => w'.cell? ⟨g, t, none⟩ = some (.slice (some ⟨chA g n t, 0, none⟩) (n + 1) (n + 1)))) (by kernel_rfl) ?_ (fun hHeld => ?_)
          · exact gT0
          rw [← hV] at hHeld ⊢
          have hwr : IntKind.i64.wrap ((n : Int) + 1) = (n : Int) + 1 := IntWalk.i64_in _ (by omega)
          clear hV
          refine takeC (i := 0) (v := ?_) (some 29) rfl rfl (by kernel_rfl) (by kernel_rfl) (by kernel_rfl) (fun _ _ _ h => h) (Or.inl ⟨by rfl, ?_⟩) (by assumption) ?_
          rotate_left
          · intro w hSw; (try dsimp only at hSw); have s1 := hSw; first | (go_simp; done) | (go_simp; with_reducible rfl)
          try simp only [Act.put, List.setIfInBounds_toArray, List.set_cons_zero, List.set_cons_succ]
          refine takeC (i := 1) (v := ?_) (some 30) rfl rfl (by kernel_rfl) (by kernel_rfl) (by kernel_rfl) (fun _ _ _ h => h) (Or.inl ⟨by rfl, ?_⟩) (by assumption) ?_
          rotate_left
          · intro w hSw; (try dsimp only at hSw); have s1 := hSw; first | (go_simp; done) | (go_simp; with_reducible rfl)
          try simp only [Act.put, List.setIfInBounds_toArray, List.set_cons_zero, List.set_cons_succ]
          refine takeC (i := 2) (v := ?_) (some 31) rfl rfl (by kernel_rfl) (by kernel_rfl) (by kernel_rfl) (fun _ _ _ h => h) (Or.inl ⟨by rfl, ?_⟩) (by assumption) ?_
          rotate_left
          · intro w hSw; (try dsimp only at hSw); have s1 := hSw; first | (go_simp; done) | (go_simp; with_reducible rfl)
          try simp only [Act.put, List.setIfInBounds_toArray, List.set_cons_zero, List.set_cons_succ]
          refine takeC (i := 3) (v := ?_) (some 32) rfl rfl (by kernel_rfl) (by kernel_rfl) (by kernel_rfl) (fun _ _ _ h => h) (Or.inl ⟨by rfl, ?_⟩) (by assumption) ?_
          rotate_left
          · intro w hSw; (try dsimp only at hSw); have s1 := hSw; first | (go_simp; done) | (go_simp; with_reducible rfl)
          try simp only [Act.put, List.setIfInBounds_toArray, List.set_cons_zero, List.set_cons_succ]
          refine takeC (i := 4) (v := ?_) (some 33) rfl rfl (by kernel_rfl) (by kernel_rfl) (by kernel_rfl) (fun _ _ _ h => h) (Or.inl ⟨by rfl, ?_⟩) (by assumption) ?_
          rotate_left
          · intro w hSw; (try dsimp only at hSw); have s1 := hSw; first | (go_simp; done) | (go_simp; with_reducible rfl)
          try simp only [Act.put, List.setIfInBounds_toArray, List.set_cons_zero, List.set_cons_succ]
          refine takeC (i := 5) (v := ?_) (some 34) rfl rfl (by kernel_rfl) (by kernel_rfl) (by kernel_rfl) (fun _ _ _ h => h) (Or.inl ⟨by rfl, ?_⟩) (by assumption) ?_
          rotate_left
          · intro w hSw; (try dsimp only at hSw); have s1 := hSw; first | (go_simp; done) | (go_simp; with_reducible rfl)
          try simp only [Act.put, List.setIfInBounds_toArray, List.set_cons_zero, List.set_cons_succ]
          refine takeC (i := 6) (v := ?_) (some 35) rfl rfl (by kernel_rfl) (by kernel_rfl) (by kernel_rfl) (fun _ _ _ h => h) (Or.inl ⟨by rfl, ?_⟩) (by assumption) ?_
          rotate_left
          · intro w hSw; (try dsimp only at hSw); have s1 := hSw; first | (go_simp; done) | (go_simp; with_reducible rfl)
          try simp only [Act.put, List.setIfInBounds_toArray, List.set_cons_zero, List.set_cons_succ]
          refine wpAnyH_ready (rs := [7]) (by kernel_rfl) (by simp) ?_
          refine AllReadyH.cons rfl (fun K hK => ?_) AllReadyH.nil

          go_simp
          obtain ⟨w2, hw2⟩ : ∃ W, W = V.alloc (.cells (rowB n (fun _ => false)).toArray 4) := ⟨_, rfl⟩
          have hb2 : Below V.heap.size V w2 := by rw [hw2]; exact (Below.refl _ _).alloc (Nat.le_refl _) _
          have hbx : Below wr.heap.size wr w2 := hbV.trans (hb2.mono hbV.size)
          have hnew : Blk 4 w2 (chR g n t i) (rowB n (fun _ => false)) := by rw [hw2, e3, ← hVs]; exact Blk.new V _ _
          have hz2 : w2.heap.size = chA g n t + 1 + i + 1 := by rw [hw2]; simp [hVs]
          have gT2 := cellOf_lowH hbx gT0
          rw [← hw2]
          try rw [hVs]
          rw [← e3]
          clear hw2 e3
          refine hK.out _ _ ?_ (fun hHeld2 => ?_)
          · exact gT2
          clear hK hHeld K
          try simp only [Act.put, List.setIfInBounds_toArray, List.set_cons_zero, List.set_cons_succ]
          have hHeld := hHeld2; clear hHeld2
          refine takeC (i := 8) (v := ?_) (some 37) rfl rfl (by kernel_rfl) (by kernel_rfl) (by kernel_rfl) (fun _ _ _ h => h) (Or.inl ⟨by rfl, ?_⟩) (by assumption) ?_
          rotate_left
          · intro w hSw; (try dsimp only at hSw); have s1 := hSw; first | (go_simp; done) | (go_simp; with_reducible rfl)
          try simp only [Act.put, List.setIfInBounds_toArray, List.set_cons_zero, List.set_cons_succ]

          have hrw2 := Hrw.out.keep hbx
          have htp2 := Htp.out.keep hbx
          have y0 : w2.cell? ⟨chA g n t, i, none⟩ = some (.slice none 0 0) := by
            rw [hrw2.cell i]
            unfold rowP
            rw [List.getElem?_map, List.getElem?_range hli]
            simp
          have yf := hrw2.frozen i
          have yl := hrw2.lt
          refine wpAnyH_ready (rs := [9]) (by kernel_rfl) (by simp) ?_
          refine AllReadyH.cons rfl (fun K hK => ?_) AllReadyH.nil

          go_simp
          have hgne : chA g n t ≠ g := by unfold chA; omega
          have hc := Chg.set w2 (chA g n t) i (.slice (some ⟨chR g n t i, 0, none⟩) (n + 1) (n + 1))
          have hrw3 := hrw2.set i (.slice (some ⟨chR g n t i, 0, none⟩) (n + 1) (n + 1))
          rw [rowP_set hli] at hrw3
          have htp3 := hc.blk htp2 (fun e => hgne e.symm)
          have hmd3 : ∀ s, s < t → Blk 168 (w2.setCell ⟨chA g n t, i, none⟩ (.slice (some ⟨chR g n t i, 0, none⟩) (n + 1) (n + 1))) (chA g n s) (rowS (n + 1) n (chR g n s)) := fun s hs => hc.blk ((Hmd.out s hs).keep hbx) (by have := chA_lt (g := g) (n := n) hs; omega)
          have hlw3 : ∀ s j, s < t → j ≤ n → Blk 4 (w2.setCell ⟨chA g n t, i, none⟩ (.slice (some ⟨chR g n t i, 0, none⟩) (n + 1) (n + 1))) (chR g n s j) (rowB n (fun _ => false)) := fun s j hs hj => hc.blk ((Hlw.out s j hs hj).keep hbx) (by have := chA_lt (g := g) (n := n) hs; rw [chR_A]; omega)
          have hcu3 : ∀ j, j < i + 1 → Blk 4 (w2.setCell ⟨chA g n t, i, none⟩ (.slice (some ⟨chR g n t i, 0, none⟩) (n + 1) (n + 1))) (chR g n t j) (rowB n (fun _ => false)) := fun j hj => by
            refine hc.blk ?_ (by rw [chR_A]; omega)
            rcases Nat.lt_or_ge j i with h | h
            · exact (Hcu.out j h).keep hbx
            · obtain rfl : j = i := by omega
              exact hnew
          have hb3 : Below g w (w2.setCell ⟨chA g n t, i, none⟩ (.slice (some ⟨chR g n t i, 0, none⟩) (n + 1) (n + 1))) := (Hb.out.trans (hbx.mono (by rw [hsz]; unfold chA; omega))).setCell (show g ≤ chA g n t by unfold chA; omega) _
          have hz3 : (w2.setCell ⟨chA g n t, i, none⟩ (.slice (some ⟨chR g n t i, 0, none⟩) (n + 1) (n + 1))).heap.size = chA g n t + 1 + (i + 1) := by simp [World.setCell, hz2]; omega
          have gT3 := (htp3.cell t).trans (rowP_at (n := n) (A := chA g n) (show t < t + 1 by omega) hKt)
          obtain ⟨w3, hw3⟩ : ∃ W, W = w2.setCell ⟨chA g n t, i, none⟩ (.slice (some ⟨chR g n t i, 0, none⟩) (n + 1) (n + 1)) := ⟨_, rfl⟩
          rw [← hw3] at hrw3 htp3 hmd3 hlw3 hcu3 hb3 hz3 gT3 ⊢
          clear hw3 hc
          refine hK.out _ _ ?_ (fun hHeld2 => ?_)
          · exact gT3
          clear hK hHeld
          try simp only [Act.put, List.setIfInBounds_toArray, List.set_cons_zero, List.set_cons_succ]
          have hHeld := hHeld2; clear hHeld2
          refine wpAnyH_done (by kernel_rfl) ?_ _
          have Hrw3 := hide hrw3
          have Htp3 := hide htp3
          have Hmd3 := hide hmd3
          have Hlw3 := hide hlw3
          have Hcu3 := hide hcu3
          have Hb3 := hide hb3
          clear hrw3 htp3 hmd3 hlw3 hcu3 hb3 y0 yf yl gT0 gT2 gT3 hHeld
          go_wp2_with fail
          go_roundw
          case rel => exact ⟨i + 1, by omega, by go_num, hz3, Hb3.out, Htp3.out, Hrw3.out, Hmd3.out, Hlw3.out, Hcu3.out⟩
          case measure => simp [intOf]; omega
end Go.Proofs.YtmjiiddncbhgpaaGreat
namespace Go.Proofs.YtmjiiddncbhgpaaGreat
set_option linter.unusedVariables false
set_option linter.unusedSimpArgs false
open Go.RowKit
theorem rowB_congr {n : Nat} {a b : Nat → Bool} (h : ∀ j, j ≤ n → a j = b j) : rowB n a = rowB n b := by
  unfold rowB
  refine List.map_congr_left (fun j hj => ?_)
  rw [h j (by have := List.mem_range.1 hj; omega)]
/-- one step of chart.ends, the sources before i alone -/
def stepP (plan : List Int) (f : Nat → Nat → Nat → Bool) (x : Int) (a : Nat → Bool) (i : Nat) : Nat → Bool := fun j =>
  if 0 ≤ x then (match j with
    | 0 => false
    | q + 1 => decide (q < i) && (a q && decide (plan[q]? = some x))) else (List.range i).any fun q => a q && f (-1 - x).toNat q j
theorem stepP_zero {plan : List Int} {f : Nat → Nat → Nat → Bool} {x : Int} {a : Nat → Bool} (j : Nat) : stepP plan f x a 0 j = false := by
  unfold stepP
  split
  · cases j <;> simp
  · simp
theorem stepP_all {n : Nat} {plan : List Int} {f : Nat → Nat → Nat → Bool} {x : Int} {a : Nat → Bool} {j : Nat} (hj : j ≤ n) : stepP plan f x a (n + 1) j = stepE n plan f x a j := by
  unfold stepP stepE
  split
  · cases j with
    | zero => rfl
    | succ q => simp only [decide_eq_true (show q < n + 1 by omega), Bool.true_and]
  · rfl
theorem stepP_skip {plan : List Int} {f : Nat → Nat → Nat → Bool} {x : Int} {a : Nat → Bool} {i : Nat} (h : a i = false) (j : Nat) : stepP plan f x a (i + 1) j = stepP plan f x a i j := by
  unfold stepP
  split
  · cases j with
    | zero => rfl
    | succ q =>
      by_cases e : q = i
      · subst e; simp [h]
      · have : decide (q < i + 1) = decide (q < i) := by rw [decide_eq_decide]; omega
        simp only [this]
  · rw [List.range_succ, List.any_append]
    simp [h]
theorem stepP_task {plan : List Int} {f : Nat → Nat → Nat → Bool} {x : Int} {a : Nat → Bool} {i t : Nat} (h : a i = true) (hx : ¬ 0 ≤ x) (ht : (-1 - x).toNat = t) (j : Nat) : stepP plan f x a (i + 1) j = (stepP plan f x a i j || f t i j) := by
  unfold stepP
  rw [if_neg hx, if_neg hx, List.range_succ, List.any_append, ht]
  simp [h]
theorem stepP_op {plan : List Int} {f : Nat → Nat → Nat → Bool} {x : Int} {a : Nat → Bool} {i : Nat} (h : a i = true) (hx : 0 ≤ x) (hp : plan[i]? = some x) (j : Nat) : stepP plan f x a (i + 1) j = if j = i + 1 then true else stepP plan f x a i j := by
  unfold stepP
  rw [if_pos hx]
  cases j with
  | zero => simp; intro h; omega
  | succ q =>
    by_cases e : q = i
    · subst e; simp [h, hp]
    · rw [if_neg (by omega), if_pos hx]
      have : decide (q < i + 1) = decide (q < i) := by rw [decide_eq_decide]; omega
      simp only [this]
theorem stepP_no {plan : List Int} {f : Nat → Nat → Nat → Bool} {x : Int} {a : Nat → Bool} {i : Nat} (hx : 0 ≤ x) (hp : plan[i]? ≠ some x) (j : Nat) : stepP plan f x a (i + 1) j = stepP plan f x a i j := by
  unfold stepP
  rw [if_pos hx, if_pos hx]
  cases j with
  | zero => rfl
  | succ q =>
    by_cases e : q = i
    · subst e; simp [hp]
    · have : decide (q < i + 1) = decide (q < i) := by rw [decide_eq_decide]; omega
      simp only [this]
theorem ends_at {n : Nat} {plan : List Int} {f : Nat → Nat → Nat → Bool} {l : List Int} {k : Nat} {x : Int} (h : l[k]? = some x) (a : Nat → Bool) : endsF n plan f (l.drop k) a = endsF n plan f (l.drop (k + 1)) (stepE n plan f x a) := by
  obtain ⟨hlt, rfl⟩ := List.getElem?_eq_some_iff.1 h
  rw [List.drop_eq_getElem_cons hlt]
  rfl
theorem endsF_congr {n : Nat} {plan : List Int} {f : Nat → Nat → Nat → Bool} : ∀ (l : List Int) (a b : Nat → Bool), (∀ j, j ≤ n → a j = b j) → ∀ j, j ≤ n → endsF n plan f l a j = endsF n plan f l b j := by
  intro l
  induction l with
  | nil => exact fun a b h => h
  | cons x xs ih =>
    intro a b h
    unfold endsF
    refine ih _ _ (fun j hj => ?_)
    unfold stepE
    split
    · cases j with
      | zero => rfl
      | succ q =>
        show (a q && _) = (b q && _)
        rw [h q (by omega)]
    · rw [Bool.eq_iff_iff, List.any_eq_true, List.any_eq_true]
      constructor
      · rintro ⟨q, h1, h2⟩
        have := List.mem_range.1 h1
        exact ⟨q, h1, by rw [← h q (by omega)]; exact h2⟩
      · rintro ⟨q, h1, h2⟩
        have := List.mem_range.1 h1
        exact ⟨q, h1, by rw [h q (by omega)]; exact h2⟩
def EndsP (w : World) (n : Nat) (a : Nat → Bool) (e : Ending) (w' : World) : Prop :=
  Below w.heap.size w w' ∧ ∃ G, e = .returned (.slice (some ⟨G, 0, none⟩) (n + 1) (n + 1)) ∧ w.heap.size ≤ G ∧ Blk 4 w' G (rowB n a)
set_option maxRecDepth 100000 in
set_option maxHeartbeats 12800000 in
theorem ends_ct {B g K n : Nat} {A : Nat → Nat} {R : Nat → Nat → Nat} {f : Nat → Nat → Nat → Bool} (w : World) (hC : ChartS B w g K n A R f) (hK : K ≤ 16) (hn : n ≤ 1000) (P : Option Addr) (cp : Nat) (plan : List Int) (hp : Rd Enc.int w P n cp plan) (S : Option Addr) (m cs : Nat) (steps : List Int) (hs : Rd Enc.int w S m cs steps) (hok : ∀ x ∈ steps, -(K : Int) ≤ x) (i0 : Nat) (hi0 : i0 ≤ n) :
    Calls Tryz.prog 107 #[.slice (some ⟨g, 0, none⟩) K K, .slice P n cp, .slice S m cs, .int .i64 i0] w (EndsP w n (endsF n plan f steps (fun q => decide (q = i0)))) := by
  obtain ⟨i1, hi1, hy0, hy1, hy2⟩ := info_parts boolInfoH
  have hm1 := fun w => run_makeZ (P := Tryz.prog) 168 4 i1 (.bool false) Tryz.underlying168 hi1 hy0 rfl hy1 (by omega) (n + 1) (by omega) w
  simp only [rowB_new n] at hm1
  have e1 : (((n + 1 : Nat) : Int)) = (n : Int) + 1 := by omega
  simp only [e1] at hm1
  clear e1
  have hsl := hs.low
  have HC := hide hC
  have Hp := hide hp
  have Hs := hide hs
  have Hsl := hide hs.len
  have Hok := hide hok
  obtain ⟨r0, hr0⟩ : ∃ z, z = endsF n plan f steps (fun q => decide (q = i0)) := ⟨_, rfl⟩
  rw [← hr0]
  have Hr0 := hide hr0
  clear hC hp hs hok hr0
  have hi0n : (i0 : Int) < ((n + 1 : Nat) : Int) := by omega
  go_enter Tryz.func107, Tryz.ntmps107
  go_upto_region 3 with (fail)
  obtain ⟨G0, hG0⟩ : ∃ z, z = w.heap.size := ⟨_, rfl⟩
  have hr1 := Blk.new w 4 (rowB n (fun _ => false))
  have hb1 := (Below.refl w.heap.size w).alloc (Nat.le_refl _) (.cells (rowB n (fun _ => false)).toArray 4)
  obtain ⟨w1, hw1⟩ : ∃ W, W = w.alloc (.cells (rowB n (fun _ => false)).toArray 4) := ⟨_, rfl⟩
  rw [← hw1] at hr1 hb1 ⊢
  rw [← hG0] at hr1 ⊢
  have hGw : w.heap.size ≤ G0 := Nat.le_of_eq hG0.symm
  have HG0 := hide hG0
  clear hw1 hG0
  have x0 := (hr1.cell i0).trans (rowB_get hi0)
  have xf := hr1.frozen i0
  have xl := hr1.lt
  have Hr1 := hide hr1
  have Hb1 := hide hb1
  clear hr1 hb1
  go_upto_region 4 with (fail)
  have hr2 := Hr1.out.set i0 (.bool true)
  rw [rowB_set] at hr2
  have hb2 := below_setH Hb1.out hGw i0 (.bool true)
  obtain ⟨w2, hw2⟩ : ∃ W, W = w1.setCell ⟨G0, i0, none⟩ (.bool true) := ⟨_, rfl⟩
  rw [← hw2] at hr2 hb2 ⊢
  have Hr2 := hide hr2
  have Hb2 := hide hb2
  clear hw2 hr2 hb2 x0 xf xl
  go_wp2_with fail
  go_loopw [10, 28] (fun o i wr => ∃ (k G : Nat) (a : Nat → Bool), k ≤ m ∧ i = .int .i64 k ∧ o = .slice (some ⟨G, 0, none⟩) (n + 1) (n + 1) ∧ Below w.heap.size w wr ∧ w.heap.size ≤ G ∧ Blk 4 wr G (rowB n a) ∧ ∀ j, j ≤ n → r0 j = endsF n plan f (steps.drop k) a j) (fun _ i _ => m - (intOf i).toNat)
  case atStart => exact ⟨0, G0, _, by omega, rfl, rfl, Hb2.out, hGw, Hr2.out, fun j hj => by rw [Hr0.out]; exact endsF_congr _ _ _ (fun q hq => by by_cases e : q = i0 <;> simp [e]) j hj⟩
  case round =>
    clear Hr1 Hb1 Hr2 Hb2 hGw
    obtain ⟨k, G, a, hk, rfl, rfl, hb, hG, hrow, hrel⟩ := hrel
    have Hb := hide hb
    have Hrow := hide hrow
    have Hrel := hide hrel
    clear hb hrow hrel
    by_cases hlt : k < m
    rotate_left
    · have hki : ¬ (k : Int) < (m : Int) := by omega
      go_wp2_with fail
      go_ret
      refine ⟨Hb.out, G, rfl, hG, ?_⟩
      rw [rowB_congr (a := r0) (b := a) (fun j hj => by rw [Hrel.out j hj, List.drop_of_length_le (by rw [Hsl.out]; omega)]; rfl)]
      exact Hrow.out
    · obtain ⟨b, off, x, hS, hxx, hxl, hxh, hcx⟩ := (Hs.out.keep Hb.out).int hlt
      subst hS
      have hki : (k : Int) < (m : Int) := by omega
      have hxK := Hok.out x (List.mem_of_getElem? hxx)
      have Hx := hide hxx
      clear hxx
      obtain ⟨wq, rfl⟩ : ∃ V, V = wr := ⟨_, rfl⟩
      go_upto_region 8 with (fail)
      clear hcx
      obtain ⟨G1, hG1⟩ : ∃ z, z = wq.heap.size := ⟨_, rfl⟩
      have hr1 := Blk.new wq 4 (rowB n (fun _ => false))
      have hb1 := (Below.refl wq.heap.size wq).alloc (Nat.le_refl _) (.cells (rowB n (fun _ => false)).toArray 4)
      have hGl := Hrow.out.lt
      obtain ⟨w3, hw3⟩ : ∃ W, W = wq.alloc (.cells (rowB n (fun _ => false)).toArray 4) := ⟨_, rfl⟩
      rw [← hw3] at hr1 hb1 ⊢
      rw [← hG1] at hr1 ⊢
      have hne : ¬ G = G1 := by omega
      have hne2 : ¬ G1 = G := by omega
      have hG1w : w.heap.size ≤ G1 := by have := Hb.out.size; omega
      have Hb3 := hide (Hb.out.trans (hb1.mono Hb.out.size))
      have Hrow3 := hide (Hrow.out.keep hb1)
      have Hnew := hide hr1
      clear hw3 hG1 hr1 hb1 hGl
      go_wp2_with fail
      go_loopw [37] (fun o wr => ∃ i : Nat, i ≤ n + 1 ∧ o = .int .i64 i ∧ Below w.heap.size w wr ∧ Blk 4 wr G (rowB n a) ∧ Blk 4 wr G1 (rowB n (stepP plan f x a i))) (fun o _ => n + 1 - (intOf o).toNat)
      case atStart => exact ⟨0, by omega, rfl, Hb3.out, Hrow3.out, by rw [rowB_congr (b := fun _ => false) (fun j _ => stepP_zero j)]; exact Hnew.out⟩
      case round =>
        clear Hb Hrow Hb3 Hrow3 Hnew
        obtain ⟨i, hi, rfl, hb, hrow, hnew⟩ := hrel
        have Hb := hide hb
        have Hrow := hide hrow
        have Hnew := hide hnew
        clear hb hrow hnew
        by_cases hli : i < n + 1
        rotate_left
        · obtain rfl : i = n + 1 := by omega
          have hnl : ¬ (((n + 1 : Nat) : Int)) < ((n + 1 : Nat) : Int) := by omega
          go_wp2_with fail
          go_roundw
          case rel => exact ⟨k + 1, G1, stepP plan f x a (n + 1), by omega, by go_num, rfl, Hb.out, hG1w, Hnew.out, fun j hj => by
            rw [Hrel.out j hj, ends_at Hx.out]
            exact endsF_congr _ _ _ (fun q hq => (stepP_all hq).symm) j hj⟩
          case measure => simp [intOf]; omega
        · have hii : (i : Int) < ((n + 1 : Nat) : Int) := by omega
          have hin : i ≤ n := by omega
          have y0 := (Hrow.out.cell i).trans (rowB_get hin)
          cases hai : a i with
          | false =>
            rw [hai] at y0
            go_wp2_with fail
            go_roundw
            case rel => exact ⟨i + 1, by omega, by go_num, Hb.out, Hrow.out, by rw [rowB_congr (b := stepP plan f x a i) (fun j _ => stepP_skip hai j)]; exact Hnew.out⟩
            case measure => simp [intOf]; omega
          | true =>
            rw [hai] at y0
            by_cases hx0 : x < 0
            · obtain ⟨t, ht⟩ : ∃ t : Nat, -1 - x = (t : Int) := ⟨(-1 - x).toNat, by omega⟩
              have htK : t < K := by omega
              have htKi : (t : Int) < (K : Int) := by omega
              have hwt : IntKind.i64.wrap (-1 - x) = (t : Int) := by rw [ht]; exact IntWalk.i64_in _ (by omega)
              have hc := HC.out.keep Hb.out
              have c0 := (hc.top.cell t).trans (rowS_at (n := n) (A := A) htK)
              have c1 := ((hc.mid t htK).cell i).trans (rowS_at (n := n) (A := R t) hli)
              have hc2 := hc.low t i htK hin
              have Hc2 := hide hc2
              clear hc hc2
              obtain ⟨wp, rfl⟩ : ∃ V, V = wr := ⟨_, rfl⟩
              have Ht := hide (show (-1 - x).toNat = t by omega)
              clear ht
              go_upto_region 14 with (fail)
              clear c0 c1 y0
              have hRl : R t i < w.heap.size := by
                have := HC.out.low t i htK hin
                exact this.lt
              have hRne : ¬ R t i = G1 := by omega
              go_loopw [57] (fun o wr => ∃ j : Nat, j ≤ n + 1 ∧ o = .int .i64 j ∧ Below w.heap.size w wr ∧ Blk 4 wr G (rowB n a) ∧ Blk 4 wr (R t i) (rowB n (f t i)) ∧ Blk 4 wr G1 (rowB n (fun q => if q < j then stepP plan f x a (i + 1) q else stepP plan f x a i q))) (fun o _ => n + 1 - (intOf o).toNat)
              case atStart => exact ⟨0, by omega, rfl, Hb.out, Hrow.out, Hc2.out, by rw [rowB_congr (b := stepP plan f x a i) (fun j _ => by rw [if_neg (by omega)])]; exact Hnew.out⟩
              case round =>
                clear Hb Hrow Hnew Hc2
                obtain ⟨j, hj, rfl, hb, hrow, hc2, hnew⟩ := hrel
                have Hb := hide hb
                have Hrow := hide hrow
                have Hc2 := hide hc2
                have Hnew := hide hnew
                clear hb hrow hc2 hnew
                by_cases hlj : j < n + 1
                rotate_left
                · obtain rfl : j = n + 1 := by omega
                  have hnl : ¬ (((n + 1 : Nat) : Int)) < ((n + 1 : Nat) : Int) := by omega
                  go_wp2_with fail
                  go_roundw
                  case rel => exact ⟨i + 1, by omega, by go_num, Hb.out, Hrow.out, by rw [rowB_congr (a := stepP plan f x a (i + 1)) (fun q hq => (if_pos (show q < n + 1 by omega)).symm)]; exact Hnew.out⟩
                  case measure => simp [intOf]; omega
                · have hjj : (j : Int) < ((n + 1 : Nat) : Int) := by omega
                  have hjn : j ≤ n := by omega
                  have z0 := (Hc2.out.cell j).trans (rowB_get hjn)
                  have z1 := (Hnew.out.cell j).trans (rowB_get hjn)
                  simp only [Nat.lt_irrefl, if_false] at z1
                  have zf := Hnew.out.frozen j
                  have zl := Hnew.out.lt
                  have hst := stepP_task (f := f) (plan := plan) hai (show ¬ 0 ≤ x by omega) Ht.out j
                  obtain ⟨v0, hv0⟩ : ∃ z, z = f t i j := ⟨_, rfl⟩
                  obtain ⟨v1, hv1⟩ : ∃ z, z = stepP plan f x a i j := ⟨_, rfl⟩
                  rw [← hv0] at z0 hst
                  rw [← hv1] at z1 hst
                  have Hst := hide hst
                  clear hv0 hv1 hst
                  have hfin : ∀ v, v = (v1 || v0) → Below w.heap.size w (wr.setCell ⟨G1, j, none⟩ (.bool v)) ∧ Blk 4 (wr.setCell ⟨G1, j, none⟩ (.bool v)) G (rowB n a) ∧ Blk 4 (wr.setCell ⟨G1, j, none⟩ (.bool v)) (R t i) (rowB n (f t i)) ∧ Blk 4 (wr.setCell ⟨G1, j, none⟩ (.bool v)) G1 (rowB n (fun q => if q < j + 1 then stepP plan f x a (i + 1) q else stepP plan f x a i q)) := fun v hv => by
                    have hc := Chg.set wr G1 j (.bool v)
                    have hs := Hnew.out.set j (.bool v)
                    rw [rowB_set] at hs
                    refine ⟨below_setH Hb.out hG1w j _, hc.blk Hrow.out hne, hc.blk Hc2.out hRne, ?_⟩
                    rw [rowB_congr (b := fun i_1 => if i_1 = j then v else if i_1 < j then stepP plan f x a (i + 1) i_1 else stepP plan f x a i i_1) (fun q hq => ?_)]
                    · exact hs
                    · by_cases e : q = j
                      · subst e; rw [if_pos (by omega), if_pos rfl, Hst.out, hv]
                      · rw [if_neg e]
                        by_cases e2 : q < j
                        · rw [if_pos e2, if_pos (by omega)]
                        · rw [if_neg e2, if_neg (by omega)]
                  have Hfin := hide hfin
                  clear hfin
                  cases v1 with
                  | true =>
                    go_wp2_with fail
                    go_roundw
                    case rel => exact ⟨j + 1, by omega, by go_num, Hfin.out true (by simp)⟩
                    case measure => simp [intOf]; omega
                  | false =>
                    go_wp2_with fail
                    go_roundw
                    case rel => exact ⟨j + 1, by omega, by go_num, Hfin.out v0 (by simp)⟩
                    case measure => simp [intOf]; omega
            · by_cases hinl : i < n
              rotate_left
              · have hpn : plan[i]? ≠ some x := by
                  rw [List.getElem?_eq_none (by rw [Hp.out.len]; omega)]
                  intro e; cases e
                have hil : ¬ (i : Int) < (n : Int) := by omega
                have Hpn := hide hpn
                clear hpn
                go_wp2_with fail
                go_roundw
                case rel => exact ⟨i + 1, by omega, by go_num, Hb.out, Hrow.out, by rw [rowB_congr (b := stepP plan f x a i) (fun j _ => stepP_no (by omega) Hpn.out j)]; exact Hnew.out⟩
                case measure => simp [intOf]; omega
              · have hil : (i : Int) < (n : Int) := by omega
                obtain ⟨b2, off2, y, hP, hyy, hyl, hyh, hcy⟩ := (Hp.out.keep Hb.out).int hinl
                subst hP
                have Hy := hide hyy
                clear hyy
                by_cases hyx : y = x
                · have z1 := (Hnew.out.cell (i + 1)).trans (rowB_get (show i + 1 ≤ n by omega))
                  have zf := Hnew.out.frozen (i + 1)
                  have zl := Hnew.out.lt
                  have hi1n : (i : Int) + 1 < ((n + 1 : Nat) : Int) := by omega
                  have ei1 : (i : Int) + 1 = ((i + 1 : Nat) : Int) := by omega
                  have hwi : IntKind.i64.wrap ((i : Int) + 1) = ((i + 1 : Nat) : Int) := by rw [ei1]; exact IntWalk.i64_in _ (by omega)
                  subst hyx
                  have hfin : Below w.heap.size w (wr.setCell ⟨G1, i + 1, none⟩ (.bool true)) ∧ Blk 4 (wr.setCell ⟨G1, i + 1, none⟩ (.bool true)) G (rowB n a) ∧ Blk 4 (wr.setCell ⟨G1, i + 1, none⟩ (.bool true)) G1 (rowB n (stepP plan f y a (i + 1))) := by
                    have hc := Chg.set wr G1 (i + 1) (.bool true)
                    have hs := Hnew.out.set (i + 1) (.bool true)
                    rw [rowB_set] at hs
                    refine ⟨below_setH Hb.out hG1w (i + 1) _, hc.blk Hrow.out hne, ?_⟩
                    rw [rowB_congr (fun q hq => stepP_op (f := f) hai (show 0 ≤ y by omega) Hy.out q)]
                    exact hs
                  have Hfin := hide hfin
                  clear hfin ei1
                  go_wp2_with fail
                  go_roundw
                  case rel => exact ⟨i + 1, by omega, by go_num, Hfin.out⟩
                  case measure => simp [intOf]; omega
                · have hyf : (y == x) = false := by rw [beq_eq_false_iff_ne]; exact hyx
                  go_wp2_with fail
                  go_roundw
                  case rel => exact ⟨i + 1, by omega, by go_num, Hb.out, Hrow.out, by rw [rowB_congr (b := stepP plan f x a i) (fun j _ => stepP_no (by omega) (by rw [Hy.out]; intro e; injection e with e; exact hyx e) j)]; exact Hnew.out⟩
                  case measure => simp [intOf]; omega
end Go.Proofs.YtmjiiddncbhgpaaGreat
namespace Go.Proofs.YtmjiiddncbhgpaaGreat
set_option linter.unusedVariables false
set_option linter.unusedSimpArgs false
open Go.RowKit
def planFault (T : Tsk) (l : List Int) : Int × Int := if (taskFault T).1 ≠ 0 then taskFault T else stepsFault T.ops.length l
set_option maxRecDepth 100000 in
set_option maxHeartbeats 3200000 in
theorem Can_ct (a : TA) (T : Tsk) (N : Nat) (B : Option Addr) (m d : Nat) (l : List Int) (q : Nat) (w : World) (h : TkR w a T) (hl : Rd Enc.int w B m d l) (hos : ∀ o ∈ T.ops, setB N o.pre = true ∧ setB N o.add = true ∧ setB N o.del = true) (hN : N ≤ 1000) (hs : setB N l = true) (hq : q < a.nO) :
    Calls Tryz.prog 139 #[.agg #[.int .i64 T.facts, .slice a.I a.nI a.cI, .slice a.G a.nG a.cG, .slice a.O a.nO a.cO], .slice B m d, .int .i64 q] w (Gives w (.bool (subsetB (opAt T.ops q).pre l))) := by
  obtain ⟨I, nI, cI, G, nG, cG, O, nO, cO⟩ := a
  simp only at hq ⊢
  have H := hide h
  have Hl := hide hl
  obtain ⟨b1, off1, o, A1, n1, d1, A2, n2, d2, A3, n3, d3, rfl, hoq, g0, g1, g2, g3, r1, r2, r3, r4⟩ := h.ops.op hq
  have hb1 : b1 < w.heap.size := World.block_lt_of_cell? w _ g0
  have hgo := opAt_eq hoq
  have hok := hos o (List.mem_of_getElem? hoq)
  have hlow := h.ops.low
  simp only at hlow
  have hl1 := r1.low
  have hl2 := r2.low
  have hl3 := r3.low
  have q1 := setB_len hok.1
  have q2 := setB_len hok.2.1
  have q3 := setB_len hok.2.2
  rw [r1.len] at q1
  rw [r2.len] at q2
  rw [r3.len] at q3
  have Hgo := hide hgo
  have Hok := hide hok
  have R1 := hide r1
  have R2 := hide r2
  have R3_ := hide r3
  have K0 := hide g0
  have K1 := hide g1
  have K2 := hide g2
  have K3 := hide g3
  clear h hl hos hoq r1 r2 r3 r4 g0 g1 g2 g3 hok hgo
  have Hbl := hide (Below.refl w.heap.size w)
  go_enter Tryz.func139, Tryz.ntmps139
  go_upto_region 1 with (fail)
  obtain ⟨B0, hB0⟩ : ∃ B0, B0 = w.heap.size := ⟨_, rfl⟩
  have HB0 := hide hB0
  clear hB0
  have s_0 : B0 ≤ w.heap.size := Nat.le_trans (Nat.le_of_eq HB0.out) Hbl.out.size
  have hyt := Blk.new (w) 25 [.int .i64 T.facts, .slice I nI cI, .slice G nG cG, .slice (some ⟨b1, off1, none⟩) nO cO]
  have hbW : Below (w).heap.size (w) ((w).alloc (.cells #[.int .i64 T.facts, .slice I nI cI, .slice G nG cG, .slice (some ⟨b1, off1, none⟩) nO cO] 25)) := (Below.refl _ _).alloc (Nat.le_refl _) _
  obtain ⟨w0, hW⟩ : ∃ W, W = (w).alloc (.cells #[.int .i64 T.facts, .slice I nI cI, .slice G nG cG, .slice (some ⟨b1, off1, none⟩) nO cO] 25) := ⟨_, rfl⟩
  rw [← hW] at hyt hbW ⊢
  replace Hbl := hide (Hbl.out.trans (hbW.mono Hbl.out.size))
  have Ht := hide hyt
  clear hW hbW hyt
  generalize w.heap.size = gT at Ht s_0 ⊢
  have t0 := Ht.out.cell 0
  have t1 := Ht.out.cell 1
  have t2 := Ht.out.cell 2
  have t3 := Ht.out.cell 3
  have tl := Ht.out.lt
  simp only [List.getElem?_cons_zero, List.getElem?_cons_succ] at t0 t1 t2 t3
  have a_t : B0 ≤ gT := by omega
  clear s_0
  have k0 := ((olds Hbl.out).1 _ _ hb1).trans K0.out
  have k1 := ((olds Hbl.out).1 _ _ hb1).trans K1.out
  have k2 := ((olds Hbl.out).1 _ _ hb1).trans K2.out
  have k3 := ((olds Hbl.out).1 _ _ hb1).trans K3.out
  have hmk : ((q : Nat) : Int) < (nO : Int) := by omega
  go_wp2_with fail
  have hct := Contains_ct B A1 m d n1 d1 l o.pre w0 (Hl.out.keep Hbl.out) (R1.out.keep Hbl.out) (setB_iff.1 hs).1 (setB_iff.1 Hok.out.1).1
  with_reducible refine hct.mono ?_
  rintro e w1 ⟨rfl, rfl⟩
  clear hct
  go_wp2_with fail
  go_ret
  exact ⟨ret_bool (by rw [Hgo.out]), Hbl.out⟩
set_option maxRecDepth 100000 in
set_option maxHeartbeats 3200000 in
theorem Next_ct (a : TA) (T : Tsk) (N : Nat) (B : Option Addr) (m d : Nat) (l : List Int) (q : Nat) (w : World) (h : TkR w a T) (hl : Rd Enc.int w B m d l) (hos : ∀ o ∈ T.ops, setB N o.pre = true ∧ setB N o.add = true ∧ setB N o.del = true) (hN : N ≤ 1000) (hs : setB N l = true) (hq : q < a.nO) :
    Calls Tryz.prog 140 #[.agg #[.int .i64 T.facts, .slice a.I a.nI a.cI, .slice a.G a.nG a.cG, .slice a.O a.nO a.cO], .slice B m d, .int .i64 q] w (MadeI w (updF l (opAt T.ops q).add (opAt T.ops q).del)) := by
  obtain ⟨I, nI, cI, G, nG, cG, O, nO, cO⟩ := a
  simp only at hq ⊢
  have H := hide h
  have Hl := hide hl
  obtain ⟨b1, off1, o, A1, n1, d1, A2, n2, d2, A3, n3, d3, rfl, hoq, g0, g1, g2, g3, r1, r2, r3, r4⟩ := h.ops.op hq
  have hb1 : b1 < w.heap.size := World.block_lt_of_cell? w _ g0
  have hgo := opAt_eq hoq
  have hok := hos o (List.mem_of_getElem? hoq)
  have hlow := h.ops.low
  simp only at hlow
  have hl1 := r1.low
  have hl2 := r2.low
  have hl3 := r3.low
  have q1 := setB_len hok.1
  have q2 := setB_len hok.2.1
  have q3 := setB_len hok.2.2
  rw [r1.len] at q1
  rw [r2.len] at q2
  rw [r3.len] at q3
  have Hgo := hide hgo
  have Hok := hide hok
  have R1 := hide r1
  have R2 := hide r2
  have R3_ := hide r3
  have K0 := hide g0
  have K1 := hide g1
  have K2 := hide g2
  have K3 := hide g3
  clear h hl hos hoq r1 r2 r3 r4 g0 g1 g2 g3 hok hgo
  have Hbl := hide (Below.refl w.heap.size w)
  go_enter Tryz.func140, Tryz.ntmps140
  go_upto_region 1 with (fail)
  obtain ⟨B0, hB0⟩ : ∃ B0, B0 = w.heap.size := ⟨_, rfl⟩
  have HB0 := hide hB0
  clear hB0
  have s_0 : B0 ≤ w.heap.size := Nat.le_trans (Nat.le_of_eq HB0.out) Hbl.out.size
  have hyt := Blk.new (w) 25 [.int .i64 T.facts, .slice I nI cI, .slice G nG cG, .slice (some ⟨b1, off1, none⟩) nO cO]
  have hbW : Below (w).heap.size (w) ((w).alloc (.cells #[.int .i64 T.facts, .slice I nI cI, .slice G nG cG, .slice (some ⟨b1, off1, none⟩) nO cO] 25)) := (Below.refl _ _).alloc (Nat.le_refl _) _
  obtain ⟨w0, hW⟩ : ∃ W, W = (w).alloc (.cells #[.int .i64 T.facts, .slice I nI cI, .slice G nG cG, .slice (some ⟨b1, off1, none⟩) nO cO] 25) := ⟨_, rfl⟩
  rw [← hW] at hyt hbW ⊢
  replace Hbl := hide (Hbl.out.trans (hbW.mono Hbl.out.size))
  have Ht := hide hyt
  clear hW hbW hyt
  generalize w.heap.size = gT at Ht s_0 ⊢
  have t0 := Ht.out.cell 0
  have t1 := Ht.out.cell 1
  have t2 := Ht.out.cell 2
  have t3 := Ht.out.cell 3
  have tl := Ht.out.lt
  simp only [List.getElem?_cons_zero, List.getElem?_cons_succ] at t0 t1 t2 t3
  have a_t : B0 ≤ gT := by omega
  clear s_0
  have k0 := ((olds Hbl.out).1 _ _ hb1).trans K0.out
  have k1 := ((olds Hbl.out).1 _ _ hb1).trans K1.out
  have k2 := ((olds Hbl.out).1 _ _ hb1).trans K2.out
  have k3 := ((olds Hbl.out).1 _ _ hb1).trans K3.out
  have hmk : ((q : Nat) : Int) < (nO : Int) := by omega
  go_upto_region 2 with (fail)
  have n_t_o : ¬ gT = w0.heap.size := by omega
  have n_o_t : ¬ w0.heap.size = gT := by omega
  have s_t : gT < w0.heap.size := tl
  have s_0 : B0 ≤ w0.heap.size := Nat.le_trans (Nat.le_of_eq HB0.out) Hbl.out.size
  have hyo := Blk.new (w0) 81 [.slice A1 n1 d1, .slice A2 n2 d2, .slice A3 n3 d3, .int .i64 o.cost]
  have hbW : Below (w0).heap.size (w0) ((w0).alloc (.cells #[.slice A1 n1 d1, .slice A2 n2 d2, .slice A3 n3 d3, .int .i64 o.cost] 81)) := (Below.refl _ _).alloc (Nat.le_refl _) _
  obtain ⟨w1, hW⟩ : ∃ W, W = (w0).alloc (.cells #[.slice A1 n1 d1, .slice A2 n2 d2, .slice A3 n3 d3, .int .i64 o.cost] 81) := ⟨_, rfl⟩
  rw [← hW] at hyo hbW ⊢
  replace Ht := hide (Ht.out.keep hbW)
  replace Hbl := hide (Hbl.out.trans (hbW.mono Hbl.out.size))
  have Ho := hide hyo
  clear hW hbW hyo
  generalize w0.heap.size = gO at Ho n_t_o n_o_t s_t s_0 ⊢
  have t0 := Ht.out.cell 0
  have t1 := Ht.out.cell 1
  have t2 := Ht.out.cell 2
  have t3 := Ht.out.cell 3
  have tl := Ht.out.lt
  have o0 := Ho.out.cell 0
  have o1 := Ho.out.cell 1
  have o2 := Ho.out.cell 2
  have o3 := Ho.out.cell 3
  have ol := Ho.out.lt
  simp only [List.getElem?_cons_zero, List.getElem?_cons_succ] at t0 t1 t2 t3 o0 o1 o2 o3
  clear s_t
  have a_o : B0 ≤ gO := by omega
  clear s_0
  have hlm := setB_len hs
  rw [Hl.out.len] at hlm
  clear k0 k1 k2 k3
  go_wp2_with fail
  have hct := Update_ct B A2 A3 m d n2 d2 n3 d3 l o.add o.del w1 (Hl.out.keep Hbl.out) (R2.out.keep Hbl.out) (R3_.out.keep Hbl.out) (by omega) (by omega) (by omega) (up_le (setB_iff.1 Hok.out.2.2).1)
  with_reducible refine hct.mono ?_
  rintro e w2 ⟨hb, A, c, rfl, hown⟩
  have Hown := hide hown
  have Hb := hide hb
  clear hct hown hb
  go_wp2_with fail
  go_ret
  rw [Hgo.out]
  exact ⟨Hbl.out.trans (Hb.out.mono Hbl.out.size), A, c, rfl, own_low Hown.out Hbl.out.size⟩
end Go.Proofs.YtmjiiddncbhgpaaGreat
namespace Go.Proofs.YtmjiiddncbhgpaaGreat
set_option linter.unusedVariables false
set_option linter.unusedSimpArgs false
open Go.RowKit
theorem rowInfoT : (Tryz.prog.info? 22).map (fun i => (i.zero, i.size, i.bytes)) = some (some (.slice none 0 0), 1, 24) := by kernel_rfl
/-- rows that a call has made: they read so whatever happens to blocks that were there before -/
def RowsP (w : World) (rs : List (List Int)) (e : Ending) (w' : World) : Prop :=
  Below w.heap.size w w' ∧ ∃ (A : Option Addr) (c : Nat), e = .returned (.slice A rs.length c) ∧ ∀ w'', Chg (fun b => b < w.heap.size) w' w'' → Rd (Enc.sl Enc.int) w'' A rs.length c rs
theorem own_fresh {w : World} {B : Nat} {t : TypeId} {size n : Nat} {us : List Value} (hB : B ≤ w.heap.size) (hn : n ≤ 1000000) (hl : us.length = n * size) : (w.alloc (.cells us.toArray t)).ownsRow B t size (.slice (some ⟨w.heap.size, 0, none⟩) n n) n us :=
  ⟨hl, .inr ⟨w.heap.size, n, us.toArray, rfl, hB, Blk.new w t us, Nat.le_refl _, by unfold maxLen; omega, by simpa using hl, by simp; exact List.take_of_length_le (by omega)⟩⟩
/-- one element alone -/
theorem OwnE.one {α : Type} {E : Enc α} {t : TypeId} {B : Nat} {M : Nat → Prop} {w : World} {us : List Value} {x : α} (hB : B ≤ w.heap.size) (hf : Firm E M w us x) (hM : ∀ i, i < w.heap.size + 1 → M i → i < w.heap.size ∨ i = w.heap.size) : OwnE E t B (fun b => M b ∨ w.heap.size ≤ b) (w.alloc (.cells us.toArray t)) (some ⟨w.heap.size, 0, none⟩) 1 1 us [x] :=
  ⟨own_fresh hB (by omega) (by rw [E.len hf.ok]; omega), rfl, fun i y hi => by
    cases i with
    | zero =>
      simp at hi
      subst hi
      exact ⟨us, fun j v hj => by simpa using hj, hf.chg (Chg.of_below ((Below.refl _ _).alloc (Nat.le_refl _) _) M)⟩
    | succ i => simp at hi⟩
theorem firm_row {w : World} {B : Nat} {t : TypeId} {M : Nat → Prop} {A : Option Addr} {n c : Nat} {l : List Int} (h : w.ownsRow B t 1 (.slice A n c) n (l.map (Value.int .i64))) (hl : l.length = n) (hr : ∀ x ∈ l, -9223372036854775808 ≤ x ∧ x ≤ 9223372036854775807) (hM : ∀ i, i < w.heap.size → M i → i < B) : Firm (Enc.sl Enc.int) M w [.slice A n c] l :=
  fun w' hc => ⟨A, n, c, rfl, RdM.own h (fun r hr e => by
    have h1 := own_base h (by rw [own_blkA]; exact hr)
    have h2 := (own_block h (by rw [own_blkA]; exact hr)).1
    have := hM r h2 e
    omega) hl hr w' hc⟩
theorem set_ints {N : Nat} {l : List Int} (h : setB N l = true) (hN : N ≤ 1000) : ∀ x ∈ l, -9223372036854775808 ≤ x ∧ x ≤ 9223372036854775807 := fun x hx => by
  have := (setB_iff.1 h).2 x hx
  omega
/-- the rows of Run, and what else may change -/
def RunM (B : Nat) (w : World) (O : Option Addr) : Nat → Prop := fun b => blkA O = some b ∨ b < B ∨ w.heap.size ≤ b
set_option maxRecDepth 100000 in
set_option maxHeartbeats 3200000 in
theorem Run_ct (a : TA) (T : Tsk) (N : Nat) (P : Option Addr) (np dp : Nat) (s : List Int) (B : Option Addr) (m d : Nat) (l : List Int) (w : World) (h : TkR w a T) (hs : Rd Enc.int w P np dp s) (hl : Rd Enc.int w B m d l)
    (hos : ∀ o ∈ T.ops, setB N o.pre = true ∧ setB N o.add = true ∧ setB N o.del = true) (hN : N ≤ 1000) (hset : setB N s = true) (hr : ∀ x ∈ l, 0 ≤ x ∧ x < T.ops.length) (hm : m ≤ 1000000) :
    Calls Tryz.prog 105 #[.agg #[.int .i64 T.facts, .slice a.I a.nI a.cI, .slice a.G a.nG a.cG, .slice a.O a.nO a.cO], .slice P np dp, .slice B m d] w (RowsP w (runF T.ops s l)) := by
  have hcan := fun B m d l q w h hl hs hq => Can_ct a T N B m d l q w h hl hos hN hs hq
  have hnext := fun B m d l q w h hl hs hq => Next_ct a T N B m d l q w h hl hos hN hs hq
  obtain ⟨i1, hi1, hy0, hy1, hy2⟩ := info_parts rowInfoT
  obtain ⟨I, nI, cI, G, nG, cG, O, nO, cO⟩ := a
  simp only at hcan hnext ⊢
  have hlO := h.ops.len
  have hlow := h.ops.low
  have hlm := hl.low
  simp only at hlO hlow
  have Hcan := hide hcan
  have Hnext := hide hnext
  have H := hide h
  have Hl := hide hl
  have Hll := hide hl.len
  have Hs := hide hs
  have HlO := hide hlO
  have Hr := hide hr
  have Hset := hide hset
  have Hos := hide hos
  clear hcan hnext h hl hlO hs hr hset hos
  have Hbl := hide (Below.refl w.heap.size w)
  go_enter Tryz.func105, Tryz.ntmps105
  go_upto_region 1 with (fail)
  obtain ⟨B0, hB0⟩ : ∃ B0, B0 = w.heap.size := ⟨_, rfl⟩
  have HB0 := hide hB0
  clear hB0
  have s_0 : B0 ≤ w.heap.size := Nat.le_trans (Nat.le_of_eq HB0.out) Hbl.out.size
  have hyt := Blk.new (w) 25 [.int .i64 T.facts, .slice I nI cI, .slice G nG cG, .slice O nO cO]
  have hbW : Below (w).heap.size (w) ((w).alloc (.cells #[.int .i64 T.facts, .slice I nI cI, .slice G nG cG, .slice O nO cO] 25)) := (Below.refl _ _).alloc (Nat.le_refl _) _
  obtain ⟨w0, hW⟩ : ∃ W, W = (w).alloc (.cells #[.int .i64 T.facts, .slice I nI cI, .slice G nG cG, .slice O nO cO] 25) := ⟨_, rfl⟩
  rw [← hW] at hyt hbW ⊢
  replace Hbl := hide (Hbl.out.trans (hbW.mono Hbl.out.size))
  have Ht := hide hyt
  clear hW hbW hyt
  generalize w.heap.size = gT at Ht s_0 ⊢
  have t0 := Ht.out.cell 0
  have t1 := Ht.out.cell 1
  have t2 := Ht.out.cell 2
  have t3 := Ht.out.cell 3
  have tl := Ht.out.lt
  simp only [List.getElem?_cons_zero, List.getElem?_cons_succ] at t0 t1 t2 t3
  have a_t : B0 ≤ gT := by omega
  clear s_0
  obtain ⟨B1, hB1⟩ : ∃ B1, B1 = gT + 1 := ⟨_, rfl⟩
  have hBg : gT < B1 := by omega
  have hB01 : B0 ≤ B1 := by omega
  have hsz0 : B1 ≤ w0.heap.size := by omega
  clear hB1
  have hnp := setB_len Hset.out
  rw [Hs.out.len] at hnp
  go_wp2_with fail
  have hct := CloneI_ct P np dp s w0 (Hs.out.keep Hbl.out) (by omega)
  with_reducible refine hct.mono ?_
  rintro e w1 ⟨hb, A1, c1, rfl, hown⟩
  clear t0 t1 t2 t3 tl
  replace Ht := hide (Ht.out.keep hb)
  have hsz01 := hb.size
  replace Hbl := hide (Hbl.out.trans (hb.mono Hbl.out.size))
  have hf1 := firm_row (M := RunM B1 w1 none) hown Hs.out.len (set_ints Hset.out hN) (fun i hi e => by
    rcases e with e | e | e
    · cases e
    · omega
    · omega)
  have Hf1 := hide hf1
  clear hb hct hown hf1
  have t0 := Ht.out.cell 0
  have t1 := Ht.out.cell 1
  have t2 := Ht.out.cell 2
  have t3 := Ht.out.cell 3
  have tl := Ht.out.lt
  simp only [List.getElem?_cons_zero, List.getElem?_cons_succ] at t0 t1 t2 t3
  go_upto_region 2 with (fail)
  have hsz1 : B1 ≤ w1.heap.size := by omega
  have ho1 := OwnE.one (t := 22) (B := B1) hsz1 Hf1.out (fun i hi e => by omega)
  obtain ⟨g1, hg1⟩ : ∃ g, g = w1.heap.size := ⟨_, rfl⟩
  have hbW : Below w1.heap.size w1 (w1.alloc (.cells #[.slice A1 np c1] 22)) := (Below.refl _ _).alloc (Nat.le_refl _) _
  have ho2 : OwnE (Enc.sl Enc.int) 22 B1 (RunM B1 (w1.alloc (.cells #[.slice A1 np c1] 22)) (some ⟨g1, 0, none⟩)) (w1.alloc (.cells #[.slice A1 np c1] 22)) (some ⟨g1, 0, none⟩) 1 1 [.slice A1 np c1] [s] := by
    rw [hg1]
    exact ho1.less (fun i hi e => by
      simp only [World.size_alloc] at hi
      rcases e with e | e | e
      · have : w1.heap.size = i := by simpa [blkA] using e
        exact .inr (by omega)
      · exact .inl (.inr (.inl e))
      · simp only [World.size_alloc] at e
        omega)
  rw [← hg1]
  obtain ⟨w2, hW⟩ : ∃ W, W = w1.alloc (.cells #[.slice A1 np c1] 22) := ⟨_, rfl⟩
  rw [← hW] at ho2 hbW ⊢
  clear t0 t1 t2 t3 tl
  replace Ht := hide (Ht.out.keep hbW)
  replace Hbl := hide (Hbl.out.trans (hbW.mono Hbl.out.size))
  have Hrow := hide ho2
  have hgb : B1 ≤ g1 := by omega
  have hsz12 : w1.heap.size ≤ w2.heap.size := by rw [hW]; simp
  clear hW hbW ho1 ho2 hg1 Hf1
  have t0 := Ht.out.cell 0
  have t1 := Ht.out.cell 1
  have t2 := Ht.out.cell 2
  have t3 := Ht.out.cell 3
  have tl := Ht.out.lt
  simp only [List.getElem?_cons_zero, List.getElem?_cons_succ] at t0 t1 t2 t3
  have hsz2 : B1 ≤ w2.heap.size := by omega
  go_wp2_with fail
  clear t0 t1 t2 t3 tl
  have Hst := hide (show runF T.ops s l = [s] ++ runT s ((l.drop 0).map (opAt T.ops)) from rfl)
  have Hcur := hide (show RdM (fun b => B0 ≤ b) w2 P np dp s from fun w' hc => (Hs.out.keep Hbl.out).keep ((Below.refl _ _)) |> fun _ => Hs.out.keep (Hbl.out.trans (hc.below (B := w.heap.size) (fun i e => by have := HB0.out; omega) Hbl.out.size)))
  go_loopw [1, 7, 15] (fun sv ov i wr => ∃ (k : Nat) (s' : List Int) (P' : Option Addr) (np' dp' : Nat) (O' : Option Addr) (oc : Nat) (vs : List Value) (rs : List (List Int)), k ≤ m ∧ i = .int .i64 k ∧ sv = .slice P' np' dp' ∧ ov = .slice O' (k + 1) oc ∧
    OwnE (Enc.sl Enc.int) 22 B1 (RunM B1 wr O') wr O' (k + 1) oc vs rs ∧ RdM (fun b => blkA O' = some b ∨ wr.heap.size ≤ b) wr P' np' dp' s' ∧ setB N s' = true ∧ Below w.heap.size w wr ∧ B1 ≤ wr.heap.size ∧ Blk 25 wr gT [.int .i64 T.facts, .slice I nI cI, .slice G nG cG, .slice O nO cO] ∧ runF T.ops s l = rs ++ runT s' ((l.drop k).map (opAt T.ops))) (fun _ _ i _ => m - (intOf i).toNat)
  case atStart => exact ⟨0, s, P, np, dp, _, 1, _, [s], by omega, rfl, rfl, rfl, Hrow.out, Hcur.out.mono (fun i hi e => by
    rcases e with e | e
    · have : g1 = i := by simpa [blkA] using e
      show B0 ≤ i
      omega
    · show B0 ≤ i
      omega), Hset.out, Hbl.out, hsz2, Ht.out, Hst.out⟩
  case round =>
    clear Hst Hcur Hrow Ht Hbl
    obtain ⟨k, s', P', np', dp', O', oc, vs, rs, hk, rfl, rfl, rfl, hown, hcur, hset', hbl, hbr, ht, hst⟩ := hrel
    have Hown := hide hown
    have Hcur := hide hcur
    have Hset' := hide hset'
    have Hbl := hide hbl
    have Ht := hide ht
    have Hst := hide hst
    clear hown hcur hset' hbl ht hst
    have t0 := Ht.out.cell 0
    have t1 := Ht.out.cell 1
    have t2 := Ht.out.cell 2
    have t3 := Ht.out.cell 3
    have tl := Ht.out.lt
    simp only [List.getElem?_cons_zero, List.getElem?_cons_succ] at t0 t1 t2 t3
    have hszr : B1 ≤ wr.heap.size := hbr
    by_cases hlt : k < m
    · obtain ⟨b, off, x, rfl, hx, hx1, hx2, hcx⟩ := (Hl.out.keep Hbl.out).int hlt
      have hxr := Hr.out x (List.mem_of_getElem? hx)
      obtain ⟨q, rfl⟩ : ∃ q : Nat, x = (q : Int) := ⟨x.toNat, by omega⟩
      have hq : q < nO := by have := HlO.out; omega
      have hdrop := drop_cons hx
      have Hdrop := hide hdrop
      clear hx hxr hdrop
      have hct := Hcan.out P' np' dp' s' q wr (H.out.keep Hbl.out) Hcur.out.rd Hset'.out hq
      go_wp2_with fail
      with_reducible refine hct.mono ?_
      rintro e w3 ⟨rfl, hb⟩
      clear hct hcx t0 t1 t2 t3 tl
      replace Ht := hide (Ht.out.keep hb)
      replace Hown := hide ((Hown.out.keep hb).less (M' := RunM B1 w3 O') (fun i hi e => by
        have := hb.size
        rcases e with e | e | e
        · exact .inl e
        · exact .inr (.inl e)
        · omega))
      replace Hcur := hide ((Hcur.out.keep hb).mono (M' := fun b => blkA O' = some b ∨ w3.heap.size ≤ b) (fun i hi e => by
        have := hb.size
        rcases e with e | e
        · exact .inl e
        · omega))
      replace Hbl := hide (Hbl.out.trans (hb.mono Hbl.out.size))
      have hsz3 : B1 ≤ w3.heap.size := by have := hb.size; omega
      clear hb
      have t0 := Ht.out.cell 0
      have t1 := Ht.out.cell 1
      have t2 := Ht.out.cell 2
      have t3 := Ht.out.cell 3
      have tl := Ht.out.lt
      simp only [List.getElem?_cons_zero, List.getElem?_cons_succ] at t0 t1 t2 t3
      cases hcan : subsetB (opAt T.ops q).pre s' with
      | false =>
        have hend : runF T.ops s l = rs := by
          rw [Hst.out, Hdrop.out, List.map_cons]
          conv => lhs; rhs; unfold runT
          rw [if_neg (by rw [hcan]; simp), List.append_nil]
        have hlen := Hown.out.len
        have Hend := hide hend
        have Hlen := hide hlen
        clear hend hlen hcan
        go_wp2_with fail
        go_ret
        rw [Hend.out]
        refine ⟨Hbl.out, O', oc, by rw [Hlen.out]; rfl, fun w'' hc => ?_⟩
        rw [Hlen.out]
        exact (Hown.out.chg hc (fun i e => .inr (.inl (by have := HB0.out; omega))) (fun r hr e => by have := (Hown.out.base hr).1; have := HB0.out; omega)).rd
      | true =>
        have Hcan' := hide hcan
        clear hcan
        have hct := Hnext.out P' np' dp' s' q w3 (H.out.keep Hbl.out) Hcur.out.rd Hset'.out hq
        go_wp2_with fail
        with_reducible refine hct.mono ?_
        rintro e w4 ⟨hb, A2, c2, rfl, hown2⟩
        clear hct t0 t1 t2 t3 tl
        have hop := Hos.out (opAt T.ops q) (opAt_mem (by omega) (by have := HlO.out; omega))
        have hset2 : setB N (updF s' (opAt T.ops q).add (opAt T.ops q).del) = true := updF_set (setB_iff.1 Hset'.out).2 (setB_iff.1 hop.2.1).2
        have hnext2 : runF T.ops s l = (rs ++ [updF s' (opAt T.ops q).add (opAt T.ops q).del]) ++ runT (updF s' (opAt T.ops q).add (opAt T.ops q).del) ((l.drop (k + 1)).map (opAt T.ops)) := by
          rw [Hst.out, Hdrop.out, List.map_cons]
          conv => lhs; rhs; unfold runT
          rw [if_pos Hcan'.out, List.append_assoc]
          rfl
        generalize updF s' (opAt T.ops q).add (opAt T.ops q).del = s2 at hown2 hset2 hnext2 ⊢
        have hsz34 := hb.size
        replace Ht := hide (Ht.out.keep hb)
        have hO3 : ∀ r, blkA O' = some r → r < w3.heap.size := fun r hr => (Hown.out.base hr).2
        replace Hown := hide ((Hown.out.keep hb).less (M' := RunM B1 w4 O') (fun i hi e => by
          rcases e with e | e | e
          · exact .inl e
          · exact .inr (.inl e)
          · omega))
        have hf2 := firm_row (M := RunM B1 w4 O') hown2 rfl (set_ints hset2 hN) (fun i hi e => by
          rcases e with e | e | e
          · exact hO3 i e
          · omega
          · omega)
        have hcur2 := RdM.own (M := fun b => blkA O' = some b ∨ w4.heap.size ≤ b) hown2 (fun r hr e => by
          have h1 := own_base hown2 (by rw [own_blkA]; exact hr)
          have h2 := (own_block hown2 (by rw [own_blkA]; exact hr)).1
          rcases e with e | e
          · have := hO3 r e
            omega
          · omega) rfl (set_ints hset2 hN)
        replace Hbl := hide (Hbl.out.trans (hb.mono Hbl.out.size))
        have hsz4 : B1 ≤ w4.heap.size := by omega
        have Hf2 := hide hf2
        have Hcur2 := hide hcur2
        have Hset2 := hide hset2
        have Hnext2 := hide hnext2
        have hmle : s2.length ≤ 1000 := by have := setB_len hset2; omega
        clear hown2 hb hf2 hcur2 hset2 hnext2 hop Hst Hcur hO3
        have t0 := Ht.out.cell 0
        have tl := Ht.out.lt
        simp only [List.getElem?_cons_zero] at t0
        generalize s2.length = nn at Hf2 Hcur2 hmle ⊢
        go_wp2_with
          (at_builtin
           refine wpList_pushE rfl _ _ 42 rfl B1 22 i1 _ 24 Tryz.underlying42 hi1 hy0 hy1 hy2 rfl (by decide) rfl Hown.out (fun r hr => .inl hr) [.slice A2 nn c2] s2 (by intro u hu; simp at hu; subst hu; rfl) rfl Hf2.out (by omega) (by omega) hsz4 ?_
           intro O6 oc6 w6 hown6 hch6 hat6
           have hne6 : ∀ i, blkA O' = some i → B1 ≤ i := fun i e => (Hown.out.base e).1
           have hsz6 := hch6.size
           have hown7 := hown6.less (M' := RunM B1 w6 O6) (fun i hi e => by
             rcases e with e | e | e
             · rcases hat6 with hat6 | hat6
               · exact .inl (.inl (by rw [← hat6]; exact e))
               · rw [hat6] at e
                 injection e with e
                 exact .inr (by omega)
             · exact .inl (.inr (.inl e))
             · omega)
           have hcur6 := RdM.mono (M' := fun b => blkA O6 = some b ∨ w6.heap.size ≤ b) (show RdM (fun b => (blkA O' = some b ∨ w4.heap.size ≤ b)) w6 A2 nn c2 s2 from Hcur2.out.chg (hch6.mono fun b e => .inl e)) (fun i hi e => by
             rcases e with e | e
             · rcases hat6 with hat6 | hat6
               · exact .inl (by rw [← hat6]; exact e)
               · rw [hat6] at e
                 injection e with e
                 exact .inr (by omega)
             · omega)
           have hbl6 := Hbl.out.trans (hch6.below (B := w.heap.size) (fun i e => by have := hne6 i e; have := HB0.out; omega) Hbl.out.size)
           have ht6 := hch6.blk Ht.out (fun e => by have h9 := (Hown.out.base e).1; omega)
           have Hown6 := hide hown7
           have Hcur6 := hide hcur6
           have Hbl6 := hide hbl6
           have Ht6 := hide ht6
           clear hown6 hch6 hat6 hne6 hown7 hcur6 hbl6 ht6 t0 tl)
        go_roundw
        case rel => exact ⟨k + 1, s2, A2, nn, c2, O6, oc6, _, _, by omega, by go_num, rfl, rfl, Hown6.out, Hcur6.out, Hset2.out, Hbl6.out, by omega, Ht6.out, Hnext2.out⟩
        case measure => simp [intOf]; omega
    · obtain rfl : k = m := by omega
      have hend : runF T.ops s l = rs := by
        rw [Hst.out, List.drop_of_length_le (by rw [Hll.out]; omega)]
        simp [runT]
      have hlen := Hown.out.len
      have Hend := hide hend
      have Hlen := hide hlen
      clear hend hlen
      go_wp2_with fail
      go_ret
      rw [Hend.out]
      refine ⟨Hbl.out, O', oc, by rw [Hlen.out]; rfl, fun w'' hc => ?_⟩
      rw [Hlen.out]
      exact (Hown.out.chg hc (fun i e => .inr (.inl (by have := HB0.out; omega))) (fun r hr e => by have := (Hown.out.base hr).1; have := HB0.out; omega)).rd
end Go.Proofs.YtmjiiddncbhgpaaGreat
namespace Go.Proofs.YtmjiiddncbhgpaaGreat
set_option linter.unusedVariables false
set_option linter.unusedSimpArgs false
open Go.RowKit
def decFault (h : Hy) (plan : List Int) : Int × Int := if (hierFault h).1 ≠ 0 then hierFault h else stepsFault h.T.ops.length plan
/-- the states along a plan -/
def stH (T : Tsk) (plan : List Int) (i : Nat) : List Int := ((runF T.ops T.init plan)[i]?).getD []
/-- the plan is a refinement of the hierarchy's list -/
def RefP (h : Hy) (plan : List Int) : Prop := (runF h.T.ops h.T.init plan).length = plan.length + 1 ∧ SeqP h.ms plan (stH h.T plan) h.list 0 plan.length
def DecP (w : World) (h : Hy) (plan : List Int) (e : Ending) (w' : World) : Prop :=
  Below w.heap.size w w' ∧ ∃ bb, e = .returned (.tuple #[.bool bb, fault (decFault h plan).1 (decFault h plan).2]) ∧ (bb = true ↔ (decFault h plan).1 = 0 ∧ RefP h plan)
/-- places of a chart -/
def cellsC (K n : Nat) : List (Nat × Nat × Nat) := (List.range K).flatMap fun t => (List.range (n + 1)).flatMap fun i => (List.range (n + 1)).map fun j => (t, i, j)
theorem mem_cellsC {K n t i j : Nat} : (t, i, j) ∈ cellsC K n ↔ t < K ∧ i < n + 1 ∧ j < n + 1 := by
  simp only [cellsC, List.mem_flatMap, List.mem_map, List.mem_range, Prod.mk.injEq]
  constructor
  · rintro ⟨a, h1, b, h2, c, h3, rfl, rfl, rfl⟩; exact ⟨h1, h2, h3⟩
  · rintro ⟨h1, h2, h3⟩; exact ⟨t, h1, i, h2, j, h3, rfl, rfl, rfl⟩
/-- how many are not yet true -/
def cntP (K n : Nat) (f : Nat → Nat → Nat → Bool) : Nat := ((cellsC K n).filter fun x => !f x.1 x.2.1 x.2.2).length
def isF (v : Option Value) : Bool := match v with
  | some (.bool false) => true
  | _ => false
def cntW (K n : Nat) (R : Nat → Nat → Nat) (w : World) : Nat := ((cellsC K n).filter fun x => isF (w.cell? ⟨R x.1 x.2.1, x.2.2, none⟩)).length
def bitV (v : Value) : Nat := match v with
  | .bool true => 1
  | _ => 0
theorem filter_le {α : Type} {p q : α → Bool} : ∀ (l : List α), (∀ x ∈ l, q x = true → p x = true) → (l.filter q).length ≤ (l.filter p).length := by
  intro l
  induction l with
  | nil => intro _; simp
  | cons a l ih =>
    intro h
    have := ih (fun x hx => h x (List.mem_cons_of_mem _ hx))
    rw [List.filter_cons, List.filter_cons]
    by_cases hq : q a = true
    · rw [if_pos hq, if_pos (h a List.mem_cons_self hq)]; simp; omega
    · rw [if_neg hq]; split <;> simp <;> omega
theorem filter_lt {α : Type} {p q : α → Bool} : ∀ (l : List α), (∀ x ∈ l, q x = true → p x = true) → (∃ x ∈ l, p x = true ∧ q x = false) → (l.filter q).length + 1 ≤ (l.filter p).length := by
  intro l
  induction l with
  | nil => rintro _ ⟨x, hx, _⟩; cases hx
  | cons a l ih =>
    rintro h ⟨x, hx, hp, hq⟩
    have hl := filter_le l (fun x hx => h x (List.mem_cons_of_mem _ hx))
    rw [List.filter_cons, List.filter_cons]
    rcases List.mem_cons.1 hx with rfl | hx
    · rw [if_pos hp, if_neg (by rw [hq]; simp)]; simp; omega
    · have := ih (fun x hx => h x (List.mem_cons_of_mem _ hx)) ⟨x, hx, hp, hq⟩
      by_cases hqa : q a = true
      · rw [if_pos hqa, if_pos (h a List.mem_cons_self hqa)]; simp; omega
      · rw [if_neg hqa]; split <;> simp <;> omega
theorem cntW_eq {B g K n : Nat} {A : Nat → Nat} {R : Nat → Nat → Nat} {f : Nat → Nat → Nat → Bool} {w : World} (h : ChartS B w g K n A R f) : cntW K n R w = cntP K n f := by
  unfold cntW cntP
  congr 1
  refine List.filter_congr (fun x hx => ?_)
  obtain ⟨t, i, j⟩ := x
  obtain ⟨h1, h2, h3⟩ := mem_cellsC.1 hx
  simp only
  rw [((h.low t i h1 (by omega)).cell j).trans (rowB_get (show j ≤ n by omega))]
  cases f t i j <;> rfl
theorem blk_ne {W : World} {t t' : TypeId} {g g' : Nat} {cs cs' : List Value} (h : Blk t W g cs) (k : Blk t' W g' cs') (ht : t ≠ t') : g ≠ g' := fun e => by
  subst e
  unfold Blk at h k
  rw [h] at k
  injection k with k
  injection k with _ k _
  exact ht k
/-- one place more is true -/
def putC (f : Nat → Nat → Nat → Bool) (t i j : Nat) : Nat → Nat → Nat → Bool := fun t' i' j' => if t' = t ∧ i' = i ∧ j' = j then true else f t' i' j'
theorem ChartS.set {B g K n : Nat} {A : Nat → Nat} {R : Nat → Nat → Nat} {f : Nat → Nat → Nat → Bool} {W : World} (h : ChartS B W g K n A R f) {t i j : Nat} (ht : t < K) (hi : i ≤ n) : ChartS B (W.setCell ⟨R t i, j, none⟩ (.bool true)) g K n A R (putC f t i j) := by
  have hc := Chg.set W (R t i) j (.bool true)
  have hl := h.low t i ht hi
  refine ⟨hc.blk h.top (blk_ne h.top hl (by decide)), fun s hs => hc.blk (h.mid s hs) (blk_ne (h.mid s hs) hl (by decide)), fun s k hs hk => ?_, h.one, h.base⟩
  by_cases e : s = t ∧ k = i
  · obtain ⟨rfl, rfl⟩ := e
    have := hl.set j (.bool true)
    rw [rowB_set] at this
    rw [rowB_congr (b := fun i_1 => if i_1 = j then true else f s k i_1) (fun q _ => ?_)]
    · exact this
    · unfold putC
      by_cases e : q = j <;> simp [e]
  · have hne : R s k ≠ R t i := fun e2 => e (h.one s k t i hs hk ht hi e2)
    rw [rowB_congr (b := f s k) (fun q _ => ?_)]
    · exact hc.blk (h.low s k hs hk) hne
    · unfold putC
      rw [if_neg (fun h => e ⟨h.1, h.2.1⟩)]
/-- the chart while a row of ends is gone through -/
def updC (f : Nat → Nat → Nat → Bool) (t i : Nat) (E : Nat → Bool) (j : Nat) : Nat → Nat → Nat → Bool := fun t' i' j' => if t' = t ∧ i' = i ∧ j' < j ∧ E j' = true then true else f t' i' j'
theorem updC_zero {f : Nat → Nat → Nat → Bool} {t i : Nat} {E : Nat → Bool} : updC f t i E 0 = f := by
  funext a b c
  unfold updC
  rw [if_neg (by omega)]
theorem updC_put {f : Nat → Nat → Nat → Bool} {t i j : Nat} {E : Nat → Bool} (hE : E j = true) : putC (updC f t i E j) t i j = updC f t i E (j + 1) := by
  funext a b c
  unfold putC updC
  by_cases h1 : a = t ∧ b = i ∧ c = j
  · obtain ⟨rfl, rfl, rfl⟩ := h1
    simp [hE]
  · rw [if_neg h1]
    by_cases h2 : a = t ∧ b = i ∧ c < j ∧ E c = true
    · rw [if_pos h2, if_pos ⟨h2.1, h2.2.1, by omega, h2.2.2.2⟩]
    · rw [if_neg h2, if_neg (fun h => h2 ⟨h.1, h.2.1, by
        have : c ≠ j := fun e => h1 ⟨h.1, h.2.1, e⟩
        omega, h.2.2.2⟩)]
theorem updC_skip {f : Nat → Nat → Nat → Bool} {t i j : Nat} {E : Nat → Bool} (hE : E j = false) : updC f t i E (j + 1) = updC f t i E j := by
  funext a b c
  unfold updC
  by_cases h2 : a = t ∧ b = i ∧ c < j ∧ E c = true
  · rw [if_pos h2, if_pos ⟨h2.1, h2.2.1, by omega, h2.2.2.2⟩]
  · rw [if_neg h2, if_neg (fun h => h2 ⟨h.1, h.2.1, by
      have : c ≠ j := fun e => by rw [e, hE] at h; cases h.2.2.2
      omega, h.2.2.2⟩)]
theorem updC_known {f : Nat → Nat → Nat → Bool} {t i j : Nat} {E : Nat → Bool} (hf : updC f t i E j t i j = true) : updC f t i E (j + 1) = updC f t i E j := by
  funext a b c
  by_cases h1 : a = t ∧ b = i ∧ c = j
  · obtain ⟨rfl, rfl, rfl⟩ := h1
    rw [hf]
    unfold updC at hf ⊢
    split
    · rfl
    · rw [if_neg (by omega)] at hf
      exact hf
  · unfold updC
    by_cases h2 : a = t ∧ b = i ∧ c < j ∧ E c = true
    · rw [if_pos h2, if_pos ⟨h2.1, h2.2.1, by omega, h2.2.2.2⟩]
    · rw [if_neg h2, if_neg (fun h => h2 ⟨h.1, h.2.1, by
        have : c ≠ j := fun e => h1 ⟨h.1, h.2.1, e⟩
        omega, h.2.2.2⟩)]
theorem cntP_put {K n : Nat} {f : Nat → Nat → Nat → Bool} {t i j : Nat} (ht : t < K) (hi : i ≤ n) (hj : j ≤ n) (hf : f t i j = false) : cntP K n (putC f t i j) + 1 ≤ cntP K n f := by
  refine filter_lt _ (fun x _ hx => ?_) ⟨(t, i, j), mem_cellsC.2 ⟨ht, by omega, by omega⟩, by simp [hf], by simp [putC]⟩
  simp only [Bool.not_eq_true', putC] at hx ⊢
  split at hx
  · cases hx
  · exact hx
/-- what the closing keeps within a round: f0 the chart at its start -/
structure Cl (ms : List Hm) (plan : List Int) (st : Nat → List Int) (K n : Nat) (f0 f : Nat → Nat → Nat → Bool) (b : Bool) (q i : Nat) : Prop where
  sound : Sound ms plan st (fun t i j => f t i j = true)
  less : cntP K n f ≤ cntP K n f0
  some_ : b = true → cntP K n f + 1 ≤ cntP K n f0
  none_ : b = false → f = f0 ∧ Quieted ms plan st n (fun t i j => f t i j = true) q i
/-- within the loop over a row of ends -/
structure Cl4 (ms : List Hm) (plan : List Int) (st : Nat → List Int) (K n : Nat) (f0 f1 f : Nat → Nat → Nat → Bool) (b : Bool) (q i : Nat) (t : Nat) (E : Nat → Bool) (j : Nat) : Prop where
  form : f = updC f1 t i E j
  less : cntP K n f ≤ cntP K n f0
  some_ : b = true → cntP K n f + 1 ≤ cntP K n f0
  none_ : b = false → f = f0 ∧ f1 = f0 ∧ Quieted ms plan st n (fun t i j => f0 t i j = true) q i
section
variable {ms : List Hm} {plan : List Int} {st : Nat → List Int} {K n : Nat} {f0 f1 f : Nat → Nat → Nat → Bool} {b : Bool} {q i t j : Nat} {E : Nat → Bool}
theorem Cl.open4 (h : Cl ms plan st K n f0 f b q i) : Cl4 ms plan st K n f0 f f b q i t E 0 :=
  ⟨updC_zero.symm, h.less, h.some_, fun e => by
    obtain ⟨h1, h2⟩ := h.none_ e
    exact ⟨h1, h1, by rw [← h1]; exact h2⟩⟩
theorem Cl4.no (h : Cl4 ms plan st K n f0 f1 f b q i t E j) (hE : E j = false) : Cl4 ms plan st K n f0 f1 f b q i t E (j + 1) := ⟨h.form.trans (updC_skip hE).symm, h.less, h.some_, h.none_⟩
theorem Cl4.known (h : Cl4 ms plan st K n f0 f1 f b q i t E j) (hf : f t i j = true) : Cl4 ms plan st K n f0 f1 f b q i t E (j + 1) := ⟨h.form.trans (updC_known (by rw [← h.form]; exact hf)).symm, h.less, h.some_, h.none_⟩
theorem Cl4.put (h : Cl4 ms plan st K n f0 f1 f b q i t E j) (ht : t < K) (hi : i ≤ n) (hj : j ≤ n) (hE : E j = true) (hf : f t i j = false) : Cl4 ms plan st K n f0 f1 (putC f t i j) true q i t E (j + 1) := by
  have h1 := cntP_put ht hi hj hf
  have h2 := h.less
  exact ⟨by rw [h.form]; exact updC_put hE, by omega, fun _ => by omega, fun e => by cases e⟩
theorem chain_in {n : Nat} (hn : plan.length = n) {g : Nat → Nat → Nat → Prop} : ∀ (l : List Int) (i j : Nat), i ≤ n → Chain plan g l i j → j ≤ n := by
  intro l
  induction l with
  | nil => intro i j hi h; cases h; exact hi
  | cons x xs ih =>
    intro i j hi h
    unfold Chain at h
    split at h
    · have := (List.getElem?_eq_some_iff.1 h.1).1
      exact ih (i + 1) j (by omega) h.2
    · obtain ⟨k, h1, h2, h3⟩ := h
      exact ih k j (by omega) h3
theorem Cl4.close {m : Hm} (h : Cl4 ms plan st K n f0 f1 f b q i t E (n + 1)) (hs : Sound ms plan st (fun t i j => f1 t i j = true)) (hn : plan.length = n) (hm : ms[q]? = some m) (h0 : 0 ≤ m.task) (ht : m.task.toNat = t) (hp : subsetB m.pre (st i) = true) (hi : i ≤ n) (hE : ∀ j, j ≤ n → E j = endsF n plan f1 m.steps (fun y => decide (y = i)) j) : Cl ms plan st K n f0 f b q (i + 1) := by
  have hch : ∀ j, j ≤ n → (E j = true ↔ Chain plan (fun t i j => f1 t i j = true) m.steps i j) := fun j hj => by rw [hE j hj]; exact ends_chain hn m.steps hi hj
  refine ⟨fun a x y hg => ?_, h.less, h.some_, fun e => ?_⟩
  · rw [h.form] at hg
    unfold updC at hg
    split at hg
    · rename_i hc
      obtain ⟨rfl, rfl, hy, hEy⟩ := hc
      exact ⟨m, List.mem_of_getElem? hm, by omega, hp, chain_seq hs _ _ _ ((hch y (by omega)).1 hEy)⟩
    · exact hs a x y hg
  · obtain ⟨h1, h2, h3⟩ := h.none_ e
    refine ⟨h1, ?_⟩
    rw [h1]
    refine h3.step (fun m' hm' _ y hc => ?_)
    rw [hm] at hm'
    obtain rfl := Option.some.inj hm'
    have hy := chain_in hn _ _ _ hi hc
    rw [h2] at hch
    have hEy := (hch y hy).2 hc
    have : f t i y = true := by rw [h.form]; unfold updC; rw [if_pos ⟨rfl, rfl, by omega, hEy⟩]
    rw [ht, ← h1]
    exact this
theorem Cl.pass {m : Hm} (h : Cl ms plan st K n f0 f b q i) (hm : ms[q]? = some m) (hp : subsetB m.pre (st i) = false) : Cl ms plan st K n f0 f b q (i + 1) :=
  ⟨h.sound, h.less, h.some_, fun e => by
    obtain ⟨h1, h2⟩ := h.none_ e
    exact ⟨h1, h2.step (fun m' hm' hp' => by
      rw [hm] at hm'
      obtain rfl := Option.some.inj hm'
      rw [hp] at hp'
      cases hp')⟩⟩
theorem Cl.next (h : Cl ms plan st K n f0 f b q (n + 1)) : Cl ms plan st K n f0 f b (q + 1) 0 := ⟨h.sound, h.less, h.some_, fun e => ⟨(h.none_ e).1, (h.none_ e).2.next⟩⟩
end
set_option maxRecDepth 100000 in
set_option maxHeartbeats 12800000 in
theorem Decompose_ct (b : HA) (h : Hy) (A : Option Addr) (n c : Nat) (plan : List Int) (w : World) (hh : HyR w b h) (hp : Rd Enc.int w A n c plan) :
    Calls Tryz.prog 60 #[.agg #[.int .i64 h.T.facts, .slice b.a.I b.a.nI b.a.cI, .slice b.a.G b.a.nG b.a.cG, .slice b.a.O b.a.nO b.a.cO, .int .i64 h.tasks, .slice b.M b.nM b.cM, .slice b.L b.nL b.cL], .slice A n c] w (DecP w h plan) := by
  have hval := fun W hW => hvalidate_ct b h W hW
  have hok0 := fun e => hierFault_ok (h := h) e
  have hol := hh.task.ops.len
  have hon := hh.task.ops.low
  have hml := hh.ms.len
  have hmw := hh.ms.low
  have hpl := hp.len
  have hpw := hp.low
  obtain ⟨⟨I, nI, cI, G, nG, cG, O, nO, cO⟩, M, nM, cM, L, nL, cL⟩ := b
  simp only at hval hol hon hml hmw ⊢
  have hst := fun W hW => Steps_ct nO A n c plan W hW (by omega)
  have hdf : decFault h plan = if (hierFault h).1 ≠ 0 then hierFault h else stepsFault h.T.ops.length plan := rfl
  rw [hol] at hdf
  rcases hq : hierFault h with ⟨ec, ei⟩
  rw [hq] at hval hdf
  rcases hqs : stepsFault nO plan with ⟨sc, si⟩
  rw [hqs] at hst hdf
  obtain ⟨T, K, ms, li⟩ := h
  simp only at hval hol hml hdf ⊢
  have Hdf := hide hdf
  have Hq := hide hq
  have Hqs := hide hqs
  have Hval := hide hval
  have Hst := hide hst
  have Hok0 := hide hok0
  have H := hide hh
  have Hp := hide hp
  have Hpl := hide hpl
  have Hml := hide hml
  have Hol := hide hol
  clear hval hok0 hh hp hq hqs hst hdf hpl hml hol
  have Hbl := hide (Below.refl w.heap.size w)
  go_enter Tryz.func60, Tryz.ntmps60
  go_upto_region 1 with (fail)
  obtain ⟨B0, hB0⟩ : ∃ B0, B0 = w.heap.size := ⟨_, rfl⟩
  have HB0 := hide hB0
  clear hB0
  have s_0 : B0 ≤ w.heap.size := Nat.le_trans (Nat.le_of_eq HB0.out) Hbl.out.size
  have hyh_ := Blk.new (w) 50 [.int .i64 T.facts, .slice I nI cI, .slice G nG cG, .slice O nO cO, .int .i64 K, .slice M nM cM, .slice L nL cL]
  have hyr_ := Blk.new ((w).alloc (.cells #[.int .i64 T.facts, .slice I nI cI, .slice G nG cG, .slice O nO cO, .int .i64 K, .slice M nM cM, .slice L nL cL] 50)) 29 [.int .i64 0, .int .i64 0]
  replace hyh_ := hyh_.alloc (.cells #[.int .i64 0, .int .i64 0] 29)
  have hbW := below_two w (.cells #[.int .i64 T.facts, .slice I nI cI, .slice G nG cG, .slice O nO cO, .int .i64 K, .slice M nM cM, .slice L nL cL] 50) (.cells #[.int .i64 0, .int .i64 0] 29)
  simp only [World.size_alloc] at hyr_
  obtain ⟨w0, hW⟩ : ∃ W, W = ((w).alloc (.cells #[.int .i64 T.facts, .slice I nI cI, .slice G nG cG, .slice O nO cO, .int .i64 K, .slice M nM cM, .slice L nL cL] 50)).alloc (.cells #[.int .i64 0, .int .i64 0] 29) := ⟨_, rfl⟩
  rw [← hW] at hyh_ hyr_ hbW ⊢
  replace Hbl := hide (Hbl.out.trans (hbW.mono Hbl.out.size))
  have Hh_ := hide hyh_
  have Hr_ := hide hyr_
  clear hW hbW hyh_ hyr_
  generalize w.heap.size = gH at Hh_ Hr_ s_0 ⊢
  have h_0 := Hh_.out.cell 0
  have h_1 := Hh_.out.cell 1
  have h_2 := Hh_.out.cell 2
  have h_3 := Hh_.out.cell 3
  have h_4 := Hh_.out.cell 4
  have h_5 := Hh_.out.cell 5
  have h_6 := Hh_.out.cell 6
  have h_l := Hh_.out.lt
  have r_0 := Hr_.out.cell 0
  have r_1 := Hr_.out.cell 1
  have r_l := Hr_.out.lt
  simp only [List.getElem?_cons_zero, List.getElem?_cons_succ] at h_0 h_1 h_2 h_3 h_4 h_5 h_6 r_0 r_1
  have a_h_ : B0 ≤ gH := by omega
  have a_r_ : B0 ≤ gH + 1 := by omega
  clear s_0
  have n_h__r_ : ¬ gH = gH + 1 := by omega
  have n_r__h_ : ¬ gH + 1 = gH := by omega
  go_wp2_with fail
  with_reducible refine (Hval.out w0 (H.out.keep Hbl.out)).mono ?_
  rintro e w1 ⟨rfl, hb⟩
  clear h_0 h_1 h_2 h_3 h_4 h_5 h_6 r_0 r_1 h_l r_l
  replace Hh_ := hide (Hh_.out.keep hb)
  replace Hr_ := hide (Hr_.out.keep hb)
  replace Hbl := hide (Hbl.out.trans (hb.mono Hbl.out.size))
  clear hb
  have h_0 := Hh_.out.cell 0
  have h_1 := Hh_.out.cell 1
  have h_2 := Hh_.out.cell 2
  have h_3 := Hh_.out.cell 3
  have h_4 := Hh_.out.cell 4
  have h_5 := Hh_.out.cell 5
  have h_6 := Hh_.out.cell 6
  have h_l := Hh_.out.lt
  have r_0 := Hr_.out.cell 0
  have r_1 := Hr_.out.cell 1
  have r_l := Hr_.out.lt
  simp only [List.getElem?_cons_zero, List.getElem?_cons_succ] at h_0 h_1 h_2 h_3 h_4 h_5 h_6 r_0 r_1
  unfold fault
  go_upto_region 2 with (fail)
  have n_h__q_ : ¬ gH = w1.heap.size := by omega
  have n_q__h_ : ¬ w1.heap.size = gH := by omega
  have n_r__q_ : ¬ gH + 1 = w1.heap.size := by omega
  have n_q__r_ : ¬ w1.heap.size = gH + 1 := by omega
  have s_h_ : gH < w1.heap.size := h_l
  have s_r_ : gH + 1 < w1.heap.size := r_l
  have s_0 : B0 ≤ w1.heap.size := Nat.le_trans (Nat.le_of_eq HB0.out) Hbl.out.size
  have hyq_ := Blk.new (w1) 29 [.int .i64 ec, .int .i64 ei]
  have hbW : Below (w1).heap.size (w1) ((w1).alloc (.cells #[.int .i64 ec, .int .i64 ei] 29)) := (Below.refl _ _).alloc (Nat.le_refl _) _
  obtain ⟨w2, hW⟩ : ∃ W, W = (w1).alloc (.cells #[.int .i64 ec, .int .i64 ei] 29) := ⟨_, rfl⟩
  rw [← hW] at hyq_ hbW ⊢
  replace Hh_ := hide (Hh_.out.keep hbW)
  replace Hr_ := hide (Hr_.out.keep hbW)
  replace Hbl := hide (Hbl.out.trans (hbW.mono Hbl.out.size))
  have Hq_ := hide hyq_
  clear hW hbW hyq_
  generalize w1.heap.size = gp at Hq_ n_h__q_ n_q__h_ n_r__q_ n_q__r_ s_h_ s_r_ s_0 ⊢
  have h_0 := Hh_.out.cell 0
  have h_1 := Hh_.out.cell 1
  have h_2 := Hh_.out.cell 2
  have h_3 := Hh_.out.cell 3
  have h_4 := Hh_.out.cell 4
  have h_5 := Hh_.out.cell 5
  have h_6 := Hh_.out.cell 6
  have h_l := Hh_.out.lt
  have r_0 := Hr_.out.cell 0
  have r_1 := Hr_.out.cell 1
  have r_l := Hr_.out.lt
  have q_0 := Hq_.out.cell 0
  have q_1 := Hq_.out.cell 1
  have q_l := Hq_.out.lt
  simp only [List.getElem?_cons_zero, List.getElem?_cons_succ] at h_0 h_1 h_2 h_3 h_4 h_5 h_6 r_0 r_1 q_0 q_1
  clear s_h_
  clear s_r_
  have a_q_ : B0 ≤ gp := by omega
  clear s_0
  by_cases hne : ec = 0
  rotate_left
  · skip
    have rf0 := Hr_.out.frozen 0
    have rf1 := Hr_.out.frozen 1
    go_upto_region 5 with (fail)
    go_region
    all_goals go_wp2_with fail
    all_goals refine bodyPost_ret (v := .tuple #[.bool false, fault ec ei]) (by simp [results, Tryz.results60, go_sem, fault, r_0, r_1, r_l]) rfl ?_
    have hbx := HB0.out
    refine ⟨?_, false, ?_, ?_⟩
    · repeat' (first | (with_reducible exact Hbl.out) | (with_reducible refine Below.drew ?_) | (with_reducible refine below_setH ?_ ?_ _ _) | (with_reducible refine below_drewN ?_ _) | omega)
    · rw [Hdf.out, if_pos hne]
    · rw [Hdf.out, if_pos hne]
      exact ⟨fun h => (by cases h), fun h => absurd h.1 hne⟩
  subst hne
  obtain ⟨N, K2, hok, hz⟩ := Hok0.out (by rw [Hq.out])
  rw [Hq.out] at hz
  obtain ⟨_, e2⟩ := Prod.mk.inj hz
  subst e2
  clear hz
  have hdf2 := Hdf.out
  rw [if_neg (by simp)] at hdf2
  replace Hdf := hide hdf2
  clear hdf2
  go_upto_region 3 with (fail)
  go_wp2_with fail
  with_reducible refine (Hst.out w2 (Hp.out.keep Hbl.out)).mono ?_
  rintro e w3 ⟨rfl, hb⟩
  clear h_0 h_1 h_2 h_3 h_4 h_5 h_6 r_0 r_1 q_0 q_1 h_l r_l q_l
  replace Hh_ := hide (Hh_.out.keep hb)
  replace Hr_ := hide (Hr_.out.keep hb)
  replace Hq_ := hide (Hq_.out.keep hb)
  replace Hbl := hide (Hbl.out.trans (hb.mono Hbl.out.size))
  clear hb
  have h_0 := Hh_.out.cell 0
  have h_1 := Hh_.out.cell 1
  have h_2 := Hh_.out.cell 2
  have h_3 := Hh_.out.cell 3
  have h_4 := Hh_.out.cell 4
  have h_5 := Hh_.out.cell 5
  have h_6 := Hh_.out.cell 6
  have h_l := Hh_.out.lt
  have r_0 := Hr_.out.cell 0
  have r_1 := Hr_.out.cell 1
  have r_l := Hr_.out.lt
  have q_0 := Hq_.out.cell 0
  have q_1 := Hq_.out.cell 1
  have q_l := Hq_.out.lt
  simp only [List.getElem?_cons_zero, List.getElem?_cons_succ] at h_0 h_1 h_2 h_3 h_4 h_5 h_6 r_0 r_1 q_0 q_1
  unfold fault
  have q_f0 := Hq_.out.frozen 0
  have q_f1 := Hq_.out.frozen 1
  go_upto_region 4 with (fail)
  clear q_f0 q_f1
  have hyb := ((Hq_.out.set 0 (.int .i64 sc)).set 1 (.int .i64 si))
  simp only [List.set_cons_zero, List.set_cons_succ] at hyb
  have hbW := (below_set ((below_set (Below.refl B0 w3) (g := gp) a_q_ 0 (.int .i64 sc))) (g := gp) a_q_ 1 (.int .i64 si))
  have hcW := ((Chg.refl (fun x => x = gp) w3).trans (Chg.set _ (gp) 0 (.int .i64 sc))).trans (Chg.set _ (gp) 1 (.int .i64 si))
  obtain ⟨w4, hW⟩ : ∃ W, W = ((w3).setCell ⟨gp, 0, none⟩ (.int .i64 sc)).setCell ⟨gp, 1, none⟩ (.int .i64 si) := ⟨_, rfl⟩
  rw [← hW] at hyb hbW hcW ⊢
  replace Hq_ := hide hyb
  clear hW hyb
  clear h_0 h_1 h_2 h_3 h_4 h_5 h_6 r_0 r_1 q_0 q_1 h_l r_l q_l
  replace Hh_ := hide (hcW.blk Hh_.out (by exact n_h__q_))
  replace Hr_ := hide (hcW.blk Hr_.out (by exact n_r__q_))
  replace Hbl := hide (Hbl.out.trans (hbW.mono (Nat.le_of_eq HB0.out.symm)))
  clear hbW hcW
  have h_0 := Hh_.out.cell 0
  have h_1 := Hh_.out.cell 1
  have h_2 := Hh_.out.cell 2
  have h_3 := Hh_.out.cell 3
  have h_4 := Hh_.out.cell 4
  have h_5 := Hh_.out.cell 5
  have h_6 := Hh_.out.cell 6
  have h_l := Hh_.out.lt
  have r_0 := Hr_.out.cell 0
  have r_1 := Hr_.out.cell 1
  have r_l := Hr_.out.lt
  have q_0 := Hq_.out.cell 0
  have q_1 := Hq_.out.cell 1
  have q_l := Hq_.out.lt
  simp only [List.getElem?_cons_zero, List.getElem?_cons_succ] at h_0 h_1 h_2 h_3 h_4 h_5 h_6 r_0 r_1 q_0 q_1
  by_cases hne : sc = 0
  rotate_left
  · skip
    have rf0 := Hr_.out.frozen 0
    have rf1 := Hr_.out.frozen 1
    go_upto_region 5 with (fail)
    go_region
    all_goals go_wp2_with fail
    all_goals refine bodyPost_ret (v := .tuple #[.bool false, fault sc si]) (by simp [results, Tryz.results60, go_sem, fault, r_0, r_1, r_l]) rfl ?_
    have hbx := HB0.out
    refine ⟨?_, false, ?_, ?_⟩
    · repeat' (first | (with_reducible exact Hbl.out) | (with_reducible refine Below.drew ?_) | (with_reducible refine below_setH ?_ ?_ _ _) | (with_reducible refine below_drewN ?_ _) | omega)
    · rw [Hdf.out]
    · rw [Hdf.out]
      exact ⟨fun h => (by cases h), fun h => absurd h.1 hne⟩
  subst hne
  have hsi : si = 0 := by
    have h1 := Hqs.out
    unfold stepsFault at h1
    split at h1
    · cases h1
    · split at h1
      · cases h1
      · exact (Prod.mk.inj h1).2.symm
  subst hsi
  have hpr : ∀ x ∈ plan, 0 ≤ x ∧ x < (nO : Int) := fun x hx => by
    have h1 := Hqs.out
    unfold stepsFault at h1
    split at h1
    · cases h1
    · split at h1
      · cases h1
      · rename_i h2
        have : ¬ outB nO x = true := fun e => h2 (List.any_eq_true.2 ⟨x, hx, e⟩)
        unfold outB at this
        simp at this
        omega
  have hpn : plan.length ≤ 60 := by
    have h1 := Hqs.out
    unfold stepsFault at h1
    split at h1
    · cases h1
    · omega
  have hrun := fun W (hW : HyR W ⟨⟨I, nI, cI, G, nG, cG, O, nO, cO⟩, M, nM, cM, L, nL, cL⟩ ⟨T, K, ms, li⟩) (hP : Rd Enc.int W A n c plan) => Run_ct ⟨I, nI, cI, G, nG, cG, O, nO, cO⟩ T N I nI cI T.init A n c plan W hW.task hW.task.init hP (fun o ho => ⟨(hok.task.ops o ho).pre, (hok.task.ops o ho).add, (hok.task.ops o ho).del⟩) (by have := hok.task.low; omega) hok.task.init (fun x hx => by rw [Hol.out]; exact hpr x hx) (by have := Hpl.out; omega)
  simp only at hrun
  have hn60 : n ≤ 60 := by have := Hpl.out; omega
  obtain ⟨rs, hrs⟩ : ∃ z, z = runF T.ops T.init plan := ⟨_, rfl⟩
  rw [← hrs] at hrun
  have Hrun := hide hrun
  have Hrs := hide hrs
  have Hok := hide hok
  have Hpr := hide hpr
  clear hrun hrs hok hpr
  go_upto_region 6 with (fail)
  go_wp2_with fail
  with_reducible refine (Hrun.out w4 (H.out.keep Hbl.out) (Hp.out.keep Hbl.out)).mono ?_
  rintro e w5 ⟨hb, RA, rc, rfl, hrows⟩
  have hz45 := hb.size
  have Hrows := hide (show ∀ W, Below w5.heap.size w5 W → Rd (Enc.sl Enc.int) W RA rs.length rc rs from fun W hW => hrows W (Chg.of_below hW _))
  clear hrows
  clear h_0 h_1 h_2 h_3 h_4 h_5 h_6 r_0 r_1 q_0 q_1 h_l r_l q_l
  replace Hh_ := hide (Hh_.out.keep hb)
  replace Hr_ := hide (Hr_.out.keep hb)
  replace Hq_ := hide (Hq_.out.keep hb)
  replace Hbl := hide (Hbl.out.trans (hb.mono Hbl.out.size))
  clear hb
  have h_0 := Hh_.out.cell 0
  have h_1 := Hh_.out.cell 1
  have h_2 := Hh_.out.cell 2
  have h_3 := Hh_.out.cell 3
  have h_4 := Hh_.out.cell 4
  have h_5 := Hh_.out.cell 5
  have h_6 := Hh_.out.cell 6
  have h_l := Hh_.out.lt
  have r_0 := Hr_.out.cell 0
  have r_1 := Hr_.out.cell 1
  have r_l := Hr_.out.lt
  have q_0 := Hq_.out.cell 0
  have q_1 := Hq_.out.cell 1
  have q_l := Hq_.out.lt
  simp only [List.getElem?_cons_zero, List.getElem?_cons_succ] at h_0 h_1 h_2 h_3 h_4 h_5 h_6 r_0 r_1 q_0 q_1
  have hrl : rs.length ≤ n + 1 := by rw [Hrs.out]; have := runF_len T.ops T.init plan; have := Hpl.out; omega
  obtain ⟨rn, hrn⟩ : ∃ z, z = rs.length := ⟨_, rfl⟩
  have hrows2 := Hrows.out
  rw [← hrn] at hrl hrows2 ⊢
  replace Hrows := hide hrows2
  have Hrn := hide hrn
  clear hrn hrows2
  by_cases hlt0 : rn ≤ n
  · have hlti : (rn : Int) ≤ (n : Int) := by omega
    have rf0 := Hr_.out.frozen 0
    have rf1 := Hr_.out.frozen 1
    go_wp2_with fail
    refine bodyPost_ret (v := .tuple #[.bool false, fault 0 0]) (by simp [results, Tryz.results60, go_sem, fault, r_0, r_1, r_l]) rfl ?_
    have hbx := HB0.out
    refine ⟨?_, false, ?_, ?_⟩
    · repeat' (first | (with_reducible exact Hbl.out) | (with_reducible refine Below.drew ?_) | (with_reducible refine below_setH ?_ ?_ _ _) | (with_reducible refine below_drewN ?_ _) | omega)
    · rw [Hdf.out]
    · rw [Hdf.out]
      refine ⟨fun h => (by cases h), fun h => ?_⟩
      have h1 := h.2.1
      simp only at h1
      rw [← Hrs.out, ← Hrn.out, Hpl.out] at h1
      omega
  have hlti : ¬ (rn : Int) ≤ (n : Int) := by omega
  obtain rfl : rn = n + 1 := by omega
  have hKe : K = (K2 : Int) := Hok.out.tasks
  subst hKe
  have hK16 := Hok.out.low
  have hn1000 : n ≤ 1000 := by omega
  clear hlt0 hrl hz45
  go_wp2_with fail
  with_reducible refine (newChart_ct K2 n hK16 hn1000 w5).mono ?_
  rintro e w6 ⟨hb6, g, CA, R, rfl, hC0⟩
  have HC0 := hide hC0
  have Hb6 := hide hb6
  have Kh := Hh_
  have Kr := Hr_
  have K5 := Hbl
  clear hC0 hb6
  clear h_0 h_1 h_2 h_3 h_4 h_5 h_6 r_0 r_1 q_0 q_1 h_l r_l q_l
  have hKh : ∀ W, Below w5.heap.size w5 W → Blk 50 W gH [.int .i64 T.facts, .slice I nI cI, .slice G nG cG, .slice O nO cO, .int .i64 K2, .slice M nM cM, .slice L nL cL] := fun W hW => Kh.out.keep hW
  have hKr : ∀ W, Below w5.heap.size w5 W → Blk 29 W (gH + 1) [.int .i64 0, .int .i64 0] := fun W hW => Kr.out.keep hW
  have hH : ∀ W, Below w5.heap.size w5 W → HyR W ⟨⟨I, nI, cI, G, nG, cG, O, nO, cO⟩, M, nM, cM, L, nL, cL⟩ ⟨T, K2, ms, li⟩ := fun W hW => H.out.keep (K5.out.trans (hW.mono K5.out.size))
  have hPr : ∀ W, Below w5.heap.size w5 W → Rd Enc.int W A n c plan := fun W hW => Hp.out.keep (K5.out.trans (hW.mono K5.out.size))
  have HKh := hide hKh
  have HKr := hide hKr
  have HH := hide hH
  have HPr := hide hPr
  clear hKh hKr hH hPr
  obtain ⟨st, hst⟩ : ∃ z, z = stH T plan := ⟨_, rfl⟩
  have hgetst : ∀ i s, rs[i]? = some s → st i = s := fun i s hs => by rw [hst]; unfold stH; rw [← Hrs.out, hs]; rfl
  have Hgst := hide hgetst
  have hsets : ∀ s ∈ rs, setB N s = true := fun s hs => by
    rw [Hrs.out] at hs
    unfold runF at hs
    rcases List.mem_cons.1 hs with rfl | hs
    · exact Hok.out.task.init
    · refine runT_sets _ T.init Hok.out.task.init (fun o ho => ?_) s hs
      obtain ⟨x, hx, rfl⟩ := List.mem_map.1 ho
      have h1 := Hpr.out x hx
      have h2 := opAt_mem (os := T.ops) h1.1 (by rw [Hol.out]; exact h1.2)
      exact (Hok.out.task.ops _ h2).add
  have Hst0 := hide hst
  have Hsets := hide hsets
  clear hst hgetst hsets
  go_upto_region 11 with (fail)
  go_loopw [9] (fun bv wr => ∃ (f : Nat → Nat → Nat → Bool) (b : Bool), bv = .bool b ∧ Below w5.heap.size w5 wr ∧ ChartS w5.heap.size wr g K2 n CA R f ∧ Sound ms plan st (fun t i j => f t i j = true) ∧ (b = false → Closing ms plan st (fun t i j => f t i j = true))) (fun bv wr => 2 * cntW K2 n R wr + bitV bv)
  case atStart => exact ⟨_, true, rfl, Hb6.out, HC0.out, fun t i j h => (by cases h), fun e => (by cases e)⟩
  case round =>
    clear Hb6 HC0
    obtain ⟨f0, b0, rfl, hb, hC, hS, hcl⟩ := hrel
    have Hb := hide hb
    have HC := hide hC
    have HS := hide hS
    have Hcl := hide hcl
    clear hb hC hS hcl
    cases b0 with
    | false =>
      have hkb := HKh.out wr Hb.out
      have h_6 := hkb.cell 6
      have h_l := hkb.lt
      have hkr := HKr.out wr Hb.out
      simp only [List.getElem?_cons_zero, List.getElem?_cons_succ] at h_6
      have hct := ends_ct wr HC.out hK16 hn1000 A c plan (HPr.out wr Hb.out) L nL cL li (HH.out wr Hb.out).list (fun x hx => (Hok.out.list.rng x hx).1) 0 (by omega)
      rw [show ((0 : Nat) : Int) = 0 from rfl] at hct
      have Hct := hide hct
      clear hkb hkr hct
      go_wp2_with fail
      with_reducible refine Hct.out.mono ?_
      rintro e w7 ⟨hb7, G2, rfl, hG2, hrow⟩
      have e0 := (hrow.cell n).trans (rowB_get (Nat.le_refl n))
      have hnn : (n : Int) < ((n + 1 : Nat) : Int) := by omega
      have hkr := HKr.out w7 (Hb.out.trans (hb7.mono Hb.out.size))
      have r_0 := hkr.cell 0
      have r_1 := hkr.cell 1
      have r_l := hkr.lt
      have rf0 := hkr.frozen 0
      have rf1 := hkr.frozen 1
      simp only [List.getElem?_cons_zero, List.getElem?_cons_succ] at r_0 r_1
      have hans : endsF n plan f0 li (fun q => decide (q = 0)) n = true ↔ SeqP ms plan st li 0 n := by
        rw [ends_chain Hpl.out li (by omega) (Nat.le_refl n)]
        exact chain_iff HS.out (Hcl.out (by trivial)) (by omega)
      have Hans := hide hans
      have Hb7 := hide (Hb.out.trans (hb7.mono Hb.out.size))
      clear hrow hkr hb7 hans h_6 h_l Hct
      obtain ⟨v, hv⟩ : ∃ z, z = endsF n plan f0 li (fun q => decide (q = 0)) n := ⟨_, rfl⟩
      rw [← hv] at e0 Hans
      clear hv
      go_wp2_with fail
      refine bodyPost_ret (v := .tuple #[.bool v, fault 0 0]) (by simp [results, Tryz.results60, go_sem, fault, r_0, r_1, r_l]) rfl ?_
      have hbx := HB0.out
      have hbl := K5.out.trans (Hb7.out.mono K5.out.size)
      refine ⟨?_, v, ?_, ?_⟩
      · repeat' (first | (with_reducible exact hbl) | (with_reducible refine Below.drew ?_) | (with_reducible refine below_setH ?_ ?_ _ _) | (with_reducible refine below_drewN ?_ _) | omega)
      · rw [Hdf.out]
      · rw [Hdf.out, Hans.out]
        unfold RefP
        simp only
        rw [← Hst0.out, Hpl.out, ← Hrs.out, ← Hrn.out]
        exact ⟨fun h => ⟨trivial, rfl, h⟩, fun h => h.2.2⟩
    | true =>
      obtain ⟨wo, rfl⟩ : ∃ V, V = wr := ⟨_, rfl⟩
      have hkb := HKh.out wo Hb.out
      have h_5 := hkb.cell 5
      have h_l := hkb.lt
      simp only [List.getElem?_cons_zero, List.getElem?_cons_succ] at h_5
      have HCl := hide (show Cl ms plan st K2 n f0 f0 false 0 0 from ⟨HS.out, Nat.le_refl _, fun e => (by cases e), fun _ => ⟨rfl, .start⟩⟩)
      clear hkb
      go_upto_region 14 with (fail)
      clear h_5 h_l
      go_loopw [9, 53] (fun bv iv wr => ∃ (q : Nat) (f : Nat → Nat → Nat → Bool) (b : Bool), q ≤ nM ∧ iv = .int .i64 q ∧ bv = .bool b ∧ Below w5.heap.size w5 wr ∧ ChartS w5.heap.size wr g K2 n CA R f ∧ Cl ms plan st K2 n f0 f b q 0) (fun _ iv _ => nM - (intOf iv).toNat)
      case atStart => exact ⟨0, f0, false, by omega, rfl, rfl, Hb.out, HC.out, HCl.out⟩
      case round =>
        clear HCl
        obtain ⟨q, f, b, hqn, rfl, rfl, hb, hC, hcl⟩ := hrel
        have Hb2 := hide hb
        have HC2 := hide hC
        have Hcl2 := hide hcl
        clear hb hC hcl
        by_cases hlt : q < nM
        rotate_left
        · obtain rfl : q = nM := by omega
          go_wp2_with fail
          go_roundw
          case rel => exact ⟨f, b, rfl, Hb2.out, HC2.out, Hcl2.out.sound, fun e => by
            have h1 := (Hcl2.out.none_ e).2
            rw [← Hml.out] at h1
            exact h1.done Hpl.out⟩
          case measure =>
            rw [cntW_eq HC2.out, cntW_eq HC.out]
            have h1 := Hcl2.out.less
            have h2 := Hcl2.out.some_
            cases b with
            | true => have := h2 rfl; simp only [bitV]; omega
            | false => simp only [bitV]; omega
        · have hqi : (q : Int) < (nM : Int) := by omega
          obtain ⟨mb, moff, m, A1, n1, c1, A2, n2, c2, rfl, hm, g0, g1, g2, h64, r1, r2⟩ := (HH.out wr Hb2.out).ms.me hlt
          have hmm := List.mem_of_getElem? hm
          obtain ⟨hmt0, hmtK⟩ := Hok.out.mt m hmm
          have hmp := Hok.out.mp m hmm
          have hml := Hok.out.ml m hmm
          obtain ⟨t, ht⟩ : ∃ t : Nat, m.task = (t : Int) := ⟨m.task.toNat, by omega⟩
          have htK : t < K2 := by omega
          rw [ht] at g0
          have Hm := hide hm
          have Hmt := hide ht
          have Hmp := hide hmp
          have Hml2 := hide hml
          have Hr1 := hide r1
          have Hr2 := hide r2
          have Hmt0 := hide hmt0
          clear hm hmt0 hmtK hmp hml ht h64 r1 r2 hmm
          obtain ⟨wq, rfl⟩ : ∃ V, V = wr := ⟨_, rfl⟩
          go_upto_region 16 with (fail)
          have hmbx := Blk.new wq 116 [.int .i64 t, .slice A1 n1 c1, .slice A2 n2 c2]
          have hbm := (Below.refl wq.heap.size wq).alloc (Nat.le_refl _) (.cells #[.int .i64 t, .slice A1 n1 c1, .slice A2 n2 c2] 116)
          obtain ⟨w8, hw8⟩ : ∃ W, W = wq.alloc (.cells #[.int .i64 t, .slice A1 n1 c1, .slice A2 n2 c2] 116) := ⟨_, rfl⟩
          rw [← hw8] at hmbx hbm ⊢
          obtain ⟨gm, hgm⟩ : ∃ z, z = wq.heap.size := ⟨_, rfl⟩
          rw [← hgm] at hmbx ⊢
          have Hmb := hide hmbx
          have hHr1 : ∀ W, Below wq.heap.size wq W → Rd Enc.int W A1 n1 c1 m.pre := fun W hW => Hr1.out.keep hW
          have hHr2 : ∀ W, Below wq.heap.size wq W → Rd Enc.int W A2 n2 c2 m.steps := fun W hW => Hr2.out.keep hW
          have hp1 : ∀ W, Below w5.heap.size w5 W → Rd Enc.int W A1 n1 c1 m.pre := fun W hW => by
            obtain ⟨mb', moff', m', A1', n1', c1', A2', n2', c2', e, hm', q0, q1, q2, _, s1, s2⟩ := (HH.out W hW).ms.me hlt
            injection e with e
            injection e with e1 e2
            subst e1 e2
            rw [Hm.out] at hm'
            obtain rfl := Option.some.inj hm'
            obtain ⟨mb2, moff2, m2, A3, n3, c3, A4, n4, c4, e, hm2, p0, p1, p2, _, s3, s4⟩ := (HH.out w5 (Below.refl _ _)).ms.me hlt
            injection e with e
            injection e with e1 e2
            subst e1 e2
            have k1 := (hW.cell (p := ⟨mb, moff + q * 3 + 1, none⟩) (World.block_lt_of_cell? _ _ p1)).trans p1
            have k2 := (Hb2.out.cell (p := ⟨mb, moff + q * 3 + 1, none⟩) (World.block_lt_of_cell? _ _ p1)).trans p1
            rw [q1] at k1
            rw [g1] at k2
            rw [← k1] at k2
            have k3 := Option.some.inj k2
            injection k3 with k4 k5 k6
            subst k4 k5 k6
            exact s1
          have hp2 : ∀ W, Below w5.heap.size w5 W → Rd Enc.int W A2 n2 c2 m.steps := fun W hW => by
            obtain ⟨mb', moff', m', A1', n1', c1', A2', n2', c2', e, hm', q0, q1, q2, _, s1, s2⟩ := (HH.out W hW).ms.me hlt
            injection e with e
            injection e with e1 e2
            subst e1 e2
            rw [Hm.out] at hm'
            obtain rfl := Option.some.inj hm'
            obtain ⟨mb2, moff2, m2, A3, n3, c3, A4, n4, c4, e, hm2, p0, p1, p2, _, s3, s4⟩ := (HH.out w5 (Below.refl _ _)).ms.me hlt
            injection e with e
            injection e with e1 e2
            subst e1 e2
            have k1 := (hW.cell (p := ⟨mb, moff + q * 3 + 2, none⟩) (World.block_lt_of_cell? _ _ p2)).trans p2
            have k2 := (Hb2.out.cell (p := ⟨mb, moff + q * 3 + 2, none⟩) (World.block_lt_of_cell? _ _ p2)).trans p2
            rw [q2] at k1
            rw [g2] at k2
            rw [← k1] at k2
            have k3 := Option.some.inj k2
            injection k3 with k4 k5 k6
            subst k4 k5 k6
            exact s2
          have Hp1 := hide hp1
          have Hp2 := hide hp2
          have hgm5 : w5.heap.size ≤ gm := by have := Hb2.out.size; omega
          have Hb8 := hide (Hb2.out.trans (hbm.mono Hb2.out.size))
          have HC8 := hide (HC2.out.keep hbm)
          clear hw8 hbm hmbx hHr1 hHr2 hp1 hp2 g0 g1 g2 hgm
          go_upto_region 17 with (fail)
          go_loopw [9, 59] (fun bv iv wr => ∃ (i : Nat) (f : Nat → Nat → Nat → Bool) (b : Bool), i ≤ n + 1 ∧ iv = .int .i64 i ∧ bv = .bool b ∧ Below w5.heap.size w5 wr ∧ Blk 116 wr gm [.int .i64 t, .slice A1 n1 c1, .slice A2 n2 c2] ∧ ChartS w5.heap.size wr g K2 n CA R f ∧ Cl ms plan st K2 n f0 f b q i) (fun _ iv _ => n + 1 - (intOf iv).toNat)
          case atStart => exact ⟨0, f, b, by omega, rfl, rfl, Hb8.out, Hmb.out, HC8.out, Hcl2.out⟩
          case round =>
            clear Hb8 Hmb HC8 Hcl2 HC2 Hb2
            obtain ⟨i, f1, b1, hin, rfl, rfl, hb, hmb, hC, hcl⟩ := hrel
            have Hb2 := hide hb
            have Hmb := hide hmb
            have HC2 := hide hC
            have Hcl2 := hide hcl
            clear hb hmb hC hcl
            by_cases hli : i < n + 1
            rotate_left
            · obtain rfl : i = n + 1 := by omega
              have hnl : ¬ (((n + 1 : Nat) : Int)) < ((n + 1 : Nat) : Int) := by omega
              go_wp2_with fail
              go_roundw
              case rel => exact ⟨q + 1, f1, b1, by omega, by go_num, rfl, Hb2.out, HC2.out, Hcl2.out.next⟩
              case measure => simp [intOf]; omega
            · have hii : (i : Int) < ((n + 1 : Nat) : Int) := by omega
              obtain ⟨sb, soff, s, B1, m1, d1, hRA, hs, s0, rs1⟩ := (Hrows.out wr Hb2.out).sl hli
              subst hRA
              have hss := Hsets.out s (List.mem_of_getElem? hs)
              have hsti := Hgst.out i s hs
              have m_0 := Hmb.out.cell 0
              have m_1 := Hmb.out.cell 1
              have m_2 := Hmb.out.cell 2
              have m_l := Hmb.out.lt
              simp only [List.getElem?_cons_zero, List.getElem?_cons_succ] at m_0 m_1 m_2
              have hct := Contains_ct B1 A1 m1 d1 n1 c1 s m.pre wr rs1 (Hp1.out wr Hb2.out) (setB_iff.1 hss).1 (setB_iff.1 Hmp.out).1
              obtain ⟨cv, hcv⟩ : ∃ z, z = subsetB m.pre s := ⟨_, rfl⟩
              rw [← hcv] at hct
              have Hct := hide hct
              have Hcv := hide (show cv = subsetB m.pre (st i) by rw [hsti]; exact hcv)
              clear hct hcv hss hsti hs rs1
              cases cv with
              | false =>
                go_wp2_with (go_at_call 46; (with_reducible refine Hct.out.mono ?_); rintro e w' ⟨rfl, rfl⟩)
                go_roundw
                case rel => exact ⟨i + 1, f1, b1, by omega, by go_num, rfl, Hb2.out, Hmb.out, HC2.out, Hcl2.out.pass Hm.out Hcv.out.symm⟩
                case measure => simp [intOf]; omega
              | true =>
                have hin2 : i ≤ n := by omega
                have hec := ends_ct wr HC2.out hK16 hn1000 A c plan (HPr.out wr Hb2.out) A2 n2 c2 m.steps (Hp2.out wr Hb2.out) (fun x hx => (Hml2.out.rng x hx).1) i hin2
                have Hec := hide hec
                clear hec
                obtain ⟨wp, rfl⟩ : ∃ V, V = wr := ⟨_, rfl⟩
                go_upto_region 21 with (first | (go_at_call 46; (with_reducible refine Hct.out.mono ?_); rintro e w' ⟨rfl, rfl⟩) | (go_at_call 107; (with_reducible refine Hec.out.mono ?_); rintro e w9 ⟨hb9, G2, rfl, hG2, hrow⟩; have Hb9 := hide hb9; have Hrow := hide hrow; clear hb9 hrow m_0 m_1 m_2 m_l))
                obtain ⟨E, hE⟩ : ∃ E, E = endsF n plan f1 m.steps (fun q => decide (q = i)) := ⟨_, rfl⟩
                have hr2 := Hrow.out
                rw [← hE] at hr2
                replace Hrow := hide hr2
                have HE := hide hE
                have HC9 := hide (HC2.out.keep Hb9.out)
                have Hmb9 := hide (Hmb.out.keep Hb9.out)
                have Hb59 := hide (Hb2.out.trans (Hb9.out.mono Hb2.out.size))
                have hRG : ∀ y k, y < K2 → k ≤ n → G2 ≠ R y k := fun y k hy hk e => by
                  have := (HC2.out.low y k hy hk).lt
                  omega
                have Hop := hide (Hcl2.out.open4 (t := t) (E := E))
                have HS1 := hide Hcl2.out.sound
                clear hr2 hE Hec Hct
                go_loopw [9, 76] (fun bv iv wr => ∃ (j : Nat) (f : Nat → Nat → Nat → Bool) (b : Bool), j ≤ n + 1 ∧ iv = .int .i64 j ∧ bv = .bool b ∧ Below w5.heap.size w5 wr ∧ Blk 116 wr gm [.int .i64 t, .slice A1 n1 c1, .slice A2 n2 c2] ∧ Blk 4 wr G2 (rowB n E) ∧ ChartS w5.heap.size wr g K2 n CA R f ∧ Cl4 ms plan st K2 n f0 f1 f b q i t E j) (fun _ iv _ => n + 1 - (intOf iv).toNat)
                case atStart => exact ⟨0, f1, b1, by omega, rfl, rfl, Hb59.out, Hmb9.out, Hrow.out, HC9.out, Hop.out⟩
                case round =>
                  clear Hb9 HC9 Hmb9 Hb59 Hop Hrow HC2 Hmb Hb2 Hcl2
                  obtain ⟨j, f2, b2, hj, rfl, rfl, hb, hmb, hrow, hC, hcl⟩ := hrel
                  have Hb2 := hide hb
                  have Hmb := hide hmb
                  have Hrow := hide hrow
                  have HC2 := hide hC
                  have Hcl2 := hide hcl
                  clear hb hmb hrow hC hcl
                  by_cases hlj : j < n + 1
                  rotate_left
                  · obtain rfl : j = n + 1 := by omega
                    have hnl : ¬ (((n + 1 : Nat) : Int)) < ((n + 1 : Nat) : Int) := by omega
                    go_wp2_with fail
                    go_roundw
                    case rel => exact ⟨i + 1, f2, b2, by omega, by go_num, rfl, Hb2.out, Hmb.out, HC2.out, Hcl2.out.close HS1.out Hpl.out Hm.out Hmt0.out (by rw [Hmt.out]; rfl) Hcv.out.symm hin2 (fun j _ => by rw [HE.out])⟩
                    case measure => simp [intOf]; omega
                  · have hjj : (j : Int) < ((n + 1 : Nat) : Int) := by omega
                    have hjn : j ≤ n := by omega
                    have z0 := (Hrow.out.cell j).trans (rowB_get hjn)
                    have m_0 := Hmb.out.cell 0
                    have m_l := Hmb.out.lt
                    simp only [List.getElem?_cons_zero, List.getElem?_cons_succ] at m_0
                    cases hEj : E j with
                    | false =>
                      rw [hEj] at z0
                      go_wp2_with fail
                      go_roundw
                      case rel => exact ⟨j + 1, f2, b2, by omega, by go_num, rfl, Hb2.out, Hmb.out, Hrow.out, HC2.out, Hcl2.out.no hEj⟩
                      case measure => simp [intOf]; omega
                    | true =>
                      rw [hEj] at z0
                      have htKi : (t : Int) < (K2 : Int) := by omega
                      have x0 := (HC2.out.top.cell t).trans (rowS_at (n := n) (A := CA) htK)
                      have x1 := ((HC2.out.mid t htK).cell i).trans (rowS_at (n := n) (A := R t) hli)
                      have hlow := HC2.out.low t i htK hin2
                      have x2 := (hlow.cell j).trans (rowB_get hjn)
                      cases hfj : f2 t i j with
                      | true =>
                        rw [hfj] at x2
                        go_wp2_with fail
                        go_roundw
                        case rel => exact ⟨j + 1, f2, b2, by omega, by go_num, rfl, Hb2.out, Hmb.out, Hrow.out, HC2.out, Hcl2.out.known hfj⟩
                        case measure => simp [intOf]; omega
                      | false =>
                        rw [hfj] at x2
                        have xf := hlow.frozen j
                        have xl := hlow.lt
                        have hc := Chg.set wr (R t i) j (.bool true)
                        have hfin : Below w5.heap.size w5 (wr.setCell ⟨R t i, j, none⟩ (.bool true)) ∧ Blk 116 (wr.setCell ⟨R t i, j, none⟩ (.bool true)) gm [.int .i64 t, .slice A1 n1 c1, .slice A2 n2 c2] ∧ Blk 4 (wr.setCell ⟨R t i, j, none⟩ (.bool true)) G2 (rowB n E) ∧ ChartS w5.heap.size (wr.setCell ⟨R t i, j, none⟩ (.bool true)) g K2 n CA R (putC f2 t i j) :=
                          ⟨below_setH Hb2.out (HC2.out.base.2.2 t i htK hin2) j _, hc.blk Hmb.out (blk_ne Hmb.out hlow (by decide)), hc.blk Hrow.out (hRG t i htK hin2), HC2.out.set htK hin2⟩
                        have Hfin := hide hfin
                        have hput := Hcl2.out.put htK hin2 hjn hEj hfj
                        have Hput := hide hput
                        clear hfin hput hc hlow
                        go_wp2_with fail
                        go_roundw
                        case rel => exact ⟨j + 1, putC f2 t i j, true, by omega, by go_num, rfl, Hfin.out.1, Hfin.out.2.1, Hfin.out.2.2.1, Hfin.out.2.2.2, Hput.out⟩
                        case measure => simp [intOf]; omega
end Go.Proofs.YtmjiiddncbhgpaaGreat
namespace Go.Proofs.YtmjiiddncbhgpaaGreat
set_option linter.unusedVariables false
set_option linter.unusedSimpArgs false
theorem opsFault_all {n : Int} : ∀ (os : List Opr) (i : Nat), (∀ o ∈ os, opCode n o = 0) → opsFault n i os = (0, 0) := fun os i h => opsFault_zero (opsFault_ok.2 h)
theorem okop_code {N : Nat} {o : Opr} (h : OkOp N o) : opCode N o = 0 := by
  rw [opCode_set h.pre h.add h.del h.apart, inB_iff.2 ⟨h.low, h.high⟩]
  rfl
theorem okt_fault {T : Tsk} {N : Nat} (h : OkT T N) : taskFault T = (0, 0) := by
  have hf := h.facts
  rw [tf5 (by have := h.low; omega) (by rw [hf]; exact h.init) (by rw [hf]; exact h.goal) (by have := h.few; omega)]
  exact opsFault_all _ _ (fun o ho => by rw [hf]; exact okop_code (h.ops o ho))
end Go.Proofs.YtmjiiddncbhgpaaGreat
namespace Go.Proofs.YtmjiiddncbhgpaaGreat
set_option linter.unusedVariables false
set_option linter.unusedSimpArgs false
open Go.RowKit
def worksF (T : Tsk) (s l : List Int) : Bool := match execO s (l.map (opAt T.ops)) with
  | some r => subsetB T.goal r
  | none => false
end Go.Proofs.YtmjiiddncbhgpaaGreat
namespace Go.Proofs.YtmjiiddncbhgpaaGreat
set_option linter.unusedVariables false
set_option linter.unusedSimpArgs false
open Go.RowKit
set_option maxRecDepth 100000 in
set_option maxHeartbeats 3200000 in
theorem RSteps_ct (n : Nat) (A : Option Addr) (m c : Nat) (l : List Int) (w : World) (h : Rd Enc.int w A m c l) (hn : n ≤ 9223372036854775807) :
    Calls Tryz.prog 69 #[.int .i64 n, .slice A m c] w (Gives w (fault (stepsFault n l).1 (stepsFault n l).2)) := by
  have hsm := h.low
  have hX := Blk.new w 29 [.int .i64 0, .int .i64 0]
  have y0 := hX.cell 0
  have y1 := hX.cell 1
  have y2 := hX.frozen 0
  have y3 := hX.frozen 1
  have y4 := hX.lt
  simp only [List.getElem?_cons_zero, List.getElem?_cons_succ] at y0 y1
  have hbw : Below w.heap.size w (w.alloc (.cells #[.int .i64 0, .int .i64 0] 29)) := (Below.refl _ _).alloc (Nat.le_refl _) _
  have Hbw := hide hbw
  have HX := hide hX
  have Hl := hide h.len
  have H := hide (h.keep hbw)
  have At1 := hide (fun c i W => At_ct c i W)
  clear h hbw hX
  go_enter Tryz.func69, Tryz.ntmps69
  go_upto_region 1 with (fail)
  obtain ⟨W0, hW0⟩ : ∃ W0, W0 = w.alloc (.cells #[.int .i64 0, .int .i64 0] 29) := ⟨_, rfl⟩
  rw [← hW0] at H HX Hbw y0 y1 y2 y3 y4 ⊢
  clear hW0
  obtain ⟨gb, hgb⟩ : ∃ gb, gb = w.heap.size := ⟨_, rfl⟩
  rw [← hgb] at HX y0 y1 y2 y3 y4 ⊢
  have Hgb := hide hgb
  clear hgb
  by_cases h1 : 60 < m
  · have hres : stepsFault n l = (2, -5) := by unfold stepsFault; rw [Hl.out, if_pos h1]
    have Hr := hide hres
    clear hres
    go_wp2_with fail
    refine (At1.out 2 (-5) _).mono ?_
    rintro e w9 ⟨rfl, hb⟩
    unfold fault
    have HX9 := hide (HX.out.keep hb)
    have Hb9 := hide (Hbw.out.trans (hb.mono Hbw.out.size))
    clear hb y0 y1 y2 y3 y4
    have y0 := HX9.out.cell 0
    have y1 := HX9.out.cell 1
    have y2 := HX9.out.frozen 0
    have y3 := HX9.out.frozen 1
    have y4 := HX9.out.lt
    simp only [List.getElem?_cons_zero, List.getElem?_cons_succ] at y0 y1
    go_wp2_with fail
    refine bodyPost_ret (v := fault 2 (-5)) (by simp [results, Tryz.results69, go_sem, fault, y0, y1, y4]) rfl ⟨by rw [Hr.out], below_res2 Hb9.out (by have := Hgb.out; omega) _ _⟩
  · have hres : stepsFault n l = if l.any (outB n) = true then (3, -6) else (0, 0) := by unfold stepsFault; rw [Hl.out, if_neg h1]
    have Hres := hide hres
    clear hres
    go_wp2_with fail
    go_loop [5] (fun i => ∃ k : Nat, k ≤ m ∧ i = .int .i64 k ∧ (l.take k).any (outB n) = false) (fun i => m - (intOf i).toNat)
    case atStart => exact ⟨0, by omega, rfl, by simp⟩
    case round =>
      obtain ⟨k, hk, rfl, hset⟩ := hrel
      have Hset := hide hset
      clear hset
      by_cases hlt : k < m
      · obtain ⟨b, off, x, rfl, hx, hx1, hx2, hcx⟩ := H.out.int hlt
        have hwr : IntKind.i64.wrap ((n : Int) - 1) = (n : Int) - 1 := by rw [IntWalk.i64_in _ (by omega)]
        have hc : ∀ W, Calls Tryz.prog 24 #[.int .i64 x, .int .i64 0, .int .i64 ((n : Int) - 1)] W (Same W (.bool (!outB n x))) := by
          intro W
          have := In_ct x 0 ((n : Int) - 1) W
          rwa [inB_outB] at this
        have Hx := hide hx
        rcases eo : outB n x with _ | _
        · rw [eo] at hc
          have Hc := hide hc
          have Heo := hide eo
          clear hc hx eo
          go_wp2_with (go_at_call 24; refine (Hc.out _).mono ?_; rintro e w1 ⟨rfl, rfl⟩)
          go_round
          case rel => exact ⟨k + 1, by omega, by go_num, anyF_succ Hset.out Hx.out Heo.out⟩
          case measure => simp [intOf]; omega
        · rw [eo] at hc
          have Hc := hide hc
          have hres := Hres.out
          rw [if_pos (List.any_eq_true.2 ⟨x, List.mem_of_getElem? Hx.out, eo⟩)] at hres
          have Hr := hide hres
          clear hc hx eo hres
          go_wp2_with (go_at_call 24; refine (Hc.out _).mono ?_; rintro e w1 ⟨rfl, rfl⟩)
          refine (At1.out 3 (-6) _).mono ?_
          rintro e w9 ⟨rfl, hb⟩
          unfold fault
          have HX9 := hide (HX.out.keep hb)
          have Hb9 := hide (Hbw.out.trans (hb.mono Hbw.out.size))
          clear hb y0 y1 y2 y3 y4
          have y0 := HX9.out.cell 0
          have y1 := HX9.out.cell 1
          have y2 := HX9.out.frozen 0
          have y3 := HX9.out.frozen 1
          have y4 := HX9.out.lt
          simp only [List.getElem?_cons_zero, List.getElem?_cons_succ] at y0 y1
          go_wp2_with fail
          refine bodyPost_ret (v := fault 3 (-6)) (by simp [results, Tryz.results69, go_sem, fault, y0, y1, y4]) rfl ⟨by rw [Hr.out], below_res2 Hb9.out (by have := Hgb.out; omega) _ _⟩
      · obtain rfl : k = m := by omega
        have hres := Hres.out
        have hs := Hset.out
        rw [List.take_of_length_le (by rw [Hl.out]; omega)] at hs
        rw [hs, if_neg (by simp)] at hres
        have Hr := hide hres
        clear hres hs
        go_wp2_with fail
        exact bodyPost_ret (v := fault 0 0) (by simp [results, Tryz.results69, go_sem, fault, y0, y1, y4]) rfl ⟨by rw [Hr.out], below_res2 Hbw.out (by have := Hgb.out; omega) _ _⟩
end Go.Proofs.YtmjiiddncbhgpaaGreat
namespace Go.Proofs.YtmjiiddncbhgpaaGreat
set_option linter.unusedVariables false
set_option linter.unusedSimpArgs false
open Go.RowKit
set_option maxRecDepth 100000 in
set_option maxHeartbeats 6400000 in
theorem RPlanFault_ct (a : TA) (T : Tsk) (B : Option Addr) (m d : Nat) (l : List Int) (w : World) (h : TkR w a T) (hl : Rd Enc.int w B m d l) :
    Calls Tryz.prog 25 #[.agg #[.int .i64 T.facts, .slice a.I a.nI a.cI, .slice a.G a.nG a.cG, .slice a.O a.nO a.cO], .slice B m d] w (Gives w (fault (planFault T l).1 (planFault T l).2)) := by
  have hval := RTaskFault_ct a T
  obtain ⟨I, nI, cI, G, nG, cG, O, nO, cO⟩ := a
  simp only at hval ⊢
  rcases hq : taskFault T with ⟨ec, ei⟩
  rw [hq] at hval
  have hlO := h.ops.len
  have hlow := h.ops.low
  simp only at hlO hlow
  have Hq := hide hq
  have HlO := hide hlO
  have H := hide h
  have Hl := hide hl
  have Hval := hide hval
  clear hq h hl hval hlO
  have Hbl := hide (Below.refl w.heap.size w)
  go_enter Tryz.func25, Tryz.ntmps25
  go_upto_region 1 with (fail)
  obtain ⟨B0, hB0⟩ : ∃ B0, B0 = w.heap.size := ⟨_, rfl⟩
  have HB0 := hide hB0
  clear hB0
  have s_0 : B0 ≤ w.heap.size := Nat.le_trans (Nat.le_of_eq HB0.out) Hbl.out.size
  have hyt := Blk.new (w) 25 [.int .i64 T.facts, .slice I nI cI, .slice G nG cG, .slice O nO cO]
  have hyr := Blk.new ((w).alloc (.cells #[.int .i64 T.facts, .slice I nI cI, .slice G nG cG, .slice O nO cO] 25)) 29 [.int .i64 0, .int .i64 0]
  replace hyt := hyt.alloc (.cells #[.int .i64 0, .int .i64 0] 29)
  have hbW := below_two w (.cells #[.int .i64 T.facts, .slice I nI cI, .slice G nG cG, .slice O nO cO] 25) (.cells #[.int .i64 0, .int .i64 0] 29)
  simp only [World.size_alloc] at hyr
  obtain ⟨w0, hW⟩ : ∃ W, W = ((w).alloc (.cells #[.int .i64 T.facts, .slice I nI cI, .slice G nG cG, .slice O nO cO] 25)).alloc (.cells #[.int .i64 0, .int .i64 0] 29) := ⟨_, rfl⟩
  rw [← hW] at hyt hyr hbW ⊢
  replace Hbl := hide (Hbl.out.trans (hbW.mono Hbl.out.size))
  have Ht := hide hyt
  have Hr := hide hyr
  clear hW hbW hyt hyr
  generalize w.heap.size = gT at Ht Hr s_0 ⊢
  have t0 := Ht.out.cell 0
  have t1 := Ht.out.cell 1
  have t2 := Ht.out.cell 2
  have t3 := Ht.out.cell 3
  have tl := Ht.out.lt
  have r0 := Hr.out.cell 0
  have r1 := Hr.out.cell 1
  have rl := Hr.out.lt
  simp only [List.getElem?_cons_zero, List.getElem?_cons_succ] at t0 t1 t2 t3 r0 r1
  have a_t : B0 ≤ gT := by omega
  have a_r : B0 ≤ gT + 1 := by omega
  clear s_0
  have n_t_r : ¬ gT = gT + 1 := by omega
  have n_r_t : ¬ gT + 1 = gT := by omega
  go_wp2_with fail
  with_reducible refine (Hval.out w0 (H.out.keep Hbl.out)).mono ?_
  rintro e w1 ⟨rfl, hb⟩
  clear t0 t1 t2 t3 r0 r1 tl rl
  replace Ht := hide (Ht.out.keep hb)
  replace Hr := hide (Hr.out.keep hb)
  replace Hbl := hide (Hbl.out.trans (hb.mono Hbl.out.size))
  clear hb
  unfold fault
  have t0 := Ht.out.cell 0
  have t1 := Ht.out.cell 1
  have t2 := Ht.out.cell 2
  have t3 := Ht.out.cell 3
  have tl := Ht.out.lt
  have r0 := Hr.out.cell 0
  have r1 := Hr.out.cell 1
  have rl := Hr.out.lt
  simp only [List.getElem?_cons_zero, List.getElem?_cons_succ] at t0 t1 t2 t3 r0 r1
  go_upto_region 2 with (fail)
  have n_t_k : ¬ gT = w1.heap.size := by omega
  have n_k_t : ¬ w1.heap.size = gT := by omega
  have n_r_k : ¬ gT + 1 = w1.heap.size := by omega
  have n_k_r : ¬ w1.heap.size = gT + 1 := by omega
  have s_t : gT < w1.heap.size := tl
  have s_r : gT + 1 < w1.heap.size := rl
  have s_0 : B0 ≤ w1.heap.size := Nat.le_trans (Nat.le_of_eq HB0.out) Hbl.out.size
  have hyk := Blk.new (w1) 29 [.int .i64 ec, .int .i64 ei]
  have hbW : Below (w1).heap.size (w1) ((w1).alloc (.cells #[.int .i64 ec, .int .i64 ei] 29)) := (Below.refl _ _).alloc (Nat.le_refl _) _
  obtain ⟨w2, hW⟩ : ∃ W, W = (w1).alloc (.cells #[.int .i64 ec, .int .i64 ei] 29) := ⟨_, rfl⟩
  rw [← hW] at hyk hbW ⊢
  replace Ht := hide (Ht.out.keep hbW)
  replace Hr := hide (Hr.out.keep hbW)
  replace Hbl := hide (Hbl.out.trans (hbW.mono Hbl.out.size))
  have Hk := hide hyk
  clear hW hbW hyk
  generalize w1.heap.size = gk at Hk n_t_k n_k_t n_r_k n_k_r s_t s_r s_0 ⊢
  have t0 := Ht.out.cell 0
  have t1 := Ht.out.cell 1
  have t2 := Ht.out.cell 2
  have t3 := Ht.out.cell 3
  have tl := Ht.out.lt
  have r0 := Hr.out.cell 0
  have r1 := Hr.out.cell 1
  have rl := Hr.out.lt
  have k0 := Hk.out.cell 0
  have k1 := Hk.out.cell 1
  have kl := Hk.out.lt
  simp only [List.getElem?_cons_zero, List.getElem?_cons_succ] at t0 t1 t2 t3 r0 r1 k0 k1
  clear s_t
  clear s_r
  have a_k : B0 ≤ gk := by omega
  clear s_0
  by_cases hec : ec = 0
  · subst hec
    have hz := taskFault_zero (T := T) (by rw [Hq.out])
    rw [Hq.out] at hz
    obtain ⟨_, e2⟩ := Prod.mk.inj hz
    subst e2
    clear hz
    obtain ⟨sc, si, hsf⟩ : ∃ sc si, stepsFault T.ops.length l = (sc, si) := ⟨_, _, rfl⟩
    have hct := RSteps_ct nO B m d l w2 (Hl.out.keep Hbl.out) hlow
    rw [← HlO.out, hsf, HlO.out] at hct
    have Hs := hide hsf
    clear hsf
    go_wp2_with fail
    with_reducible refine (hct).mono ?_
    rintro e w3 ⟨rfl, hb⟩
    clear t0 t1 t2 t3 r0 r1 k0 k1 tl rl kl
    replace Ht := hide (Ht.out.keep hb)
    replace Hr := hide (Hr.out.keep hb)
    replace Hk := hide (Hk.out.keep hb)
    replace Hbl := hide (Hbl.out.trans (hb.mono Hbl.out.size))
    clear hb
    clear hct
    unfold fault
    have t0 := Ht.out.cell 0
    have t1 := Ht.out.cell 1
    have t2 := Ht.out.cell 2
    have t3 := Ht.out.cell 3
    have tl := Ht.out.lt
    have r0 := Hr.out.cell 0
    have r1 := Hr.out.cell 1
    have rl := Hr.out.lt
    have k0 := Hk.out.cell 0
    have k1 := Hk.out.cell 1
    have kl := Hk.out.lt
    simp only [List.getElem?_cons_zero, List.getElem?_cons_succ] at t0 t1 t2 t3 r0 r1 k0 k1
    have rf0 := Hr.out.frozen 0
    have rf1 := Hr.out.frozen 1
    have kf0 := Hk.out.frozen 0
    have kf1 := Hk.out.frozen 1
    go_upto_region 4 with (fail)
    clear rf0 rf1 kf0 kf1
    have hyb := ((Hk.out.set 0 (.int .i64 sc)).set 1 (.int .i64 si))
    simp only [List.set_cons_zero, List.set_cons_succ] at hyb
    have hbW := (below_set ((below_set (Below.refl B0 w3) (g := gk) a_k 0 (.int .i64 sc))) (g := gk) a_k 1 (.int .i64 si))
    have hcW := ((Chg.refl (fun x => x = gk) w3).trans (Chg.set _ (gk) 0 (.int .i64 sc))).trans (Chg.set _ (gk) 1 (.int .i64 si))
    obtain ⟨w4, hW⟩ : ∃ W, W = ((w3).setCell ⟨gk, 0, none⟩ (.int .i64 sc)).setCell ⟨gk, 1, none⟩ (.int .i64 si) := ⟨_, rfl⟩
    rw [← hW] at hyb hbW hcW ⊢
    replace Hk := hide hyb
    clear hW hyb
    clear t0 t1 t2 t3 r0 r1 k0 k1 tl rl kl
    replace Ht := hide (hcW.blk Ht.out (by exact n_t_k))
    replace Hr := hide (hcW.blk Hr.out (by exact n_r_k))
    replace Hbl := hide (Hbl.out.trans (hbW.mono (Nat.le_of_eq HB0.out.symm)))
    clear hbW hcW
    have t0 := Ht.out.cell 0
    have t1 := Ht.out.cell 1
    have t2 := Ht.out.cell 2
    have t3 := Ht.out.cell 3
    have tl := Ht.out.lt
    have r0 := Hr.out.cell 0
    have r1 := Hr.out.cell 1
    have rl := Hr.out.lt
    have k0 := Hk.out.cell 0
    have k1 := Hk.out.cell 1
    have kl := Hk.out.lt
    simp only [List.getElem?_cons_zero, List.getElem?_cons_succ] at t0 t1 t2 t3 r0 r1 k0 k1
    have rf0 := Hr.out.frozen 0
    have rf1 := Hr.out.frozen 1
    go_wp2_with fail
    refine bodyPost_ret (v := fault sc si) (by simp [results, Tryz.results25, go_sem, fault, r0, r1, rl, n_r_k, n_k_r]) rfl ?_
    have hres : planFault T l = (sc, si) := by
      unfold planFault
      rw [Hq.out, if_neg (by simp), Hs.out]
    rw [hres]
    have hbx := HB0.out
    refine ⟨rfl, ?_⟩
    repeat' (first | (with_reducible exact Hbl.out) | (with_reducible refine Below.drew ?_) | (with_reducible refine below_set ?_ ?_ _ _) | (have := HB0.out; omega))
  · have hne : (ec != 0) = true := by simpa using hec
    have hne2 : (ec == 0) = false := by simpa using hec
    have rf0 := Hr.out.frozen 0
    have rf1 := Hr.out.frozen 1
    go_wp2_with fail
    refine bodyPost_ret (v := fault ec ei) (by simp [results, Tryz.results25, go_sem, fault, r0, r1, rl, n_r_k, n_k_r]) rfl ?_
    have hres : planFault T l = (ec, ei) := by
      unfold planFault
      rw [Hq.out, if_pos hec]
    rw [hres]
    have hbx := HB0.out
    refine ⟨rfl, ?_⟩
    repeat' (first | (with_reducible exact Hbl.out) | (with_reducible refine Below.drew ?_) | (with_reducible refine below_set ?_ ?_ _ _) | (have := HB0.out; omega))
end Go.Proofs.YtmjiiddncbhgpaaGreat
