/- The law HierarchyPlanMatchesSpec of the package hierarchy holds, without a condition., part 33: Rh2. -/
import Derived.Test.YtmjiiddncbhgpaaGreatF1
import Derived.Test.YtmjiiddncbhgpaaGreatF2
import Derived.Test.YtmjiiddncbhgpaaGreatF3
import Derived.Test.YtmjiiddncbhgpaaGreatF13
import Derived.Test.YtmjiiddncbhgpaaGreatF14
import Derived.Test.YtmjiiddncbhgpaaGreatF15
import Derived.Test.YtmjiiddncbhgpaaGreatF16
import Derived.BigQuiet
import Derived.Deep.AppendLies
import Derived.Deep.DeepCutAuto
import Derived.Deep.Draws
import Derived.Deep.Fields
import Derived.Deep.LoopGhost
import Derived.Deep.QuietTactic
import Derived.Deep.RegionHeld3
import Derived.Deep.Slices
import Derived.Ground.Names2Prog
import Derived.Ground.SlgnProg
import Derived.Ground.SlsfProg
import Derived.IntWalk
import Derived.Laws.AppendOwnNone
import Derived.Laws.OwnMore
import Derived.Laws.StructEq
import Derived.Lib.Hide
import Derived.Lib.SlicesCompact
import Derived.Maps.AppendAt
import Derived.Shelf.Slices.Cells
import Derived.Shelf.Slices.Clone
import Derived.Shelf.Slices.CompactI
import Derived.Shelf.Slices.Empties
import Derived.Shelf.Slices.In.SortNone
import Derived.Shelf.Slices.SearchI
import Derived.Shelf.Sort.Plain
import Derived.Sort.OwnSortedInts
import Derived.Test.YtmjiiddncbhgpaaGreatProg
import Derived.WalkKit
namespace Go.Proofs.YtmjiiddncbhgpaaGreat
set_option linter.unusedVariables false
set_option linter.unusedSimpArgs false
open Go.RowKit
def spnC (s : Spn) : List Value := [.int .i64 (s.t : Nat), .int .i64 (s.i : Nat), .int .i64 (s.j : Nat)]
def Enc.spn : Enc Spn where
  size := 3
  ok := fun w vs a => vs = spnC a
  len := fun h => by rw [h]; rfl
  keep := fun h _ => h
theorem Rd.spn {w : World} {A : Option Addr} {n c k : Nat} {l : List Spn} (h : Rd Enc.spn w A n c l) (hk : k < n) :
    ∃ b off s, A = some ⟨b, off, none⟩ ∧ l[k]? = some s ∧ w.cell? ⟨b, off + k * 3, none⟩ = some (.int .i64 (s.t : Nat)) ∧ w.cell? ⟨b, off + k * 3 + 1, none⟩ = some (.int .i64 (s.i : Nat)) ∧ w.cell? ⟨b, off + k * 3 + 2, none⟩ = some (.int .i64 (s.j : Nat)) := by
  obtain ⟨b, off, p, vs, e, hm, hvs, hv⟩ := h.get hk
  subst hvs
  exact ⟨b, off, p, e, hm, hv 0 _ rfl, hv 1 _ rfl, hv 2 _ rfl⟩
theorem eqSpn (a b : Spn) (w : World) : (Op.equalIn 10000 122 (.agg #[.int .i64 (a.t : Nat), .int .i64 (a.i : Nat), .int .i64 (a.j : Nat)]) (.agg #[.int .i64 (b.t : Nat), .int .i64 (b.i : Nat), .int .i64 (b.j : Nat)])).run Tryz.prog w = .ok (decide (a = b)) w := by
  have u3 := Tryz.underlying3
  have a3 := Tryz.isAgg3
  have z3 := Tryz.sizeOf3
  have hS : Tryz.prog.underlying 122 = some (.struct (Tryz.prog.fieldsOf 122)) := by kernel_rfl
  have hp : Tryz.prog.stoodInHeld 122 = false := by kernel_rfl
  rw [show (10000 : Nat) = 9999 + 1 from rfl, run_equalIn_agg w 9999 122 _ _ hS hp]
  simp only [Program.fieldsOf, Tryz.underlying122]
  obtain ⟨a1, a2, a3⟩ := a
  obtain ⟨b1, b2, b3⟩ := b
  go_simp
  by_cases h1 : a1 = b1 <;> by_cases h2 : a2 = b2 <;> by_cases h3 : a3 = b3 <;> simp [h1, h2, h3] <;> omega
theorem run_upto {P : Program} (t : TypeId) (i : TypeInfo) (ht : P.underlying t = some (.slice (P.elem t))) (hi : P.info? (P.elem t) = some i) (A : Option Addr) (n c q : Nat) (hq : q ≤ c) (w : World) :
    (Instr.sliceAt t (.slice A n c) none (some (.int .i64 (q : Int))) none).run P w = .ok (.slice A q c) w := by
  rw [run_sliceAt_slice (h := ht), run_slice_h (ht := ht) (h0 := by omega) (h2 := by omega)]
  have : A.map (fun a : Addr => a.add 0) = A := by
    cases A with
    | none => rfl
    | some a => simp [Addr.add]
  simp [sizeOf, typeInfo, hi, sliced, Result.andThen, this]
theorem divF_last {kn : List Spn} {plan xs : List Int} {m : Nat} {x : Int} (hx : xs[m]? = some x) (hl : xs.length = m + 1) (i j : Nat) : divF kn plan xs i j =
    if 0 ≤ x then decide (i < j) && (decide (plan[j - 1]? = some x) && divF kn plan (xs.take m) i (j - 1))
    else (List.range (j + 1)).any fun k => decide (i ≤ k) && (kn.contains ⟨(-1 - x).toNat, k, j⟩ && divF kn plan (xs.take m) i k) := by
  have : xs = xs.take m ++ [x] := by
    obtain ⟨h1, h2⟩ := List.getElem?_eq_some_iff.1 hx
    rw [← h2, List.take_append_getElem, List.take_of_length_le (by omega)]
  conv => lhs; rw [this]
  unfold divF
  rw [List.reverse_append]
  rfl
set_option maxRecDepth 100000 in
set_option maxHeartbeats 1600000 in
theorem spanIn_ct (A : Option Addr) (n c : Nat) (kn : List Spn) (s : Spn) (w : World) (h : Rd Enc.spn w A n c kn) :
    Calls Tryz.prog 71 #[.slice A n c, .agg #[.int .i64 (s.t : Nat), .int .i64 (s.i : Nat), .int .i64 (s.j : Nat)]] w (Gives w (.bool (kn.contains s))) := by
  have hsm := h.low
  have hl := h.len
  obtain ⟨R, hR⟩ : ∃ R, R = kn.contains s := ⟨_, rfl⟩
  rw [← hR]
  have HR := hide hR
  have HL := hide hl
  have H := hide h
  clear h hl hR
  have Hbl := hide (Below.refl w.heap.size w)
  go_enter Tryz.func71, Tryz.ntmps71
  go_upto_region 1 with (fail)
  obtain ⟨B0, hB0⟩ : ∃ B0, B0 = w.heap.size := ⟨_, rfl⟩
  have HB0 := hide hB0
  clear hB0
  have s_0 : B0 ≤ w.heap.size := Nat.le_trans (Nat.le_of_eq HB0.out) Hbl.out.size
  have hyx := Blk.new (w) 122 [.int .i64 (s.t : Nat), .int .i64 (s.i : Nat), .int .i64 (s.j : Nat)]
  have hbW : Below (w).heap.size (w) ((w).alloc (.cells #[.int .i64 (s.t : Nat), .int .i64 (s.i : Nat), .int .i64 (s.j : Nat)] 122)) := (Below.refl _ _).alloc (Nat.le_refl _) _
  obtain ⟨w0, hW⟩ : ∃ W, W = (w).alloc (.cells #[.int .i64 (s.t : Nat), .int .i64 (s.i : Nat), .int .i64 (s.j : Nat)] 122) := ⟨_, rfl⟩
  rw [← hW] at hyx hbW ⊢
  replace Hbl := hide (Hbl.out.trans (hbW.mono Hbl.out.size))
  have Hx := hide hyx
  clear hW hbW hyx
  generalize w.heap.size = gx at Hx s_0 ⊢
  have x0 := Hx.out.cell 0
  have x1 := Hx.out.cell 1
  have x2 := Hx.out.cell 2
  have xl := Hx.out.lt
  simp only [List.getElem?_cons_zero, List.getElem?_cons_succ] at x0 x1 x2
  have a_x : B0 ≤ gx := by omega
  clear s_0
  go_wp2_with fail
  go_loopw [5] (fun i wr => ∃ k : Nat, k ≤ n ∧ i = .int .i64 k ∧ Qt w0 wr ∧ (kn.take k).contains s = false) (fun i _ => n - (intOf i).toNat)
  case atStart => exact ⟨0, by omega, rfl, Qt.refl _, by simp⟩
  case round =>
    obtain ⟨k, hk, rfl, hq, hset⟩ := hrel
    have Hset := hide hset
    have Hq := hide (show Qt w0 wr from hq)
    have Hlr := (H.out.keep Hbl.out).qt hq
    have hb := hq.below w0.heap.size
    clear hset hq x0 x1 x2 xl
    replace Hx := hide (Hx.out.keep hb)
    clear hb
    have x0 := Hx.out.cell 0
    have x1 := Hx.out.cell 1
    have x2 := Hx.out.cell 2
    simp only [List.getElem?_cons_zero, List.getElem?_cons_succ] at x0 x1 x2
    by_cases hlt : k < n
    · obtain ⟨b, off, a, rfl, hx, hc0, hc1, hc2⟩ := Hlr.spn hlt
      have HX2 := hide hx
      clear hx Hlr
      have heq := eqSpn a s
      by_cases e : a = s
      · subst e
        rw [decide_eq_true rfl] at heq
        go_wp2
        go_quiet (fail)
        go_wp2
        go_ret
        refine ⟨ret_bool ?_, Hbl.out.trans ((Hq.out.drewN _).below _)⟩
        rw [HR.out, eq_comm, List.contains_iff_mem]
        exact List.mem_of_getElem? HX2.out
      · rw [decide_eq_false e] at heq
        have He := hide e
        clear e
        go_wp2
        go_quiet (fail)
        go_wp2
        go_roundw
        case rel =>
          refine ⟨k + 1, by omega, by go_num, Hq.out.drewN _, ?_⟩
          rw [List.take_add_one, HX2.out, Option.toList_some, List.contains_append, Hset.out]
          simpa using fun h => He.out h.symm
        case measure => simp [intOf]; omega
    · obtain rfl : k = n := by omega
      go_wp2
      go_ret
      refine ⟨ret_bool ?_, Hbl.out.trans (Hq.out.below _)⟩
      have hs := Hset.out
      rw [List.take_of_length_le (by rw [HL.out]; omega)] at hs
      rw [HR.out, hs]
/-- what divides says of lists with m steps -/
def DivAt (kn : List Spn) (plan : List Int) (m : Nat) : Prop := ∀ (W : World) (Z : Option Addr) (nZ cZ : Nat) (B : Option Addr) (nB cB : Nat) (X : Option Addr) (cX : Nat) (xs : List Int) (i j : Nat), Rd Enc.spn W Z nZ cZ kn → Rd Enc.int W B nB cB plan → Rd Enc.int W X m cX xs → nB ≤ 100000 → i ≤ nB → j ≤ nB →
    Calls Tryz.prog 72 #[.slice Z nZ cZ, .slice B nB cB, .slice X m cX, .int .i64 i, .int .i64 j] W (Gives W (.bool (divF kn plan xs i j)))
set_option maxRecDepth 100000 in
set_option maxHeartbeats 1600000 in
theorem divides_zero (kn : List Spn) (plan : List Int) : DivAt kn plan 0 := by
  intro W Z nZ cZ B nB cB X cX xs i j hZ hB hX hn hi hj
  obtain rfl : xs = [] := List.eq_nil_of_length_eq_zero hX.len
  have e : divF kn plan [] i j = decide (i = j) := rfl
  rw [e]
  by_cases h : i = j
  · subst h
    go_enter Tryz.func72, Tryz.ntmps72
    go_wp2
    go_ret
    exact ⟨ret_bool (by simp), Below.refl _ _⟩
  · have hne : ((i : Int) == (j : Int)) = false := by rw [beq_eq_false_iff_ne]; omega
    go_enter Tryz.func72, Tryz.ntmps72
    go_wp2
    go_ret
    exact ⟨ret_bool (by simp [h]), Below.refl _ _⟩
set_option maxRecDepth 100000 in
set_option maxHeartbeats 6400000 in
theorem divides_succ (kn : List Spn) (plan : List Int) (m : Nat) (ih : DivAt kn plan m) : DivAt kn plan (m + 1) := by
  intro W Z nZ cZ B nB cB X cX xs i j hZ hB hX hn hi hj
  have hm1 := hX.low
  have hcap := hX.cap
  obtain ⟨b1, off1, x, rfl, hx, hx1, hx2, hcx⟩ := hX.int (k := m) (by omega)
  have hdl := divF_last (kn := kn) (plan := plan) hx hX.len i j
  have hra : Rd Enc.int W (some ⟨b1, off1, none⟩) m cX (xs.take m) := hX.upto (by omega)
  obtain ⟨ys, hys⟩ : ∃ ys, ys = xs.take m := ⟨_, rfl⟩
  rw [← hys] at hdl hra
  have hs1 : ∀ w, (Instr.sliceAt 22 (.slice (some ⟨b1, off1, none⟩) (m + 1) cX) none (some (.int .i64 (m : Int))) none).run Tryz.prog w = .ok (.slice (some ⟨b1, off1, none⟩) m cX) w := fun w => run_upto (P := Tryz.prog) 22 Tryz.t3 Tryz.underlying22 (by kernel_rfl) (some ⟨b1, off1, none⟩) (m + 1) cX m (by omega) w
  obtain ⟨R, hR⟩ : ∃ R, R = divF kn plan xs i j := ⟨_, rfl⟩
  rw [← hR] at hdl ⊢
  have HR := hide hdl
  have HZ := hide hZ
  have HB := hide hB
  have HA := hide hra
  have Ih := hide ih
  have HBl := hide hB.len
  clear hZ hB hX hx hdl hra hys hR ih
  have Hbl := hide (Below.refl W.heap.size W)
  have hmi : ((m + 1 : Nat) : Int) - 1 = (m : Int) := by omega
  have hmn : ((((m + 1 : Nat) : Int)) == 0) = false := by rw [beq_eq_false_iff_ne]; omega
  by_cases h0 : 0 ≤ x
  · have d0 : decide (0 ≤ x) = true := decide_eq_true h0
    have hR2 := HR.out
    rw [if_pos h0] at hR2
    by_cases hij : i < j
    rotate_left
    · have hd : decide ((i : Int) < (j : Int)) = false := decide_eq_false (by omega)
      rw [decide_eq_false hij, Bool.false_and] at hR2
      have Hr := hide hR2
      clear hR2
      go_enter Tryz.func72, Tryz.ntmps72
      go_wp2_with fail
      go_ret
      exact ⟨ret_bool (by rw [Hr.out]), Below.refl _ _⟩
    have hd : decide ((i : Int) < (j : Int)) = true := decide_eq_true (by omega)
    rw [decide_eq_true hij, Bool.true_and] at hR2
    obtain ⟨j', rfl⟩ : ∃ j', j = j' + 1 := ⟨j - 1, by omega⟩
    rw [Nat.add_sub_cancel] at hR2
    obtain ⟨b2, off2, y, rfl, hy, hy1, hy2, hcy⟩ := HB.out.int (k := j') (by omega)
    have hji : ((j' + 1 : Nat) : Int) - 1 = (j' : Int) := by omega
    rw [hy] at hR2
    by_cases hyx : y = x
    rotate_left
    · have hd2 : (y == x) = false := by rw [beq_eq_false_iff_ne]; exact hyx
      rw [decide_eq_false (by simpa using hyx), Bool.false_and] at hR2
      have Hr := hide hR2
      clear hR2 hy hyx
      go_enter Tryz.func72, Tryz.ntmps72
      go_wp2_with fail
      go_ret
      exact ⟨ret_bool (by rw [Hr.out]), Below.refl _ _⟩
    subst hyx
    rw [decide_eq_true rfl, Bool.true_and] at hR2
    have hct := Ih.out W Z nZ cZ _ nB cB _ cX ys i j' HZ.out HB.out HA.out hn hi (by omega)
    rw [← hR2] at hct
    have Hct := hide hct
    clear hR2 hy hct
    go_enter Tryz.func72, Tryz.ntmps72
    go_wp2_with fail
    refine Hct.out.mono ?_
    rintro e w1 ⟨rfl, hb⟩
    have Hb := hide hb
    clear hb
    go_wp2_with fail
    go_ret
    exact ⟨rfl, Hb.out⟩
  have d0 : decide (0 ≤ x) = false := decide_eq_false h0
  have hR2 := HR.out
  rw [if_neg h0] at hR2
  have Hr := hide hR2
  clear hR2
  obtain ⟨t, ht⟩ : ∃ t : Nat, t = (-1 - x).toNat := ⟨_, rfl⟩
  have hti : -1 - x = (t : Int) := by omega
  rw [← ht] at Hr
  have Ht := hide ht
  clear ht
  have hwt : IntKind.i64.wrap (-1 - x) = (t : Int) := by rw [IntWalk.i64_in _ (by omega), hti]
  have Hti := hide hti
  clear hti
  go_enter Tryz.func72, Tryz.ntmps72
  go_wp2_with fail
  go_loopw [13] (fun z wr => ∃ k : Nat, i ≤ k ∧ (k ≤ j + 1 ∨ k = i) ∧ z = .int .i64 k ∧ Below W.heap.size W wr ∧ ∀ q, i ≤ q → q < k → (kn.contains ⟨t, q, j⟩ && divF kn plan ys i q) = false) (fun z _ => j + 1 - (intOf z).toNat)
  case atStart => exact ⟨i, Nat.le_refl _, .inr rfl, rfl, Below.refl _ _, fun q h1 h2 => by omega⟩
  case round =>
    obtain ⟨k, hk1, hk2, rfl, hb, hrel⟩ := hrel
    have Hrel := hide hrel
    replace Hbl := hide hb
    clear hb hrel
    by_cases hlt : k ≤ j
    rotate_left
    · have hli : ¬ (k : Int) ≤ (j : Int) := by omega
      have hres : R = false := by
        rw [Hr.out, ← Bool.not_eq_true, List.any_eq_true]
        rintro ⟨q, hq, hq2⟩
        rw [List.mem_range] at hq
        rw [Bool.and_eq_true, decide_eq_true_eq] at hq2
        rw [Hrel.out q hq2.1 (by omega)] at hq2
        cases hq2.2
      have HF := hide hres
      clear hres
      go_wp2_with fail
      go_ret
      exact ⟨ret_bool (by rw [HF.out]), Hbl.out⟩
    have hli : (k : Int) ≤ (j : Int) := by omega
    obtain ⟨u, hu⟩ : ∃ u, u = kn.contains ⟨t, k, j⟩ := ⟨_, rfl⟩
    have hc1 := spanIn_ct Z nZ cZ kn ⟨t, k, j⟩ wr (HZ.out.keep Hbl.out)
    rw [← hu] at hc1
    have HU := hide hu
    clear hu
    go_wp2_with fail
    refine hc1.mono ?_
    rintro e w1 ⟨rfl, hb⟩
    have hb1 := Hbl.out.trans (hb.mono Hbl.out.size)
    replace Hbl := hide hb1
    clear hb hc1 hb1
    cases u with
    | false =>
      go_wp2_with fail
      go_roundw
      case rel =>
        refine ⟨k + 1, by omega, .inl (by omega), by go_num, Hbl.out, fun q h1 h2 => ?_⟩
        rcases Nat.lt_or_ge q k with h3 | h3
        · exact Hrel.out q h1 h3
        · obtain rfl : q = k := by omega
          rw [← HU.out, Bool.false_and]
      case measure => simp [intOf]; omega
    | true =>
      obtain ⟨u2, hu2⟩ : ∃ u, u = divF kn plan ys i k := ⟨_, rfl⟩
      have hc1 := Ih.out w1 Z nZ cZ B nB cB (some ⟨b1, off1, none⟩) cX ys i k (HZ.out.keep Hbl.out) (HB.out.keep Hbl.out) (HA.out.keep Hbl.out) hn hi (by omega)
      rw [← hu2] at hc1
      have HU2 := hide hu2
      clear hu2
      go_wp2_with fail
      refine hc1.mono ?_
      rintro e w2 ⟨rfl, hb⟩
      have hb1 := Hbl.out.trans (hb.mono Hbl.out.size)
      replace Hbl := hide hb1
      clear hb hc1 hb1
      cases u2 with
      | false =>
        go_wp2_with fail
        go_roundw
        case rel =>
          refine ⟨k + 1, by omega, .inl (by omega), by go_num, Hbl.out, fun q h1 h2 => ?_⟩
          rcases Nat.lt_or_ge q k with h3 | h3
          · exact Hrel.out q h1 h3
          · obtain rfl : q = k := by omega
            rw [← HU2.out, Bool.and_false]
        case measure => simp [intOf]; omega
      | true =>
        have hres : R = true := by
          rw [Hr.out, List.any_eq_true]
          exact ⟨k, List.mem_range.2 (by omega), by rw [← HU.out, ← HU2.out, decide_eq_true hk1]; rfl⟩
        have HF := hide hres
        clear hres
        go_wp2_with fail
        go_ret
        exact ⟨ret_bool (by rw [HF.out]), Hbl.out⟩
theorem divides_ct (kn : List Spn) (plan : List Int) : ∀ m, DivAt kn plan m := by
  intro m
  induction m with
  | zero => exact divides_zero kn plan
  | succ m ih => exact divides_succ kn plan m ih
end Go.Proofs.YtmjiiddncbhgpaaGreat
