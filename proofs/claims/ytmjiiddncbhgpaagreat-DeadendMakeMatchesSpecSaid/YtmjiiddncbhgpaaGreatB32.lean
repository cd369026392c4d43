/- Dead ends: the law that Make answers as the specification requires. No condition., part 32: Dr2. -/
import Derived.Test.YtmjiiddncbhgpaaGreatB1
import Derived.Test.YtmjiiddncbhgpaaGreatB2
import Derived.Test.YtmjiiddncbhgpaaGreatB3
import Derived.Test.YtmjiiddncbhgpaaGreatB4
import Derived.Test.YtmjiiddncbhgpaaGreatB5
import Derived.Test.YtmjiiddncbhgpaaGreatB6
import Derived.Test.YtmjiiddncbhgpaaGreatB7
import Derived.Test.YtmjiiddncbhgpaaGreatB8
import Derived.Test.YtmjiiddncbhgpaaGreatB9
import Derived.Test.YtmjiiddncbhgpaaGreatB10
import Derived.Test.YtmjiiddncbhgpaaGreatB11
import Derived.Test.YtmjiiddncbhgpaaGreatB12
import Derived.Test.YtmjiiddncbhgpaaGreatB13
import Derived.Test.YtmjiiddncbhgpaaGreatB14
import Derived.Test.YtmjiiddncbhgpaaGreatB15
import Derived.Test.YtmjiiddncbhgpaaGreatB16
import Derived.Test.YtmjiiddncbhgpaaGreatB17
import Derived.Test.YtmjiiddncbhgpaaGreatB18
import Derived.Test.YtmjiiddncbhgpaaGreatB19
import Derived.Test.YtmjiiddncbhgpaaGreatB20
import Derived.Test.YtmjiiddncbhgpaaGreatB21
import Derived.Test.YtmjiiddncbhgpaaGreatB22
import Derived.Test.YtmjiiddncbhgpaaGreatB24
import Derived.Test.YtmjiiddncbhgpaaGreatB25
import Derived.Test.YtmjiiddncbhgpaaGreatB26
import Derived.BigQuiet
import Derived.Deep.AppendLies
import Derived.Deep.DeepCutAuto
import Derived.Deep.Draws
import Derived.Deep.Fields
import Derived.Deep.LoopGhost
import Derived.Deep.QuietTactic
import Derived.Deep.RegionHeld
import Derived.Deep.RegionHeld3
import Derived.Deep.RegionLaw
import Derived.Deep.Slices
import Derived.DeepKeys4
import Derived.Ground.Names2Prog
import Derived.Ground.SlgnProg
import Derived.IntWalk
import Derived.Laws.AppendOwnNone
import Derived.Laws.BitsAllLaws
import Derived.Laws.EntriesVeiled
import Derived.Laws.OwnMore
import Derived.Lib.Hide
import Derived.Lib.SlicesCompact
import Derived.LoopIn
import Derived.LoopNIn
import Derived.Maps.AppendAt
import Derived.Maps.OwnIn
import Derived.Maps.OwnOps
import Derived.Maps.OwnSet
import Derived.OrdersHeld
import Derived.OrdersIn
import Derived.OwnWalkIn
import Derived.ProofKit
import Derived.RangeFuncBound
import Derived.RangeFuncCalls
import Derived.RangeFuncLeaves
import Derived.RangeFuncNested
import Derived.Shelf.Abstract
import Derived.Shelf.RegionOpen
import Derived.Shelf.Slices.Cells
import Derived.Shelf.Slices.Clone
import Derived.Shelf.Slices.CompactI
import Derived.Shelf.Slices.Empties
import Derived.Shelf.Slices.In.SortNone
import Derived.Shelf.Slices.SearchI
import Derived.Shelf.Sort.Plain
import Derived.Sort.OwnSortedInts
import Derived.StillTail
import Derived.StillTailTactics
import Derived.TacticsInMore
import Derived.Test.YtmjiiddncbhgpaaGreatProg
import Derived.WalkKit
import Init
namespace Go.Proofs.YtmjiiddncbhgpaaGreat
set_option linter.unusedVariables false
set_option linter.unusedSimpArgs false
open Go.RowKit
theorem toGives {P : Program} {f : FuncId} {args : Array Value} {w : World} {v : Value} (h : Calls P f args w (Quiet w v)) : Calls P f args w (Gives w v) := h.mono fun e w' h => ⟨h.1, h.2.below _⟩
theorem all_upto {p : Nat → Bool} {n : Nat} (h : ∀ j, j < n → p j = true) : (List.range n).all p = true := List.all_eq_true.2 (fun j hj => h j (List.mem_range.1 hj))
theorem all_fail {p : Nat → Bool} {n j : Nat} (hj : j < n) (h : p j = false) : (List.range n).all p = false := by
  rw [Bool.eq_false_iff]
  intro e
  have := List.all_eq_true.1 e j (List.mem_range.2 hj)
  rw [h] at this
  cases this
/-- an operator at a state -/
def opOk (N : Nat) (cs : List SS) (s : List Int) (o : Opr) : Bool := !subsetB o.pre s || inSetsB cs (aftR N o s)
set_option maxRecDepth 100000 in
set_option maxHeartbeats 6400000 in
theorem Proves_ct (a : TA) (T : Tsk) (N : Nat) (A : Option Addr) (n c : Nat) (l : List SS) (w : World) (h : TkR w a T) (hok : OkT T N) (hl : Rd Enc.ss w A n c l) :
    Calls Tryz.prog 15 #[.agg #[.int .i64 T.facts, .slice a.I a.nI a.cI, .slice a.G a.nG a.cG, .slice a.O a.nO a.cO], .slice A n c] w (Gives w (.bool (provesB N T l))) := by
  have hiw := fun W (hW : Below w.heap.size w W) (B : Option Addr) (m d : Nat) (s : List Int) (hs : Rd Enc.int W B m d s) => toGives (InSets_ct A B n c m d l s W (hl.keep hW) hs)
  have hap := fun W (hW : Below w.heap.size w W) B m d s q hs hq => RApplies_ct a T B m d s q W (h.keep hW) hs hq
  have haf := fun W (hW : Below w.heap.size w W) B m d s q hs hq => RAfter_ct a T N B m d s q W (h.keep hW) hok.facts (by have := hok.low; omega) hs hq
  obtain ⟨I, nI, cI, G, nG, cG, O, nO, cO⟩ := a
  simp only at hap haf ⊢
  have hf := hok.facts
  have hN := hok.low
  obtain ⟨T0, T1, T2, T3⟩ := T
  simp only at hf
  subst hf
  obtain ⟨R, hR⟩ : ∃ R, R = provesB N ⟨N, T1, T2, T3⟩ l := ⟨_, rfl⟩
  rw [← hR]
  unfold provesB at hR
  have hOl := h.ops.low
  have Hol := hide (show T3.length = nO from h.ops.len)
  have hgs := fun W (hW : Below w.heap.size w W) (B : Option Addr) (m d : Nat) (s : List Int) (hs : Rd Enc.int W B m d s) => toGives (Subset_ct G B nG cG m d T2 s W (h.goal.keep hW) hs)
  obtain ⟨v0, hv0⟩ : ∃ z, z = inSetsB l T1 := ⟨_, rfl⟩
  have hi0 := fun W (hW : Below w.heap.size w W) => hiw W hW I nI cI T1 (h.init.keep hW)
  simp only [← hv0] at hi0
  rw [← hv0] at hR
  have hpp : 2 ^ N ≤ 16777216 := by
    have := Nat.pow_le_pow_right (n := 2) (by omega) hN
    simpa using this
  obtain ⟨X, hX⟩ : ∃ X, X = 2 ^ N := ⟨_, rfl⟩
  have hsh : Op.shift .shl .i64 1 .u64 (N : Int) = pure (.int .i64 (X : Nat)) := by
    rw [shift_shl_any _ _ _ _ (by omega)]
    have hm : min (N : Int).toNat IntKind.i64.bits = N := by rw [Int.toNat_natCast]; exact Nat.min_eq_left (by show N ≤ 64; omega)
    have e : ((2 : Int) ^ N) = (X : Int) := by rw [hX]; simp
    rw [hm, Int.one_mul, e, IntWalk.i64_in _ (by omega)]
  rw [← hX] at hpp hR
  have H := hide h
  have Hl := hide hl
  have HR := hide hR
  have Hiw := hide hiw
  have Hap := hide hap
  have Haf := hide haf
  have Hgs := hide hgs
  have Hi0 := hide hi0
  have Hsh := hide hsh
  have HX := hide hX
  have Hok := hide hok
  clear h hl hok hiw hap haf hgs hi0 hR hsh hX hv0
  have Hbl := hide (Below.refl w.heap.size w)
  go_enter Tryz.func15, Tryz.ntmps15
  go_upto_region 1 with (fail)
  obtain ⟨B0, hB0⟩ : ∃ B0, B0 = w.heap.size := ⟨_, rfl⟩
  have HB0 := hide hB0
  clear hB0
  have s_0 : B0 ≤ w.heap.size := Nat.le_trans (Nat.le_of_eq HB0.out) Hbl.out.size
  have hyt := Blk.new (w) 25 [.int .i64 (N : Nat), .slice I nI cI, .slice G nG cG, .slice O nO cO]
  have hbW : Below (w).heap.size (w) ((w).alloc (.cells #[.int .i64 (N : Nat), .slice I nI cI, .slice G nG cG, .slice O nO cO] 25)) := (Below.refl _ _).alloc (Nat.le_refl _) _
  obtain ⟨w0, hW⟩ : ∃ W, W = (w).alloc (.cells #[.int .i64 (N : Nat), .slice I nI cI, .slice G nG cG, .slice O nO cO] 25) := ⟨_, rfl⟩
  rw [← hW] at hyt hbW ⊢
  replace Hbl := hide (Hbl.out.trans (hbW.mono Hbl.out.size))
  have Ht := hide hyt
  clear hW hbW hyt
  generalize w.heap.size = gT at Ht s_0 ⊢
  have t0 := Ht.out.cell 0
  have t1 := Ht.out.cell 1
  have t2 := Ht.out.cell 2
  have t3 := Ht.out.cell 3
  have tl := Ht.out.lt
  simp only [List.getElem?_cons_zero, List.getElem?_cons_succ] at t0 t1 t2 t3
  have a_t : B0 ≤ gT := by omega
  clear s_0
  go_wp2_with fail
  with_reducible refine (Hi0.out _ Hbl.out).mono ?_
  rintro e w1 ⟨rfl, hb⟩
  clear t0 t1 t2 t3 tl
  replace Ht := hide (Ht.out.keep hb)
  replace Hbl := hide (Hbl.out.trans (hb.mono Hbl.out.size))
  clear hb
  have t0 := Ht.out.cell 0
  have t1 := Ht.out.cell 1
  have t2 := Ht.out.cell 2
  have t3 := Ht.out.cell 3
  have tl := Ht.out.lt
  simp only [List.getElem?_cons_zero, List.getElem?_cons_succ] at t0 t1 t2 t3
  cases v0 with
  | false =>
    go_wp2_with fail
    go_ret
    exact ⟨ret_bool (by rw [HR.out]; rfl), Hbl.out⟩
  | true =>
    have hR2 : R = (List.range X).all (provesAt N ⟨N, T1, T2, T3⟩ l) := by rw [HR.out, Bool.true_and]
    replace HR := hide hR2
    clear hR2
    go_wp2_with fail
    have Kt := Ht
    have Kbl := Hbl
    clear t0 t1 t2 t3 tl
    go_loopw [5] (fun i wr => ∃ k : Nat, k ≤ X ∧ i = .int .i64 k ∧ Below w1.heap.size w1 wr ∧ ∀ j, j < k → provesAt N ⟨N, T1, T2, T3⟩ l j = true) (fun i _ => X - (intOf i).toNat)
    case atStart => exact ⟨0, by omega, rfl, Below.refl _ _, fun j hj => by omega⟩
    case round =>
      obtain ⟨k, hk, rfl, hb, hall⟩ := hrel
      obtain ⟨wo, rfl⟩ : ∃ V, V = wr := ⟨_, rfl⟩
      have Hall := hide hall
      have Hb1 := hide hb
      replace Ht := hide (Kt.out.keep hb)
      replace Hbl := hide (Kbl.out.trans (hb.mono Kbl.out.size))
      clear hall hb
      have t0 := Ht.out.cell 0
      have t1 := Ht.out.cell 1
      have t2 := Ht.out.cell 2
      have t3 := Ht.out.cell 3
      have tl := Ht.out.lt
      simp only [List.getElem?_cons_zero, List.getElem?_cons_succ] at t0 t1 t2 t3
      by_cases hlt : k < X
      rotate_left
      · obtain rfl : k = X := by omega
        go_wp2_with (refine wpList_shlV rfl rfl rfl rfl Hsh.out ?_)
        go_ret
        exact ⟨ret_bool (by rw [HR.out, all_upto Hall.out]), Hbl.out⟩
      have hki : (k : Int) < (X : Int) := by omega
      have hmb := Members_ct k N (by omega) (by omega) wo
      obtain ⟨s, hs⟩ : ∃ s, s = membI k N := ⟨_, rfl⟩
      have hset : setB N s = true := by rw [hs]; exact memb_set k N
      have hat : provesAt N ⟨N, T1, T2, T3⟩ l k = (!inSetsB l s || (!subsetB T2 s && T3.all (opOk N l s))) := by rw [hs]; rfl
      rw [← hs] at hmb
      have Hmb := hide hmb
      have Hset := hide hset
      have Hat := hide hat
      clear hmb hs hset hat
      go_wp2_with (refine wpList_shlV rfl rfl rfl rfl Hsh.out ?_)
      with_reducible refine Hmb.out.mono ?_
      rintro e w2 ⟨hb, S, sc, rfl, hown⟩
      have hrs := own_rd hown rfl (fun x hx => by have := (setB_iff.1 Hset.out).2 x hx; omega)
      have Hrs := hide hrs
      clear hown hrs
      clear t0 t1 t2 t3 tl
      replace Ht := hide (Ht.out.keep hb)
      replace Hbl := hide (Hbl.out.trans (hb.mono Hbl.out.size))
      replace Hb1 := hide (Hb1.out.trans (hb.mono Hb1.out.size))
      clear hb
      have t0 := Ht.out.cell 0
      have t1 := Ht.out.cell 1
      have t2 := Ht.out.cell 2
      have t3 := Ht.out.cell 3
      have tl := Ht.out.lt
      simp only [List.getElem?_cons_zero, List.getElem?_cons_succ] at t0 t1 t2 t3
      obtain ⟨sn, hsn⟩ : ∃ z, z = s.length := ⟨_, rfl⟩
      rw [← hsn] at Hrs ⊢
      clear hsn
      have hin := Hiw.out _ Hbl.out S sn sc s Hrs.out
      obtain ⟨v1, hv1⟩ : ∃ z, z = inSetsB l s := ⟨_, rfl⟩
      rw [← hv1] at hin
      have Hin := hide hin
      have Hv1 := hide hv1
      clear hin hv1
      go_wp2_with fail
      with_reducible refine (Hin.out).mono ?_
      rintro e w3 ⟨rfl, hb⟩
      clear t0 t1 t2 t3 tl
      replace Ht := hide (Ht.out.keep hb)
      replace Hrs := hide (Hrs.out.keep hb)
      replace Hbl := hide (Hbl.out.trans (hb.mono Hbl.out.size))
      replace Hb1 := hide (Hb1.out.trans (hb.mono Hb1.out.size))
      clear hb
      have t0 := Ht.out.cell 0
      have t1 := Ht.out.cell 1
      have t2 := Ht.out.cell 2
      have t3 := Ht.out.cell 3
      have tl := Ht.out.lt
      simp only [List.getElem?_cons_zero, List.getElem?_cons_succ] at t0 t1 t2 t3
      cases v1 with
      | false =>
        go_wp2_with fail
        go_roundw
        case rel => exact ⟨k + 1, by omega, by go_num, Hb1.out, fun j hj => by
          rcases Nat.lt_or_ge j k with h | h
          · exact Hall.out j h
          · obtain rfl : j = k := by omega
            rw [Hat.out, ← Hv1.out]
            rfl⟩
        case measure => simp [intOf]; omega
      | true =>
        have hgo := Hgs.out _ Hbl.out S sn sc s Hrs.out
        obtain ⟨v2, hv2⟩ : ∃ z, z = subsetB T2 s := ⟨_, rfl⟩
        rw [← hv2] at hgo
        have Hgo := hide hgo
        have Hv2 := hide hv2
        clear hgo hv2
        go_wp2_with fail
        with_reducible refine (Hgo.out).mono ?_
        rintro e w4 ⟨rfl, hb⟩
        clear t0 t1 t2 t3 tl
        replace Ht := hide (Ht.out.keep hb)
        replace Hrs := hide (Hrs.out.keep hb)
        replace Hbl := hide (Hbl.out.trans (hb.mono Hbl.out.size))
        replace Hb1 := hide (Hb1.out.trans (hb.mono Hb1.out.size))
        clear hb
        have t0 := Ht.out.cell 0
        have t1 := Ht.out.cell 1
        have t2 := Ht.out.cell 2
        have t3 := Ht.out.cell 3
        have tl := Ht.out.lt
        simp only [List.getElem?_cons_zero, List.getElem?_cons_succ] at t0 t1 t2 t3
        cases v2 with
        | true =>
          go_wp2_with fail
          go_ret
          exact ⟨ret_bool (by rw [HR.out, all_fail hlt (by rw [Hat.out, ← Hv1.out, ← Hv2.out]; rfl)]), Hbl.out⟩
        | false =>
          have Hat2 := hide (show provesAt N ⟨N, T1, T2, T3⟩ l k = T3.all (opOk N l s) by rw [Hat.out, ← Hv1.out, ← Hv2.out]; rfl)
          go_wp2_with fail
          have Lt := Ht
          have Lbl := Hbl
          have Lrs := Hrs
          have Lb1 := Hb1
          clear t0 t1 t2 t3 tl
          go_loopw [7] (fun i wr => ∃ q : Nat, q ≤ nO ∧ i = .int .i64 q ∧ Below w4.heap.size w4 wr ∧ ∀ o ∈ T3.take q, opOk N l s o = true) (fun i _ => nO - (intOf i).toNat)
          case atStart => exact ⟨0, by omega, rfl, Below.refl _ _, fun o ho => by simp at ho⟩
          case round =>
            obtain ⟨q, hq, rfl, hb, hops⟩ := hrel
            have Hops := hide hops
            replace Ht := hide (Lt.out.keep hb)
            replace Hrs := hide (Lrs.out.keep hb)
            replace Hbl := hide (Lbl.out.trans (hb.mono Lbl.out.size))
            replace Hb1 := hide (Lb1.out.trans (hb.mono Lb1.out.size))
            have Hb4 := hide hb
            clear hops hb
            have t0 := Ht.out.cell 0
            have t1 := Ht.out.cell 1
            have t2 := Ht.out.cell 2
            have t3 := Ht.out.cell 3
            have tl := Ht.out.lt
            simp only [List.getElem?_cons_zero, List.getElem?_cons_succ] at t0 t1 t2 t3
            by_cases hlq : q < nO
            rotate_left
            · obtain rfl : q = nO := by omega
              have hfin : provesAt N ⟨N, T1, T2, T3⟩ l k = true := by
                rw [Hat2.out]
                exact List.all_eq_true.2 (fun o ho => Hops.out o (by rw [List.take_of_length_le (by rw [Hol.out]; omega)]; exact ho))
              have Hfin := hide hfin
              clear hfin
              go_wp2_with fail
              go_roundw
              case rel =>
                have hrel2 : ∀ j, j < k + 1 → provesAt N ⟨N, T1, T2, T3⟩ l j = true := fun j hj => by
                  rcases Nat.lt_or_ge j k with h | h
                  · exact Hall.out j h
                  · obtain rfl : j = k := by omega
                    exact Hfin.out
                first
                  | exact ⟨k + 1, by omega, by go_num, Hb1.out, hrel2⟩
                  | exact ⟨_, _, _, ⟨k + 1, by omega, rfl, Hb1.out, hrel2⟩, rfl, rfl, by go_num⟩
                  | (trace_state; fail)
              case measure => simp [intOf]; omega
            obtain ⟨o, ho⟩ : ∃ o, T3[q]? = some o := ⟨_, List.getElem?_eq_getElem (by rw [Hol.out]; exact hlq)⟩
            have hqi : (q : Int) < (nO : Int) := by omega
            have hoa : opAt T3 (q : Int) = o := opAt_eq ho
            have hap := Hap.out _ Hbl.out S sn sc s q Hrs.out hlq
            have haf := fun W (hW : Below w.heap.size w W) hrs => Haf.out W hW S sn sc s q hrs hlq
            rw [hoa] at hap
            simp only [hoa] at haf
            have hok1 : opOk N l s o = (!subsetB o.pre s || inSetsB l (aftR N o s)) := rfl
            obtain ⟨v3, hv3⟩ : ∃ z, z = subsetB o.pre s := ⟨_, rfl⟩
            rw [← hv3] at hap hok1
            have hsucc : opOk N l s o = true → ∀ o' ∈ T3.take (q + 1), opOk N l s o' = true := fun h1 o' ho' => by
              rw [List.take_add_one, ho, List.mem_append] at ho'
              rcases ho' with ho' | ho'
              · exact Hops.out o' ho'
              · simp at ho'; subst ho'; exact h1
            have hfl : opOk N l s o = false → provesAt N ⟨N, T1, T2, T3⟩ l k = false := fun h1 => by
              rw [Hat2.out, Bool.eq_false_iff]
              intro e
              have := List.all_eq_true.1 e o (List.mem_of_getElem? ho)
              rw [h1] at this
              cases this
            have hst : setB N (aftR N o s) = true := by rw [aftR_upd (Hok.out.ops o (List.mem_of_getElem? ho)) Hset.out]; exact updF_set (setB_iff.1 Hset.out).2 (setB_iff.1 (Hok.out.ops o (List.mem_of_getElem? ho)).add).2
            have Hst := hide hst
            have Happ := hide hap
            have Haft := hide haf
            have Hok1 := hide hok1
            have Hsucc := hide hsucc
            have Hfl := hide hfl
            clear hap haf hok1 hv3 hsucc hfl ho hst hoa
            go_wp2_with fail
            with_reducible refine (Happ.out).mono ?_
            rintro e w5 ⟨rfl, hb⟩
            clear t0 t1 t2 t3 tl
            replace Ht := hide (Ht.out.keep hb)
            replace Hrs := hide (Hrs.out.keep hb)
            replace Hbl := hide (Hbl.out.trans (hb.mono Hbl.out.size))
            replace Hb1 := hide (Hb1.out.trans (hb.mono Hb1.out.size))
            replace Hb4 := hide (Hb4.out.trans (hb.mono Hb4.out.size))
            clear hb
            have t0 := Ht.out.cell 0
            have t1 := Ht.out.cell 1
            have t2 := Ht.out.cell 2
            have t3 := Ht.out.cell 3
            have tl := Ht.out.lt
            simp only [List.getElem?_cons_zero, List.getElem?_cons_succ] at t0 t1 t2 t3
            cases v3 with
            | false =>
              go_wp2_with fail
              go_roundw
              case rel => exact ⟨q + 1, by omega, by go_num, Hb4.out, Hsucc.out (by rw [Hok1.out]; rfl)⟩
              case measure => simp [intOf]; omega
            | true =>
              go_wp2_with fail
              with_reducible refine (Haft.out _ Hbl.out Hrs.out).mono ?_
              rintro e w6 ⟨hb, U, uc, rfl, hown⟩
              have hru := own_rd hown rfl (fun x hx => by have := (setB_iff.1 Hst.out).2 x hx; omega)
              have Hru := hide hru
              clear hown hru
              clear t0 t1 t2 t3 tl
              replace Ht := hide (Ht.out.keep hb)
              replace Hrs := hide (Hrs.out.keep hb)
              replace Hbl := hide (Hbl.out.trans (hb.mono Hbl.out.size))
              replace Hb1 := hide (Hb1.out.trans (hb.mono Hb1.out.size))
              replace Hb4 := hide (Hb4.out.trans (hb.mono Hb4.out.size))
              clear hb
              have t0 := Ht.out.cell 0
              have t1 := Ht.out.cell 1
              have t2 := Ht.out.cell 2
              have t3 := Ht.out.cell 3
              have tl := Ht.out.lt
              simp only [List.getElem?_cons_zero, List.getElem?_cons_succ] at t0 t1 t2 t3
              have hin2 := Hiw.out _ Hbl.out U _ uc _ Hru.out
              obtain ⟨v4, hv4⟩ : ∃ z, z = inSetsB l (aftR N o s) := ⟨_, rfl⟩
              rw [← hv4] at hin2
              have hok2 := Hok1.out
              rw [← hv4] at hok2
              have Hin2 := hide hin2
              have Hok2 := hide hok2
              clear hin2 hok2 hv4
              obtain ⟨un, hun⟩ : ∃ z, z = (aftR N o s).length := ⟨_, rfl⟩
              rw [← hun] at Hin2 Hru ⊢
              clear hun
              go_wp2_with fail
              with_reducible refine (Hin2.out).mono ?_
              rintro e w7 ⟨rfl, hb⟩
              clear t0 t1 t2 t3 tl
              replace Ht := hide (Ht.out.keep hb)
              replace Hrs := hide (Hrs.out.keep hb)
              replace Hbl := hide (Hbl.out.trans (hb.mono Hbl.out.size))
              replace Hb1 := hide (Hb1.out.trans (hb.mono Hb1.out.size))
              replace Hb4 := hide (Hb4.out.trans (hb.mono Hb4.out.size))
              clear hb
              have t0 := Ht.out.cell 0
              have t1 := Ht.out.cell 1
              have t2 := Ht.out.cell 2
              have t3 := Ht.out.cell 3
              have tl := Ht.out.lt
              simp only [List.getElem?_cons_zero, List.getElem?_cons_succ] at t0 t1 t2 t3
              cases v4 with
              | false =>
                go_wp2_with fail
                go_ret
                exact ⟨ret_bool (by rw [HR.out, all_fail hlt (Hfl.out (by rw [Hok2.out]; rfl))]), Hbl.out⟩
              | true =>
                go_wp2_with fail
                go_roundw
                case rel => exact ⟨q + 1, by omega, by go_num, Hb4.out, Hsucc.out (by rw [Hok2.out]; rfl)⟩
                case measure => simp [intOf]; omega
end Go.Proofs.YtmjiiddncbhgpaaGreat
