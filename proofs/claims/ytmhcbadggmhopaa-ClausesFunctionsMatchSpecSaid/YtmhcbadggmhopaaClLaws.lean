/- The laws on formulas: the example that each of them asks first. -/
import Derived.Test.YtmhcbadggmhopaaCl4
import Derived.Test.YtmhcbadggmhopaaRef6b
import Derived.Deep.DeepCutAuto
import Derived.Deep.RegionHeld3
namespace Go.Proofs.Ytmhcbadggmhopaa
open Go.RowKit

theorem ex_fault : cnfFault 3 [[-1, 2], [-2, 3]] = (0, 0) := by decide
theorem ex_code : clauseCode 3 none [1] = 0 := by decide
theorem ex_prop : propR 3 [[-1, 2], [-2, 3]] [1] = some [1, 2, 3] := by decide
theorem ex_holds : holdsR 3 [[-1, 2], [-2, 3]] [true, true, true] = (true, 0, 0) := by decide

/-- a row of cells that came to be written out -/
theorem Rd.lit_ints {w : World} {g : Nat} {t : TypeId} (l : List Int) (hb : Blk t w g (l.map (Value.int .i64))) (hl : l.length ≤ 1000) (hr : ∀ x ∈ l, -1000 ≤ x ∧ x ≤ 1000) : Rd Enc.int w (some ⟨g, 0, none⟩) l.length l.length l :=
  ⟨rfl, Nat.le_refl _, by omega, fun h => (by cases h), fun _ => ⟨g, 0, rfl, fun j x hj => ⟨[.int .i64 x], ⟨rfl, by have := hr x (List.mem_of_getElem? hj); omega, by have := hr x (List.mem_of_getElem? hj); omega⟩, fun i v hi => by
    cases i with
    | succ i => simp at hi
    | zero =>
      simp at hi
      subst hi
      have := hb.cell j
      rw [List.getElem?_map, hj] at this
      simpa [Enc.int] using this⟩⟩⟩

theorem Rd.lit_bools {w : World} {g : Nat} {t : TypeId} (l : List Bool) (hb : Blk t w g (l.map Value.bool)) (hl : l.length ≤ 1000) : Rd Enc.bool w (some ⟨g, 0, none⟩) l.length l.length l :=
  ⟨rfl, Nat.le_refl _, by omega, fun h => (by cases h), fun _ => ⟨g, 0, rfl, fun j x hj => ⟨[.bool x], rfl, fun i v hi => by
    cases i with
    | succ i => simp at hi
    | zero =>
      simp at hi
      subst hi
      have := hb.cell j
      rw [List.getElem?_map, hj] at this
      simpa [Enc.bool] using this⟩⟩⟩
theorem Rd.lit_sl {α : Type} {E : Enc α} {w : World} {g : Nat} {t : TypeId} (vs : List Value) (xs : List (List α)) (hb : Blk t w g vs) (hl : xs.length ≤ 1000) (he : ∀ (j : Nat) (x : List α), xs[j]? = some x → ∃ (A : Option Addr) (n c : Nat), vs[j]? = some (Value.slice A n c) ∧ Rd E w A n c x) :
    Rd (Enc.sl E) w (some ⟨g, 0, none⟩) xs.length xs.length xs :=
  ⟨rfl, Nat.le_refl _, by omega, fun h => (by cases h), fun _ => ⟨g, 0, rfl, fun j x hj => by
    obtain ⟨A, n, c, hv, hr⟩ := he j x hj
    refine ⟨[.slice A n c], ⟨A, n, c, rfl, hr⟩, fun i v hi => ?_⟩
    cases i with
    | succ i => simp at hi
    | zero =>
      simp at hi
      subst hi
      have := hb.cell j
      rw [hv] at this
      simpa [Enc.sl] using this⟩⟩

/-- the formula of the example, as it comes to lie in memory; what stands beside it -/
def exW (w : World) : World :=
  ((w.alloc (.cells #[.int .i64 (-1), .int .i64 2] 3)).alloc (.cells #[.int .i64 (-2), .int .i64 3] 3)).alloc (.cells #[.slice (some ⟨w.heap.size, 0, none⟩) 2 2, .slice (some ⟨w.heap.size + 1, 0, none⟩) 2 2] 25)
def exW2 (w : World) : World :=
  ((exW w).alloc (.cells #[.int .i64 3, .slice (some ⟨w.heap.size + 1 + 1, 0, none⟩) 2 2] 24)).alloc (.cells #[.int .i64 1] 3)
theorem exW2_facts (w : World) : Rd (Enc.sl Enc.int) (exW2 w) (some ⟨w.heap.size + 1 + 1, 0, none⟩) 2 2 [[-1, 2], [-2, 3]] ∧ Rd Enc.int (exW2 w) (some ⟨w.heap.size + 1 + 1 + 1 + 1, 0, none⟩) 1 1 [1] ∧
    Blk 24 (exW2 w) (w.heap.size + 1 + 1 + 1) [.int .i64 3, .slice (some ⟨w.heap.size + 1 + 1, 0, none⟩) 2 2] ∧ Below w.heap.size w (exW2 w) ∧ (exW2 w).heap.size = w.heap.size + 5 := by
  have h0 : Blk 3 (exW2 w) w.heap.size ([-1, 2].map (Value.int .i64)) := ((((Blk.new w 3 _).alloc _).alloc _).alloc _).alloc _
  have h1 : Blk 3 (exW2 w) (w.heap.size + 1) ([-2, 3].map (Value.int .i64)) := by
    have := (((Blk.new (w.alloc (.cells #[.int .i64 (-1), .int .i64 2] 3)) 3 [.int .i64 (-2), .int .i64 3]).alloc (.cells #[.slice (some ⟨w.heap.size, 0, none⟩) 2 2, .slice (some ⟨w.heap.size + 1, 0, none⟩) 2 2] 25)).alloc (.cells #[.int .i64 3, .slice (some ⟨w.heap.size + 1 + 1, 0, none⟩) 2 2] 24)).alloc (.cells #[.int .i64 1] 3)
    simpa [exW2, exW] using this
  have h2 : Blk 25 (exW2 w) (w.heap.size + 1 + 1) [.slice (some ⟨w.heap.size, 0, none⟩) 2 2, .slice (some ⟨w.heap.size + 1, 0, none⟩) 2 2] := by
    have := ((Blk.new ((w.alloc (.cells #[.int .i64 (-1), .int .i64 2] 3)).alloc (.cells #[.int .i64 (-2), .int .i64 3] 3)) 25 [.slice (some ⟨w.heap.size, 0, none⟩) 2 2, .slice (some ⟨w.heap.size + 1, 0, none⟩) 2 2]).alloc (.cells #[.int .i64 3, .slice (some ⟨w.heap.size + 1 + 1, 0, none⟩) 2 2] 24)).alloc (.cells #[.int .i64 1] 3)
    simpa [exW2, exW] using this
  have h3 : Blk 24 (exW2 w) (w.heap.size + 1 + 1 + 1) [.int .i64 3, .slice (some ⟨w.heap.size + 1 + 1, 0, none⟩) 2 2] := by
    have := (Blk.new (exW w) 24 [.int .i64 3, .slice (some ⟨w.heap.size + 1 + 1, 0, none⟩) 2 2]).alloc (.cells #[.int .i64 1] 3)
    simpa [exW2, exW] using this
  have h4 : Blk 3 (exW2 w) (w.heap.size + 1 + 1 + 1 + 1) ([1].map (Value.int .i64)) := by
    have := Blk.new ((exW w).alloc (.cells #[.int .i64 3, .slice (some ⟨w.heap.size + 1 + 1, 0, none⟩) 2 2] 24)) 3 [.int .i64 1]
    simpa [exW2, exW] using this
  have hb : Below w.heap.size w (exW2 w) := by
    unfold exW2 exW
    exact (((((Below.refl _ _).alloc (Nat.le_refl _) _).alloc (by simp) _).alloc (by simp; omega) _).alloc (by simp; omega) _).alloc (by simp; omega) _
  refine ⟨?_, Rd.lit_ints [1] h4 (by decide) (by decide), h3, hb, by simp [exW2, exW]⟩
  refine Rd.lit_sl _ [[-1, 2], [-2, 3]] h2 (by decide) (fun j x hj => ?_)
  match j with
  | 0 =>
    obtain rfl : [-1, 2] = x := by simpa using hj
    exact ⟨_, _, _, rfl, Rd.lit_ints [-1, 2] h0 (by decide) (by decide)⟩
  | 1 =>
    obtain rfl : [-2, 3] = x := by simpa using hj
    exact ⟨_, _, _, rfl, Rd.lit_ints [-2, 3] h1 (by decide) (by decide)⟩
  | j + 2 => simp at hj

theorem field_code (x y : Value) (w : World) : (Instr.field 28 (.agg #[x, y]) 0).run Try.prog w = .ok x w := by kernel_rfl
theorem field_int (x : Int) (y : Value) (w : World) : (Instr.field 28 (.agg #[.int .i64 x, y]) 0).run Try.prog w = .ok (.int .i64 x) w := by kernel_rfl

/-- all that Propagate answers -/
def propF (v : Int) (cs : List (List Int)) (a : List Int) : List Int × Bool × Int × Int :=
  if (cnfFault v cs).1 ≠ 0 then ([], false, (cnfFault v cs).1, (cnfFault v cs).2) else if clauseCode v none a ≠ 0 then ([], false, clauseCode v none a, -2) else ((propR v.toNat cs a).getD [], (propR v.toNat cs a).isSome, 0, 0)
theorem Propagate_ct (v : Int) (A B : Option Addr) (n c n' c' : Nat) (cs : List (List Int)) (a : List Int) (w : World) (hv1 : -9223372036854775808 ≤ v) (hv2 : v ≤ 9223372036854775807) (h : Rd (Enc.sl Enc.int) w A n c cs) (ha : Rd Enc.int w B n' c' a) :
    Calls Try.prog 8 #[.agg #[.int .i64 v, .slice A n c], .slice B n' c'] w (Lists w (propF v cs a).1 (propF v cs a).2.1 (propF v cs a).2.2.1 (propF v cs a).2.2.2) := by
  unfold propF
  by_cases h1 : (cnfFault v cs).1 ≠ 0
  · rw [if_pos h1]
    exact Propagate_bad v A B n c n' c' cs w hv1 hv2 h _ _ rfl h1
  · rw [if_neg h1]
    have h1' : (cnfFault v cs).1 = 0 := by simpa using h1
    have hok := cnfFault_ok.1 h1'
    obtain ⟨q, rfl⟩ : ∃ q : Nat, v = (q : Int) := ⟨v.toNat, by omega⟩
    by_cases h2 : clauseCode (q : Int) none a ≠ 0
    · rw [if_pos h2]
      exact Propagate_lits q A B n c n' c' cs a w h ha (cnfFault_zero h1') h2
    · rw [if_neg h2, Int.toNat_natCast]
      exact Propagate_ok q A B n c n' c' cs a w h ha (cnfFault_zero h1') (by simpa using h2)
theorem propF_ok {v : Int} {cs : List (List Int)} {a : List Int} (h : (propF v cs a).2.2.1 = 0) :
    ∃ q : Nat, v = (q : Int) ∧ (cnfFault v cs).1 = 0 ∧ clauseCode (q : Int) none a = 0 ∧ propF v cs a = ((propR q cs a).getD [], (propR q cs a).isSome, 0, 0) := by
  unfold propF at h ⊢
  by_cases h1 : (cnfFault v cs).1 ≠ 0
  · rw [if_pos h1] at h
    exact absurd h h1
  · rw [if_neg h1] at h ⊢
    have h1' : (cnfFault v cs).1 = 0 := by simpa using h1
    have hok := cnfFault_ok.1 h1'
    obtain ⟨q, rfl⟩ : ∃ q : Nat, v = (q : Int) := ⟨v.toNat, by omega⟩
    by_cases h2 : clauseCode (q : Int) none a ≠ 0
    · rw [if_pos h2] at h
      exact absurd h h2
    · rw [if_neg h2] at h ⊢
      exact ⟨q, rfl, h1', by simpa using h2, by rw [Int.toNat_natCast]⟩

set_option maxHeartbeats 1600000 in
theorem example_ct (w : World) : Calls Try.prog 10 #[] w (Gives w (.bool true)) := by
  obtain ⟨hf, ha, hbx, hbl, hsz⟩ := exW2_facts w
  have Hf := hide hf
  have Ha := hide ha
  have Hbx := hide hbx
  have Hbl := hide hbl
  have Hsz := hide hsz
  clear hf ha hbx hbl hsz
  go_enter Try.func10, Try.ntmps10
  go_wp2_with fail
  refine (Propagate_ok 3 _ _ 2 2 1 1 [[-1, 2], [-2, 3]] [1] (exW2 w) Hf.out Ha.out ex_fault ex_code).mono ?_
  rintro e w1 ⟨hb1, A1, n1, c1, he, hr1⟩
  rw [ex_prop] at he hr1
  subst he
  have Hb1 := hide hb1
  have Hr1 := hide hr1
  have Hbx1 := hide (Hbx.out.keep hb1)
  have hz1 : w.heap.size + 5 ≤ w1.heap.size := by have := hb1.size; rw [Hsz.out] at this; exact this
  obtain ⟨hc1, hc2⟩ := Hbx1.out.cell2
  clear hb1 hr1
  have hz2 : w.heap.size + 1 + 1 + 1 < w1.heap.size := by omega
  go_wp2_with fail
  have hm : Blk 4 ((w1.alloc (.cells #[.int .i64 0, .int .i64 0] 28)).alloc (.cells #[.bool true, .bool true, .bool true] 4)) (w1.heap.size + 1) ([true, true, true].map Value.bool) := by
    have := Blk.new (w1.alloc (.cells #[.int .i64 0, .int .i64 0] 28)) 4 [.bool true, .bool true, .bool true]
    simpa using this
  have hb2 := below_two w1 (.cells #[.int .i64 0, .int .i64 0] 28) (.cells #[.bool true, .bool true, .bool true] 4)
  have h := Holds_ct 3 (some ⟨w.heap.size + 1 + 1, 0, none⟩) (some ⟨w1.heap.size + 1, 0, none⟩) 2 2 3 3 [[-1, 2], [-2, 3]] [true, true, true] _ (by decide) (by decide) ((Hf.out.keep Hb1.out).keep hb2) (Rd.lit_bools [true, true, true] hm (by decide))
  rw [ex_holds] at h
  refine h.mono ?_
  rintro e w2 ⟨rfl, hb3⟩
  unfold holdsV
  have hb4 := hb2.trans (hb3.mono hb2.size)
  have HF1 := hide ((((Blk.new w1 28 [.int .i64 0, .int .i64 0]).alloc (.cells #[.bool true, .bool true, .bool true] 4))).keep hb3)
  clear hm h hb2 hb3 hc1 hc2
  have Hb4 := hide hb4
  have hz3 : w1.heap.size ≤ w2.heap.size := hb4.size
  have Hr2 := hide (Hr1.out.keep hb4)
  obtain ⟨hc1, hc2⟩ := (Hbx1.out.keep hb4).cell2
  have Hf2 := hide ((Hf.out.keep Hb1.out).keep hb4)
  clear hb4
  have hz4 : w.heap.size + 1 + 1 + 1 < w2.heap.size := by omega
  go_wp2_with fail
  refine (Validate_at ex_fault _ _ _ _ (by decide) (by decide) (by exact Hf2.out.keep ((Below.refl _ _).alloc (Nat.le_refl _) (.cells #[.int .i64 0, .int .i64 0] 28)))).mono ?_
  rintro e w3 ⟨rfl, hb5⟩
  have hb6 := ((Below.refl w2.heap.size w2).alloc (Nat.le_refl _) (.cells #[.int .i64 0, .int .i64 0] 28)).trans (hb5.mono (by simp))
  have HF2 := hide ((Blk.new w2 28 [.int .i64 0, .int .i64 0]).keep hb5)
  have HF3 := hide (HF1.out.keep hb6)
  have Hr3 := hide (Hr2.out.keep hb6)
  obtain ⟨hd1, hd2⟩ := HF2.out.cell2
  obtain ⟨hd3, hd4⟩ := HF3.out.cell2
  have hz5 : w2.heap.size ≤ w3.heap.size := hb6.size
  have Hb6 := hide hb6
  clear hb5 hb6 hc1 hc2
  have hfld := field_int
  go_wp2_with fail
  refine (Ints_ct A1 (some ⟨w3.heap.size, 0, none⟩) n1 c1 3 3 _ [1, 2, 3] _ (by exact Hr3.out.keep ((Below.refl _ _).alloc (Nat.le_refl _) _)) (by exact Rd.lit_ints [1, 2, 3] (Blk.new w3 3 _) (by decide) (by decide))).mono ?_
  rintro e w4 ⟨rfl, d, rfl⟩
  rw [show intsB ((some [1, 2, 3]).getD []) [1, 2, 3] = true from by decide]
  have hz6 : w1.heap.size < w3.heap.size := by
    have := HF3.out.lt
    omega
  have hz7 := HF2.out.lt
  go_wp2
  go_ret
  refine ⟨rfl, below_drewN ?_ d⟩
  exact (Hbl.out.trans ((Hb1.out.mono Hbl.out.size).trans ((Hb4.out.mono (by omega)).trans (Hb6.out.mono (by omega))))).alloc (by omega) _
end Go.Proofs.Ytmhcbadggmhopaa
