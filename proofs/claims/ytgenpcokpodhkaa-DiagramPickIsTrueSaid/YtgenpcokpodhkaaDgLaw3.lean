/- The walk of the law on Pick. -/
import Derived.Test.YtgenpcokpodhkaaDgLaw1
import Derived.Test.YtgenpcokpodhkaaDgPure8
namespace Go.Proofs.Ytgenpcokpodhkaa
open Go.RowKit Go.Maps

set_option maxHeartbeats 3200000 in
set_option maxRecDepth 100000 in
theorem PickLaw_ct (L : Int) (A : Option Addr) (n c : Nat) (ns : List DI) (r : Int) (w : World) (hL : -9223372036854775808 ≤ L ∧ L ≤ 9223372036854775807) (hr : -9223372036854775808 ≤ r ∧ r ≤ 9223372036854775807) (h : Rd Enc.node w A n c ns) :
    Calls Try.prog 9 #[.agg #[.int .i64 L, .slice A n c, .int .i64 r]] w (Gives w (.bool true)) := by
  have hb0 := Blk.new w 30 [.int .i64 L, .slice A n c, .int .i64 r]
  have hbl0 : Below w.heap.size w (w.alloc (.cells #[.int .i64 L, .slice A n c, .int .i64 r] 30)) := (Below.refl _ _).alloc (Nat.le_refl _) _
  have Hrd := hide h
  have Hb0 := hide hb0
  have Hbl0 := hide hbl0
  have htrue := pickTrue_true L ns r
  unfold pickTrue at htrue
  simp only at htrue
  have hcr := Pick_d L A n c ns r
  have hcc := Count_d L A n c ns r
  have hce := fun (l : List Int) B m d W => Eval_d L A n c ns r B m d l W
  generalize hp : pickR L ns r = pp at htrue hcr
  generalize hq : countR L ns r = qq at htrue hcc
  obtain ⟨pl, pb, p1, p2⟩ := pp
  obtain ⟨q0, q1, q2⟩ := qq
  generalize he : evalR L ns r pl = ee at htrue
  obtain ⟨eb, e1, e2⟩ := ee
  have hce2 := hce pl
  rw [he] at hce2
  have hcb : 0 ≤ q0 ∧ q0 ≤ 9223372036854775807 ∨ True := .inr trivial
  simp only at htrue
  have Htrue := hide htrue
  have Hcr := hide hcr
  have Hcc := hide hcc
  have Hce := hide hce2
  clear h hb0 hbl0 htrue hcr hcc hce hce2 hp hq he hcb
  go_enter Try.func9, Try.ntmps9
  go_wp2_with fail
  refine (example_ct _).mono ?_
  rintro e w1 ⟨rfl, hb⟩
  have hx1 := Hb0.out.keep hb
  have hbl1 := Hbl0.out.trans (hb.mono Hbl0.out.size)
  have c0 := hx1.cell 0
  have c1 := hx1.cell 1
  have c2 := hx1.cell 2
  simp only [List.getElem?_cons_zero, List.getElem?_cons_succ] at c0 c1 c2
  have Hx1 := hide hx1
  have Hbl1 := hide hbl1
  clear hb hx1 hbl1 Hb0 Hbl0
  go_wp2_with fail
  refine (Hcr.out w1 hL hr (Hrd.out.keep Hbl1.out)).mono ?_
  rintro e w2 ⟨⟨O, m, d, rfl, hrd2⟩, hb2⟩
  simp only [faultV]
  have hx2 := Hx1.out.keep hb2
  have hbl2 := Hbl1.out.trans (hb2.mono Hbl1.out.size)
  have Hrd2 := hide hrd2
  have Hx2 := hide hx2
  have Hbl2 := hide hbl2
  have c0 := hx2.cell 0
  have c1 := hx2.cell 1
  have c2 := hx2.cell 2
  have c3 := hx2.lt
  simp only [List.getElem?_cons_zero, List.getElem?_cons_succ] at c0 c1 c2
  clear hb2 hx2 hbl2 hrd2 Hx1 Hbl1
  go_wp2_with fail
  obtain ⟨W2, hW⟩ : ∃ W, W = w2.alloc (.cells #[.int .i64 p1, .int .i64 p2] 25) := ⟨_, rfl⟩
  rw [← hW]
  have hbW : Below w2.heap.size w2 W2 := by rw [hW]; exact (Below.refl _ _).alloc (Nat.le_refl _) _
  have hf2 : Blk 25 W2 w2.heap.size [.int .i64 p1, .int .i64 p2] := by rw [hW]; exact Blk.new _ _ _
  have HblW := hide (Hbl2.out.trans (hbW.mono Hbl2.out.size))
  have HxW := hide (Hx2.out.keep hbW)
  have HrdW := hide (Hrd2.out.keep hbW)
  have Hf2 := hide hf2
  clear hW hbW hf2 Hbl2 Hx2 Hrd2 c0 c1 c2 c3
  refine (Hcc.out W2 hL hr (Hrd.out.keep HblW.out)).mono ?_
  rintro e w3 ⟨rfl, hb3⟩
  simp only [faultV]
  have hbl3 := HblW.out.trans (hb3.mono HblW.out.size)
  have hx3 := HxW.out.keep hb3
  have hf3 := Hf2.out.keep hb3
  have c0 := hx3.cell 0
  have c1 := hx3.cell 1
  have c2 := hx3.cell 2
  have c3 := hx3.lt
  have d0 := hf3.cell 0
  have d1 := hf3.cell 1
  have d3 := hf3.lt
  simp only [List.getElem?_cons_zero, List.getElem?_cons_succ] at c0 c1 c2 d0 d1
  have Hbl3 := hide hbl3
  have HrdX := hide (HrdW.out.keep hb3)
  clear hb3 hbl3 hx3 hf3 HblW HxW HrdW Hf2
  by_cases hz : p1 ≠ 0 ∨ q1 ≠ 0
  · have ht := Htrue.out
    rw [if_pos hz] at ht
    simp only [Bool.and_eq_true, decide_eq_true_eq, Bool.not_eq_true', Prod.mk.injEq] at ht
    obtain ⟨⟨rfl, rfl⟩, rfl⟩ := ht
    have heq := eqFault p1 p2 p1 p2
    rw [decide_eq_true rfl] at heq
    have hne : (p1 == 0) = false := by rw [beq_eq_false_iff_ne]; omega
    have hne2 : ¬ p1 = 0 := by omega
    clear hz Htrue
    go_wp2
    go_ret
    exact ⟨rfl, (Hbl3.out.alloc Hbl3.out.size _)⟩
  · have ht := Htrue.out
    rw [if_neg hz] at ht
    simp only [not_or, ne_eq, Decidable.not_not] at hz
    obtain ⟨rfl, rfl⟩ := hz
    cases pb with
    | false =>
      rw [if_pos rfl] at ht
      simp only [decide_eq_true_eq] at ht
      have Hbe : Hid ( (q0 == 0) = true) := hide (by rw [beq_iff_eq]; exact ht)
      clear Htrue ht
      go_wp2
      go_ret
      exact ⟨ret_bool Hbe.out, (Hbl3.out.alloc Hbl3.out.size _)⟩
    | true =>
      rw [if_neg (by decide)] at ht
      simp only [Bool.and_eq_true, decide_eq_true_eq] at ht
      obtain ⟨⟨rfl, rfl⟩, hq0⟩ := ht
      clear Htrue
      go_wp2_with fail
      obtain ⟨W3, hW⟩ : ∃ W, W = w3.alloc (.cells #[.int .i64 0, .int .i64 q2] 25) := ⟨_, rfl⟩
      rw [← hW]
      have hbW : Below w3.heap.size w3 W3 := by rw [hW]; exact (Below.refl _ _).alloc (Nat.le_refl _) _
      have HblW := hide (Hbl3.out.trans (hbW.mono Hbl3.out.size))
      have HrdY := hide (HrdX.out.keep hbW)
      clear hW hbW
      refine (Hce.out O m d W3 hL hr (Hrd.out.keep HblW.out) HrdY.out).mono ?_
      rintro e w4 ⟨rfl, hb4⟩
      simp only [faultV]
      have hbl4 := HblW.out.trans (hb4.mono HblW.out.size)
      have Hbl4 := hide hbl4
      clear hb4 hbl4 c0 c1 c2 c3 d0 d1 d3
      go_wp2
      go_ret
      exact ⟨rfl, (Hbl4.out.alloc Hbl4.out.size _)⟩
end Go.Proofs.Ytgenpcokpodhkaa
