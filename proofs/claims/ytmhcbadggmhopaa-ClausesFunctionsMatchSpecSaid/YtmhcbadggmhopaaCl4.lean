/- Contract of clauses.Propagate. -/
import Derived.Test.YtmhcbadggmhopaaCl3
namespace Go.Proofs.Ytmhcbadggmhopaa
open Go.RowKit

/-- what Propagate hands back -/
def Lists (w : World) (l : List Int) (b : Bool) (ec ei : Int) (e : Ending) (w' : World) : Prop :=
  Below w.heap.size w w' ∧ ∃ A n c, e = .returned (.tuple #[.slice A n c, .bool b, .agg #[.int .i64 ec, .int .i64 ei]]) ∧ Rd Enc.int w' A n c l

set_option maxHeartbeats 1600000 in
theorem Propagate_ok (v : Nat) (A B : Option Addr) (n c n' c' : Nat) (cs : List (List Int)) (a : List Int) (w : World) (h : Rd (Enc.sl Enc.int) w A n c cs) (ha : Rd Enc.int w B n' c' a)
    (hcf : cnfFault v cs = (0, 0)) (hcode : clauseCode v none a = 0) :
    Calls Try.prog 8 #[.agg #[.int .i64 v, .slice A n c], .slice B n' c'] w (Lists w ((propR v cs a).getD []) (propR v cs a).isSome 0 0) := by
  have hbw := below_two w (.cells #[.int .i64 v, .slice A n c] 24) (.cells #[.int .i64 0, .int .i64 0] 28)
  have HX := hide (Bx2.new w 24 28 (.int .i64 v) (.slice A n c) (.int .i64 0) (.int .i64 0))
  have h2 := h.keep hbw
  have Hb := hide hbw
  clear hbw
  have hok := (cnfFault_ok (v := v) (cs := cs)).1 (by rw [hcf])
  have hv80 : v ≤ 80 := by omega
  have Hok := hide hok
  have Hcf := hide hcf
  have Hcode := hide hcode
  clear hok hcf hcode
  obtain ⟨vals, hasm, _⟩ := assume_some Hcode.out
  have hprop : propR v cs a = (close cs (v + 2) vals).map litsOf := by rw [propR, hasm]
  have Hasm := hide hasm
  have Hprop := hide hprop
  clear hasm hprop
  obtain ⟨i0, hi0, hz0, hz1, hz2⟩ := info_parts Try.intInfo
  go_enter Try.func8, Try.ntmps8
  go_wp2_with fail
  refine (Validate_at Hcf.out _ _ _ _ (by omega) (by omega) (by exact h2)).mono ?_
  rintro e w1 ⟨rfl, hb1⟩
  clear h2
  obtain ⟨hc1, hc2, hd1, hd2, hf1, hf2, hg0, hg1⟩ := (HX.out.keep hb1).facts
  have HX1 := hide ((HX.out.keep hb1).alloc (.cells #[.int .i64 0, .int .i64 0] 28))
  have Hbb := hide ((Hb.out.trans (hb1.mono Hb.out.size)).alloc (by omega) (.cells #[.int .i64 0, .int .i64 0] 28))
  clear hb1 HX Hb
  go_wp2_with fail
  have hclc := clause_ct B n' c' v a (w1.alloc (.cells #[.int .i64 0, .int .i64 0] 28)) (ha.keep Hbb.out) (by omega) (by omega)
  rw [Hcode.out] at hclc
  refine hclc.mono ?_
  rintro e w2 ⟨rfl, d1, rfl⟩
  clear hclc
  go_wp2_with fail
  refine (Assume_ct v B n' c' a _ (by omega) (ha.keep (below_drewN Hbb.out d1)) (code_fits Hcode.out)).mono ?_
  rintro e w3 ⟨hb3, hres⟩
  rcases hres with ⟨hno, _⟩ | ⟨vals', hsm, hvs, rfl, hblk⟩
  · exact absurd (Hasm.out.symm.trans hno) (by simp)
  obtain rfl := Option.some.inj (Hasm.out.symm.trans hsm)
  clear hc1 hc2 hd1 hd2 hf1 hf2 hsm
  have HX3 := hide ((HX1.out.drewN d1).keep hb3)
  have Hb3 := hide ((below_drewN Hbb.out d1).trans (hb3.mono Hbb.out.size))
  obtain ⟨hc1, hc2, hd1, hd2, hf1, hf2, hg0', hg1'⟩ := HX3.out.facts
  have hgv : w.heap.size + 1 < w1.heap.size + 1 := by omega
  have Hblk := hide hblk
  have Hvs := hide hvs
  clear hb3 hblk hvs HX1
  simp only [World.heap_drewN, World.size_alloc] at *
  go_wp2_with fail
  refine (Close_ct v A n c (w1.heap.size + 1) cs vals w w3 (by omega) h (fun l hl => code_fits (Hok.out.2.2 l hl)) Hb3.out (by omega) Hblk.out Hvs.out).mono ?_
  rintro e w4 ⟨hg4, hres⟩
  clear hc1 hc2 hd1 hd2 hf1 hf2
  have HX4 := hide (HX3.out.grown hg4 (by simp; omega) (by simp; omega))
  have Hb4 := hide (below_only Hb3.out hg4 Hb3.out.size (by omega))
  obtain ⟨hc1, hc2, hd1, hd2, hf1, hf2, hg0'', hg1''⟩ := HX4.out.facts
  rcases hres with ⟨hno, rfl⟩ | ⟨us, hsome, rfl, hblk4, hvs4⟩
  · have hp : propR v cs a = none := by rw [Hprop.out, hno]; rfl
    have Hp := hide hp
    clear hp hno
    go_wp2
    refine bodyPost_ret (v := .tuple #[.slice none 0 0, .bool false, .agg #[.int .i64 0, .int .i64 0]]) (by simp [results, Try.results8, go_sem, hd1, hd2]) rfl ⟨below_res2 Hb4.out (by omega) _ _, none, 0, 0, ?_, ?_⟩
    · rw [Hp.out]
      rfl
    · rw [Hp.out]
      exact Rd.nil_ _ _
  · have hp : propR v cs a = some (litsOf us) := by rw [Hprop.out, hsome]; rfl
    have Hp := hide hp
    have Hblk4 := hide hblk4
    have Hvs4 := hide hvs4
    clear hp hsome hblk4 hvs4
    have hll := litsFrom_step us
    have Hll := hide hll
    clear hll
    go_wp2
    go_loopw [11, 12] (fun o i wr => ∃ (k : Nat) (l : List Int) (O : Option Addr) (oc : Nat), 1 ≤ k ∧ k ≤ v + 1 ∧ i = .int .i64 k ∧ o = .slice O l.length oc ∧ wr.ownsRow w4.heap.size 3 1 (.slice O l.length oc) l.length (l.map (Value.int .i64)) ∧ Below w4.heap.size w4 wr ∧
      l ++ litsFrom k (us.drop k) = litsOf us ∧ (∀ x ∈ l, -100 ≤ x ∧ x ≤ 100) ∧ l.length ≤ k) (fun _ i _ => v + 1 - (intOf i).toNat)
    case atStart => exact ⟨1, [], none, 0, by omega, by omega, rfl, rfl, World.ownsRow_nil _ _ _ _, Below.refl _ _, rfl, by simp, by simp⟩
    case round =>
      obtain ⟨k, l, O, oc, hk1, hk2, rfl, rfl, hown, hbr, hrel, hsmall, hlen⟩ := hrel
      clear hc1 hc2 hd1 hd2 hf1 hf2
      obtain ⟨hc1, hc2, hd1, hd2, hf1, hf2, hg0'', hg1''⟩ := (HX4.out.keep hbr).facts
      have Hown := hide hown
      have Hbr := hide hbr
      have Hrel := hide hrel
      have Hsmall := hide hsmall
      have hblk5 := Hblk4.out.keep hbr
      clear hown hbr hrel hsmall
      by_cases hlt : k ≤ v
      · obtain ⟨u, hu, hu1, hu2⟩ := Hvs4.out.get (show k < v + 1 by omega)
        have hcu := hblk5.cell hu
        have Hu := hide hu
        clear hblk5 hu
        have hmul : -100 ≤ (k : Int) * u ∧ (k : Int) * u ≤ 100 := by
          rcases (show u = -1 ∨ u = 0 ∨ u = 1 by omega) with rfl | rfl | rfl <;> omega
        obtain ⟨hm1, hm2⟩ := hmul
        go_wp2_with
          (at_builtin
           go_loud (refine wpList_push rfl _ _ 25 rfl w4.heap.size 3 i0 (.int .i64 0) 1 8 Try.underlying25 hi0 hz0 hz1 hz2 rfl (by decide) _ _ _ rfl Hown.out [.int .i64 ((k : Int) * u)] rfl (by intro u hu; simp at hu; subst hu; rfl) rfl (by omega) (by omega) Hbr.out.size ?_)
           intro O' oc' w5 hown5 hb5)
        · have hh : (u != 0) = true := by assumption
          have hh := bne_iff_ne.1 hh
          go_roundw
          case rel =>
            refine ⟨k + 1, l ++ [(k : Int) * u], O', oc', by omega, by omega, by go_num, by simp, ?_, Hbr.out.trans hb5, ?_, ?_, by simp; omega⟩
            · simpa using hown5
            · rw [← Hrel.out, Hll.out k u Hu.out, if_neg hh]
              simp
            · intro x hx
              rcases List.mem_append.1 hx with hx | hx
              · exact Hsmall.out x hx
              · simp at hx
                omega
          case measure => simp [intOf]; omega
        · have hh : (u != 0) = false := by assumption
          have hh := bne_eq_false_iff_eq.1 hh
          go_roundw
          case rel =>
            refine ⟨k + 1, l, O, oc, by omega, by omega, by go_num, rfl, Hown.out, Hbr.out, ?_, Hsmall.out, by omega⟩
            rw [← Hrel.out, Hll.out k u Hu.out, if_pos hh]
            simp
          case measure => simp [intOf]; omega
      · clear hblk5
        go_wp2
        refine bodyPost_ret (v := .tuple #[.slice O l.length oc, .bool true, .agg #[.int .i64 0, .int .i64 0]]) (by simp [results, Try.results8, go_sem, hd1, hd2]) rfl ⟨below_res2 (Hb4.out.trans (Hbr.out.mono Hb4.out.size)) (by omega) _ _, O, l.length, oc, ?_, ?_⟩
        · rw [Hp.out]
          rfl
        · have hl : litsOf us = l := by
            rw [← Hrel.out, List.drop_of_length_le (by rw [Hvs4.out.1]; omega)]
            simp [litsFrom]
          rw [Hp.out, Option.getD_some, hl]
          exact own_rd (ownsRow_setCell_below (ownsRow_setCell_below Hown.out (a := ⟨w.heap.size + 1, 0, none⟩) (by show w.heap.size + 1 < w4.heap.size; omega) _) (a := ⟨w.heap.size + 1, 1, none⟩) (by show w.heap.size + 1 < w4.heap.size; omega) _) rfl (fun x hx => by have := Hsmall.out x hx; omega)

set_option maxHeartbeats 800000 in
theorem Propagate_bad (v : Int) (A B : Option Addr) (n c n' c' : Nat) (cs : List (List Int)) (w : World) (hv1 : -9223372036854775808 ≤ v) (hv2 : v ≤ 9223372036854775807) (h : Rd (Enc.sl Enc.int) w A n c cs) (ec ei : Int)
    (hcf : cnfFault v cs = (ec, ei)) (hec : ec ≠ 0) :
    Calls Try.prog 8 #[.agg #[.int .i64 v, .slice A n c], .slice B n' c'] w (Lists w [] false ec ei) := by
  have hbw := below_two w (.cells #[.int .i64 v, .slice A n c] 24) (.cells #[.int .i64 0, .int .i64 0] 28)
  have HX := hide (Bx2.new w 24 28 (.int .i64 v) (.slice A n c) (.int .i64 0) (.int .i64 0))
  have h2 := h.keep hbw
  have Hb := hide hbw
  clear hbw
  have Hcf := hide hcf
  clear hcf
  have hne : (ec != 0) = true := by simpa using hec
  go_enter Try.func8, Try.ntmps8
  go_wp2_with fail
  refine (Validate_at Hcf.out _ _ _ _ (by omega) (by omega) (by exact h2)).mono ?_
  rintro e w1 ⟨rfl, hb1⟩
  clear h2
  obtain ⟨hc1, hc2, hd1, hd2, hf1, hf2, hg0, hg1⟩ := (HX.out.keep hb1).facts
  have Hbb := hide (Hb.out.trans (hb1.mono Hb.out.size))
  clear hb1 HX Hb
  go_wp2
  go_region
  all_goals go_wp2
  all_goals
    refine bodyPost_ret (v := .tuple #[.slice none 0 0, .bool false, .agg #[.int .i64 ec, .int .i64 ei]]) (by simp [results, Try.results8, go_sem, hd1, hd2, hg1]) rfl ⟨(below_res2_alloc Hbb.out (show w.heap.size ≤ w1.heap.size by omega) (show w.heap.size ≤ w.heap.size + 1 by omega) _ _ _).drew, none, 0, 0, rfl, Rd.nil_ _ _⟩

set_option maxHeartbeats 800000 in
theorem Propagate_lits (v : Nat) (A B : Option Addr) (n c n' c' : Nat) (cs : List (List Int)) (a : List Int) (w : World) (h : Rd (Enc.sl Enc.int) w A n c cs) (ha : Rd Enc.int w B n' c' a)
    (hcf : cnfFault v cs = (0, 0)) (hcode : clauseCode v none a ≠ 0) :
    Calls Try.prog 8 #[.agg #[.int .i64 v, .slice A n c], .slice B n' c'] w (Lists w [] false (clauseCode v none a) (-2)) := by
  have hbw := below_two w (.cells #[.int .i64 v, .slice A n c] 24) (.cells #[.int .i64 0, .int .i64 0] 28)
  have HX := hide (Bx2.new w 24 28 (.int .i64 v) (.slice A n c) (.int .i64 0) (.int .i64 0))
  have h2 := h.keep hbw
  have Hb := hide hbw
  clear hbw
  have hok := (cnfFault_ok (v := v) (cs := cs)).1 (by rw [hcf])
  have hv80 : v ≤ 80 := by omega
  have Hcf := hide hcf
  clear hcf hok
  have hclc := fun w hb => clause_ct B n' c' v a w (ha.keep hb) (by omega) (by omega)
  have hrange := code_range v none a
  generalize clauseCode v none a = ec at *
  have Hclc := hide hclc
  have hne : (ec != 0) = true := by simpa using hcode
  go_enter Try.func8, Try.ntmps8
  go_wp2_with fail
  refine (Validate_at Hcf.out _ _ _ _ (by omega) (by omega) (by exact h2)).mono ?_
  rintro e w1 ⟨rfl, hb1⟩
  clear h2 hclc
  obtain ⟨hc1, hc2, hd1, hd2, hf1, hf2, hg0, hg1⟩ := (HX.out.keep hb1).facts
  have HX1 := hide ((HX.out.keep hb1).alloc (.cells #[.int .i64 0, .int .i64 0] 28))
  have Hbb := hide ((Hb.out.trans (hb1.mono Hb.out.size)).alloc (by omega) (.cells #[.int .i64 0, .int .i64 0] 28))
  have Hb1 := hide ((Hb.out.trans (hb1.mono Hb.out.size)))
  clear hb1 HX Hb
  go_wp2_with fail
  refine (Hclc.out _ Hbb.out).mono ?_
  rintro e w2 ⟨rfl, d1, rfl⟩
  go_wp2
  refine bodyPost_ret (v := .tuple #[.slice none 0 0, .bool false, .agg #[.int .i64 ec, .int .i64 (-2)]]) (by simp [results, Try.results8, go_sem, hd1, hd2, hg1]) rfl ⟨?_, none, 0, 0, rfl, Rd.nil_ _ _⟩
  exact below_res2 (below_drewN Hbb.out d1) (by omega) _ _
end Go.Proofs.Ytmhcbadggmhopaa
