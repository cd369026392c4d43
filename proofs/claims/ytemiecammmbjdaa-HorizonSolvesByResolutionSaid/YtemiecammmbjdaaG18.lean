/- What the laws ask for, part 18: Rs15. -/
import Derived.Test.YtemiecammmbjdaaG1
import Derived.Test.YtemiecammmbjdaaG2
import Derived.Test.YtemiecammmbjdaaG3
import Derived.Test.YtemiecammmbjdaaG4
import Derived.Test.YtemiecammmbjdaaG13
import Derived.Test.YtemiecammmbjdaaG14
import Derived.Test.YtemiecammmbjdaaG15
import Derived.Test.YtemiecammmbjdaaG16
import Derived.Test.YtemiecammmbjdaaG17
import Derived.BigQuiet
import Derived.Deep.AppendLies
import Derived.Deep.DeepCutAuto
import Derived.Deep.Draws
import Derived.Deep.Fields
import Derived.Deep.LoopGhost
import Derived.Deep.QuietTactic
import Derived.Deep.RegionHeld3
import Derived.Deep.RegionLaw
import Derived.Deep.Slices
import Derived.Ground.Names2Prog
import Derived.Ground.SlgnProg
import Derived.Ground.SlsfProg
import Derived.IntWalk
import Derived.Laws.AppendOwnNone
import Derived.Laws.OwnMore
import Derived.Lib.Hide
import Derived.Maps.AppendAt
import Derived.Shelf.SlSortCmp.Whole1
import Derived.Shelf.SlicesE.Clone
import Derived.Sort.OwnSortedInts
import Derived.Test.YtemiecammmbjdaaProg
import Derived.WalkKit
import Init
namespace Go.Proofs.Ytemiecammmbjdaa
set_option linter.unusedVariables false
set_option linter.unusedSimpArgs false
open Go.RowKit
theorem lit_zeros {V : Nat} {x : Int} : ¬ Lit (List.replicate (V + 1) (0 : Int)) x := by
  rintro ⟨_, h⟩
  have : valOf (List.replicate (V + 1) (0 : Int)) x = 0 := by
    rw [valOf, List.getD_eq_getElem?_getD, List.getElem?_replicate]
    split <;> rfl
  rcases sgn_cases x with s | s <;> omega
theorem st_start {V : Nat} {cs : List (List Int)} (hc : ∀ c ∈ cs, Clean V c) : St V cs [] [] (List.replicate (V + 1) 0) (List.replicate (V + 1) 0) (List.replicate (V + 1) 0) :=
  ⟨Inv.start hc, (fun y hy => by rw [(List.mem_replicate.1 hy).2]; omega), (fun x hx => ⟨fun h => absurd h lit_zeros, fun h => by cases h⟩), by simp, by simp, by simp⟩
theorem rows_own {B : Nat} {w : World} {M : Nat → Prop} {A : Option Addr} {n c : Nat} {cs : List (List Int)} (h : Rows B w M A n c cs) : ∃ vs, OwnE (Enc.sl Enc.int) 22 B (fun _ => False) w A n c vs cs := by
  obtain ⟨xs, h1, h2, h3⟩ := h
  refine ⟨xs, h1, h2, fun i x hx => ?_⟩
  obtain ⟨A', n', c', e1, e2, _⟩ := h3 i x hx
  refine ⟨[.slice A' n' c'], fun j v hj => ?_, fun w' hc => ⟨A', n', c', rfl, e2.keep (hc.keep (fun _ e => e))⟩⟩
  cases j with
  | zero =>
    simp at hj
    subst hj
    simpa [Enc.sl] using e1
  | succ j => simp at hj
/-- a store of what lies there -/
theorem below_same {t : TypeId} {w : World} {g i : Nat} {cs : List Value} {u : Value} (h : Blk t w g cs) (hi : cs[i]? = some u) : Below w.heap.size w (w.setCell ⟨g, i, none⟩ u) := by
  refine ⟨rfl, rfl, rfl, by simp [World.setCell], fun k hk => ?_⟩
  by_cases e : k = g
  · subst e
    have h2 := h.set i u
    have h3 : cs.set i u = cs := by
      apply List.ext_getElem?
      intro j
      rw [List.getElem?_set]
      by_cases e : i = j
      · subst e
        rw [if_pos rfl, hi, if_pos (List.getElem?_eq_some_iff.1 hi).1]
      · rw [if_neg e]
    rw [h3] at h2
    unfold Blk at h h2
    rw [h2, h]
  · exact Below.heap_setCell w ⟨g, i, none⟩ u k e
/-- an assignment -/
def Solved (w' : World) (V : Nat) (cs : List (List Int)) (A : Option Addr) (c : Nat) (m : List Bool) : Prop := m.length = V ∧ trueAll cs m = true ∧ Rd Enc.bool w' A V c m
/-- a refutation -/
def Refuted (w' : World) (V : Nat) (cs : List (List Int)) (A : Option Addr) (n c : Nat) (L : List (List Int)) : Prop :=
  Rd (Enc.sl Enc.int) w' A n c L ∧ (∀ C ∈ L, Clean V C) ∧ checkB V cs L = true ∧ 0 < n ∧ n ≤ 4000
def three (a b : Value) (ec ei : Int) : Ending := .returned (.tuple #[a, b, .agg #[.int .i64 ec, .int .i64 ei]])
/-- what Solve answers -/
def SolveP (w : World) (v : Int) (cs : List (List Int)) (e : Ending) (w' : World) : Prop :=
  Below w.heap.size w w' ∧ (((cnfFault v cs).1 ≠ 0 ∧ e = three (.slice none 0 0) (.slice none 0 0) (cnfFault v cs).1 (cnfFault v cs).2) ∨
    ((cnfFault v cs).1 = 0 ∧ ((∃ A c m, e = three (.slice A v.toNat c) (.slice none 0 0) 0 0 ∧ Solved w' v.toNat cs A c m) ∨ (∃ A n c L, e = three (.slice none 0 0) (.slice A n c) 0 0 ∧ Refuted w' v.toNat cs A n c L) ∨
      (e = three (.slice none 0 0) (.slice none 0 0) 10 (-3) ∧ 4000 < 2 ^ v.toNat))))
set_option maxHeartbeats 3200000 in
theorem Solve_ct (v : Int) (A : Option Addr) (n c : Nat) (cs : List (List Int)) (w : World) (hv1 : -9223372036854775808 ≤ v) (hv2 : v ≤ 9223372036854775807) (h : Rd (Enc.sl Enc.int) w A n c cs) (hA : ∀ ad, A = some ad → ∃ b off, ad = ⟨b, off, none⟩) :
    Calls Try.prog 10 #[.agg #[.int .i64 v, .slice A n c]] w (SolveP w v cs) := by
  have hsm := h.low
  have hbw := below_two w (.cells #[.int .i64 v, .slice A n c] 36) (.cells #[.int .i64 0, .int .i64 0] 28)
  have HX := hide (Bx2.new w 36 28 (.int .i64 v) (.slice A n c) (.int .i64 0) (.int .i64 0))
  have h2 := h.keep hbw
  have H2 := hide h2
  have Hb := hide hbw
  have Hln := hide h.len
  have H := hide h
  have HA := hide hA
  clear hbw h2 h hA
  rcases hcf : cnfFault v cs with ⟨ec, ei⟩
  have Hcf := hide hcf
  clear hcf
  by_cases hec : ec = 0
  · have hz := cnfFault_zero (v := v) (cs := cs) (by rw [Hcf.out]; exact hec)
    rw [Hcf.out] at hz
    injection hz with hz1 hz2
    subst hz1 hz2
    have hok := (cnfFault_ok (v := v) (cs := cs)).1 (by rw [Hcf.out])
    obtain ⟨V, rfl⟩ : ∃ V : Nat, v = (V : Int) := ⟨v.toNat, by omega⟩
    have hV : V ≤ 80 := by omega
    have hn : n ≤ 1500 := by have := hok.2.1; rw [Hln.out] at this; exact this
    have hcl : ∀ c ∈ cs, Clean V c := fun c hc => clean_of_code (hok.2.2 c hc)
    have Hst := hide (st_start hcl)
    have Hcl := hide hcl
    clear hok hcl
    go_enter Try.func10, Try.ntmps10
    go_wp2_with fail
    refine (Validate_at Hcf.out _ _ _ _ hv1 hv2 (by exact H2.out)).mono ?_
    rintro e w1 ⟨rfl, hb1⟩
    obtain ⟨hc1, hc2, hd1, hd2, hf1, hf2, hg0, hg1⟩ := (HX.out.keep hb1).facts
    have HX1 := hide (HX.out.keep hb1)
    have Hbb := hide (Hb.out.trans (hb1.mono Hb.out.size))
    clear hb1 HX Hb
    go_wp2_with fail
    have hb2 := ((Below.refl w1.heap.size w1).alloc (Nat.le_refl _) (.cells #[.int .i64 0, .int .i64 0] 28))
    obtain ⟨w2, hw2⟩ : ∃ w2, w2 = w1.alloc (.cells #[.int .i64 0, .int .i64 0] 28) := ⟨_, rfl⟩
    rw [← hw2] at hb2 ⊢
    have HX2 := hide (HX1.out.keep hb2)
    have Hb2 := hide (Hbb.out.trans (hb2.mono Hbb.out.size))
    clear hw2 hb2 HX1 Hbb hc1 hc2 hd1 hd2 hf1 hf2 hg0 hg1
    with_reducible refine (newSolver_ct (H.out.keep Hb2.out) HA.out (by omega) (by omega)).mono ?_
    rintro e w3 ⟨g, a, rfl, hb3, hsv⟩
    have Hsv := hide hsv
    have HX3 := hide (HX2.out.keep hb3)
    have Hb3 := hide (Hb2.out.trans (hb3.mono Hb2.out.size))
    have hwg := hsv.ge 0 g rfl
    have hw2 := HX2.out.lt.2
    clear hsv hb3 HX2 Hb2
    go_wp2_with fail
    with_reducible refine (run_ct Hsv.out Hst.out (by omega) (.inl rfl) (by rw [Hln.out]; omega)).mono ?_
    rintro e w4 ⟨hb4, a4, cs4, ln, vals, lev, rea, t, starts, hsv4, hrups, hclean, hl4, hres⟩
    have hX4 := HX3.out.low hb4 hw2
    have HX4 := hide hX4
    have Hb4 := hide (Hb3.out.trans (hb4.mono (by omega)))
    have Hsv4 := hide hsv4
    have Hrups := hide hrups
    have Hclean := hide hclean
    have Hl4 := hide (hl4 rfl)
    clear hb4 hsv4 hrups hclean hl4 Hsv HX3 Hb3 Hst hX4
    rcases hres with ⟨rfl, rfl, hst4, hcalm, hall⟩ | ⟨rfl, ln', hln⟩ | ⟨rfl, hlm, hlp⟩
    · have hmt := true_part (ds := cs) (model_true hst4 hall hcalm) (fun c hc => List.mem_append_left _ hc)
      have Hmt := hide hmt
      clear hst4 hcalm hall hmt
      go_wp2_with fail
      with_reducible refine (values_ct Hsv4.out (by omega)).mono ?_
      rintro e w5 ⟨O, oc, rfl, hb5, hown⟩
      obtain ⟨hc1, hc2, hd1, hd2, hf1, hf2, hg0, hg1⟩ := (HX4.out.keep hb5).facts
      have Hb5 := hide (Hb4.out.trans (hb5.mono Hb4.out.size))
      have Hown := hide hown
      clear hb5 hown
      go_wp2_with fail
      refine bodyPost_ret (v := .tuple #[.slice O V oc, .slice none 0 0, .agg #[.int .i64 0, .int .i64 0]]) (by simp [results, Try.results10, go_sem, hd1, hd2, hg1]) rfl ⟨below_res2 Hb5.out (show w.heap.size ≤ w.heap.size + 1 by omega) _ _, .inr ⟨by rw [Hcf.out], .inl ⟨O, oc, modelF vals V, by rw [Int.toNat_natCast]; rfl, ?_⟩⟩⟩
      rw [Int.toNat_natCast]
      exact ⟨modelF_len _ _, Hmt.out, own_rdb (ownsRow_setCell_below (ownsRow_setCell_below Hown.out (a := ⟨w.heap.size + 1, 0, none⟩) (by show w.heap.size + 1 < w4.heap.size; exact HX4.out.lt.2) _) (a := ⟨w.heap.size + 1, 1, none⟩) (by show w.heap.size + 1 < w4.heap.size; exact HX4.out.lt.2) _) (modelF_len _ _)⟩
    · obtain ⟨f0, f1, f2, f3, f4, f5, f6, f7⟩ := Hsv4.out.facts
      clear f0 f1 f3 f4 f5 f6 f7
      have hgg := Hsv4.out.blk.lt
      have hge := Hsv4.out.ge 0 g rfl
      obtain ⟨hc1, hc2, hd1, hd2, hf1, hf2, hg0, hg1⟩ := HX4.out.facts
      have hne1 : ¬ g = w.heap.size + 1 := by omega
      have hne2 : ¬ w.heap.size + 1 = g := by omega
      obtain ⟨vs, hown⟩ := rows_own Hsv4.out.lrn
      have Hown := hide hown
      have hck : checkB V cs ln = true := by
        have h1 := Hrups.out
        have h2 := Hclean.out
        rw [hln] at h1 h2 ⊢
        exact check_run Hcl.out h2 h1
      have hlen : 0 < ln.length := by rw [hln]; simp
      have Hck := hide hck
      have Hlen := hide hlen
      clear hown hck hln hlen
      go_wp2_with fail
      go_region
      go_wp2_with fail
      have hbf := below_res2 Hb4.out (show w.heap.size ≤ w.heap.size + 1 by omega) (Value.int .i64 0) (Value.int .i64 0)
      refine bodyPost_ret (v := .tuple #[.slice none 0 0, .slice a4.D ln.length a4.dc, .agg #[.int .i64 0, .int .i64 0]]) (by simp [results, Try.results10, go_sem, hd1, hd2, hg1]) rfl ⟨hbf.drew, .inr ⟨by rw [Hcf.out], .inr (.inl ⟨a4.D, ln.length, a4.dc, ln, rfl, ?_, Hclean.out, by rw [Int.toNat_natCast]; exact Hck.out, Hlen.out, Hl4.out⟩)⟩⟩
      have hbl := HX4.out.res
      have hs1 := below_same hbl (i := 0) (u := Value.int .i64 0) rfl
      have hs2 := below_same (hbl.keep hs1) (i := 1) (u := Value.int .i64 0) rfl
      exact (((Hown.out.keep hs1).keep hs2).qt (Qt.refl _).drew).rd
    · have Hlp := hide (show 4000 < 2 ^ V by omega)
      clear hlp hlm
      obtain ⟨hc1, hc2, hd1, hd2, hf1, hf2, hg0, hg1⟩ := HX4.out.facts
      go_wp2_with fail
      refine bodyPost_ret (v := .tuple #[.slice none 0 0, .slice none 0 0, .agg #[.int .i64 10, .int .i64 (-3)]]) (by simp [results, Try.results10, go_sem, hd1, hd2, hg1]) rfl ⟨below_res2 Hb4.out (show w.heap.size ≤ w.heap.size + 1 by omega) _ _, .inr ⟨by rw [Hcf.out], .inr (.inr ⟨rfl, by rw [Int.toNat_natCast]; exact Hlp.out⟩)⟩⟩
  · have hne : (ec != 0) = true := by simpa using hec
    go_enter Try.func10, Try.ntmps10
    go_wp2_with fail
    refine (Validate_at Hcf.out _ _ _ _ hv1 hv2 (by exact H2.out)).mono ?_
    rintro e w1 ⟨rfl, hb1⟩
    obtain ⟨hc1, hc2, hd1, hd2, hf1, hf2, hg0, hg1⟩ := (HX.out.keep hb1).facts
    have Hbb := hide (Hb.out.trans (hb1.mono Hb.out.size))
    clear hb1 HX Hb
    go_wp2
    go_region
    all_goals go_wp2
    all_goals
      refine bodyPost_ret (v := .tuple #[.slice none 0 0, .slice none 0 0, .agg #[.int .i64 ec, .int .i64 ei]]) (by simp [results, Try.results10, go_sem, hd1, hd2, hg1]) rfl ⟨(below_res2_alloc Hbb.out (show w.heap.size ≤ w1.heap.size by omega) (show w.heap.size ≤ w.heap.size + 1 by omega) _ _ _).drew, .inl ⟨by rw [Hcf.out]; exact hec, by rw [Hcf.out]; rfl⟩⟩
/-- what Find answers -/
def FindP (w : World) (V : Nat) (cs : List (List Int)) (e : Ending) (w' : World) : Prop :=
  Below w.heap.size w w' ∧ ((∃ A c m, e = .returned (.tuple #[.slice A V c, .bool true]) ∧ Solved w' V cs A c m) ∨ (e = .returned (.tuple #[.slice none 0 0, .bool false]) ∧ ∀ m : List Bool, m.length = V → trueAll cs m = false))
set_option maxHeartbeats 3200000 in
theorem Find_ct (V : Nat) (A : Option Addr) (n c : Nat) (cs : List (List Int)) (w : World) (hV : V ≤ 80) (hF : Few V cs 4000000000000) (hn : n ≤ 1000000) (h : Rd (Enc.sl Enc.int) w A n c cs) (hA : ∀ ad, A = some ad → ∃ b off, ad = ⟨b, off, none⟩) (hcl : ∀ c ∈ cs, Clean V c) :
    Calls Try.prog 17 #[.agg #[.int .i64 V, .slice A n c]] w (FindP w V cs) := by
  have hbw : Below w.heap.size w (w.alloc (.cells #[.int .i64 V, .slice A n c] 36)) := (Below.refl _ _).alloc (Nat.le_refl _) _
  have hBl := Blk.new w 36 [.int .i64 V, .slice A n c]
  obtain ⟨w2, hw2⟩ : ∃ w2, w2 = w.alloc (.cells #[.int .i64 V, .slice A n c] 36) := ⟨_, rfl⟩
  have Hw2 := hide hw2
  have hbl' : Blk 36 w2 w.heap.size [.int .i64 V, .slice A n c] := by rw [hw2]; exact hBl
  have hbw' : Below w.heap.size w w2 := by rw [hw2]; exact hbw
  have HBl := hide hbl'
  have Hb := hide hbw'
  have Hln := hide h.len
  have H := hide h
  have HA := hide hA
  have Hst := hide (st_start hcl)
  have Hcl := hide hcl
  clear hbw h hA hcl hbl' hBl hbw' hw2
  go_enter Try.func17, Try.ntmps17
  go_wp2_with fail
  rw [← Hw2.out]
  with_reducible refine (newSolver_ct (H.out.keep Hb.out) HA.out (by omega) (by omega)).mono ?_
  rintro e w3 ⟨g, a, rfl, hb3, hsv⟩
  have Hsv := hide hsv
  have Hb3 := hide (Hb.out.trans (hb3.mono Hb.out.size))
  have hwg := hsv.ge 0 g rfl
  have hwz := Hb.out.size
  clear hsv hb3
  go_wp2_with fail
  with_reducible refine (run_ct Hsv.out Hst.out (by omega) (.inr ⟨rfl, hF⟩) (by rw [Hln.out]; omega)).mono ?_
  rintro e w4 ⟨hb4, a4, cs4, ln, vals, lev, rea, t, starts, hsv4, hrups, hclean, hl4, hres⟩
  have Hb4 := hide (Hb3.out.trans (hb4.mono (by omega)))
  have Hsv4 := hide hsv4
  have Hrups := hide hrups
  have Hclean := hide hclean
  clear hb4 hsv4 hrups hclean hl4 Hsv Hb3 Hst
  rcases hres with ⟨rfl, rfl, hst4, hcalm, hall⟩ | ⟨rfl, ln', hln⟩ | ⟨rfl, hlm, hlp⟩
  · have hmt := true_part (ds := cs) (model_true hst4 hall hcalm) (fun c hc => List.mem_append_left _ hc)
    have Hmt := hide hmt
    clear hst4 hcalm hall hmt
    go_wp2_with fail
    with_reducible refine (values_ct Hsv4.out (by omega)).mono ?_
    rintro e w5 ⟨O, oc, rfl, hb5, hown⟩
    have Hb5 := hide (Hb4.out.trans (hb5.mono Hb4.out.size))
    have Hown := hide hown
    clear hb5 hown
    go_wp2_with fail
    go_ret2
    exact ⟨Hb5.out, .inl ⟨O, oc, modelF vals V, rfl, modelF_len _ _, Hmt.out, own_rdb Hown.out (modelF_len _ _)⟩⟩
  · have hck : ∀ m : List Bool, m.length = V → trueAll cs m = false := fun m hm => by
      have h1 := Hrups.out
      have h2 := Hclean.out
      rw [hln] at h1 h2
      exact rups_no Hcl.out h2 hm h1 (List.mem_append_right _ (List.mem_singleton.2 rfl))
    have Hck := hide hck
    clear hck hln
    go_wp2_with fail
    go_ret2
    exact ⟨Hb4.out, .inr ⟨rfl, Hck.out⟩⟩
  · omega
end Go.Proofs.Ytemiecammmbjdaa
