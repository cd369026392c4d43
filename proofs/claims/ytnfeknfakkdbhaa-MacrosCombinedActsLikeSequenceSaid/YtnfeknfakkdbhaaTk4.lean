/- A task's fault by the package strips. -/
import Derived.Test.YtnfeknfakkdbhaaTk3
namespace Go.Proofs.Ytnfeknfakkdbhaa
set_option linter.unusedVariables false
set_option linter.unusedSimpArgs false
open Go.RowKit

theorem tf1 {T : Tsk} (h : T.facts < 0 ∨ 24 < T.facts) : taskFault T = (3, -1) := by unfold taskFault; rw [if_pos (inB_no.2 h)]
theorem tf2 {T : Tsk} (h : 0 ≤ T.facts ∧ T.facts ≤ 24) (h2 : setB T.facts T.init = false) : taskFault T = (5, -2) := by unfold taskFault; rw [inB_iff.2 h, if_neg (by simp), if_pos h2]
theorem tf3 {T : Tsk} (h : 0 ≤ T.facts ∧ T.facts ≤ 24) (h2 : setB T.facts T.init = true) (h3 : setB T.facts T.goal = false) : taskFault T = (5, -3) := by unfold taskFault; rw [inB_iff.2 h, if_neg (by simp), if_neg (by simp [h2]), if_pos h3]
theorem tf4 {T : Tsk} (h : 0 ≤ T.facts ∧ T.facts ≤ 24) (h2 : setB T.facts T.init = true) (h3 : setB T.facts T.goal = true) (h4 : 40 < T.ops.length) : taskFault T = (2, -1) := by unfold taskFault; rw [inB_iff.2 h, if_neg (by simp), if_neg (by simp [h2]), if_neg (by simp [h3]), if_pos h4]
theorem tf5 {T : Tsk} (h : 0 ≤ T.facts ∧ T.facts ≤ 24) (h2 : setB T.facts T.init = true) (h3 : setB T.facts T.goal = true) (h4 : ¬ 40 < T.ops.length) : taskFault T = opsFault T.facts 0 T.ops := by unfold taskFault; rw [inB_iff.2 h, if_neg (by simp), if_neg (by simp [h2]), if_neg (by simp [h3]), if_neg h4]
set_option maxRecDepth 100000 in
set_option maxHeartbeats 3200000 in
theorem SValidate_ct (a : TA) (T : Tsk) (w : World) (h : TkR w a T) :
    Calls Try.prog 56 #[.agg #[.int .i64 T.facts, .slice a.I a.nI a.cI, .slice a.G a.nG a.cG, .slice a.O a.nO a.cO]] w (Gives w (fault (taskFault T).1 (taskFault T).2)) := by
  obtain ⟨I, nI, cI, G, nG, cG, O, nO, cO⟩ := a
  obtain ⟨⟨hf1, hf2⟩, hi, hg, ho⟩ := h
  simp only at hi hg ho ⊢
  have hlo := ho.low
  have hbw := below_two w (.cells #[.int .i64 T.facts, .slice I nI cI, .slice G nG cG, .slice O nO cO] 25) (.cells #[.int .i64 0, .int .i64 0] 29)
  have hX := BxF.new w 25 [.int .i64 T.facts, .slice I nI cI, .slice G nG cG, .slice O nO cO] (.int .i64 0) (.int .i64 0)
  have C1 := hide (SIsSet_ct I nI cI T.init T.facts _ (hi.keep hbw))
  have C2 := hide (SIsSet_ct G nG cG T.goal T.facts _ (hg.keep hbw))
  have Hlo := hide ho.len
  have Ho := hide ho
  have Hb := hide hbw
  have HX := hide hX
  obtain ⟨T0, T1, T2, T3⟩ := T
  simp only at *
  clear hi hg ho hbw hX
  by_cases hr : T0 < 0 ∨ 24 < T0
  · rw [tf1 hr]
    clear C1 C2
    by_cases h0 : T0 < 0
    · clear hr
      go_enter Try.func56, Try.ntmps56
      go_wp2_with fail
      exact bodyPost_ret (v := fault 3 (-1)) (by simp [results, Try.results56, go_sem, fault]) rfl ⟨rfl, below_two _ _ _⟩
    · have h1 : 24 < T0 := by omega
      clear hr
      go_enter Try.func56, Try.ntmps56
      go_wp2_with fail
      exact bodyPost_ret (v := fault 3 (-1)) (by simp [results, Try.results56, go_sem, fault]) rfl ⟨rfl, below_two _ _ _⟩
  have h0 : 0 ≤ T0 := by omega
  have h1 : T0 ≤ 24 := by omega
  clear hr
  rcases e1 : setB T0 T1 with _ | _
  · rw [tf2 ⟨h0, h1⟩ e1]
    rw [e1] at C1
    clear C2 e1
    go_enter Try.func56, Try.ntmps56
    go_wp2_with (go_at_call 91; refine C1.out.mono ?_; rintro e w1 ⟨rfl, rfl⟩)
    exact bodyPost_ret (v := fault 5 (-2)) (by simp [results, Try.results56, go_sem, fault]) rfl ⟨rfl, below_two _ _ _⟩
  rcases e2 : setB T0 T2 with _ | _
  · rw [tf3 ⟨h0, h1⟩ e1 e2]
    rw [e1] at C1
    rw [e2] at C2
    clear e1 e2
    go_enter Try.func56, Try.ntmps56
    go_wp2_with (go_at_call 91; (first | (with_reducible refine C1.out.mono ?_) | (with_reducible refine C2.out.mono ?_)); rintro e w1 ⟨rfl, rfl⟩)
    exact bodyPost_ret (v := fault 5 (-3)) (by simp [results, Try.results56, go_sem, fault]) rfl ⟨rfl, below_two _ _ _⟩
  by_cases h4 : 40 < nO
  · rw [tf4 ⟨h0, h1⟩ e1 e2 (by simpa [Hlo.out] using h4)]
    rw [e1] at C1
    rw [e2] at C2
    clear e1 e2
    go_enter Try.func56, Try.ntmps56
    go_wp2_with (go_at_call 91; (first | (with_reducible refine C1.out.mono ?_) | (with_reducible refine C2.out.mono ?_)); rintro e w1 ⟨rfl, rfl⟩)
    exact bodyPost_ret (v := fault 2 (-1)) (by simp [results, Try.results56, go_sem, fault]) rfl ⟨rfl, below_two _ _ _⟩
  have hres := tf5 (T := ⟨T0, T1, T2, T3⟩) ⟨h0, h1⟩ e1 e2 (by simpa [Hlo.out] using h4)
  simp only at hres
  have Hres := hide hres
  rw [e1] at C1
  rw [e2] at C2
  obtain ⟨n, rfl⟩ : ∃ n : Nat, T0 = (n : Int) := ⟨T0.toNat, by omega⟩
  clear e1 e2 hres
  have hXl := HX.out.resf
  go_enter Try.func56, Try.ntmps56
  go_wp2_with (go_at_call 91; (first | (with_reducible refine C1.out.mono ?_) | (with_reducible refine C2.out.mono ?_)); rintro e w1 ⟨rfl, rfl⟩)
  obtain ⟨W0, hW0⟩ : ∃ W0, W0 = (w.alloc (.cells #[.int .i64 n, .slice I nI cI, .slice G nG cG, .slice O nO cO] 25)).alloc (.cells #[.int .i64 0, .int .i64 0] 29) := ⟨_, rfl⟩
  rw [← hW0] at HX Hb hXl ⊢
  clear hW0 C1 C2
  obtain ⟨gb, hgb⟩ : ∃ gb, gb = w.heap.size := ⟨_, rfl⟩
  rw [← hgb] at HX hXl ⊢
  have Hgb := hide hgb
  clear hgb
  obtain ⟨_, _, _, _, hX1, hX2⟩ := hXl
  go_loopw [41] (fun i wr => ∃ k : Nat, k ≤ nO ∧ i = .int .i64 k ∧ Below W0.heap.size W0 wr ∧ opsFault (n : Int) 0 T3 = opsFault (n : Int) k (T3.drop k)) (fun i _ => nO - (intOf i).toNat)
  case atStart => exact ⟨0, by omega, rfl, Below.refl _ _, by simp⟩
  case round =>
    obtain ⟨k, hk, rfl, hbr, hrel⟩ := hrel
    have hX := HX.out.keep hbr
    obtain ⟨f0, f1, f2, f3⟩ := hX.cell4
    obtain ⟨y0, y1, y2, y3, y4, y5⟩ := hX.resf
    have HXr := hide hX
    have Hbr := hide hbr
    have Hrel := hide hrel
    have Hbw := hide (Hb.out.trans (hbr.mono Hb.out.size))
    clear hX hbr hrel
    by_cases hlt : k < nO
    · obtain ⟨b, off, o, A1, n1, c1, A2, n2, c2, A3, n3, c3, rfl, ho, g0, g1, g2, g3, r1, r2, r3, r4⟩ := (Ho.out.keep Hbw.out).op hlt
      have HO := hide ho
      clear ho
      have hop := fun W hW => operator_ct A1 A2 A3 n1 c1 n2 c2 n3 c3 o n W (r1.keep hW) (r2.keep hW) (r3.keep hW) r4 (by omega)
      have hrange := opCode_range (n : Int) o
      obtain ⟨ec, hec⟩ : ∃ ec, ec = opCode (n : Int) o := ⟨_, rfl⟩
      rw [← hec] at hop hrange
      have Hec := hide hec
      have Hop := hide hop
      clear hec hop r1 r2 r3 r4
      go_wp2_with fail
      with_reducible refine (Hop.out _ ((Below.refl _ _).alloc (Nat.le_refl _) _)).mono ?_
      rintro e w1 ⟨rfl, hb1⟩
      have hba := ((Below.refl wr.heap.size wr).alloc (Nat.le_refl _) (.cells #[.slice A1 n1 c1, .slice A2 n2 c2, .slice A3 n3 c3, .int .i64 o.cost] 27)).trans (hb1.mono (by simp))
      have hX := HXr.out.keep hba
      have Hbr1 := hide (Hbr.out.trans (hba.mono Hbr.out.size))
      have Hbw1 := hide (Hbw.out.trans (hba.mono Hbw.out.size))
      clear f0 f1 f2 f3 y0 y1 y2 y3 y4 y5 hb1 hba g0 g1 g2 g3
      obtain ⟨f0, f1, f2, f3⟩ := hX.cell4
      obtain ⟨y0, y1, y2, y3, y4, y5⟩ := hX.resf
      clear hX HXr Hbr Hbw Hop
      by_cases he : ec = 0
      · subst he
        go_wp2_with fail
        go_roundw
        case rel => exact ⟨k + 1, by omega, by go_num, Hbr1.out, by rw [Hrel.out, drop_cons HO.out, opsFault, if_pos Hec.out.symm]⟩
        case measure => simp [intOf]; omega
      · have hne : (ec != 0) = true := by simpa using he
        go_wp2_with fail
        refine bodyPost_ret (v := fault ec k) (by simp [results, Try.results56, go_sem, fault, y0, y1, y5]) rfl ⟨?_, below_res2 Hbw1.out (by have := Hgb.out; omega) _ _⟩
        rw [Hres.out, Hrel.out, drop_cons HO.out, opsFault, if_neg (by rw [← Hec.out]; exact he), ← Hec.out]
    · obtain rfl : k = nO := by omega
      go_wp2_with fail
      refine bodyPost_ret (v := fault 0 0) (by simp [results, Try.results56, go_sem, fault, y0, y1, y5]) rfl ⟨?_, below_res2 Hbw.out (by have := Hgb.out; omega) _ _⟩
      rw [Hres.out, Hrel.out, List.drop_of_length_le (by rw [Hlo.out]; omega), opsFault]
end Go.Proofs.Ytnfeknfakkdbhaa
