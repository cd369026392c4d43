/- Contract of the reference's DiagramFault. -/
import Derived.Test.YtgenpcokpodhkaaRef6h
import Derived.Test.YtgenpcokpodhkaaDia3
namespace Go.Proofs.Ytgenpcokpodhkaa
set_option linter.unusedVariables false
set_option linter.unusedSimpArgs false
open Go.RowKit Go.Maps

theorem inB_call {x lo hi : Int} {b : Bool} (h : inB x lo hi = b) (w : World) : Calls Try.prog 25 #[.int .i64 x, .int .i64 lo, .int .i64 hi] w (Same w (.bool b)) := by
  have := In_ct x lo hi w
  rwa [h] at this

theorem take1 {P : Program} {md : Region.Mode} {ops : Array Oper} {Q : Exit → Act → World → Prop} {S : World → Prop} {i : Nat} {oi : Oper} {v : Value} {fuel : Nat} {listed : Array Bool} {a : Act} {w : World} (d : Option Tmp) (hi : ops[i]? = some oi) (hd : oi.dst = d)
    (hs : Region.noSelect ops = true) (hf : Region.free md ops listed i = true) (hr : (Region.ready md ops listed).contains i = true)
    (hQ : ∀ c a w, Q (.panic c) (a.put d v) w → Q (.panic c) a w) (hy : YieldsIf P ops S oi v a) (hS : S w)
    (h : wpAnyH P md ops Q S fuel (listed.setIfInBounds i true) (a.put d v) w) : wpAnyH P md ops Q S (fuel + 1) listed a w := by
  subst hd
  exact wpAnyH_take hi hs hf hr hQ hy hS h

set_option maxHeartbeats 3200000 in
set_option maxRecDepth 100000 in
theorem DiagramFault_ct (L : Int) (A : Option Addr) (n c : Nat) (ns : List DI) (r : Int) (w : World) (hL : -9223372036854775808 ≤ L ∧ L ≤ 9223372036854775807) (hr : -9223372036854775808 ≤ r ∧ r ≤ 9223372036854775807) (h : Rd Enc.node w A n c ns) :
    Calls Try.prog 17 #[.agg #[.int .i64 L, .slice A n c, .int .i64 r]] w (Gives w (faultV (faultD L ns r))) := by
  have hsm := h.low
  have hcap := h.cap
  have hcs := h.small
  have hl := h.len
  have hst := VBox.start w L A n c r
  have Hst := hide hst
  have Hrd := hide h
  have hAt := fun (a b : Int) W => At_ct a b W
  have HAt := hide hAt
  clear hst h hAt
  by_cases hL1 : L < 0 ∨ 24 < L
  · have Hf : Hid (faultD L ns r = (3, -1)) := hide (by unfold faultD; rw [if_pos hL1])
    have Hin := hide (inB_no.2 hL1)
    clear hL1
    go_enter Try.func17, Try.ntmps17
    go_wp2_with fail
    refine (inB_call Hin.out _).mono ?_
    rintro e w1 ⟨rfl, rfl⟩
    go_wp2_with fail
    refine (HAt.out _ _ _).mono ?_
    rintro e w1 ⟨rfl, hb1⟩
    have hst1 := Hst.out.keep hb1
    obtain ⟨v0, v1, v2, v3, v4, v5, v6, v7, v8⟩ := hst1.facts
    have Hst1 := hide hst1
    clear hst1 hb1
    unfold fault
    go_wp2
    refine bodyPost_ret (v := faultV (3, -1)) (by simp [results, Try.results17, go_sem, faultV, v3, v4]) rfl ?_
    exact ⟨by rw [Hf.out], (Hst1.out.below.setCell (by simp) _).setCell (by simp) _⟩
  have Hin := hide (inB_iff.2 (show 0 ≤ L ∧ L ≤ 24 by omega))
  by_cases hn : 300 < n
  · have Hf : Hid (faultD L ns r = (2, -1)) := hide (by unfold faultD; rw [if_neg hL1, if_pos (by omega)])
    clear hL1
    go_enter Try.func17, Try.ntmps17
    go_wp2_with fail
    refine (inB_call Hin.out _).mono ?_
    rintro e w1 ⟨rfl, rfl⟩
    go_wp2_with fail
    refine (HAt.out _ _ _).mono ?_
    rintro e w1 ⟨rfl, hb1⟩
    have hst1 := Hst.out.keep hb1
    obtain ⟨v0, v1, v2, v3, v4, v5, v6, v7, v8⟩ := hst1.facts
    have Hst1 := hide hst1
    clear hst1 hb1
    unfold fault
    go_wp2
    refine bodyPost_ret (v := faultV (2, -1)) (by simp [results, Try.results17, go_sem, faultV, v3, v4]) rfl ?_
    exact ⟨by rw [Hf.out], (Hst1.out.below.setCell (by simp) _).setCell (by simp) _⟩
  have hl3 : ¬ 300 < ns.length := by omega
  go_enter Try.func17, Try.ntmps17
  go_wp2_with fail
  refine (inB_call Hin.out _).mono ?_
  rintro e w1 ⟨rfl, rfl⟩
  go_wp2_with fail
  go_loopw [3] (fun i wr => ∃ k : Nat, k ≤ n ∧ i = .int .i64 k ∧ VBox w wr L A n c r ∧ scanN L ns 0 ns = scanN L ns k (ns.drop k)) (fun i _ => n - (intOf i).toNat)
  case atStart => exact ⟨0, by omega, rfl, Hst.out, by simp⟩
  case round =>
    obtain ⟨k, hk, rfl, hbx, hrel⟩ := hrel
    obtain ⟨f0, f1, f2, f3, f4, f5, f6, f7, f8⟩ := hbx.facts
    by_cases hlt : k < n
    · obtain ⟨b, off, x, rfl, hx, hc0, hc1, hc2, hxb, hbw⟩ := (Hrd.out.keep hbx.below).node hlt
      rw [drop_cons hx] at hrel
      obtain ⟨x0, x1, x2⟩ := x
      simp only at hc0 hc1 hc2 hxb
      have Hrel := hide hrel
      have Hbx := hide hbx
      have Hx := hide hx
      clear hrel hbx hx
      have hwL : IntKind.i64.wrap (L - 1) = L - 1 := by rw [IntWalk.i64_in _ (by omega)]
      have hbV : Below wr.heap.size wr (wr.alloc (.cells #[.int .i64 x0, .int .i64 x1, .int .i64 x2] 69)) := (Below.refl _ _).alloc (Nat.le_refl _) _
      have hbox : Blk 69 (wr.alloc (.cells #[.int .i64 x0, .int .i64 x1, .int .i64 x2] 69)) wr.heap.size [.int .i64 x0, .int .i64 x1, .int .i64 x2] := Blk.new _ _ _
      have Hvb := hide (Hbx.out.keep hbV)
      have Hbox := hide hbox
      clear hbox hbV
      by_cases hrange : rangeN L k (x0, x1, x2)
      · have hf : faultD L ns r = (3, (k : Int)) := by
          refine faultD_some (by omega) (by omega) hl3 ?_
          have hch : chkN L ns k (x0, x1, x2) = 3 := by unfold chkN; rw [if_pos hrange]
          rw [Hrel.out, scanN, hch]
          rfl
        have Hf := hide hf
        clear hf
        simp only [rangeN] at hrange
        cases h0 : inB x0 0 (L - 1) <;> cases h1 : inB x1 0 ((k : Int) + 1) <;> cases h2 : inB x2 0 ((k : Int) + 1)
        all_goals
          try
            have i0 := inB_iff.1 h0
            have i1 := inB_iff.1 h1
            have i2 := inB_iff.1 h2
            exfalso
            omega
        all_goals
          have H0 := hide h0
          have H1 := hide h1
          have H2 := hide h2
          clear h0 h1 h2 hrange
          go_wp2_with (go_at_call 25; (first | with_reducible refine (inB_call H0.out _).mono ?_ | with_reducible refine (inB_call H1.out _).mono ?_ | with_reducible refine (inB_call H2.out _).mono ?_); rintro e w1 ⟨rfl, rfl⟩)
          refine (HAt.out _ _ _).mono ?_
          rintro e w1 ⟨rfl, hb1⟩
          have hst1 := Hvb.out.keep hb1
          obtain ⟨v0, v1, v2, v3, v4, v5, v6, v7, v8⟩ := hst1.facts
          have Hst1 := hide hst1
          clear hst1 hb1
          unfold fault
          go_wp2
          refine bodyPost_ret (v := faultV (3, (k : Int))) (by simp [results, Try.results17, go_sem, faultV, v3, v4]) rfl ?_
          exact ⟨by rw [Hf.out], (Hst1.out.below.setCell (by simp) _).setCell (by simp) _⟩
      · have hck : chkN L ns k (x0, x1, x2) = if badN L ns k (x0, x1, x2) then 5 else 0 := by unfold chkN; rw [if_neg hrange]
        have hbad : badN L ns k (x0, x1, x2) → faultD L ns r = (5, (k : Int)) := fun hb => by
          refine faultD_some (by omega) (by omega) hl3 ?_
          rw [if_pos hb] at hck
          rw [Hrel.out, scanN, hck]
          rfl
        have hgood : ¬ badN L ns k (x0, x1, x2) → scanN L ns 0 ns = scanN L ns (k + 1) (ns.drop (k + 1)) := fun hb => by
          rw [if_neg hb] at hck
          rw [Hrel.out, scanN, if_pos hck]
        simp only [rangeN, not_or] at hrange
        obtain ⟨z1, z2, z3, z4, z5, z6⟩ := hrange
        have H0 := hide (inB_iff.2 (show 0 ≤ x0 ∧ x0 ≤ L - 1 by omega))
        have H1 := hide (inB_iff.2 (show 0 ≤ x1 ∧ x1 ≤ (k : Int) + 1 by omega))
        have H2 := hide (inB_iff.2 (show 0 ≤ x2 ∧ x2 ≤ (k : Int) + 1 by omega))
        have Hbad := hide hbad
        have Hgood := hide hgood
        clear hbad hgood hck Hrel
        go_wp2_with (go_at_call 25; (first | with_reducible refine (inB_call H0.out _).mono ?_ | with_reducible refine (inB_call H1.out _).mono ?_ | with_reducible refine (inB_call H2.out _).mono ?_); rintro e w1 ⟨rfl, rfl⟩)
        obtain ⟨V, hV⟩ : ∃ V, V = wr.alloc (.cells #[.int .i64 x0, .int .i64 x1, .int .i64 x2] 69) := ⟨_, rfl⟩
        rw [← hV] at Hvb Hbox ⊢
        have hd0 := Hbox.out.cell 0
        have hd1 := Hbox.out.cell 1
        have hd2 := Hbox.out.cell 2
        have hVl := Hbox.out.lt
        simp only [List.getElem?_cons_zero, List.getElem?_cons_succ] at hd0 hd1 hd2
        obtain ⟨g0, g1, g2, g3, g4, g5, g6, g7, g8⟩ := Hvb.out.facts
        clear hV f0 f1 f2 f3 f4 f5 f6 f7 f8 hc0 hc1 hc2
        have hlv : ∀ W, Below V.heap.size V W → ∀ q, 0 ≤ q → q < (n : Int) + 2 → Calls Try.prog 44 #[.agg #[.int .i64 L, .slice (some ⟨b, off, none⟩) n c, .int .i64 r], .int .i64 q] W (Gives W (.int .i64 (lvlI L ns q))) := fun W hW q hq0 hq =>
          diagramLevel_ct _ n c ns L r q W ((Hrd.out.keep Hvb.out.below).keep hW) hq hq0
        have hl1 := fun W hW => hlv W hW x1 (by omega) (by omega)
        have hl2 := fun W hW => hlv W hW x2 (by omega) (by omega)
        have hpb : badN L ns k (x0, x1, x2) ↔ (decide (x1 = x2) || (decide (lvlI L ns x1 ≤ x0) || (decide (lvlI L ns x2 ≤ x0) || decide ((x0, x1, x2) ∈ ns.take k)))) = true := by simp [badN]
        generalize lvlI L ns x1 = p1 at hl1 hpb
        generalize lvlI L ns x2 = p2 at hl2 hpb
        have Hl1 := hide hl1
        have Hl2 := hide hl2
        have Hpb := hide hpb
        clear hlv hl1 hl2 hpb
        go_cut [5] (fun s5 wc => s5 = .bool (decide (x1 = x2) || (decide (p1 ≤ x0) || decide (p2 ≤ x0))) ∧ Below V.heap.size V wc)
        case first =>
          by_cases he : x1 = x2
          · subst he
            go_quiet (fail)
            go_wp2
            go_meet
            exact ⟨by simp, below_drewN (Below.refl _ _) _⟩
          · have hne : (x1 == x2) = false := by rw [beq_eq_false_iff_ne]; exact he
            by_cases hp1 : p1 ≤ x0
            · have hdp : decide (p1 ≤ x0) = true := decide_eq_true hp1
              have Hp1 := hide hp1
              refine wp_region_held_drew (S := (fun w' => w'.cell? ⟨w.heap.size, 0, none⟩ = some (.int .i64 L) ∧ w'.cell? ⟨w.heap.size, 1, none⟩ = some (.slice (some ⟨b, off, none⟩) n c) ∧ w'.cell? ⟨w.heap.size, 2, none⟩ = some (.int .i64 r) ∧ w'.cell? ⟨wr.heap.size, 0, none⟩ = some (.int .i64 x0) ∧ w'.cell? ⟨wr.heap.size, 1, none⟩ = some (.int .i64 x1) ∧ w'.cell? ⟨wr.heap.size, 2, none⟩ = some (.int .i64 x2))) (by kernel_rfl) ?_ (fun hHeld => ?_)
              · (try dsimp only); go_keep
              refine take1 (i := 0) (v := ?_) (some 54) rfl rfl (by kernel_rfl) (by kernel_rfl) (by kernel_rfl) (fun _ _ _ h => h) (Or.inl ⟨by rfl, ?_⟩) (by assumption) ?_
              rotate_left
              · intro w hSw; (try dsimp only at hSw); first | (go_simp; done) | (go_simp; with_reducible rfl)
              try simp only [Act.put, List.setIfInBounds_toArray, List.set_cons_zero, List.set_cons_succ]
              refine take1 (i := 1) (v := ?_) (some 55) rfl rfl (by kernel_rfl) (by kernel_rfl) (by kernel_rfl) (fun _ _ _ h => h) (Or.inl ⟨by rfl, ?_⟩) (by assumption) ?_
              rotate_left
              · intro w hSw; (try dsimp only at hSw); first | (go_simp; done) | (go_simp; with_reducible rfl)
              try simp only [Act.put, List.setIfInBounds_toArray, List.set_cons_zero, List.set_cons_succ]
              refine take1 (i := 2) (v := ?_) (some 56) rfl rfl (by kernel_rfl) (by kernel_rfl) (by kernel_rfl) (fun _ _ _ h => h) (Or.inl ⟨by rfl, ?_⟩) (by assumption) ?_
              rotate_left
              · intro w hSw; (try dsimp only at hSw); first | (go_simp; done) | (go_simp; with_reducible rfl)
              try simp only [Act.put, List.setIfInBounds_toArray, List.set_cons_zero, List.set_cons_succ]
              refine take1 (i := 3) (v := ?_) (some 57) rfl rfl (by kernel_rfl) (by kernel_rfl) (by kernel_rfl) (fun _ _ _ h => h) (Or.inl ⟨by rfl, ?_⟩) (by assumption) ?_
              rotate_left
              · intro w hSw; (try dsimp only at hSw); first | (go_simp; done) | (go_simp; with_reducible rfl)
              try simp only [Act.put, List.setIfInBounds_toArray, List.set_cons_zero, List.set_cons_succ]
              refine take1 (i := 4) (v := ?_) (some 58) rfl rfl (by kernel_rfl) (by kernel_rfl) (by kernel_rfl) (fun _ _ _ h => h) (Or.inl ⟨by rfl, ?_⟩) (by assumption) ?_
              rotate_left
              · intro w hSw; (try dsimp only at hSw); first | (go_simp; done) | (go_simp; with_reducible rfl)
              try simp only [Act.put, List.setIfInBounds_toArray, List.set_cons_zero, List.set_cons_succ]
              refine take1 (i := 5) (v := ?_) (some 59) rfl rfl (by kernel_rfl) (by kernel_rfl) (by kernel_rfl) (fun _ _ _ h => h) (Or.inl ⟨by rfl, ?_⟩) (by assumption) ?_
              rotate_left
              · intro w hSw; (try dsimp only at hSw); first | (go_simp; done) | (go_simp; with_reducible rfl)
              try simp only [Act.put, List.setIfInBounds_toArray, List.set_cons_zero, List.set_cons_succ]
              refine take1 (i := 6) (v := ?_) (some 60) rfl rfl (by kernel_rfl) (by kernel_rfl) (by kernel_rfl) (fun _ _ _ h => h) (Or.inl ⟨by rfl, ?_⟩) (by assumption) ?_
              rotate_left
              · intro w hSw; (try dsimp only at hSw); first | (go_simp; done) | (go_simp; with_reducible rfl)
              try simp only [Act.put, List.setIfInBounds_toArray, List.set_cons_zero, List.set_cons_succ]
              refine take1 (i := 7) (v := ?_) (some 61) rfl rfl (by kernel_rfl) (by kernel_rfl) (by kernel_rfl) (fun _ _ _ h => h) (Or.inl ⟨by rfl, ?_⟩) (by assumption) ?_
              rotate_left
              · intro w hSw; (try dsimp only at hSw); first | (go_simp; done) | (go_simp; with_reducible rfl)
              try simp only [Act.put, List.setIfInBounds_toArray, List.set_cons_zero, List.set_cons_succ]
              refine take1 (i := 8) (v := ?_) (some 62) rfl rfl (by kernel_rfl) (by kernel_rfl) (by kernel_rfl) (fun _ _ _ h => h) (Or.inl ⟨by rfl, ?_⟩) (by assumption) ?_
              rotate_left
              · intro w hSw; (try dsimp only at hSw); first | (go_simp; done) | (go_simp; with_reducible rfl)
              try simp only [Act.put, List.setIfInBounds_toArray, List.set_cons_zero, List.set_cons_succ]
              refine take1 (i := 10) (v := ?_) (some 64) rfl rfl (by kernel_rfl) (by kernel_rfl) (by kernel_rfl) (fun _ _ _ h => h) (Or.inl ⟨by rfl, ?_⟩) (by assumption) ?_
              rotate_left
              · intro w hSw; (try dsimp only at hSw); first | (go_simp; done) | (go_simp; with_reducible rfl)
              try simp only [Act.put, List.setIfInBounds_toArray, List.set_cons_zero, List.set_cons_succ]
              refine take1 (i := 11) (v := ?_) (some 65) rfl rfl (by kernel_rfl) (by kernel_rfl) (by kernel_rfl) (fun _ _ _ h => h) (Or.inl ⟨by rfl, ?_⟩) (by assumption) ?_
              rotate_left
              · intro w hSw; (try dsimp only at hSw); first | (go_simp; done) | (go_simp; with_reducible rfl)
              try simp only [Act.put, List.setIfInBounds_toArray, List.set_cons_zero, List.set_cons_succ]
              refine wpAnyH_ready (rs := [9]) (by kernel_rfl) (by simp) ?_
              refine AllReadyH.cons rfl (fun K hK => ?_) AllReadyH.nil
              go_simp
              with_reducible refine (Hl1.out _ (Below.refl V.heap.size V).drew).mono ?_
              rintro e w1 ⟨rfl, hb1⟩
              have hb1' := (Below.refl V.heap.size V).drew.trans hb1
              have hv1 := Hvb.out.keep hb1'
              have hx1 := Hbox.out.keep hb1'
              obtain ⟨u0, u1, u2, u3, u4, u5, u6, u7, u8⟩ := hv1.facts
              have v0 := hx1.cell 0
              have v1 := hx1.cell 1
              have v2 := hx1.cell 2
              simp only [List.getElem?_cons_zero, List.getElem?_cons_succ] at v0 v1 v2
              have Hb1 := hide hb1'
              clear hb1 hb1' hv1 hx1 u3 u4 u5 u6
              refine hK.out _ _ ?_ (fun hHeld2 => ?_)
              · (try dsimp only); go_keep
              clear hK K hHeld
              try simp only [Act.put, List.setIfInBounds_toArray, List.set_cons_zero, List.set_cons_succ]
              have hHeld := hHeld2; clear hHeld2
              refine take1 (i := 12) (v := ?_) (some 66) rfl rfl (by kernel_rfl) (by kernel_rfl) (by kernel_rfl) (fun _ _ _ h => h) (Or.inl ⟨by rfl, ?_⟩) (by assumption) ?_
              rotate_left
              · intro w hSw; (try dsimp only at hSw); first | (go_simp; done) | (go_simp; with_reducible rfl)
              try simp only [Act.put, List.setIfInBounds_toArray, List.set_cons_zero, List.set_cons_succ]
              refine take1 (i := 13) (v := ?_) (some 67) rfl rfl (by kernel_rfl) (by kernel_rfl) (by kernel_rfl) (fun _ _ _ h => h) (Or.inl ⟨by rfl, ?_⟩) (by assumption) ?_
              rotate_left
              · intro w hSw; (try dsimp only at hSw); first | (go_simp; done) | (go_simp; with_reducible rfl)
              try simp only [Act.put, List.setIfInBounds_toArray, List.set_cons_zero, List.set_cons_succ]
              refine take1 (i := 14) (v := ?_) (some 68) rfl rfl (by kernel_rfl) (by kernel_rfl) (by kernel_rfl) (fun _ _ _ h => h) (Or.inl ⟨by rfl, ?_⟩) (by assumption) ?_
              rotate_left
              · intro w hSw; (try dsimp only at hSw); first | (go_simp; done) | (go_simp; with_reducible rfl)
              try simp only [Act.put, List.setIfInBounds_toArray, List.set_cons_zero, List.set_cons_succ]
              refine take1 (i := 15) (v := undef) (some 69) rfl rfl (by kernel_rfl) (by kernel_rfl) (by kernel_rfl) (fun _ _ _ h => h) (Or.inr ⟨by rfl, rfl⟩) (by assumption) ?_
              try simp only [Act.put, List.setIfInBounds_toArray, List.set_cons_zero, List.set_cons_succ]
              refine take1 (i := 16) (v := undef) (some 70) rfl rfl (by kernel_rfl) (by kernel_rfl) (by kernel_rfl) (fun _ _ _ h => h) (Or.inr ⟨by rfl, rfl⟩) (by assumption) ?_
              try simp only [Act.put, List.setIfInBounds_toArray, List.set_cons_zero, List.set_cons_succ]
              refine take1 (i := 17) (v := undef) (some 71) rfl rfl (by kernel_rfl) (by kernel_rfl) (by kernel_rfl) (fun _ _ _ h => h) (Or.inr ⟨by rfl, rfl⟩) (by assumption) ?_
              try simp only [Act.put, List.setIfInBounds_toArray, List.set_cons_zero, List.set_cons_succ]
              refine take1 (i := 18) (v := undef) (some 72) rfl rfl (by kernel_rfl) (by kernel_rfl) (by kernel_rfl) (fun _ _ _ h => h) (Or.inr ⟨by rfl, rfl⟩) (by assumption) ?_
              try simp only [Act.put, List.setIfInBounds_toArray, List.set_cons_zero, List.set_cons_succ]
              refine take1 (i := 19) (v := undef) (some 73) rfl rfl (by kernel_rfl) (by kernel_rfl) (by kernel_rfl) (fun _ _ _ h => h) (Or.inr ⟨by rfl, rfl⟩) (by assumption) ?_
              try simp only [Act.put, List.setIfInBounds_toArray, List.set_cons_zero, List.set_cons_succ]
              refine take1 (i := 20) (v := undef) (some 74) rfl rfl (by kernel_rfl) (by kernel_rfl) (by kernel_rfl) (fun _ _ _ h => h) (Or.inr ⟨by rfl, rfl⟩) (by assumption) ?_
              try simp only [Act.put, List.setIfInBounds_toArray, List.set_cons_zero, List.set_cons_succ]
              refine take1 (i := 21) (v := undef) (some 75) rfl rfl (by kernel_rfl) (by kernel_rfl) (by kernel_rfl) (fun _ _ _ h => h) (Or.inr ⟨by rfl, rfl⟩) (by assumption) ?_
              try simp only [Act.put, List.setIfInBounds_toArray, List.set_cons_zero, List.set_cons_succ]
              refine take1 (i := 22) (v := ?_) (some 76) rfl rfl (by kernel_rfl) (by kernel_rfl) (by kernel_rfl) (fun _ _ _ h => h) (Or.inl ⟨by rfl, ?_⟩) (by assumption) ?_
              rotate_left
              · intro w hSw; (try dsimp only at hSw); first | (go_simp; done) | (go_simp; with_reducible rfl)
              try simp only [Act.put, List.setIfInBounds_toArray, List.set_cons_zero, List.set_cons_succ]
              refine take1 (i := 23) (v := ?_) (some 5) rfl rfl (by kernel_rfl) (by kernel_rfl) (by kernel_rfl) (fun _ _ _ h => h) (Or.inl ⟨by rfl, ?_⟩) (by assumption) ?_
              rotate_left
              · intro w hSw; (try dsimp only at hSw); first | (go_simp; done) | (go_simp; with_reducible rfl)
              try simp only [Act.put, List.setIfInBounds_toArray, List.set_cons_zero, List.set_cons_succ]
              refine wpAnyH_done (by kernel_rfl) ?_ _
              go_wp2
              go_meet
              exact ⟨by simp [he]; exact .inl Hp1.out, Hb1.out⟩
            · have hdp : decide (p1 ≤ x0) = false := decide_eq_false hp1
              have Hp1 := hide hp1
              go_region_held3 (fun w' => w'.cell? ⟨w.heap.size, 0, none⟩ = some (.int .i64 L) ∧ w'.cell? ⟨w.heap.size, 1, none⟩ = some (.slice (some ⟨b, off, none⟩) n c) ∧ w'.cell? ⟨w.heap.size, 2, none⟩ = some (.int .i64 r) ∧ w'.cell? ⟨wr.heap.size, 0, none⟩ = some (.int .i64 x0) ∧ w'.cell? ⟨wr.heap.size, 1, none⟩ = some (.int .i64 x1) ∧ w'.cell? ⟨wr.heap.size, 2, none⟩ = some (.int .i64 x2)) (first | go_keep) (first
                | (go_at_call 44
                   with_reducible refine (Hl1.out _ (Below.refl V.heap.size V).drew).mono ?_
                   rintro e w1 ⟨rfl, hb1⟩
                   have hb1' := (Below.refl V.heap.size V).drew.trans hb1
                   have hv1 := Hvb.out.keep hb1'
                   have hx1 := Hbox.out.keep hb1'
                   obtain ⟨u0, u1, u2, u3, u4, u5, u6, u7, u8⟩ := hv1.facts
                   have v0 := hx1.cell 0
                   have v1 := hx1.cell 1
                   have v2 := hx1.cell 2
                   simp only [List.getElem?_cons_zero, List.getElem?_cons_succ] at v0 v1 v2
                   have Hb1 := hide hb1'
                   clear hb1 hb1' hv1 hx1 u3 u4 u5 u6)
                | (go_at_call 44
                   with_reducible refine (Hl2.out _ Hb1.out).mono ?_
                   rintro e w2 ⟨rfl, hb2⟩
                   have hb2' := Hb1.out.trans (hb2.mono Hb1.out.size)
                   have hv1 := Hvb.out.keep hb2'
                   have hx1 := Hbox.out.keep hb2'
                   obtain ⟨m0, m1, m2, m3, m4, m5, m6, m7, m8⟩ := hv1.facts
                   have o0 := hx1.cell 0
                   have o1 := hx1.cell 1
                   have o2 := hx1.cell 2
                   simp only [List.getElem?_cons_zero, List.getElem?_cons_succ] at o0 o1 o2
                   have Hb2 := hide hb2'
                   clear hb2 hb2' hv1 hx1 m3 m4 m5 m6))
              all_goals
                go_wp2
                go_meet
                exact ⟨by simp [he]; intro hz; have := Hp1.out; omega, Hb2.out⟩
        case rest =>
          obtain ⟨rfl, hbc⟩ := hcut
          have hvc := Hvb.out.keep hbc
          have hxc := Hbox.out.keep hbc
          have hsc := hbc.size
          obtain ⟨V2, rfl⟩ : ∃ W, W = wc := ⟨_, rfl⟩
          have Hvc := hide hvc
          have Hxc := hide hxc
          clear hvc hxc hbc g0 g1 g2 g3 g4 g5 g6 g7 g8 hd0 hd1 hd2 hVl Hl1 Hl2
          generalize hbd : (decide (x1 = x2) || (decide (p1 ≤ x0) || decide (p2 ≤ x0))) = bad0
          have hpb : badN L ns k (x0, x1, x2) ↔ (bad0 || decide ((x0, x1, x2) ∈ ns.take k)) = true := by
            rw [Hpb.out, ← hbd]
            simp [Bool.or_assoc]
          have Hpb2 := hide hpb
          clear hbd hpb Hpb
          go_wp2_with fail
          go_loopw [5, 6] (fun bd i wx => ∃ j : Nat, j ≤ k ∧ i = .int .i64 j ∧ bd = .bool (bad0 || decide ((x0, x1, x2) ∈ ns.take j)) ∧ Qt V2 wx) (fun _ i _ => k - (intOf i).toNat)
          case atStart => exact ⟨0, by omega, rfl, by simp, Qt.refl _⟩
          case round =>
            obtain ⟨j, hj, rfl, rfl, hq⟩ := hrel
            obtain ⟨wq, rfl⟩ : ∃ V, V = wr := ⟨_, rfl⟩
            have hvq := Hvc.out.keep (hq.below _)
            have hxq := Hxc.out.qt hq
            obtain ⟨g0, g1, g2, g3, g4, g5, g6, g7, g8⟩ := hvq.facts
            have d0 := hxq.cell 0
            have d1 := hxq.cell 1
            have d2 := hxq.cell 2
            have d3 := hxq.lt
            simp only [List.getElem?_cons_zero, List.getElem?_cons_succ] at d0 d1 d2
            by_cases hjk : j < k
            · obtain ⟨b', off', y, e, hy, hc0, hc1, hc2, _, hbr⟩ := (Hrd.out.keep hvq.below).node (show j < n by omega)
              injection e with e
              injection e with e1 e2
              subst e1 e2
              obtain ⟨y0, y1, y2⟩ := y
              simp only at hc0 hc1 hc2
              have htk : ns.take (j + 1) = ns.take j ++ [(y0, y1, y2)] := take_snoc' hy
              have heq := eqNode y0 y1 y2 x0 x1 x2
              have Hq := hide hq
              have hjn0 : (0 : Int) ≤ (j : Int) := by omega
              have hjn2 : (j : Int) < (n : Int) := by omega
              have hjn3 : (n : Int) ≤ (c : Int) := by omega
              clear hvq hxq hq hy
              cases hbv : (bad0 || decide ((x0, x1, x2) ∈ ns.take j))
              · have hres : (bad0 || decide ((x0, x1, x2) ∈ ns.take (j + 1))) = decide ((y0, y1, y2) = (x0, x1, x2)) := by
                  obtain ⟨hb0, hm⟩ := Bool.or_eq_false_iff.1 hbv
                  rw [hb0, Bool.false_or, htk]
                  simp only [decide_eq_false_iff_not] at hm
                  simp only [List.mem_append, List.mem_singleton, hm, false_or]
                  exact decide_eq_decide.2 ⟨fun h => h.symm, fun h => h.symm⟩
                have Hres := hide hres
                clear hres hbv htk
                by_cases he : (y0, y1, y2) = (x0, x1, x2)
                · rw [decide_eq_true he] at heq Hres
                  clear he
                  go_wp2_with fail
                  go_quiet (fail)
                  go_wp2
                  go_roundw
                  case rel => exact ⟨j + 1, by omega, by go_num, by rw [Hres.out], Hq.out.drewN _⟩
                  case measure => simp [intOf]; omega
                · rw [decide_eq_false he] at heq Hres
                  clear he
                  go_wp2_with fail
                  go_quiet (fail)
                  go_wp2
                  go_roundw
                  case rel => exact ⟨j + 1, by omega, by go_num, by rw [Hres.out], Hq.out.drewN _⟩
                  case measure => simp [intOf]; omega
              · have hres : (bad0 || decide ((x0, x1, x2) ∈ ns.take (j + 1))) = true := by
                  rw [htk]
                  rcases Bool.or_eq_true_iff.1 hbv with h1 | h1
                  · rw [h1]; rfl
                  · rw [decide_eq_true_eq] at h1
                    rw [decide_eq_true (List.mem_append_left _ h1), Bool.or_true]
                have Hres := hide hres
                clear hres hbv htk heq
                go_wp2_with fail
                go_quiet (fail)
                go_wp2
                go_roundw
                case rel => exact ⟨j + 1, by omega, by go_num, by rw [Hres.out], Hq.out.drewN _⟩
                case measure => simp [intOf]; omega
            · obtain rfl : j = k := by omega
              have Hvq := hide hvq
              clear hvq hxq hq
              cases hbv : (bad0 || decide ((x0, x1, x2) ∈ ns.take j))
              · have Hs := hide (Hgood.out (fun hb => by have := Hpb2.out.1 hb; rw [hbv] at this; cases this))
                clear hbv
                go_wp2_with fail
                go_roundw
                case rel => exact ⟨j + 1, by omega, by go_num, Hvq.out, Hs.out⟩
                case measure => simp [intOf]; omega
              · have Hf : Hid (faultD L ns r = (5, (j : Int))) := hide (Hbad.out (Hpb2.out.2 hbv))
                clear hbv
                go_wp2_with fail
                refine (HAt.out _ _ _).mono ?_
                rintro e w1 ⟨rfl, hb1⟩
                have hst1 := Hvq.out.keep hb1
                obtain ⟨v0, v1, v2, v3, v4, v5, v6, v7, v8⟩ := hst1.facts
                have Hst1 := hide hst1
                clear hst1 hb1
                unfold fault
                go_wp2
                refine bodyPost_ret (v := faultV (5, (j : Int))) (by simp [results, Try.results17, go_sem, faultV, v3, v4]) rfl ?_
                exact ⟨by rw [Hf.out], (Hst1.out.below.setCell (by simp) _).setCell (by simp) _⟩
    · have hkn : k = n := by omega
      have hscan : scanN L ns 0 ns = none := by rw [hrel, List.drop_of_length_le (by omega)]; rfl
      obtain ⟨hok, hcast⟩ := scan_ok (by omega) hscan
      have hwn : IntKind.i64.wrap ((n : Int) + 1) = (n : Int) + 1 := by rw [IntWalk.i64_in _ (by omega)]
      by_cases hroot : r < 0 ∨ (n : Int) + 1 < r
      · have Hf := hide (faultD_root (L := L) (ns := ns) (r := r) (by omega) (by omega) hl3 hscan (by rw [hl]; exact hroot))
        have Hbx := hide hbx
        have Hri := hide (inB_no.2 hroot)
        clear hrel hbx hscan hok hcast hroot
        go_wp2_with fail
        refine (inB_call Hri.out _).mono ?_
        rintro e w1 ⟨rfl, rfl⟩
        go_wp2_with fail
        refine (HAt.out _ _ _).mono ?_
        rintro e w1 ⟨rfl, hb1⟩
        have hst1 := Hbx.out.keep hb1
        obtain ⟨v0, v1, v2, v3, v4, v5, v6, v7, v8⟩ := hst1.facts
        have Hst1 := hide hst1
        clear hst1 hb1
        unfold fault
        go_wp2
        refine bodyPost_ret (v := faultV (3, -2)) (by simp [results, Try.results17, go_sem, faultV, v3, v4]) rfl ?_
        exact ⟨by rw [Hf.out], (Hst1.out.below.setCell (by simp) _).setCell (by simp) _⟩
      · have hfd := faultD_canon (L := L) (ns := ns) (r := r) (by omega) (by omega) hl3 hscan (by rw [hl]; exact hroot)
        obtain ⟨L', hL'⟩ : ∃ m : Nat, L = (m : Int) := ⟨L.toNat, by omega⟩
        obtain ⟨r', hr'⟩ : ∃ m : Nat, r = (m : Int) := ⟨r.toNat, by omega⟩
        subst hL' hr'
        have hr2 : r' < n + 2 := by omega
        simp only [Int.toNat_natCast] at hok hfd
        obtain ⟨ds, hds⟩ : ∃ ds, ds = ns.map natN := ⟨_, rfl⟩
        rw [← hds] at hok hcast hfd
        have hdl : ds.length = n := by rw [hds, List.length_map, hl]
        have hcc := canon_comp hok (show r' < ds.length + 2 by omega)
        have Hri := hide (inB_iff.2 (show 0 ≤ (r' : Int) ∧ (r' : Int) ≤ (n : Int) + 1 by omega))
        have hrd0 := Hrd.out
        rw [← hcast] at hrd0
        have hcall := fun W (hW : Below wr.heap.size wr W) => completed_ct W L' n c r' A ds hok (by omega) ((hrd0.keep hbx.below).keep hW) (r' + 1) r' [] none 0 W (by omega) (by omega) List.nodup_nil (fun j hj => by cases hj) (World.ownsRow_nil _ _ _ _) (Below.refl _ _)
        have hcn := comp_nodup hok (r' + 1) r' [] (by omega) (by omega) List.nodup_nil (fun j hj => by cases hj)
        generalize comp ds (r' + 1) r' [] = done at hcc hcall hcn
        have hdn := nodup_len hcn.1 hcn.2
        have Hcc := hide hcc
        have Hcn := hide hcn
        have Hcall := hide hcall
        have Hfd := hide hfd
        have Hbx := hide hbx
        have HdL := hide hdl
        clear hrel hbx hscan hok hcast hfd hds hroot hcall hcc hcn hrd0 hdl
        go_wp2_with fail
        refine (inB_call Hri.out _).mono ?_
        rintro e w1 ⟨rfl, rfl⟩
        go_wp2_with fail
        go_cut [113] (fun s wc => s = .bool (!(decide (done = incr ds.length))) ∧ Below wr.heap.size wr wc)
        case first =>
          go_region_held3 (fun w' => w'.cell? ⟨w.heap.size, 0, none⟩ = some (.int .i64 (L' : Int)) ∧ w'.cell? ⟨w.heap.size, 1, none⟩ = some (.slice A n c) ∧ w'.cell? ⟨w.heap.size, 2, none⟩ = some (.int .i64 (r' : Int))) (first | go_keep) (first
            | (go_at_call 45
               refine (Hcall.out _ (Below.refl wr.heap.size wr).drew).mono ?_
               rintro e w1 ⟨B1, cc1, rfl, hown1, hb1, _⟩
               have hb1' : Below wr.heap.size wr w1 := (Below.refl wr.heap.size wr).drew.trans hb1
               have hv1 := Hbx.out.keep hb1'
               obtain ⟨u0, u1, u2, u3, u4, u5, u6, u7, u8⟩ := hv1.facts
               have hrd1 : Rd Enc.int w1 B1 done.length cc1 (done.map Int.ofNat) := own_rd hown1 (by simp) (fun x hx => by
                 obtain ⟨a, ha, rfl⟩ := List.mem_map.1 hx
                 have := Hcn.out.2 a ha
                 have := HdL.out
                 simp only [Int.ofNat_eq_natCast]
                 omega)
               have Hb1 := hide hb1'
               have Hrd1 := hide hrd1
               clear hown1 hb1 hb1' hv1 hrd1 u3 u4 u5 u6)
            | (go_at_call 46
               refine (increasing_ct n (by omega) _).mono ?_
               rintro e w2 ⟨hb2, B2, cc2, rfl, hown2⟩
               have hb2' := Hb1.out.trans (hb2.mono Hb1.out.size)
               have hv1 := Hbx.out.keep hb2'
               obtain ⟨m0, m1, m2, m3, m4, m5, m6, m7, m8⟩ := hv1.facts
               have hrd2 := own_rd hown2 rfl (fun x hx => by
                 unfold increI at hx
                 obtain ⟨a, ha, rfl⟩ := List.mem_map.1 hx
                 have := List.mem_range.1 ha
                 omega)
               have Hrd2 := hide hrd2
               have Hrd1b := hide (Hrd1.out.keep hb2)
               have Hb2 := hide hb2'
               clear hown2 hb2 hb2' hv1 hrd2 m3 m4 m5 m6)
            | (go_at_call 32
               refine (Ints_ct _ _ _ _ _ _ _ _ _ Hrd1b.out Hrd2.out).mono ?_
               rintro e w3 ⟨rfl, hq3⟩
               have hb3 := Hb2.out.trans ((hq3.below w2.heap.size).mono Hb2.out.size)
               have hv1 := Hbx.out.keep hb3
               obtain ⟨o0, o1, o2, o3, o4, o5, o6, o7, o8⟩ := hv1.facts
               have Hb3 := hide hb3
               clear hq3 hb3 hv1 o3 o4 o5 o6))
          have heq : intsB (done.map Int.ofNat) (increI n) = decide (done = incr ds.length) := by
            rw [HdL.out]
            unfold intsB
            have e : increI n = (incr n).map Int.ofNat := by simp [increI, incr]
            rw [e]
            refine decide_eq_decide.2 ⟨fun h => ?_, fun h => by rw [h]⟩
            exact (List.map_inj_right (fun a b hab => Int.ofNat.inj hab)).1 h
          rw [heq]
          clear heq
          go_wp2
          go_meet
          exact ⟨rfl, Hb3.out⟩
        case rest =>
          obtain ⟨rfl, hbc⟩ := hcut
          have hvc := Hbx.out.keep hbc
          obtain ⟨g0, g1, g2, g3, g4, g5, g6, g7, g8⟩ := hvc.facts
          have Hvc := hide hvc
          clear hbc hvc f0 f1 f2 f3 f4 f5 f6 f7 f8
          by_cases hdo : done = incr ds.length
          · have Hf : Hid (faultD (L' : Int) ns (r' : Int) = (0, 0)) := hide (by rw [Hfd.out, if_pos (Hcc.out.2 hdo)])
            rw [decide_eq_true hdo]
            clear hdo
            go_wp2
            refine bodyPost_ret (v := faultV (0, 0)) (by simp [results, Try.results17, go_sem, faultV, g3, g4]) rfl ?_
            exact ⟨by rw [Hf.out], (Hvc.out.below.setCell (by simp) _).setCell (by simp) _⟩
          · have Hf : Hid (faultD (L' : Int) ns (r' : Int) = (5, -2)) := hide (by rw [Hfd.out, if_neg (fun h => hdo (Hcc.out.1 h))])
            rw [decide_eq_false hdo]
            clear hdo
            go_wp2_with fail
            refine (HAt.out _ _ _).mono ?_
            rintro e w1 ⟨rfl, hb1⟩
            have hst1 := Hvc.out.keep hb1
            obtain ⟨v0, v1, v2, v3, v4, v5, v6, v7, v8⟩ := hst1.facts
            have Hst1 := hide hst1
            clear hst1 hb1
            unfold fault
            go_wp2
            refine bodyPost_ret (v := faultV (5, -2)) (by simp [results, Try.results17, go_sem, faultV, v3, v4]) rfl ?_
            exact ⟨by rw [Hf.out], (Hst1.out.below.setCell (by simp) _).setCell (by simp) _⟩
end Go.Proofs.Ytgenpcokpodhkaa
