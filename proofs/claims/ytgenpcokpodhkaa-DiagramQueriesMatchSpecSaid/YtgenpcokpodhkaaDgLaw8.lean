/- The walk of the law on Count, Pick and Eval. -/
import Derived.Test.YtgenpcokpodhkaaDgLaw5
import Derived.Test.YtgenpcokpodhkaaDgPure14
namespace Go.Proofs.Ytgenpcokpodhkaa
set_option linter.unusedVariables false
set_option linter.unusedSimpArgs false
open Go.RowKit Go.Maps

theorem memb_range {q L : Nat} {x : Int} (hL : L ≤ 24) (h : x ∈ membI q L) : -9223372036854775808 ≤ x ∧ x ≤ 9223372036854775807 := by
  unfold membI membK at h
  obtain ⟨a, ha, rfl⟩ := List.mem_map.1 h
  have := List.mem_range.1 (List.mem_filter.1 ha).1
  omega

set_option maxHeartbeats 6400000 in
set_option maxRecDepth 100000 in
theorem QueriesLaw_ct (L : Int) (A : Option Addr) (n c : Nat) (ns : List DI) (r : Int) (A2 : Option Addr) (n2 c2 : Nat) (set : List Int) (w : World) (hL : -9223372036854775808 ≤ L ∧ L ≤ 9223372036854775807) (hr : -9223372036854775808 ≤ r ∧ r ≤ 9223372036854775807) (h : Rd Enc.node w A n c ns) (h2 : Rd Enc.int w A2 n2 c2 set) :
    Calls Try.prog 6 #[.agg #[.int .i64 L, .slice A n c, .int .i64 r], .slice A2 n2 c2] w (Gives w (.bool true)) := by
  have hcf := fun W => DiagramFault_ct L A n c ns r W hL hr
  have hcc := fun W => Count_d L A n c ns r W hL hr
  have hcp := fun W => Pick_d L A n c ns r W hL hr
  have hce := fun W => Eval_d L A n c ns r A2 n2 c2 set W hL hr
  have hmay := query_may L ns r set
  have hset := fun W => IsSet_ct A2 n2 c2 set L W
  generalize hq : faultD L ns r = q at hcf hmay
  obtain ⟨q0, q1⟩ := q
  simp only [faultV] at hcf
  generalize hC : countR L ns r = C at hcc hmay
  obtain ⟨C0, C1, C2⟩ := C
  generalize hPk : pickR L ns r = Pk at hcp hmay
  obtain ⟨Pl, Pb, P1, P2⟩ := Pk
  generalize hEv : evalR L ns r set = Ev at hce hmay
  obtain ⟨E0, E1, E2⟩ := Ev
  simp only [faultV] at hcc hce
  have Hcf := hide hcf
  have Hcc := hide hcc
  have Hcp := hide hcp
  have Hce := hide hce
  have Hmay := hide hmay
  have Hrd := hide h
  have Hrs := hide h2
  have Hset := hide hset
  have hsl := h2.len
  have Hsl := hide hsl
  have heqq := eqFault q0 q1 q0 q1
  rw [decide_eq_true rfl] at heqq
  have Heqq := hide heqq
  have hykd := Blk.new w 30 [.int .i64 L, .slice A n c, .int .i64 r]
  have hbW : Below w.heap.size w (w.alloc (.cells #[.int .i64 L, .slice A n c, .int .i64 r] 30)) := (Below.refl _ _).alloc (Nat.le_refl _) _
  have Hbl := hide hbW
  have Hkd := hide hykd
  clear h h2 hcf hcc hcp hce hmay hq hC hPk hEv hykd hbW hset hsl heqq
  go_enter Try.func6, Try.ntmps6
  go_upto_region 1 with (fail)
  obtain ⟨V, hV⟩ : ∃ W, W = w.alloc (.cells #[.int .i64 L, .slice A n c, .int .i64 r] 30) := ⟨_, rfl⟩
  rw [← hV] at Hkd Hbl ⊢
  clear hV
  generalize hgd : w.heap.size = gd at Hkd ⊢
  have kd0 := Hkd.out.cell 0
  have kd1 := Hkd.out.cell 1
  have kd2 := Hkd.out.cell 2
  have kdl := Hkd.out.lt
  simp only [List.getElem?_cons_zero, List.getElem?_cons_succ] at kd0 kd1 kd2
  go_wp2_with fail
  with_reducible refine (example_ct _).mono ?_
  rintro e w1 ⟨rfl, hb⟩
  clear kd0 kd1 kd2 kdl
  replace Hkd := hide (Hkd.out.keep hb)
  replace Hbl := hide (Hbl.out.trans (hb.mono Hbl.out.size))
  clear hb
  have kd0 := Hkd.out.cell 0
  have kd1 := Hkd.out.cell 1
  have kd2 := Hkd.out.cell 2
  have kdl := Hkd.out.lt
  simp only [List.getElem?_cons_zero, List.getElem?_cons_succ] at kd0 kd1 kd2
  go_wp2_with fail
  with_reducible refine (Hcf.out w1 (Hrd.out.keep Hbl.out)).mono ?_
  rintro e w2 ⟨rfl, hb⟩
  clear kd0 kd1 kd2 kdl
  replace Hkd := hide (Hkd.out.keep hb)
  replace Hbl := hide (Hbl.out.trans (hb.mono Hbl.out.size))
  clear hb
  go_upto_region 4 with (fail)
  have hykx := Blk.new (w2) 25 [.int .i64 q0, .int .i64 q1]
  have hbW : Below (w2).heap.size (w2) ((w2).alloc (.cells #[.int .i64 q0, .int .i64 q1] 25)) := (Below.refl _ _).alloc (Nat.le_refl _) _
  obtain ⟨W2, hW⟩ : ∃ W, W = (w2).alloc (.cells #[.int .i64 q0, .int .i64 q1] 25) := ⟨_, rfl⟩
  rw [← hW] at hykx hbW ⊢
  replace Hkd := hide (Hkd.out.keep hbW)
  replace Hbl := hide (Hbl.out.trans (hbW.mono Hbl.out.size))
  have Hkx := hide hykx
  clear hW hbW hykx
  generalize w2.heap.size = gx at Hkx ⊢
  have kd0 := Hkd.out.cell 0
  have kd1 := Hkd.out.cell 1
  have kd2 := Hkd.out.cell 2
  have kdl := Hkd.out.lt
  have kx0 := Hkx.out.cell 0
  have kx1 := Hkx.out.cell 1
  have kxl := Hkx.out.lt
  simp only [List.getElem?_cons_zero, List.getElem?_cons_succ] at kd0 kd1 kd2 kx0 kx1
  go_wp2_with fail
  with_reducible refine (Hcc.out _ (Hrd.out.keep Hbl.out)).mono ?_
  rintro e w3 ⟨rfl, hb⟩
  clear kd0 kd1 kd2 kx0 kx1 kdl kxl
  replace Hkd := hide (Hkd.out.keep hb)
  replace Hkx := hide (Hkx.out.keep hb)
  replace Hbl := hide (Hbl.out.trans (hb.mono Hbl.out.size))
  clear hb
  go_upto_region 5 with (fail)
  have hyky := Blk.new (w3) 25 [.int .i64 C1, .int .i64 C2]
  have hbW : Below (w3).heap.size (w3) ((w3).alloc (.cells #[.int .i64 C1, .int .i64 C2] 25)) := (Below.refl _ _).alloc (Nat.le_refl _) _
  obtain ⟨W3, hW⟩ : ∃ W, W = (w3).alloc (.cells #[.int .i64 C1, .int .i64 C2] 25) := ⟨_, rfl⟩
  rw [← hW] at hyky hbW ⊢
  replace Hkd := hide (Hkd.out.keep hbW)
  replace Hkx := hide (Hkx.out.keep hbW)
  replace Hbl := hide (Hbl.out.trans (hbW.mono Hbl.out.size))
  have Hky := hide hyky
  clear hW hbW hyky
  generalize w3.heap.size = gy at Hky ⊢
  have kd0 := Hkd.out.cell 0
  have kd1 := Hkd.out.cell 1
  have kd2 := Hkd.out.cell 2
  have kdl := Hkd.out.lt
  have kx0 := Hkx.out.cell 0
  have kx1 := Hkx.out.cell 1
  have kxl := Hkx.out.lt
  have ky0 := Hky.out.cell 0
  have ky1 := Hky.out.cell 1
  have kyl := Hky.out.lt
  simp only [List.getElem?_cons_zero, List.getElem?_cons_succ] at kd0 kd1 kd2 kx0 kx1 ky0 ky1
  go_wp2_with fail
  with_reducible refine (Hcp.out _ (Hrd.out.keep Hbl.out)).mono ?_
  rintro e w4 ⟨⟨OP, np, cp, rfl, hrdp⟩, hb⟩
  clear kd0 kd1 kd2 kx0 kx1 ky0 ky1 kdl kxl kyl
  replace Hkd := hide (Hkd.out.keep hb)
  replace Hkx := hide (Hkx.out.keep hb)
  replace Hky := hide (Hky.out.keep hb)
  replace Hbl := hide (Hbl.out.trans (hb.mono Hbl.out.size))
  clear hb
  simp only [faultV]
  simp only at hrdp
  have Hrdp := hide hrdp
  clear hrdp
  go_upto_region 6 with (fail)
  have hykz := Blk.new (w4) 25 [.int .i64 P1, .int .i64 P2]
  have hbW : Below (w4).heap.size (w4) ((w4).alloc (.cells #[.int .i64 P1, .int .i64 P2] 25)) := (Below.refl _ _).alloc (Nat.le_refl _) _
  obtain ⟨W4, hW⟩ : ∃ W, W = (w4).alloc (.cells #[.int .i64 P1, .int .i64 P2] 25) := ⟨_, rfl⟩
  rw [← hW] at hykz hbW ⊢
  replace Hkd := hide (Hkd.out.keep hbW)
  replace Hkx := hide (Hkx.out.keep hbW)
  replace Hky := hide (Hky.out.keep hbW)
  replace Hrdp := hide (Hrdp.out.keep hbW)
  replace Hbl := hide (Hbl.out.trans (hbW.mono Hbl.out.size))
  have Hkz := hide hykz
  clear hW hbW hykz
  generalize w4.heap.size = gz at Hkz ⊢
  have kd0 := Hkd.out.cell 0
  have kd1 := Hkd.out.cell 1
  have kd2 := Hkd.out.cell 2
  have kdl := Hkd.out.lt
  have kx0 := Hkx.out.cell 0
  have kx1 := Hkx.out.cell 1
  have kxl := Hkx.out.lt
  have ky0 := Hky.out.cell 0
  have ky1 := Hky.out.cell 1
  have kyl := Hky.out.lt
  have kz0 := Hkz.out.cell 0
  have kz1 := Hkz.out.cell 1
  have kzl := Hkz.out.lt
  simp only [List.getElem?_cons_zero, List.getElem?_cons_succ] at kd0 kd1 kd2 kx0 kx1 ky0 ky1 kz0 kz1
  go_wp2_with fail
  with_reducible refine (Hce.out _ (Hrd.out.keep Hbl.out) (Hrs.out.keep Hbl.out)).mono ?_
  rintro e w5 ⟨rfl, hb⟩
  clear kd0 kd1 kd2 kx0 kx1 ky0 ky1 kz0 kz1 kdl kxl kyl kzl
  replace Hkd := hide (Hkd.out.keep hb)
  replace Hkx := hide (Hkx.out.keep hb)
  replace Hky := hide (Hky.out.keep hb)
  replace Hkz := hide (Hkz.out.keep hb)
  replace Hrdp := hide (Hrdp.out.keep hb)
  replace Hbl := hide (Hbl.out.trans (hb.mono Hbl.out.size))
  clear hb
  go_upto_region 7 with (fail)
  have hyku := Blk.new (w5) 25 [.int .i64 E1, .int .i64 E2]
  have hbW : Below (w5).heap.size (w5) ((w5).alloc (.cells #[.int .i64 E1, .int .i64 E2] 25)) := (Below.refl _ _).alloc (Nat.le_refl _) _
  obtain ⟨W5, hW⟩ : ∃ W, W = (w5).alloc (.cells #[.int .i64 E1, .int .i64 E2] 25) := ⟨_, rfl⟩
  rw [← hW] at hyku hbW ⊢
  replace Hkd := hide (Hkd.out.keep hbW)
  replace Hkx := hide (Hkx.out.keep hbW)
  replace Hky := hide (Hky.out.keep hbW)
  replace Hkz := hide (Hkz.out.keep hbW)
  replace Hrdp := hide (Hrdp.out.keep hbW)
  replace Hbl := hide (Hbl.out.trans (hbW.mono Hbl.out.size))
  have Hku := hide hyku
  clear hW hbW hyku
  generalize w5.heap.size = gu at Hku ⊢
  have kd0 := Hkd.out.cell 0
  have kd1 := Hkd.out.cell 1
  have kd2 := Hkd.out.cell 2
  have kdl := Hkd.out.lt
  have kx0 := Hkx.out.cell 0
  have kx1 := Hkx.out.cell 1
  have kxl := Hkx.out.lt
  have ky0 := Hky.out.cell 0
  have ky1 := Hky.out.cell 1
  have kyl := Hky.out.lt
  have kz0 := Hkz.out.cell 0
  have kz1 := Hkz.out.cell 1
  have kzl := Hkz.out.lt
  have ku0 := Hku.out.cell 0
  have ku1 := Hku.out.cell 1
  have kul := Hku.out.lt
  simp only [List.getElem?_cons_zero, List.getElem?_cons_succ] at kd0 kd1 kd2 kx0 kx1 ky0 ky1 kz0 kz1 ku0 ku1
  by_cases hq0 : q0 ≠ 0
  · have hqb : (q0 != 0) = true := by rw [bne_iff_ne]; exact hq0
    obtain ⟨h1, h2, h3⟩ := Hmay.out.1 hq0
    simp only [Prod.mk.injEq] at h1 h2 h3
    obtain ⟨rfl, rfl, rfl⟩ := h1
    obtain ⟨rfl, rfl, rfl, rfl⟩ := h2
    obtain ⟨rfl, rfl, rfl⟩ := h3
    have hnp : np = 0 := by have := Hrdp.out.len; simpa using this.symm
    subst hnp
    clear hq0 Hmay Hcf Hcc Hcp Hce Hset Hrdp Hrd Hrs
    have heqq := Heqq.out
    go_wp2
    go_ret
    exact ⟨rfl, Hbl.out⟩
  replace hq0 : q0 = 0 := by omega
  obtain ⟨hq1, L', r', ds, rfl, rfl, rfl, hval, hC, hE1, hE2, hPk⟩ := Hmay.out.2 hq0
  subst hq0
  subst hq1
  simp only [Prod.mk.injEq] at hC
  obtain ⟨rfl, rfl, rfl⟩ := hC
  have hP : P1 = 0 ∧ P2 = 0 := by
    rcases hPk with ⟨h1, _⟩ | ⟨q, l, h1, _⟩
    · simp only [Prod.mk.injEq] at h1
      exact ⟨h1.2.2.1, h1.2.2.2⟩
    · simp only [Prod.mk.injEq] at h1
      exact ⟨h1.2.2.1, h1.2.2.2⟩
  obtain ⟨rfl, rfl⟩ := hP
  have Hval := hide hval
  have hlow := hval.low
  have HPk := hide hPk
  have HE1 := hide hE1
  have HE2 := hide hE2
  have hsetc := Hset.out
  clear hval hPk hE1 hE2 Hmay Hcf Hcc Hcp Hce Hset Heqq
  generalize hsv : setOk (L' : Int) none set = sv at hsetc HE1 HE2
  have Hset := hide hsetc
  clear hsetc
  cases sv
  · have hE := HE1.out rfl
    simp only [Prod.mk.injEq] at hE
    obtain ⟨rfl, rfl, rfl⟩ := hE
    have heqq := eqFault 5 (-4) 5 (-4)
    rw [decide_eq_true rfl] at heqq
    clear HE1 HE2
    go_wp2_with fail
    refine (Hset.out _ (Hrs.out.keep Hbl.out) (by omega)).mono ?_
    rintro e w6 ⟨rfl, hq⟩
    have hb := hq.below W5.heap.size
    clear kd0 kd1 kd2 kx0 kx1 ky0 ky1 kz0 kz1 ku0 ku1 kdl kxl kyl kzl kul
    replace Hkd := hide (Hkd.out.keep hb)
    replace Hkx := hide (Hkx.out.keep hb)
    replace Hky := hide (Hky.out.keep hb)
    replace Hkz := hide (Hkz.out.keep hb)
    replace Hku := hide (Hku.out.keep hb)
    replace Hrdp := hide (Hrdp.out.keep hb)
    replace Hbl := hide (Hbl.out.trans (hb.mono Hbl.out.size))
    clear hb hq
    have kd0 := Hkd.out.cell 0
    have kd1 := Hkd.out.cell 1
    have kd2 := Hkd.out.cell 2
    have kdl := Hkd.out.lt
    have kx0 := Hkx.out.cell 0
    have kx1 := Hkx.out.cell 1
    have kxl := Hkx.out.lt
    have ky0 := Hky.out.cell 0
    have ky1 := Hky.out.cell 1
    have kyl := Hky.out.lt
    have kz0 := Hkz.out.cell 0
    have kz1 := Hkz.out.cell 1
    have kzl := Hkz.out.lt
    have ku0 := Hku.out.cell 0
    have ku1 := Hku.out.cell 1
    have kul := Hku.out.lt
    simp only [List.getElem?_cons_zero, List.getElem?_cons_succ] at kd0 kd1 kd2 kx0 kx1 ky0 ky1 kz0 kz1 ku0 ku1
    go_wp2_with fail
    refine wp_region_held_drew (S := (fun w' => w'.cell? ⟨gd, 0, none⟩ = some (.int .i64 L') ∧ w'.cell? ⟨gd, 1, none⟩ = some (.slice A n c) ∧ w'.cell? ⟨gd, 2, none⟩ = some (.int .i64 r') ∧ w'.cell? ⟨gu, 0, none⟩ = some (.int .i64 5) ∧ w'.cell? ⟨gu, 1, none⟩ = some (.int .i64 (-4)))) (by kernel_rfl) ?_ (fun hHeld => ?_)
    · (try dsimp only); go_keep
    refine take1 (i := 0) (v := ?_) (some 76) rfl rfl (by kernel_rfl) (by kernel_rfl) (by kernel_rfl) (fun _ _ _ h => h) (Or.inl ⟨by rfl, ?_⟩) (by assumption) ?_
    rotate_left
    · intro w hSw; (try dsimp only at hSw); first | (go_simp; done) | (go_simp; with_reducible rfl)
    try simp only [Act.put, List.setIfInBounds_toArray, List.set_cons_zero, List.set_cons_succ]
    refine wpAnyH_ready (rs := [1]) (by kernel_rfl) (by simp) ?_
    refine AllReadyH.cons rfl (fun K hK => ?_) AllReadyH.nil
    go_simp
    refine (At_ct 5 (-4) _).mono ?_
    rintro e w7 ⟨rfl, hb0⟩
    have hb : Below w6.heap.size w6 w7 := (Below.refl w6.heap.size w6).drew.trans hb0
    unfold fault
    clear hb0
    clear kd0 kd1 kd2 kx0 kx1 ky0 ky1 kz0 kz1 ku0 ku1 kdl kxl kyl kzl kul
    replace Hkd := hide (Hkd.out.keep hb)
    replace Hkx := hide (Hkx.out.keep hb)
    replace Hky := hide (Hky.out.keep hb)
    replace Hkz := hide (Hkz.out.keep hb)
    replace Hku := hide (Hku.out.keep hb)
    replace Hrdp := hide (Hrdp.out.keep hb)
    replace Hbl := hide (Hbl.out.trans (hb.mono Hbl.out.size))
    clear hb
    have kd0 := Hkd.out.cell 0
    have kd1 := Hkd.out.cell 1
    have kd2 := Hkd.out.cell 2
    have kdl := Hkd.out.lt
    have kx0 := Hkx.out.cell 0
    have kx1 := Hkx.out.cell 1
    have kxl := Hkx.out.lt
    have ky0 := Hky.out.cell 0
    have ky1 := Hky.out.cell 1
    have kyl := Hky.out.lt
    have kz0 := Hkz.out.cell 0
    have kz1 := Hkz.out.cell 1
    have kzl := Hkz.out.lt
    have ku0 := Hku.out.cell 0
    have ku1 := Hku.out.cell 1
    have kul := Hku.out.lt
    simp only [List.getElem?_cons_zero, List.getElem?_cons_succ] at kd0 kd1 kd2 kx0 kx1 ky0 ky1 kz0 kz1 ku0 ku1
    refine hK.out _ _ ?_ (fun hHeld2 => ?_)
    · (try dsimp only); go_keep
    clear hK K hHeld
    try simp only [Act.put, List.setIfInBounds_toArray, List.set_cons_zero, List.set_cons_succ]
    have hHeld := hHeld2; clear hHeld2
    refine take1 (i := 2) (v := ?_) (some 78) rfl rfl (by kernel_rfl) (by kernel_rfl) (by kernel_rfl) (fun _ _ _ h => h) (Or.inl ⟨by rfl, ?_⟩) (by assumption) ?_
    rotate_left
    · intro w hSw; (try dsimp only at hSw); first | (go_simp; done) | (go_simp; with_reducible rfl)
    try simp only [Act.put, List.setIfInBounds_toArray, List.set_cons_zero, List.set_cons_succ]
    refine take1 (i := 3) (v := ?_) (some 79) rfl rfl (by kernel_rfl) (by kernel_rfl) (by kernel_rfl) (fun _ _ _ h => h) (Or.inl ⟨by rfl, ?_⟩) (by assumption) ?_
    rotate_left
    · intro w hSw; (try dsimp only at hSw); first | (go_simp; done) | (go_simp; with_reducible rfl)
    try simp only [Act.put, List.setIfInBounds_toArray, List.set_cons_zero, List.set_cons_succ]
    refine take1 (i := 4) (v := ?_) (some 80) rfl rfl (by kernel_rfl) (by kernel_rfl) (by kernel_rfl) (fun _ _ _ h => h) (Or.inl ⟨by rfl, ?_⟩) (by assumption) ?_
    rotate_left
    · intro w hSw; (try dsimp only at hSw); first | (go_simp; done) | (go_simp; with_reducible rfl)
    try simp only [Act.put, List.setIfInBounds_toArray, List.set_cons_zero, List.set_cons_succ]
    refine take1 (i := 5) (v := ?_) (some 81) rfl rfl (by kernel_rfl) (by kernel_rfl) (by kernel_rfl) (fun _ _ _ h => h) (Or.inl ⟨by rfl, ?_⟩) (by assumption) ?_
    rotate_left
    · intro w hSw; (try dsimp only at hSw); first | (go_simp; done) | (go_simp; with_reducible rfl)
    try simp only [Act.put, List.setIfInBounds_toArray, List.set_cons_zero, List.set_cons_succ]
    refine wpAnyH_done (by kernel_rfl) ?_ _
    clear heqq hHeld
    by_cases hm : (10 : Int) < L'
    · have hm2 : decide ((10 : Int) < L') = true := decide_eq_true hm
      have Hmany := hide (many_ct (L' : Int))
      rw [hm2] at Hmany
      clear hm hm2
      go_wp2_with fail
      refine (Hmany.out _).mono ?_
      rintro e w9 ⟨rfl, rfl⟩
      go_wp2_with fail
      go_ret
      exact ⟨rfl, Hbl.out⟩
    have hm2 : decide ((10 : Int) < L') = false := decide_eq_false hm
    have Hmany := hide (many_ct (L' : Int))
    rw [hm2] at Hmany
    have Hm := hide hm
    clear hm hm2
    go_wp2_with fail
    refine (Hmany.out _).mono ?_
    rintro e w9 ⟨rfl, rfl⟩
    go_wp2_with fail
    with_reducible refine (Truths_ct L' n c r' A ds _ Hval.out (Hrd.out.keep Hbl.out)).mono ?_
    rintro e w8 ⟨hb, OU, cu, rfl, hown⟩
    clear kd0 kd1 kd2 kx0 kx1 ky0 ky1 kz0 kz1 ku0 ku1 kdl kxl kyl kzl kul
    replace Hkd := hide (Hkd.out.keep hb)
    replace Hkx := hide (Hkx.out.keep hb)
    replace Hky := hide (Hky.out.keep hb)
    replace Hkz := hide (Hkz.out.keep hb)
    replace Hku := hide (Hku.out.keep hb)
    replace Hrdp := hide (Hrdp.out.keep hb)
    replace Hbl := hide (Hbl.out.trans (hb.mono Hbl.out.size))
    clear hb
    have hlu : (tableF L' (sem ds r')).length = 2 ^ L' := by simp [tableF]
    have hrdu := own_rdB hown rfl
    rw [hlu] at hrdu ⊢
    have hp : 2 ^ L' ≤ 1024 := Nat.le_trans (Nat.pow_le_pow_right (by omega) (show L' ≤ 10 by have := Hm.out; omega)) (by decide)
    have hpos : 0 < 2 ^ L' := Nat.two_pow_pos _
    have hcu := hrdu.cap
    have hsu := hrdu.small
    have hpk := HPk.out
    generalize tableF L' (sem ds r') = U at hlu hrdu hpk
    clear HPk
    generalize hPP : 2 ^ L' = P at hlu hrdu hp hpos hcu hsu hpk ⊢
    have HP := hide hPP
    have Hlu := hide hlu
    have HPk := hide hpk
    have Hrdu := hide hrdu
    clear hPP hlu hpk hrdu hown
    have kd0 := Hkd.out.cell 0
    have kd1 := Hkd.out.cell 1
    have kd2 := Hkd.out.cell 2
    have kdl := Hkd.out.lt
    have kx0 := Hkx.out.cell 0
    have kx1 := Hkx.out.cell 1
    have kxl := Hkx.out.lt
    have ky0 := Hky.out.cell 0
    have ky1 := Hky.out.cell 1
    have kyl := Hky.out.lt
    have kz0 := Hkz.out.cell 0
    have kz1 := Hkz.out.cell 1
    have kzl := Hkz.out.lt
    have ku0 := Hku.out.cell 0
    have ku1 := Hku.out.cell 1
    have kul := Hku.out.lt
    simp only [List.getElem?_cons_zero, List.getElem?_cons_succ] at kd0 kd1 kd2 kx0 kx1 ky0 ky1 kz0 kz1 ku0 ku1
    go_wp2_with fail
    go_loop [14, 15, 16] (fun k f i => ∃ (z : Int) (j : Nat), z + 1 = j ∧ j ≤ P ∧ i = .int .i64 z ∧ k = .int .i64 (cntT (U.drop j) : Nat) ∧ f = .int .i64 (firstL (U.drop j) j)) (fun _ _ i => (intOf i + 1).toNat)
    case atStart => exact ⟨(P : Int) - 1, P, by omega, Nat.le_refl _, rfl, by rw [List.drop_of_length_le (by have := Hlu.out; omega)]; rfl, by rw [List.drop_of_length_le (by have := Hlu.out; omega)]; rfl⟩
    case round =>
      obtain ⟨z, j, hzj, hj, rfl, rfl, rfl⟩ := hrel
      by_cases hz : 0 ≤ z
      · obtain ⟨m, rfl⟩ : ∃ m : Nat, z = (m : Int) := ⟨z.toNat, by omega⟩
        obtain rfl : j = m + 1 := by omega
        obtain ⟨b, off, x, rfl, hx, hcx⟩ := Hrdu.out.bool (show m < P by omega)
        have hc : cntT (U.drop m) = (if x = true then 1 else 0) + cntT (U.drop (m + 1)) := by rw [drop_cons hx, cntT_cons]
        have hf : firstL (U.drop m) m = if x = true then (m : Int) else firstL (U.drop (m + 1)) (m + 1) := by rw [drop_cons hx]; rfl
        have hle : cntT (U.drop (m + 1)) ≤ 1024 := by
          have h1 := cntT_le (U.drop (m + 1))
          rw [List.length_drop] at h1
          have := Hlu.out
          omega
        have Hc := hide hc
        have Hf := hide hf
        clear hc hf hx hzj
        generalize cntT (U.drop (m + 1)) = cn at Hc hle
        generalize firstL (U.drop (m + 1)) (m + 1) = fi at Hf
        cases x
        · go_wp2
          go_round
          case rel => exact ⟨(m : Int) - 1, m, by omega, by omega, by go_num, by rw [Hc.out]; simp, by rw [Hf.out]; simp⟩
          case measure => simp [intOf]
        · go_wp2
          go_round
          case rel => exact ⟨(m : Int) - 1, m, by omega, by omega, by go_num, by rw [Hc.out]; simp; omega, by rw [Hf.out]; simp⟩
          case measure => simp [intOf]
      · obtain rfl : j = 0 := by omega
        rw [List.drop_zero]
        rcases HPk.out with ⟨h1, h2⟩ | ⟨q, l, h1, h2, h3, h4⟩
        · simp only [Prod.mk.injEq] at h1
          obtain ⟨rfl, rfl, _⟩ := h1
          have hnp : np = 0 := by have := Hrdp.out.len; simpa using this.symm
          subst hnp
          rw [h2]
          clear HPk h2
          generalize cntT U = N
          go_wp2
          go_ret
          exact ⟨rfl, Hbl.out⟩
        · simp only [Prod.mk.injEq] at h1
          obtain ⟨rfl, rfl, _⟩ := h1
          rw [h2]
          have hmem := fun W => Members_ct q L' (by have := Hm.out; omega) (by have := HP.out; omega) W
          rw [h3] at hmem
          have Hmem := hide hmem
          clear HPk h2 hmem
          generalize cntT U = N
          have hqd : decide ((0 : Int) ≤ (q : Int)) = true := decide_eq_true (by omega)
          go_wp2_with fail
          refine (Hmem.out _).mono ?_
          rintro e w9 ⟨hb, OM, cm, rfl, hownm⟩
          have hrdm := own_rd hownm rfl (fun x hx => memb_range hlow (by rw [h3]; exact hx))
          have hrdp2 := Hrdp.out.keep hb
          have hbl9 := Hbl.out.trans (hb.mono Hbl.out.size)
          have Hrdm := hide hrdm
          have Hrdp2 := hide hrdp2
          have Hbl9 := hide hbl9
          clear hrdm hrdp2 hbl9 hb hownm
          go_wp2_with fail
          refine (Ints_ct _ _ _ _ _ _ _ _ _ Hrdp2.out Hrdm.out).mono ?_
          rintro e w10 ⟨rfl, hq⟩
          have hii : intsB Pl Pl = true := by simp [intsB]
          have hblq := Hbl9.out.trans ((hq.below w9.heap.size).mono Hbl9.out.size)
          go_wp2
          go_ret
          exact ⟨by rw [← hii]; rfl, hblq⟩
  · obtain ⟨hE, hsr, hsl, hnum⟩ := HE2.out rfl
    simp only [Prod.mk.injEq] at hE
    obtain ⟨rfl, rfl, rfl⟩ := hE
    have h24 : 2 ^ L' ≤ 2 ^ 24 := Nat.pow_le_pow_right (by omega) hlow
    have hnumc := fun W => Number_ct A2 n2 c2 set L' W
    have hvalc := fun W => Value_ct L' n c r' (numI L' set) A ds W Hval.out (by omega)
    generalize sem ds r' (bits L' 0 (numI L' set)) = bv at hvalc
    have Hsr := hide hsr
    have Hsl2 := hide hsl
    have Hnumc := hide hnumc
    have Hvalc := hide hvalc
    generalize numI L' set = nv at hnum Hnumc Hvalc
    clear HE1 HE2 hsr hsl hnumc hvalc h24 hnum
    go_wp2_with fail
    refine (Hset.out _ (Hrs.out.keep Hbl.out) (by omega)).mono ?_
    rintro e w6 ⟨rfl, hq⟩
    have hb := hq.below W5.heap.size
    clear kd0 kd1 kd2 kx0 kx1 ky0 ky1 kz0 kz1 ku0 ku1 kdl kxl kyl kzl kul
    replace Hkd := hide (Hkd.out.keep hb)
    replace Hkx := hide (Hkx.out.keep hb)
    replace Hky := hide (Hky.out.keep hb)
    replace Hkz := hide (Hkz.out.keep hb)
    replace Hku := hide (Hku.out.keep hb)
    replace Hrdp := hide (Hrdp.out.keep hb)
    replace Hbl := hide (Hbl.out.trans (hb.mono Hbl.out.size))
    clear hb hq
    have kd0 := Hkd.out.cell 0
    have kd1 := Hkd.out.cell 1
    have kd2 := Hkd.out.cell 2
    have kdl := Hkd.out.lt
    have kx0 := Hkx.out.cell 0
    have kx1 := Hkx.out.cell 1
    have kxl := Hkx.out.lt
    have ky0 := Hky.out.cell 0
    have ky1 := Hky.out.cell 1
    have kyl := Hky.out.lt
    have kz0 := Hkz.out.cell 0
    have kz1 := Hkz.out.cell 1
    have kzl := Hkz.out.lt
    have ku0 := Hku.out.cell 0
    have ku1 := Hku.out.cell 1
    have kul := Hku.out.lt
    simp only [List.getElem?_cons_zero, List.getElem?_cons_succ] at kd0 kd1 kd2 kx0 kx1 ky0 ky1 kz0 kz1 ku0 ku1
    go_wp2_with fail
    have hbb : (bv != bv) = false := by cases bv <;> rfl
    refine wp_region_held_drew (S := (fun w' => w'.cell? ⟨gd, 0, none⟩ = some (.int .i64 L') ∧ w'.cell? ⟨gd, 1, none⟩ = some (.slice A n c) ∧ w'.cell? ⟨gd, 2, none⟩ = some (.int .i64 r') ∧ w'.cell? ⟨gu, 0, none⟩ = some (.int .i64 0) ∧ w'.cell? ⟨gu, 1, none⟩ = some (.int .i64 0))) (by kernel_rfl) ?_ (fun hHeld => ?_)
    · (try dsimp only); go_keep
    refine take1 (i := 0) (v := ?_) (some 82) rfl rfl (by kernel_rfl) (by kernel_rfl) (by kernel_rfl) (fun _ _ _ h => h) (Or.inl ⟨by rfl, ?_⟩) (by assumption) ?_
    rotate_left
    · intro w hSw; (try dsimp only at hSw); first | (go_simp; done) | (go_simp; with_reducible rfl)
    try simp only [Act.put, List.setIfInBounds_toArray, List.set_cons_zero, List.set_cons_succ]
    refine take1 (i := 1) (v := ?_) (some 83) rfl rfl (by kernel_rfl) (by kernel_rfl) (by kernel_rfl) (fun _ _ _ h => h) (Or.inl ⟨by rfl, ?_⟩) (by assumption) ?_
    rotate_left
    · intro w hSw; (try dsimp only at hSw); first | (go_simp; done) | (go_simp; with_reducible rfl)
    try simp only [Act.put, List.setIfInBounds_toArray, List.set_cons_zero, List.set_cons_succ]
    refine take1 (i := 2) (v := ?_) (some 84) rfl rfl (by kernel_rfl) (by kernel_rfl) (by kernel_rfl) (fun _ _ _ h => h) (Or.inl ⟨by rfl, ?_⟩) (by assumption) ?_
    rotate_left
    · intro w hSw; (try dsimp only at hSw); first | (go_simp; done) | (go_simp; with_reducible rfl)
    try simp only [Act.put, List.setIfInBounds_toArray, List.set_cons_zero, List.set_cons_succ]
    refine take1 (i := 3) (v := ?_) (some 85) rfl rfl (by kernel_rfl) (by kernel_rfl) (by kernel_rfl) (fun _ _ _ h => h) (Or.inl ⟨by rfl, ?_⟩) (by assumption) ?_
    rotate_left
    · intro w hSw; (try dsimp only at hSw); first | (go_simp; done) | (go_simp; with_reducible rfl)
    try simp only [Act.put, List.setIfInBounds_toArray, List.set_cons_zero, List.set_cons_succ]
    refine take1 (i := 4) (v := ?_) (some 86) rfl rfl (by kernel_rfl) (by kernel_rfl) (by kernel_rfl) (fun _ _ _ h => h) (Or.inl ⟨by rfl, ?_⟩) (by assumption) ?_
    rotate_left
    · intro w hSw; (try dsimp only at hSw); first | (go_simp; done) | (go_simp; with_reducible rfl)
    try simp only [Act.put, List.setIfInBounds_toArray, List.set_cons_zero, List.set_cons_succ]
    refine take1 (i := 5) (v := ?_) (some 87) rfl rfl (by kernel_rfl) (by kernel_rfl) (by kernel_rfl) (fun _ _ _ h => h) (Or.inl ⟨by rfl, ?_⟩) (by assumption) ?_
    rotate_left
    · intro w hSw; (try dsimp only at hSw); first | (go_simp; done) | (go_simp; with_reducible rfl)
    try simp only [Act.put, List.setIfInBounds_toArray, List.set_cons_zero, List.set_cons_succ]
    refine take1 (i := 6) (v := ?_) (some 88) rfl rfl (by kernel_rfl) (by kernel_rfl) (by kernel_rfl) (fun _ _ _ h => h) (Or.inl ⟨by rfl, ?_⟩) (by assumption) ?_
    rotate_left
    · intro w hSw; (try dsimp only at hSw); first | (go_simp; done) | (go_simp; with_reducible rfl)
    try simp only [Act.put, List.setIfInBounds_toArray, List.set_cons_zero, List.set_cons_succ]
    refine take1 (i := 7) (v := ?_) (some 89) rfl rfl (by kernel_rfl) (by kernel_rfl) (by kernel_rfl) (fun _ _ _ h => h) (Or.inl ⟨by rfl, ?_⟩) (by assumption) ?_
    rotate_left
    · intro w hSw; (try dsimp only at hSw); first | (go_simp; done) | (go_simp; with_reducible rfl)
    try simp only [Act.put, List.setIfInBounds_toArray, List.set_cons_zero, List.set_cons_succ]
    refine take1 (i := 8) (v := ?_) (some 90) rfl rfl (by kernel_rfl) (by kernel_rfl) (by kernel_rfl) (fun _ _ _ h => h) (Or.inl ⟨by rfl, ?_⟩) (by assumption) ?_
    rotate_left
    · intro w hSw; (try dsimp only at hSw); first | (go_simp; done) | (go_simp; with_reducible rfl)
    try simp only [Act.put, List.setIfInBounds_toArray, List.set_cons_zero, List.set_cons_succ]
    refine wpAnyH_ready (rs := [9]) (by kernel_rfl) (by simp) ?_
    refine AllReadyH.cons rfl (fun K hK => ?_) AllReadyH.nil
    go_simp
    refine (Hnumc.out _ (Hrs.out.keep (Hbl.out.drew)) hlow (by rw [← Hsl.out]; have := Hsl2.out; omega) Hsr.out).mono ?_
    rintro e w7 ⟨rfl, rfl⟩
    refine hK.out _ _ ?_ (fun hHeld2 => ?_)
    · (try dsimp only); go_keep
    clear hK K hHeld
    try simp only [Act.put, List.setIfInBounds_toArray, List.set_cons_zero, List.set_cons_succ]
    have hHeld := hHeld2; clear hHeld2
    refine wpAnyH_ready (rs := [10]) (by kernel_rfl) (by simp) ?_
    refine AllReadyH.cons rfl (fun K hK => ?_) AllReadyH.nil
    go_simp
    refine (Hvalc.out _ (Hrd.out.keep (Hbl.out.drew))).mono ?_
    rintro e w8 ⟨rfl, hb0⟩
    have hb : Below w6.heap.size w6 w8 := (Below.refl w6.heap.size w6).drew.trans hb0
    clear hb0
    clear kd0 kd1 kd2 kx0 kx1 ky0 ky1 kz0 kz1 ku0 ku1 kdl kxl kyl kzl kul
    replace Hkd := hide (Hkd.out.keep hb)
    replace Hkx := hide (Hkx.out.keep hb)
    replace Hky := hide (Hky.out.keep hb)
    replace Hkz := hide (Hkz.out.keep hb)
    replace Hku := hide (Hku.out.keep hb)
    replace Hrdp := hide (Hrdp.out.keep hb)
    replace Hbl := hide (Hbl.out.trans (hb.mono Hbl.out.size))
    clear hb
    have kd0 := Hkd.out.cell 0
    have kd1 := Hkd.out.cell 1
    have kd2 := Hkd.out.cell 2
    have kdl := Hkd.out.lt
    have kx0 := Hkx.out.cell 0
    have kx1 := Hkx.out.cell 1
    have kxl := Hkx.out.lt
    have ky0 := Hky.out.cell 0
    have ky1 := Hky.out.cell 1
    have kyl := Hky.out.lt
    have kz0 := Hkz.out.cell 0
    have kz1 := Hkz.out.cell 1
    have kzl := Hkz.out.lt
    have ku0 := Hku.out.cell 0
    have ku1 := Hku.out.cell 1
    have kul := Hku.out.lt
    simp only [List.getElem?_cons_zero, List.getElem?_cons_succ] at kd0 kd1 kd2 kx0 kx1 ky0 ky1 kz0 kz1 ku0 ku1
    refine hK.out _ _ ?_ (fun hHeld2 => ?_)
    · (try dsimp only); go_keep
    clear hK K hHeld
    try simp only [Act.put, List.setIfInBounds_toArray, List.set_cons_zero, List.set_cons_succ]
    have hHeld := hHeld2; clear hHeld2
    refine take1 (i := 11) (v := ?_) (some 93) rfl rfl (by kernel_rfl) (by kernel_rfl) (by kernel_rfl) (fun _ _ _ h => h) (Or.inl ⟨by rfl, ?_⟩) (by assumption) ?_
    rotate_left
    · intro w hSw; (try dsimp only at hSw); first | (go_simp; done) | (go_simp; with_reducible rfl)
    try simp only [Act.put, List.setIfInBounds_toArray, List.set_cons_zero, List.set_cons_succ]
    refine take1 (i := 12) (v := ?_) (some 94) rfl rfl (by kernel_rfl) (by kernel_rfl) (by kernel_rfl) (fun _ _ _ h => h) (Or.inl ⟨by rfl, ?_⟩) (by assumption) ?_
    rotate_left
    · intro w hSw; (try dsimp only at hSw); first | (go_simp; done) | (go_simp; with_reducible rfl)
    try simp only [Act.put, List.setIfInBounds_toArray, List.set_cons_zero, List.set_cons_succ]
    refine wpAnyH_done (by kernel_rfl) ?_ _
    clear hbb hHeld
    by_cases hm : (10 : Int) < L'
    · have hm2 : decide ((10 : Int) < L') = true := decide_eq_true hm
      have Hmany := hide (many_ct (L' : Int))
      rw [hm2] at Hmany
      clear hm hm2
      go_wp2_with fail
      refine (Hmany.out _).mono ?_
      rintro e w9 ⟨rfl, rfl⟩
      go_wp2_with fail
      go_ret
      exact ⟨rfl, Hbl.out⟩
    have hm2 : decide ((10 : Int) < L') = false := decide_eq_false hm
    have Hmany := hide (many_ct (L' : Int))
    rw [hm2] at Hmany
    have Hm := hide hm
    clear hm hm2
    go_wp2_with fail
    refine (Hmany.out _).mono ?_
    rintro e w9 ⟨rfl, rfl⟩
    go_wp2_with fail
    with_reducible refine (Truths_ct L' n c r' A ds _ Hval.out (Hrd.out.keep Hbl.out)).mono ?_
    rintro e w8 ⟨hb, OU, cu, rfl, hown⟩
    clear kd0 kd1 kd2 kx0 kx1 ky0 ky1 kz0 kz1 ku0 ku1 kdl kxl kyl kzl kul
    replace Hkd := hide (Hkd.out.keep hb)
    replace Hkx := hide (Hkx.out.keep hb)
    replace Hky := hide (Hky.out.keep hb)
    replace Hkz := hide (Hkz.out.keep hb)
    replace Hku := hide (Hku.out.keep hb)
    replace Hrdp := hide (Hrdp.out.keep hb)
    replace Hbl := hide (Hbl.out.trans (hb.mono Hbl.out.size))
    clear hb
    have hlu : (tableF L' (sem ds r')).length = 2 ^ L' := by simp [tableF]
    have hrdu := own_rdB hown rfl
    rw [hlu] at hrdu ⊢
    have hp : 2 ^ L' ≤ 1024 := Nat.le_trans (Nat.pow_le_pow_right (by omega) (show L' ≤ 10 by have := Hm.out; omega)) (by decide)
    have hpos : 0 < 2 ^ L' := Nat.two_pow_pos _
    have hcu := hrdu.cap
    have hsu := hrdu.small
    have hpk := HPk.out
    generalize tableF L' (sem ds r') = U at hlu hrdu hpk
    clear HPk
    generalize hPP : 2 ^ L' = P at hlu hrdu hp hpos hcu hsu hpk ⊢
    have HP := hide hPP
    have Hlu := hide hlu
    have HPk := hide hpk
    have Hrdu := hide hrdu
    clear hPP hlu hpk hrdu hown
    have kd0 := Hkd.out.cell 0
    have kd1 := Hkd.out.cell 1
    have kd2 := Hkd.out.cell 2
    have kdl := Hkd.out.lt
    have kx0 := Hkx.out.cell 0
    have kx1 := Hkx.out.cell 1
    have kxl := Hkx.out.lt
    have ky0 := Hky.out.cell 0
    have ky1 := Hky.out.cell 1
    have kyl := Hky.out.lt
    have kz0 := Hkz.out.cell 0
    have kz1 := Hkz.out.cell 1
    have kzl := Hkz.out.lt
    have ku0 := Hku.out.cell 0
    have ku1 := Hku.out.cell 1
    have kul := Hku.out.lt
    simp only [List.getElem?_cons_zero, List.getElem?_cons_succ] at kd0 kd1 kd2 kx0 kx1 ky0 ky1 kz0 kz1 ku0 ku1
    go_wp2_with fail
    go_loop [14, 15, 16] (fun k f i => ∃ (z : Int) (j : Nat), z + 1 = j ∧ j ≤ P ∧ i = .int .i64 z ∧ k = .int .i64 (cntT (U.drop j) : Nat) ∧ f = .int .i64 (firstL (U.drop j) j)) (fun _ _ i => (intOf i + 1).toNat)
    case atStart => exact ⟨(P : Int) - 1, P, by omega, Nat.le_refl _, rfl, by rw [List.drop_of_length_le (by have := Hlu.out; omega)]; rfl, by rw [List.drop_of_length_le (by have := Hlu.out; omega)]; rfl⟩
    case round =>
      obtain ⟨z, j, hzj, hj, rfl, rfl, rfl⟩ := hrel
      by_cases hz : 0 ≤ z
      · obtain ⟨m, rfl⟩ : ∃ m : Nat, z = (m : Int) := ⟨z.toNat, by omega⟩
        obtain rfl : j = m + 1 := by omega
        obtain ⟨b, off, x, rfl, hx, hcx⟩ := Hrdu.out.bool (show m < P by omega)
        have hc : cntT (U.drop m) = (if x = true then 1 else 0) + cntT (U.drop (m + 1)) := by rw [drop_cons hx, cntT_cons]
        have hf : firstL (U.drop m) m = if x = true then (m : Int) else firstL (U.drop (m + 1)) (m + 1) := by rw [drop_cons hx]; rfl
        have hle : cntT (U.drop (m + 1)) ≤ 1024 := by
          have h1 := cntT_le (U.drop (m + 1))
          rw [List.length_drop] at h1
          have := Hlu.out
          omega
        have Hc := hide hc
        have Hf := hide hf
        clear hc hf hx hzj
        generalize cntT (U.drop (m + 1)) = cn at Hc hle
        generalize firstL (U.drop (m + 1)) (m + 1) = fi at Hf
        cases x
        · go_wp2
          go_round
          case rel => exact ⟨(m : Int) - 1, m, by omega, by omega, by go_num, by rw [Hc.out]; simp, by rw [Hf.out]; simp⟩
          case measure => simp [intOf]
        · go_wp2
          go_round
          case rel => exact ⟨(m : Int) - 1, m, by omega, by omega, by go_num, by rw [Hc.out]; simp; omega, by rw [Hf.out]; simp⟩
          case measure => simp [intOf]
      · obtain rfl : j = 0 := by omega
        rw [List.drop_zero]
        rcases HPk.out with ⟨h1, h2⟩ | ⟨q, l, h1, h2, h3, h4⟩
        · simp only [Prod.mk.injEq] at h1
          obtain ⟨rfl, rfl, _⟩ := h1
          have hnp : np = 0 := by have := Hrdp.out.len; simpa using this.symm
          subst hnp
          rw [h2]
          clear HPk h2
          generalize cntT U = N
          go_wp2
          go_ret
          exact ⟨rfl, Hbl.out⟩
        · simp only [Prod.mk.injEq] at h1
          obtain ⟨rfl, rfl, _⟩ := h1
          rw [h2]
          have hmem := fun W => Members_ct q L' (by have := Hm.out; omega) (by have := HP.out; omega) W
          rw [h3] at hmem
          have Hmem := hide hmem
          clear HPk h2 hmem
          generalize cntT U = N
          have hqd : decide ((0 : Int) ≤ (q : Int)) = true := decide_eq_true (by omega)
          go_wp2_with fail
          refine (Hmem.out _).mono ?_
          rintro e w9 ⟨hb, OM, cm, rfl, hownm⟩
          have hrdm := own_rd hownm rfl (fun x hx => memb_range hlow (by rw [h3]; exact hx))
          have hrdp2 := Hrdp.out.keep hb
          have hbl9 := Hbl.out.trans (hb.mono Hbl.out.size)
          have Hrdm := hide hrdm
          have Hrdp2 := hide hrdp2
          have Hbl9 := hide hbl9
          clear hrdm hrdp2 hbl9 hb hownm
          go_wp2_with fail
          refine (Ints_ct _ _ _ _ _ _ _ _ _ Hrdp2.out Hrdm.out).mono ?_
          rintro e w10 ⟨rfl, hq⟩
          have hii : intsB Pl Pl = true := by simp [intsB]
          have hblq := Hbl9.out.trans ((hq.below w9.heap.size).mono Hbl9.out.size)
          go_wp2
          go_ret
          exact ⟨by rw [← hii]; rfl, hblq⟩
end Go.Proofs.Ytgenpcokpodhkaa
