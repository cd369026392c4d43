/- The walk of the law on Validate, Not and Exists. -/
import Derived.Test.YtgenpcokpodhkaaDgLaw5
import Derived.Test.YtgenpcokpodhkaaDgPure11
namespace Go.Proofs.Ytgenpcokpodhkaa
set_option linter.unusedVariables false
set_option linter.unusedSimpArgs false
open Go.RowKit Go.Maps

set_option maxHeartbeats 6400000 in
set_option maxRecDepth 100000 in
theorem UnaryLaw_ct (L : Int) (A : Option Addr) (n c : Nat) (ns : List DI) (r : Int) (lv : Int) (w : World) (hL : -9223372036854775808 ≤ L ∧ L ≤ 9223372036854775807) (hr : -9223372036854775808 ≤ r ∧ r ≤ 9223372036854775807) (hlv : -9223372036854775808 ≤ lv ∧ lv ≤ 9223372036854775807) (h : Rd Enc.node w A n c ns) :
    Calls Try.prog 5 #[.agg #[.int .i64 L, .slice A n c, .int .i64 r], .int .i64 lv] w (Gives w (.bool true)) := by
  have hcf := fun W => DiagramFault_ct L A n c ns r W hL hr
  have hcv := fun W => Validate_ct L A n c ns r W hL hr
  have hcn := fun W => Not_d L A n c ns r W hL hr
  have hce := fun W => Exists_d L lv A n c ns r W hL hr hlv
  have hmay := unary_may L ns r lv
  generalize hq : faultD L ns r = q at hcf hcv hmay
  obtain ⟨q0, q1⟩ := q
  have Hcf := hide hcf
  have Hcv := hide hcv
  have Hcn := hide hcn
  have Hce := hide hce
  have Hmay := hide hmay
  have Hrd := hide h
  have Hq := hide hq
  have heqq := eqFault q0 q1 q0 q1
  rw [decide_eq_true rfl] at heqq
  have Heqq := hide heqq
  have hykd := Blk.new w 30 [.int .i64 L, .slice A n c, .int .i64 r]
  have hbW : Below w.heap.size w (w.alloc (.cells #[.int .i64 L, .slice A n c, .int .i64 r] 30)) := (Below.refl _ _).alloc (Nat.le_refl _) _
  have Hbl := hide hbW
  have Hkd := hide hykd
  clear h hcf hcv hcn hce hmay hq hykd hbW heqq
  go_enter Try.func5, Try.ntmps5
  go_upto_region 1 with (fail)
  obtain ⟨V, hV⟩ : ∃ W, W = w.alloc (.cells #[.int .i64 L, .slice A n c, .int .i64 r] 30) := ⟨_, rfl⟩
  rw [← hV] at Hkd Hbl ⊢
  clear hV
  generalize hgd : w.heap.size = gd at Hkd ⊢
  have kd0 := Hkd.out.cell 0
  have kd1 := Hkd.out.cell 1
  have kd2 := Hkd.out.cell 2
  have kdl := Hkd.out.lt
  simp only [List.getElem?_cons_zero, List.getElem?_cons_succ] at kd0 kd1 kd2
  go_wp2_with fail
  with_reducible refine (Hcf.out V (Hrd.out.keep Hbl.out)).mono ?_
  rintro e w1 ⟨rfl, hb⟩
  clear kd0 kd1 kd2 kdl
  replace Hkd := hide (Hkd.out.keep hb)
  replace Hbl := hide (Hbl.out.trans (hb.mono Hbl.out.size))
  clear hb
  simp only [faultV]
  go_upto_region 2 with (fail)
  have hykx := Blk.new (w1) 25 [.int .i64 q0, .int .i64 q1]
  have hbW : Below (w1).heap.size (w1) ((w1).alloc (.cells #[.int .i64 q0, .int .i64 q1] 25)) := (Below.refl _ _).alloc (Nat.le_refl _) _
  obtain ⟨W1, hW⟩ : ∃ W, W = (w1).alloc (.cells #[.int .i64 q0, .int .i64 q1] 25) := ⟨_, rfl⟩
  rw [← hW] at hykx hbW ⊢
  replace Hkd := hide (Hkd.out.keep hbW)
  replace Hbl := hide (Hbl.out.trans (hbW.mono Hbl.out.size))
  have Hkx := hide hykx
  clear hW hbW hykx
  generalize w1.heap.size = gx at Hkx ⊢
  have kd0 := Hkd.out.cell 0
  have kd1 := Hkd.out.cell 1
  have kd2 := Hkd.out.cell 2
  have kdl := Hkd.out.lt
  have kx0 := Hkx.out.cell 0
  have kx1 := Hkx.out.cell 1
  have kxl := Hkx.out.lt
  simp only [List.getElem?_cons_zero, List.getElem?_cons_succ] at kd0 kd1 kd2 kx0 kx1
  refine wp_region_held_drew (S := (fun w' => w'.cell? ⟨gd, 0, none⟩ = some (.int .i64 L) ∧ w'.cell? ⟨gd, 1, none⟩ = some (.slice A n c) ∧ w'.cell? ⟨gd, 2, none⟩ = some (.int .i64 r) ∧ w'.cell? ⟨gx, 0, none⟩ = some (.int .i64 q0) ∧ w'.cell? ⟨gx, 1, none⟩ = some (.int .i64 q1))) (by kernel_rfl) ?_ (fun hHeld => ?_)
  · (try dsimp only); go_keep
  refine wpAnyH_ready (rs := [0]) (by kernel_rfl) (by simp) ?_
  refine AllReadyH.cons rfl (fun K hK => ?_) AllReadyH.nil
  go_simp
  refine (example_ct _).mono ?_
  rintro e w2 ⟨rfl, hb0⟩
  have hb : Below W1.heap.size W1 w2 := (Below.refl W1.heap.size W1).drew.trans hb0
  clear hb0
  clear kd0 kd1 kd2 kx0 kx1 kdl kxl
  replace Hkd := hide (Hkd.out.keep hb)
  replace Hkx := hide (Hkx.out.keep hb)
  replace Hbl := hide (Hbl.out.trans (hb.mono Hbl.out.size))
  clear hb
  have kd0 := Hkd.out.cell 0
  have kd1 := Hkd.out.cell 1
  have kd2 := Hkd.out.cell 2
  have kdl := Hkd.out.lt
  have kx0 := Hkx.out.cell 0
  have kx1 := Hkx.out.cell 1
  have kxl := Hkx.out.lt
  simp only [List.getElem?_cons_zero, List.getElem?_cons_succ] at kd0 kd1 kd2 kx0 kx1
  refine hK.out _ _ ?_ (fun hHeld2 => ?_)
  · (try dsimp only); go_keep
  clear hK K hHeld
  try simp only [Act.put, List.setIfInBounds_toArray, List.set_cons_zero, List.set_cons_succ]
  have hHeld := hHeld2; clear hHeld2
  refine take1 (i := 1) (v := ?_) (some 20) rfl rfl (by kernel_rfl) (by kernel_rfl) (by kernel_rfl) (fun _ _ _ h => h) (Or.inl ⟨by rfl, ?_⟩) (by assumption) ?_
  rotate_left
  · intro w hSw; (try dsimp only at hSw); first | (go_simp; done) | (go_simp; with_reducible rfl)
  try simp only [Act.put, List.setIfInBounds_toArray, List.set_cons_zero, List.set_cons_succ]
  refine take1 (i := 2) (v := ?_) (some 21) rfl rfl (by kernel_rfl) (by kernel_rfl) (by kernel_rfl) (fun _ _ _ h => h) (Or.inl ⟨by rfl, ?_⟩) (by assumption) ?_
  rotate_left
  · intro w hSw; (try dsimp only at hSw); first | (go_simp; done) | (go_simp; with_reducible rfl)
  try simp only [Act.put, List.setIfInBounds_toArray, List.set_cons_zero, List.set_cons_succ]
  refine take1 (i := 3) (v := ?_) (some 22) rfl rfl (by kernel_rfl) (by kernel_rfl) (by kernel_rfl) (fun _ _ _ h => h) (Or.inl ⟨by rfl, ?_⟩) (by assumption) ?_
  rotate_left
  · intro w hSw; (try dsimp only at hSw); first | (go_simp; done) | (go_simp; with_reducible rfl)
  try simp only [Act.put, List.setIfInBounds_toArray, List.set_cons_zero, List.set_cons_succ]
  refine take1 (i := 5) (v := ?_) (some 24) rfl rfl (by kernel_rfl) (by kernel_rfl) (by kernel_rfl) (fun _ _ _ h => h) (Or.inl ⟨by rfl, ?_⟩) (by assumption) ?_
  rotate_left
  · intro w hSw; (try dsimp only at hSw); first | (go_simp; done) | (go_simp; with_reducible rfl)
  try simp only [Act.put, List.setIfInBounds_toArray, List.set_cons_zero, List.set_cons_succ]
  refine wpAnyH_ready (rs := [4]) (by kernel_rfl) (by simp) ?_
  refine AllReadyH.cons rfl (fun K hK => ?_) AllReadyH.nil
  go_simp
  with_reducible refine (Hcv.out w2 (Hrd.out.keep Hbl.out)).mono ?_
  rintro e w3 ⟨rfl, hb⟩
  simp only [faultV]
  clear kd0 kd1 kd2 kx0 kx1 kdl kxl
  replace Hkd := hide (Hkd.out.keep hb)
  replace Hkx := hide (Hkx.out.keep hb)
  replace Hbl := hide (Hbl.out.trans (hb.mono Hbl.out.size))
  clear hb
  have kd0 := Hkd.out.cell 0
  have kd1 := Hkd.out.cell 1
  have kd2 := Hkd.out.cell 2
  have kdl := Hkd.out.lt
  have kx0 := Hkx.out.cell 0
  have kx1 := Hkx.out.cell 1
  have kxl := Hkx.out.lt
  simp only [List.getElem?_cons_zero, List.getElem?_cons_succ] at kd0 kd1 kd2 kx0 kx1
  have heqq := Heqq.out
  refine hK.out _ _ ?_ (fun hHeld2 => ?_)
  · (try dsimp only); go_keep
  clear hK K hHeld
  try simp only [Act.put, List.setIfInBounds_toArray, List.set_cons_zero, List.set_cons_succ]
  have hHeld := hHeld2; clear hHeld2
  refine take1 (i := 6) (v := ?_) (some 25) rfl rfl (by kernel_rfl) (by kernel_rfl) (by kernel_rfl) (fun _ _ _ h => h) (Or.inl ⟨by rfl, ?_⟩) (by assumption) ?_
  rotate_left
  · intro w hSw; (try dsimp only at hSw); first | (go_simp; done) | (go_simp; with_reducible rfl)
  try simp only [Act.put, List.setIfInBounds_toArray, List.set_cons_zero, List.set_cons_succ]
  refine take1 (i := 7) (v := ?_) (some 26) rfl rfl (by kernel_rfl) (by kernel_rfl) (by kernel_rfl) (fun _ _ _ h => h) (Or.inl ⟨by rfl, ?_⟩) (by assumption) ?_
  rotate_left
  · intro w hSw; (try dsimp only at hSw); first | (go_simp; done) | (go_simp; with_reducible rfl)
  try simp only [Act.put, List.setIfInBounds_toArray, List.set_cons_zero, List.set_cons_succ]
  refine wpAnyH_done (by kernel_rfl) ?_ _
  clear heqq Heqq
  by_cases hq0 : q0 = 0
  · subst hq0
    obtain ⟨hq1, hgood⟩ := Hmay.out.1 rfl
    subst hq1
    obtain ⟨L', r', ds, rfl, rfl, rfl, hval, hnotR, hexR⟩ := hgood
    have Hval := hide hval
    have hlow := hval.low
    clear hval Hmay
    by_cases hm : (10 : Int) < L'
    · have hm2 : decide ((10 : Int) < L') = true := decide_eq_true hm
      have Hmany := hide (many_ct (L' : Int))
      rw [hm2] at Hmany
      clear hm hm2 hnotR hexR
      go_wp2_with fail
      refine (Hmany.out _).mono ?_
      rintro e w4 ⟨rfl, rfl⟩
      go_wp2_with fail
      go_ret
      exact ⟨rfl, Hbl.out⟩
    · have hm2 : decide ((10 : Int) < L') = false := decide_eq_false hm
      have Hmany := hide (many_ct (L' : Int))
      rw [hm2] at Hmany
      have Hm := hide hm
      have hmade := made_lim L' (diaF L' (fun s => !sem ds r' s))
      have hcn := Hcn.out
      rw [hnotR] at hcn
      generalize limF L' (diaF L' (fun s => !sem ds r' s)) = R at hcn hmade
      obtain ⟨⟨d0, dn, dr⟩, f0, f1⟩ := R
      have Hcn2 := hide hcn
      have Hmade := hide hmade
      have hce := Hce.out
      generalize existsR (L' : Int) (ds.map castN) (r' : Int) lv = R at hce hexR
      obtain ⟨⟨a0, an, ar⟩, b0, b1⟩ := R
      have Hce2 := hide hce
      have HexR := hide hexR
      clear hm hm2 hcn hmade hce hnotR hexR Hcn Hce
      go_wp2_with fail
      refine (Hmany.out _).mono ?_
      rintro e w4 ⟨rfl, rfl⟩
      go_wp2_with fail
      with_reducible refine (Hcn2.out _ (Hrd.out.keep Hbl.out)).mono ?_
      rintro e w4 ⟨⟨O, m, d, rfl, hrd2, _⟩, hb⟩
      clear kd0 kd1 kd2 kx0 kx1 kdl kxl
      replace Hkd := hide (Hkd.out.keep hb)
      replace Hkx := hide (Hkx.out.keep hb)
      replace Hbl := hide (Hbl.out.trans (hb.mono Hbl.out.size))
      clear hb
      simp only [faultV]
      simp only at hrd2
      have Hrd2 := hide hrd2
      clear hrd2
      go_upto_region 7 with (fail)
      have hyky := Blk.new (w4) 30 [.int .i64 d0, .slice O m d, .int .i64 dr]
      have hykz := Blk.new ((w4).alloc (.cells #[.int .i64 d0, .slice O m d, .int .i64 dr] 30)) 25 [.int .i64 f0, .int .i64 f1]
      replace hyky := hyky.alloc (.cells #[.int .i64 f0, .int .i64 f1] 25)
      have hbW := below_two w4 (.cells #[.int .i64 d0, .slice O m d, .int .i64 dr] 30) (.cells #[.int .i64 f0, .int .i64 f1] 25)
      simp only [World.size_alloc] at hykz
      obtain ⟨W4, hW⟩ : ∃ W, W = ((w4).alloc (.cells #[.int .i64 d0, .slice O m d, .int .i64 dr] 30)).alloc (.cells #[.int .i64 f0, .int .i64 f1] 25) := ⟨_, rfl⟩
      rw [← hW] at hyky hykz hbW ⊢
      replace Hkd := hide (Hkd.out.keep hbW)
      replace Hkx := hide (Hkx.out.keep hbW)
      replace Hrd2 := hide (Hrd2.out.keep hbW)
      replace Hbl := hide (Hbl.out.trans (hbW.mono Hbl.out.size))
      have Hky := hide hyky
      have Hkz := hide hykz
      clear hW hbW hyky hykz
      generalize w4.heap.size = gy at Hky Hkz ⊢
      have kd0 := Hkd.out.cell 0
      have kd1 := Hkd.out.cell 1
      have kd2 := Hkd.out.cell 2
      have kdl := Hkd.out.lt
      have kx0 := Hkx.out.cell 0
      have kx1 := Hkx.out.cell 1
      have kxl := Hkx.out.lt
      have ky0 := Hky.out.cell 0
      have ky1 := Hky.out.cell 1
      have ky2 := Hky.out.cell 2
      have kyl := Hky.out.lt
      have kz0 := Hkz.out.cell 0
      have kz1 := Hkz.out.cell 1
      have kzl := Hkz.out.lt
      simp only [List.getElem?_cons_zero, List.getElem?_cons_succ] at kd0 kd1 kd2 kx0 kx1 ky0 ky1 ky2 kz0 kz1
      go_wp2_with fail
      with_reducible refine (Hce2.out _ (Hrd.out.keep Hbl.out)).mono ?_
      rintro e w5 ⟨⟨O3, m3, d3, rfl, hrd3, _⟩, hb⟩
      clear kd0 kd1 kd2 kx0 kx1 ky0 ky1 ky2 kz0 kz1 kdl kxl kyl kzl
      replace Hkd := hide (Hkd.out.keep hb)
      replace Hkx := hide (Hkx.out.keep hb)
      replace Hky := hide (Hky.out.keep hb)
      replace Hkz := hide (Hkz.out.keep hb)
      replace Hrd2 := hide (Hrd2.out.keep hb)
      replace Hbl := hide (Hbl.out.trans (hb.mono Hbl.out.size))
      clear hb
      simp only [faultV]
      simp only at hrd3
      have Hrd3 := hide hrd3
      clear hrd3
      go_upto_region 8 with (fail)
      have hyku := Blk.new (w5) 30 [.int .i64 a0, .slice O3 m3 d3, .int .i64 ar]
      have hykv := Blk.new ((w5).alloc (.cells #[.int .i64 a0, .slice O3 m3 d3, .int .i64 ar] 30)) 25 [.int .i64 b0, .int .i64 b1]
      replace hyku := hyku.alloc (.cells #[.int .i64 b0, .int .i64 b1] 25)
      have hbW := below_two w5 (.cells #[.int .i64 a0, .slice O3 m3 d3, .int .i64 ar] 30) (.cells #[.int .i64 b0, .int .i64 b1] 25)
      simp only [World.size_alloc] at hykv
      obtain ⟨W5, hW⟩ : ∃ W, W = ((w5).alloc (.cells #[.int .i64 a0, .slice O3 m3 d3, .int .i64 ar] 30)).alloc (.cells #[.int .i64 b0, .int .i64 b1] 25) := ⟨_, rfl⟩
      rw [← hW] at hyku hykv hbW ⊢
      replace Hkd := hide (Hkd.out.keep hbW)
      replace Hkx := hide (Hkx.out.keep hbW)
      replace Hky := hide (Hky.out.keep hbW)
      replace Hkz := hide (Hkz.out.keep hbW)
      replace Hrd2 := hide (Hrd2.out.keep hbW)
      replace Hrd3 := hide (Hrd3.out.keep hbW)
      replace Hbl := hide (Hbl.out.trans (hbW.mono Hbl.out.size))
      have Hku := hide hyku
      have Hkv := hide hykv
      clear hW hbW hyku hykv
      generalize w5.heap.size = gu at Hku Hkv ⊢
      have kd0 := Hkd.out.cell 0
      have kd1 := Hkd.out.cell 1
      have kd2 := Hkd.out.cell 2
      have kdl := Hkd.out.lt
      have kx0 := Hkx.out.cell 0
      have kx1 := Hkx.out.cell 1
      have kxl := Hkx.out.lt
      have ky0 := Hky.out.cell 0
      have ky1 := Hky.out.cell 1
      have ky2 := Hky.out.cell 2
      have kyl := Hky.out.lt
      have kz0 := Hkz.out.cell 0
      have kz1 := Hkz.out.cell 1
      have kzl := Hkz.out.lt
      have ku0 := Hku.out.cell 0
      have ku1 := Hku.out.cell 1
      have ku2 := Hku.out.cell 2
      have kul := Hku.out.lt
      have kv0 := Hkv.out.cell 0
      have kv1 := Hkv.out.cell 1
      have kvl := Hkv.out.lt
      simp only [List.getElem?_cons_zero, List.getElem?_cons_succ] at kd0 kd1 kd2 kx0 kx1 ky0 ky1 ky2 kz0 kz1 ku0 ku1 ku2 kv0 kv1
      go_wp2_with fail
      with_reducible refine (Truths_ct L' n c r' A ds _ Hval.out (Hrd.out.keep Hbl.out)).mono ?_
      rintro e w6 ⟨hb, OU, cu, rfl, hown⟩
      clear kd0 kd1 kd2 kx0 kx1 ky0 ky1 ky2 kz0 kz1 ku0 ku1 ku2 kv0 kv1 kdl kxl kyl kzl kul kvl
      replace Hkd := hide (Hkd.out.keep hb)
      replace Hkx := hide (Hkx.out.keep hb)
      replace Hky := hide (Hky.out.keep hb)
      replace Hkz := hide (Hkz.out.keep hb)
      replace Hku := hide (Hku.out.keep hb)
      replace Hkv := hide (Hkv.out.keep hb)
      replace Hrd2 := hide (Hrd2.out.keep hb)
      replace Hrd3 := hide (Hrd3.out.keep hb)
      replace Hbl := hide (Hbl.out.trans (hb.mono Hbl.out.size))
      clear hb
      have hlu : (tableF L' (sem ds r')).length = 2 ^ L' := by simp [tableF]
      have hrdu := own_rdB hown rfl
      rw [hlu] at hrdu ⊢
      have hp : 2 ^ L' ≤ 1024 := Nat.le_trans (Nat.pow_le_pow_right (by omega) (show L' ≤ 10 by have := Hm.out; omega)) (by decide)
      have hpos : 0 < 2 ^ L' := Nat.two_pow_pos _
      have hnt := tableF_not L' (sem ds r')
      have hcu := hrdu.cap
      have hsu := hrdu.small
      have Hpow : Hid (2 ^ L' = 2 ^ L') := hide rfl
      generalize hP : 2 ^ L' = P at hlu hrdu hp hpos Hpow hcu hsu ⊢
      generalize hU : tableF L' (sem ds r') = U at hlu hrdu hnt
      have HP := hide hP
      have HU := hide hU
      have Hlu := hide hlu
      have Hnt := hide hnt
      have Hrdu := hide hrdu
      clear hP hU hlu hnt hrdu hown Hpow
      have kd0 := Hkd.out.cell 0
      have kd1 := Hkd.out.cell 1
      have kd2 := Hkd.out.cell 2
      have kdl := Hkd.out.lt
      have kx0 := Hkx.out.cell 0
      have kx1 := Hkx.out.cell 1
      have kxl := Hkx.out.lt
      have ky0 := Hky.out.cell 0
      have ky1 := Hky.out.cell 1
      have ky2 := Hky.out.cell 2
      have kyl := Hky.out.lt
      have kz0 := Hkz.out.cell 0
      have kz1 := Hkz.out.cell 1
      have kzl := Hkz.out.lt
      have ku0 := Hku.out.cell 0
      have ku1 := Hku.out.cell 1
      have ku2 := Hku.out.cell 2
      have kul := Hku.out.lt
      have kv0 := Hkv.out.cell 0
      have kv1 := Hkv.out.cell 1
      have kvl := Hkv.out.lt
      simp only [List.getElem?_cons_zero, List.getElem?_cons_succ] at kd0 kd1 kd2 kx0 kx1 ky0 ky1 ky2 kz0 kz1 ku0 ku1 ku2 kv0 kv1
      obtain ⟨i0, hi0, hz0, hz1, hz2⟩ := info_parts boolInfo
      go_wp2_with fail
      go_loopw [11, 12] (fun o i wr => ∃ (k : Nat) (O : Option Addr) (oc : Nat), k ≤ P ∧ i = .int .i64 k ∧ o = .slice O k oc ∧ wr.ownsRow w6.heap.size 4 1 (.slice O k oc) k (((U.take k).map (!·)).map Value.bool) ∧ Below w6.heap.size w6 wr) (fun _ i _ => P - (intOf i).toNat)
      case atStart => exact ⟨0, none, 0, by omega, rfl, rfl, World.ownsRow_nil _ _ _ _, Below.refl _ _⟩
      case round =>
        obtain ⟨k, ON, oc, hk, rfl, rfl, hown, hbr⟩ := hrel
        clear kd0 kd1 kd2 kx0 kx1 ky0 ky1 ky2 kz0 kz1 ku0 ku1 ku2 kv0 kv1 kdl kxl kyl kzl kul kvl
        have hsz := hbr.size
        have Hown := hide hown
        have Hbr := hide hbr
        clear hown hbr
        by_cases hlt : k < P
        · obtain ⟨b, off, x, rfl, hx, hcx⟩ := (Hrdu.out.keep Hbr.out).bool hlt
          have htk : ((U.take (k + 1)).map (!·)).map Value.bool = ((U.take k).map (!·)).map Value.bool ++ [.bool (!x)] := by rw [take_snoc hx]; simp
          have Htk := hide htk
          clear htk hx
          go_wp2_with
            (at_builtin
             refine wpList_push rfl _ _ 35 rfl w6.heap.size 4 i0 (.bool false) 1 1 Try.underlying35 hi0 hz0 hz1 hz2 rfl (by decide) _ _ _ rfl Hown.out [.bool (!x)] rfl (by intro u hu; simp at hu; subst hu; rfl) rfl (by omega) (by omega) hsz ?_
             intro O1 oc1 w2 hown2 hb2)
          go_roundw
          case rel => exact ⟨k + 1, O1, oc1, by omega, by go_num, rfl, by rw [Htk.out]; exact hown2, Hbr.out.trans hb2⟩
          case measure => simp [intOf]; omega
        · obtain rfl : k = P := by omega
          have hfull : U.take k = U := List.take_of_length_le (by have := Hlu.out; omega)
          have hown := Hown.out
          rw [hfull, Hnt.out] at hown
          have hrdn := own_rdB hown (by simp [tableF]; exact HP.out)
          have hbq := Hbr.out
          replace Hkd := hide (Hkd.out.keep hbq)
          replace Hkx := hide (Hkx.out.keep hbq)
          replace Hky := hide (Hky.out.keep hbq)
          replace Hkz := hide (Hkz.out.keep hbq)
          replace Hku := hide (Hku.out.keep hbq)
          replace Hkv := hide (Hkv.out.keep hbq)
          replace Hrd2 := hide (Hrd2.out.keep hbq)
          replace Hrd3 := hide (Hrd3.out.keep hbq)
          replace Hrdu := hide (Hrdu.out.keep hbq)
          replace Hbl := hide (Hbl.out.trans (hbq.mono Hbl.out.size))
          have Hrdn := hide hrdn
          clear hrdn hbq hown hfull Hbr Hown
          obtain ⟨w7, rfl⟩ : ∃ V, V = wr := ⟨_, rfl⟩
          have hmade2 : madeB d0 dn dr (f0, f1) L' (canonical L' (tableF L' (fun s => !sem ds r' s))) = true := Hmade.out
          have hcall := made_ct d0 O m d dn dr (f0, f1) L' ON k oc _ w7 (by have := Hm.out; omega) HP.out.symm Hrd2.out Hrdn.out
          rw [hmade2] at hcall
          simp only [faultV] at hcall
          have Hcall := hide hcall
          clear hcall hmade2
          have kd0 := Hkd.out.cell 0
          have kd1 := Hkd.out.cell 1
          have kd2 := Hkd.out.cell 2
          have kdl := Hkd.out.lt
          have kx0 := Hkx.out.cell 0
          have kx1 := Hkx.out.cell 1
          have kxl := Hkx.out.lt
          have ky0 := Hky.out.cell 0
          have ky1 := Hky.out.cell 1
          have ky2 := Hky.out.cell 2
          have kyl := Hky.out.lt
          have kz0 := Hkz.out.cell 0
          have kz1 := Hkz.out.cell 1
          have kzl := Hkz.out.lt
          have ku0 := Hku.out.cell 0
          have ku1 := Hku.out.cell 1
          have ku2 := Hku.out.cell 2
          have kul := Hku.out.lt
          have kv0 := Hkv.out.cell 0
          have kv1 := Hkv.out.cell 1
          have kvl := Hkv.out.lt
          simp only [List.getElem?_cons_zero, List.getElem?_cons_succ] at kd0 kd1 kd2 kx0 kx1 ky0 ky1 ky2 kz0 kz1 ku0 ku1 ku2 kv0 kv1
          go_wp2_with fail
          with_reducible refine (Hcall.out).mono ?_
          rintro e w8 ⟨rfl, hb⟩
          clear kd0 kd1 kd2 kx0 kx1 ky0 ky1 ky2 kz0 kz1 ku0 ku1 ku2 kv0 kv1 kdl kxl kyl kzl kul kvl
          replace Hkd := hide (Hkd.out.keep hb)
          replace Hkx := hide (Hkx.out.keep hb)
          replace Hky := hide (Hky.out.keep hb)
          replace Hkz := hide (Hkz.out.keep hb)
          replace Hku := hide (Hku.out.keep hb)
          replace Hkv := hide (Hkv.out.keep hb)
          replace Hrd2 := hide (Hrd2.out.keep hb)
          replace Hrd3 := hide (Hrd3.out.keep hb)
          replace Hrdu := hide (Hrdu.out.keep hb)
          replace Hbl := hide (Hbl.out.trans (hb.mono Hbl.out.size))
          clear hb
          have kd0 := Hkd.out.cell 0
          have kd1 := Hkd.out.cell 1
          have kd2 := Hkd.out.cell 2
          have kdl := Hkd.out.lt
          have kx0 := Hkx.out.cell 0
          have kx1 := Hkx.out.cell 1
          have kxl := Hkx.out.lt
          have ky0 := Hky.out.cell 0
          have ky1 := Hky.out.cell 1
          have ky2 := Hky.out.cell 2
          have kyl := Hky.out.lt
          have kz0 := Hkz.out.cell 0
          have kz1 := Hkz.out.cell 1
          have kzl := Hkz.out.lt
          have ku0 := Hku.out.cell 0
          have ku1 := Hku.out.cell 1
          have ku2 := Hku.out.cell 2
          have kul := Hku.out.lt
          have kv0 := Hkv.out.cell 0
          have kv1 := Hkv.out.cell 1
          have kvl := Hkv.out.lt
          simp only [List.getElem?_cons_zero, List.getElem?_cons_succ] at kd0 kd1 kd2 kx0 kx1 ky0 ky1 ky2 kz0 kz1 ku0 ku1 ku2 kv0 kv1
          clear Hcall Hrdn
          by_cases hlv0 : lv < 0 ∨ (L' : Int) ≤ lv
          · have hin : Hid (inB lv 0 ((L' : Int) - 1) = false) := hide (inB_no.2 (by omega))
            have hR := HexR.out.1 hlv0
            simp only [Prod.mk.injEq] at hR
            obtain ⟨⟨rfl, rfl, rfl⟩, rfl, rfl⟩ := hR
            clear HexR hlv0
            go_wp2_with fail
            with_reducible refine (inB_call hin.out _).mono ?_
            rintro e w9 ⟨rfl, rfl⟩
            go_wp2_with fail
            refine wp_region_held_drew (S := (fun w' => w'.cell? ⟨gu, 0, none⟩ = some (.int .i64 0) ∧ w'.cell? ⟨gu, 1, none⟩ = some (.slice O3 m3 d3) ∧ w'.cell? ⟨gu, 2, none⟩ = some (.int .i64 0) ∧ w'.cell? ⟨gu + 1, 0, none⟩ = some (.int .i64 3) ∧ w'.cell? ⟨gu + 1, 1, none⟩ = some (.int .i64 (-6)))) (by kernel_rfl) ?_ (fun hHeld => ?_)
            · (try dsimp only); go_keep
            refine take1 (i := 0) (v := ?_) (some 88) rfl rfl (by kernel_rfl) (by kernel_rfl) (by kernel_rfl) (fun _ _ _ h => h) (Or.inl ⟨by rfl, ?_⟩) (by assumption) ?_
            rotate_left
            · intro w hSw; (try dsimp only at hSw); first | (go_simp; done) | (go_simp; with_reducible rfl)
            try simp only [Act.put, List.setIfInBounds_toArray, List.set_cons_zero, List.set_cons_succ]
            refine take1 (i := 1) (v := ?_) (some 89) rfl rfl (by kernel_rfl) (by kernel_rfl) (by kernel_rfl) (fun _ _ _ h => h) (Or.inl ⟨by rfl, ?_⟩) (by assumption) ?_
            rotate_left
            · intro w hSw; (try dsimp only at hSw); first | (go_simp; done) | (go_simp; with_reducible rfl)
            try simp only [Act.put, List.setIfInBounds_toArray, List.set_cons_zero, List.set_cons_succ]
            refine wpAnyH_ready (rs := [2]) (by kernel_rfl) (by simp) ?_
            refine AllReadyH.cons rfl (fun K hK => ?_) AllReadyH.nil
            go_simp
            refine (At_ct 3 (-6) _).mono ?_
            rintro e w9 ⟨rfl, hb0⟩
            have hb : Below w8.heap.size w8 w9 := (Below.refl w8.heap.size w8).drew.trans hb0
            unfold fault
            clear hb0
            clear kd0 kd1 kd2 kx0 kx1 ky0 ky1 ky2 kz0 kz1 ku0 ku1 ku2 kv0 kv1 kdl kxl kyl kzl kul kvl
            replace Hkd := hide (Hkd.out.keep hb)
            replace Hkx := hide (Hkx.out.keep hb)
            replace Hky := hide (Hky.out.keep hb)
            replace Hkz := hide (Hkz.out.keep hb)
            replace Hku := hide (Hku.out.keep hb)
            replace Hkv := hide (Hkv.out.keep hb)
            replace Hrd2 := hide (Hrd2.out.keep hb)
            replace Hrd3 := hide (Hrd3.out.keep hb)
            replace Hrdu := hide (Hrdu.out.keep hb)
            replace Hbl := hide (Hbl.out.trans (hb.mono Hbl.out.size))
            clear hb
            have kd0 := Hkd.out.cell 0
            have kd1 := Hkd.out.cell 1
            have kd2 := Hkd.out.cell 2
            have kdl := Hkd.out.lt
            have kx0 := Hkx.out.cell 0
            have kx1 := Hkx.out.cell 1
            have kxl := Hkx.out.lt
            have ky0 := Hky.out.cell 0
            have ky1 := Hky.out.cell 1
            have ky2 := Hky.out.cell 2
            have kyl := Hky.out.lt
            have kz0 := Hkz.out.cell 0
            have kz1 := Hkz.out.cell 1
            have kzl := Hkz.out.lt
            have ku0 := Hku.out.cell 0
            have ku1 := Hku.out.cell 1
            have ku2 := Hku.out.cell 2
            have kul := Hku.out.lt
            have kv0 := Hkv.out.cell 0
            have kv1 := Hkv.out.cell 1
            have kvl := Hkv.out.lt
            simp only [List.getElem?_cons_zero, List.getElem?_cons_succ] at kd0 kd1 kd2 kx0 kx1 ky0 ky1 ky2 kz0 kz1 ku0 ku1 ku2 kv0 kv1
            refine hK.out _ _ ?_ (fun hHeld2 => ?_)
            · (try dsimp only); go_keep
            clear hK K hHeld
            try simp only [Act.put, List.setIfInBounds_toArray, List.set_cons_zero, List.set_cons_succ]
            have hHeld := hHeld2; clear hHeld2
            refine wpAnyH_ready (rs := [3]) (by kernel_rfl) (by simp) ?_
            refine AllReadyH.cons rfl (fun K hK => ?_) AllReadyH.nil
            go_simp
            have hcall := failed_ct 0 O3 m3 d3 [] 0 (3, -6) (3, -6) w9 Hrd3.out
            rw [fail_same] at hcall
            simp only [faultV] at hcall
            with_reducible refine hcall.mono ?_
            rintro e w10 ⟨rfl, hb⟩
            clear hcall
            clear kd0 kd1 kd2 kx0 kx1 ky0 ky1 ky2 kz0 kz1 ku0 ku1 ku2 kv0 kv1 kdl kxl kyl kzl kul kvl
            replace Hkd := hide (Hkd.out.keep hb)
            replace Hkx := hide (Hkx.out.keep hb)
            replace Hky := hide (Hky.out.keep hb)
            replace Hkz := hide (Hkz.out.keep hb)
            replace Hku := hide (Hku.out.keep hb)
            replace Hkv := hide (Hkv.out.keep hb)
            replace Hrd2 := hide (Hrd2.out.keep hb)
            replace Hrd3 := hide (Hrd3.out.keep hb)
            replace Hrdu := hide (Hrdu.out.keep hb)
            replace Hbl := hide (Hbl.out.trans (hb.mono Hbl.out.size))
            clear hb
            have kd0 := Hkd.out.cell 0
            have kd1 := Hkd.out.cell 1
            have kd2 := Hkd.out.cell 2
            have kdl := Hkd.out.lt
            have kx0 := Hkx.out.cell 0
            have kx1 := Hkx.out.cell 1
            have kxl := Hkx.out.lt
            have ky0 := Hky.out.cell 0
            have ky1 := Hky.out.cell 1
            have ky2 := Hky.out.cell 2
            have kyl := Hky.out.lt
            have kz0 := Hkz.out.cell 0
            have kz1 := Hkz.out.cell 1
            have kzl := Hkz.out.lt
            have ku0 := Hku.out.cell 0
            have ku1 := Hku.out.cell 1
            have ku2 := Hku.out.cell 2
            have kul := Hku.out.lt
            have kv0 := Hkv.out.cell 0
            have kv1 := Hkv.out.cell 1
            have kvl := Hkv.out.lt
            simp only [List.getElem?_cons_zero, List.getElem?_cons_succ] at kd0 kd1 kd2 kx0 kx1 ky0 ky1 ky2 kz0 kz1 ku0 ku1 ku2 kv0 kv1
            refine hK.out _ _ ?_ (fun hHeld2 => ?_)
            · (try dsimp only); go_keep
            clear hK K hHeld
            try simp only [Act.put, List.setIfInBounds_toArray, List.set_cons_zero, List.set_cons_succ]
            have hHeld := hHeld2; clear hHeld2
            refine take1 (i := 4) (v := ?_) (some 4) rfl rfl (by kernel_rfl) (by kernel_rfl) (by kernel_rfl) (fun _ _ _ h => h) (Or.inl ⟨by rfl, ?_⟩) (by assumption) ?_
            rotate_left
            · intro w hSw; (try dsimp only at hSw); first | (go_simp; done) | (go_simp; with_reducible rfl)
            try simp only [Act.put, List.setIfInBounds_toArray, List.set_cons_zero, List.set_cons_succ]
            refine wpAnyH_done (by kernel_rfl) ?_ _
            go_wp2
            go_ret
            exact ⟨rfl, Hbl.out⟩
          · have hin : Hid (inB lv 0 ((L' : Int) - 1) = true) := hide (inB_iff.2 (by omega))
            obtain ⟨v', rfl⟩ : ∃ m : Nat, lv = (m : Int) := ⟨lv.toNat, by omega⟩
            have hvL : v' < L' := by omega
            have hR := HexR.out.2 hlv0
            simp only [Int.toNat_natCast] at hR
            have hmade := made_lim L' (diaF L' (existsF v' (sem ds r')))
            rw [← hR] at hmade
            have hqp := Nat.two_pow_pos (L' - 1 - v')
            have hqP : 2 ^ (L' - 1 - v') * 2 ≤ k := by
              rw [← HP.out, ← Nat.pow_succ]
              exact Nat.pow_le_pow_right (by omega) (by omega)
            have hsome := fun (i : Nat) (hi : i < k) => exists_step (φ := sem ds r') (U := U) hvL HU.out.symm (show i < 2 ^ L' by rw [HP.out]; exact hi)
            have hshv : ((L' : Int) - 1 - (v' : Int)).toNat = L' - 1 - v' := by omega
            have hsh2 : ((2 : Int) ^ (L' - 1 - v')) = ((2 ^ (L' - 1 - v') : Nat) : Int) := by simp
            have hu1 : IntKind.u64.wrap ((L' : Int) - 1 - (v' : Int)) = (L' : Int) - 1 - (v' : Int) := by rw [IntWalk.u64_in _ (by omega)]
            generalize 2 ^ (L' - 1 - v') = Q at hqp hqP hsome hsh2
            have Hsome := hide hsome
            have Hmade2 := hide hmade
            clear hR hmade hsome HexR hlv0
            go_wp2_with fail
            with_reducible refine (inB_call hin.out _).mono ?_
            rintro e w9 ⟨rfl, rfl⟩
            go_wp2_with fail
            go_loopw [13, 14] (fun o i wr => ∃ (j : Nat) (O : Option Addr) (oc : Nat), j ≤ k ∧ i = .int .i64 j ∧ o = .slice O j oc ∧ wr.ownsRow w8.heap.size 4 1 (.slice O j oc) j ((tabK L' (existsF v' (sem ds r')) j).map Value.bool) ∧ Below w8.heap.size w8 wr) (fun _ i _ => k - (intOf i).toNat)
            case atStart => exact ⟨0, none, 0, by omega, rfl, rfl, World.ownsRow_nil _ _ _ _, Below.refl _ _⟩
            case round =>
              obtain ⟨j, OS, oc, hj, rfl, rfl, hown, hbr⟩ := hrel
              clear kd0 kd1 kd2 kx0 kx1 ky0 ky1 ky2 kz0 kz1 ku0 ku1 ku2 kv0 kv1 kdl kxl kyl kzl kul kvl
              have hsz := hbr.size
              have Hown := hide hown
              have hbq := hbr
              have hda := Hkd.out.keep hbr
              have d0' := hda.cell 0
              have dl' := hda.lt
              simp only [List.getElem?_cons_zero, List.getElem?_cons_succ] at d0'
              have Hbr := hide hbr
              clear hown hbr hbq hda
              by_cases hlt : j < k
              · obtain ⟨b, off, x, rfl, hx, hcx⟩ := (Hrdu.out.keep Hbr.out).bool hlt
                obtain ⟨i, hik, hdir, hsm⟩ := Hsome.out j hlt
                have hik2 : i < k := by rw [← HP.out]; exact hik
                clear hik
                obtain ⟨b', off', y, e, hy, hcy⟩ := (Hrdu.out.keep Hbr.out).bool hik2
                injection e with e
                injection e with e1 e2
                subst e1 e2
                have htb := tabK_succ L' (existsF v' (sem ds r')) j
                have hv := hsm x y hx hy
                rw [hv] at htb
                have Htb := hide htb
                clear htb hx hy hv hsm
                have hxy : (if x = true then true else y) = (x || y) := by cases x <;> rfl
                have hi0' : (0 : Int) ≤ (i : Int) := by omega
                have hQ0 : (0 : Int) < (Q : Int) := by omega
                have hquo : (j : Int) / (Q : Int) = ((j / Q : Nat) : Int) := by simp
                have hjq : j / Q ≤ j := Nat.div_le_self _ _
                rcases hdir with ⟨hbit, hie⟩ | ⟨hbit, hie⟩
                · have hkk : (j : Int) - (Q : Int) = (i : Int) := by omega
                  have hb : (((j / Q : Nat) : Int) % 2 == 1) = true := by rw [beq_iff_eq]; omega
                  have Hk2 := hide hkk
                  clear hie hbit
                  generalize j / Q = jq at hquo hb hjq
                  cases x
                  all_goals
                    go_wp2_with
                      (at_builtin
                       refine wpList_push rfl _ _ 35 rfl w8.heap.size 4 i0 (.bool false) 1 1 Try.underlying35 hi0 hz0 hz1 hz2 rfl (by decide) _ _ _ rfl Hown.out [.bool _] rfl (by intro u hu; simp at hu; subst hu; rfl) rfl (by omega) (by omega) hsz ?_
                       intro O1 oc1 w2 hown2 hb2)
                    go_roundw
                    case rel => exact ⟨j + 1, O1, oc1, by omega, by go_num, rfl, by rw [Htb.out]; simpa using hown2, Hbr.out.trans hb2⟩
                    case measure => simp [intOf]; omega
                · have hb : (((j / Q : Nat) : Int) % 2 == 1) = false := by rw [beq_eq_false_iff_ne]; omega
                  subst hie
                  clear hbit
                  generalize j / Q = jq at hquo hb hjq
                  cases x
                  all_goals
                    go_wp2_with
                      (at_builtin
                       refine wpList_push rfl _ _ 35 rfl w8.heap.size 4 i0 (.bool false) 1 1 Try.underlying35 hi0 hz0 hz1 hz2 rfl (by decide) _ _ _ rfl Hown.out [.bool _] rfl (by intro u hu; simp at hu; subst hu; rfl) rfl (by omega) (by omega) hsz ?_
                       intro O1 oc1 w2 hown2 hb2)
                    go_roundw
                    case rel => exact ⟨j + 1, O1, oc1, by omega, by go_num, rfl, by rw [Htb.out]; simpa using hown2, Hbr.out.trans hb2⟩
                    case measure => simp [intOf]; omega
              · obtain rfl : j = k := by omega
                have hown := Hown.out
                have htk : tabK L' (existsF v' (sem ds r')) j = tableF L' (existsF v' (sem ds r')) := by rw [← HP.out]; exact tabK_all _ _
                rw [htk] at hown
                have hrds := own_rdB hown (by simp [tableF]; exact HP.out)
                have hbq := Hbr.out
                replace Hkd := hide (Hkd.out.keep hbq)
                replace Hkx := hide (Hkx.out.keep hbq)
                replace Hky := hide (Hky.out.keep hbq)
                replace Hkz := hide (Hkz.out.keep hbq)
                replace Hku := hide (Hku.out.keep hbq)
                replace Hkv := hide (Hkv.out.keep hbq)
                replace Hrd2 := hide (Hrd2.out.keep hbq)
                replace Hrd3 := hide (Hrd3.out.keep hbq)
                replace Hrdu := hide (Hrdu.out.keep hbq)
                replace Hbl := hide (Hbl.out.trans (hbq.mono Hbl.out.size))
                have Hrds := hide hrds
                clear hrds hbq hown Hbr Hown htk d0' dl'
                obtain ⟨w9, rfl⟩ : ∃ V, V = wr := ⟨_, rfl⟩
                have hmade2 : madeB a0 an ar (b0, b1) L' (canonical L' (tableF L' (existsF v' (sem ds r')))) = true := Hmade2.out
                have hcall := made_ct a0 O3 m3 d3 an ar (b0, b1) L' OS j oc _ w9 (by have := Hm.out; omega) HP.out.symm Hrd3.out Hrds.out
                rw [hmade2] at hcall
                simp only [faultV] at hcall
                have Hcall := hide hcall
                clear hcall hmade2
                have kd0 := Hkd.out.cell 0
                have kd1 := Hkd.out.cell 1
                have kd2 := Hkd.out.cell 2
                have kdl := Hkd.out.lt
                have kx0 := Hkx.out.cell 0
                have kx1 := Hkx.out.cell 1
                have kxl := Hkx.out.lt
                have ky0 := Hky.out.cell 0
                have ky1 := Hky.out.cell 1
                have ky2 := Hky.out.cell 2
                have kyl := Hky.out.lt
                have kz0 := Hkz.out.cell 0
                have kz1 := Hkz.out.cell 1
                have kzl := Hkz.out.lt
                have ku0 := Hku.out.cell 0
                have ku1 := Hku.out.cell 1
                have ku2 := Hku.out.cell 2
                have kul := Hku.out.lt
                have kv0 := Hkv.out.cell 0
                have kv1 := Hkv.out.cell 1
                have kvl := Hkv.out.lt
                simp only [List.getElem?_cons_zero, List.getElem?_cons_succ] at kd0 kd1 kd2 kx0 kx1 ky0 ky1 ky2 kz0 kz1 ku0 ku1 ku2 kv0 kv1
                go_wp2_with fail
                with_reducible refine (Hcall.out).mono ?_
                rintro e w10 ⟨rfl, hb⟩
                clear kd0 kd1 kd2 kx0 kx1 ky0 ky1 ky2 kz0 kz1 ku0 ku1 ku2 kv0 kv1 kdl kxl kyl kzl kul kvl
                replace Hkd := hide (Hkd.out.keep hb)
                replace Hkx := hide (Hkx.out.keep hb)
                replace Hky := hide (Hky.out.keep hb)
                replace Hkz := hide (Hkz.out.keep hb)
                replace Hku := hide (Hku.out.keep hb)
                replace Hkv := hide (Hkv.out.keep hb)
                replace Hrd2 := hide (Hrd2.out.keep hb)
                replace Hrd3 := hide (Hrd3.out.keep hb)
                replace Hrdu := hide (Hrdu.out.keep hb)
                replace Hbl := hide (Hbl.out.trans (hb.mono Hbl.out.size))
                clear hb
                have kd0 := Hkd.out.cell 0
                have kd1 := Hkd.out.cell 1
                have kd2 := Hkd.out.cell 2
                have kdl := Hkd.out.lt
                have kx0 := Hkx.out.cell 0
                have kx1 := Hkx.out.cell 1
                have kxl := Hkx.out.lt
                have ky0 := Hky.out.cell 0
                have ky1 := Hky.out.cell 1
                have ky2 := Hky.out.cell 2
                have kyl := Hky.out.lt
                have kz0 := Hkz.out.cell 0
                have kz1 := Hkz.out.cell 1
                have kzl := Hkz.out.lt
                have ku0 := Hku.out.cell 0
                have ku1 := Hku.out.cell 1
                have ku2 := Hku.out.cell 2
                have kul := Hku.out.lt
                have kv0 := Hkv.out.cell 0
                have kv1 := Hkv.out.cell 1
                have kvl := Hkv.out.lt
                simp only [List.getElem?_cons_zero, List.getElem?_cons_succ] at kd0 kd1 kd2 kx0 kx1 ky0 ky1 ky2 kz0 kz1 ku0 ku1 ku2 kv0 kv1
                go_wp2
                go_ret
                exact ⟨rfl, Hbl.out⟩
  · have hqb : (q0 == 0) = false := by rw [beq_eq_false_iff_ne]; exact hq0
    have hqb2 : (q0 != 0) = true := by rw [bne_iff_ne]; exact hq0
    obtain ⟨hnotR, hexR⟩ := Hmay.out.2 hq0
    have hcn := Hcn.out
    rw [hnotR] at hcn
    have hce := Hce.out
    rw [hexR] at hce
    have Hcn2 := hide hcn
    have Hce2 := hide hce
    clear hcn hce hnotR hexR Hcn Hce Hmay hq0
    go_wp2_with fail
    with_reducible refine (Hcn2.out _ (Hrd.out.keep Hbl.out)).mono ?_
    rintro e w4 ⟨⟨O, m, d, rfl, hrd2, _⟩, hb⟩
    clear kd0 kd1 kd2 kx0 kx1 kdl kxl
    replace Hkd := hide (Hkd.out.keep hb)
    replace Hkx := hide (Hkx.out.keep hb)
    replace Hbl := hide (Hbl.out.trans (hb.mono Hbl.out.size))
    clear hb
    simp only [faultV]
    simp only at hrd2
    have Hrd2 := hide hrd2
    clear hrd2
    go_upto_region 7 with (fail)
    have hyky := Blk.new (w4) 30 [.int .i64 0, .slice O m d, .int .i64 0]
    have hykz := Blk.new ((w4).alloc (.cells #[.int .i64 0, .slice O m d, .int .i64 0] 30)) 25 [.int .i64 q0, .int .i64 q1]
    replace hyky := hyky.alloc (.cells #[.int .i64 q0, .int .i64 q1] 25)
    have hbW := below_two w4 (.cells #[.int .i64 0, .slice O m d, .int .i64 0] 30) (.cells #[.int .i64 q0, .int .i64 q1] 25)
    simp only [World.size_alloc] at hykz
    obtain ⟨W4, hW⟩ : ∃ W, W = ((w4).alloc (.cells #[.int .i64 0, .slice O m d, .int .i64 0] 30)).alloc (.cells #[.int .i64 q0, .int .i64 q1] 25) := ⟨_, rfl⟩
    rw [← hW] at hyky hykz hbW ⊢
    replace Hkd := hide (Hkd.out.keep hbW)
    replace Hkx := hide (Hkx.out.keep hbW)
    replace Hrd2 := hide (Hrd2.out.keep hbW)
    replace Hbl := hide (Hbl.out.trans (hbW.mono Hbl.out.size))
    have Hky := hide hyky
    have Hkz := hide hykz
    clear hW hbW hyky hykz
    generalize w4.heap.size = gy at Hky Hkz ⊢
    have kd0 := Hkd.out.cell 0
    have kd1 := Hkd.out.cell 1
    have kd2 := Hkd.out.cell 2
    have kdl := Hkd.out.lt
    have kx0 := Hkx.out.cell 0
    have kx1 := Hkx.out.cell 1
    have kxl := Hkx.out.lt
    have ky0 := Hky.out.cell 0
    have ky1 := Hky.out.cell 1
    have ky2 := Hky.out.cell 2
    have kyl := Hky.out.lt
    have kz0 := Hkz.out.cell 0
    have kz1 := Hkz.out.cell 1
    have kzl := Hkz.out.lt
    simp only [List.getElem?_cons_zero, List.getElem?_cons_succ] at kd0 kd1 kd2 kx0 kx1 ky0 ky1 ky2 kz0 kz1
    go_wp2_with fail
    with_reducible refine (Hce2.out _ (Hrd.out.keep Hbl.out)).mono ?_
    rintro e w5 ⟨⟨O3, m3, d3, rfl, hrd3, _⟩, hb⟩
    clear kd0 kd1 kd2 kx0 kx1 ky0 ky1 ky2 kz0 kz1 kdl kxl kyl kzl
    replace Hkd := hide (Hkd.out.keep hb)
    replace Hkx := hide (Hkx.out.keep hb)
    replace Hky := hide (Hky.out.keep hb)
    replace Hkz := hide (Hkz.out.keep hb)
    replace Hrd2 := hide (Hrd2.out.keep hb)
    replace Hbl := hide (Hbl.out.trans (hb.mono Hbl.out.size))
    clear hb
    simp only [faultV]
    simp only at hrd3
    have Hrd3 := hide hrd3
    clear hrd3
    go_upto_region 8 with (fail)
    have hyku := Blk.new (w5) 30 [.int .i64 0, .slice O3 m3 d3, .int .i64 0]
    have hykv := Blk.new ((w5).alloc (.cells #[.int .i64 0, .slice O3 m3 d3, .int .i64 0] 30)) 25 [.int .i64 q0, .int .i64 q1]
    replace hyku := hyku.alloc (.cells #[.int .i64 q0, .int .i64 q1] 25)
    have hbW := below_two w5 (.cells #[.int .i64 0, .slice O3 m3 d3, .int .i64 0] 30) (.cells #[.int .i64 q0, .int .i64 q1] 25)
    simp only [World.size_alloc] at hykv
    obtain ⟨W5, hW⟩ : ∃ W, W = ((w5).alloc (.cells #[.int .i64 0, .slice O3 m3 d3, .int .i64 0] 30)).alloc (.cells #[.int .i64 q0, .int .i64 q1] 25) := ⟨_, rfl⟩
    rw [← hW] at hyku hykv hbW ⊢
    replace Hkd := hide (Hkd.out.keep hbW)
    replace Hkx := hide (Hkx.out.keep hbW)
    replace Hky := hide (Hky.out.keep hbW)
    replace Hkz := hide (Hkz.out.keep hbW)
    replace Hrd2 := hide (Hrd2.out.keep hbW)
    replace Hrd3 := hide (Hrd3.out.keep hbW)
    replace Hbl := hide (Hbl.out.trans (hbW.mono Hbl.out.size))
    have Hku := hide hyku
    have Hkv := hide hykv
    clear hW hbW hyku hykv
    generalize w5.heap.size = gu at Hku Hkv ⊢
    have kd0 := Hkd.out.cell 0
    have kd1 := Hkd.out.cell 1
    have kd2 := Hkd.out.cell 2
    have kdl := Hkd.out.lt
    have kx0 := Hkx.out.cell 0
    have kx1 := Hkx.out.cell 1
    have kxl := Hkx.out.lt
    have ky0 := Hky.out.cell 0
    have ky1 := Hky.out.cell 1
    have ky2 := Hky.out.cell 2
    have kyl := Hky.out.lt
    have kz0 := Hkz.out.cell 0
    have kz1 := Hkz.out.cell 1
    have kzl := Hkz.out.lt
    have ku0 := Hku.out.cell 0
    have ku1 := Hku.out.cell 1
    have ku2 := Hku.out.cell 2
    have kul := Hku.out.lt
    have kv0 := Hkv.out.cell 0
    have kv1 := Hkv.out.cell 1
    have kvl := Hkv.out.lt
    simp only [List.getElem?_cons_zero, List.getElem?_cons_succ] at kd0 kd1 kd2 kx0 kx1 ky0 ky1 ky2 kz0 kz1 ku0 ku1 ku2 kv0 kv1
    have hcall := failed_ct 0 O m d [] 0 (q0, q1) (q0, q1) _ Hrd2.out
    rw [fail_same] at hcall
    simp only [faultV] at hcall
    have Hcall := hide hcall
    clear hcall
    go_wp2_with fail
    with_reducible refine (Hcall.out).mono ?_
    rintro e w6 ⟨rfl, hb⟩
    clear kd0 kd1 kd2 kx0 kx1 ky0 ky1 ky2 kz0 kz1 ku0 ku1 ku2 kv0 kv1 kdl kxl kyl kzl kul kvl
    replace Hkd := hide (Hkd.out.keep hb)
    replace Hkx := hide (Hkx.out.keep hb)
    replace Hky := hide (Hky.out.keep hb)
    replace Hkz := hide (Hkz.out.keep hb)
    replace Hku := hide (Hku.out.keep hb)
    replace Hkv := hide (Hkv.out.keep hb)
    replace Hrd2 := hide (Hrd2.out.keep hb)
    replace Hrd3 := hide (Hrd3.out.keep hb)
    replace Hbl := hide (Hbl.out.trans (hb.mono Hbl.out.size))
    clear hb
    have kd0 := Hkd.out.cell 0
    have kd1 := Hkd.out.cell 1
    have kd2 := Hkd.out.cell 2
    have kdl := Hkd.out.lt
    have kx0 := Hkx.out.cell 0
    have kx1 := Hkx.out.cell 1
    have kxl := Hkx.out.lt
    have ky0 := Hky.out.cell 0
    have ky1 := Hky.out.cell 1
    have ky2 := Hky.out.cell 2
    have kyl := Hky.out.lt
    have kz0 := Hkz.out.cell 0
    have kz1 := Hkz.out.cell 1
    have kzl := Hkz.out.lt
    have ku0 := Hku.out.cell 0
    have ku1 := Hku.out.cell 1
    have ku2 := Hku.out.cell 2
    have kul := Hku.out.lt
    have kv0 := Hkv.out.cell 0
    have kv1 := Hkv.out.cell 1
    have kvl := Hkv.out.lt
    simp only [List.getElem?_cons_zero, List.getElem?_cons_succ] at kd0 kd1 kd2 kx0 kx1 ky0 ky1 ky2 kz0 kz1 ku0 ku1 ku2 kv0 kv1
    have hcall := failed_ct 0 O3 m3 d3 [] 0 (q0, q1) (q0, q1) _ Hrd3.out
    rw [fail_same] at hcall
    simp only [faultV] at hcall
    clear Hcall
    have Hcall := hide hcall
    clear hcall
    go_wp2_with fail
    with_reducible refine (Hcall.out).mono ?_
    rintro e w7 ⟨rfl, hb⟩
    clear kd0 kd1 kd2 kx0 kx1 ky0 ky1 ky2 kz0 kz1 ku0 ku1 ku2 kv0 kv1 kdl kxl kyl kzl kul kvl
    replace Hkd := hide (Hkd.out.keep hb)
    replace Hkx := hide (Hkx.out.keep hb)
    replace Hky := hide (Hky.out.keep hb)
    replace Hkz := hide (Hkz.out.keep hb)
    replace Hku := hide (Hku.out.keep hb)
    replace Hkv := hide (Hkv.out.keep hb)
    replace Hrd2 := hide (Hrd2.out.keep hb)
    replace Hrd3 := hide (Hrd3.out.keep hb)
    replace Hbl := hide (Hbl.out.trans (hb.mono Hbl.out.size))
    clear hb
    go_wp2
    go_ret
    exact ⟨rfl, Hbl.out⟩
end Go.Proofs.Ytgenpcokpodhkaa
