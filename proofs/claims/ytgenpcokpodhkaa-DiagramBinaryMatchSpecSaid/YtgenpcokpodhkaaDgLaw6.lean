/- The walk of the law on And and Or. -/
import Derived.Test.YtgenpcokpodhkaaDgLaw5
import Derived.Test.YtgenpcokpodhkaaDgPure12
namespace Go.Proofs.Ytgenpcokpodhkaa
set_option linter.unusedVariables false
set_option linter.unusedSimpArgs false
open Go.RowKit Go.Maps

set_option maxHeartbeats 6400000 in
set_option maxRecDepth 100000 in
theorem BinaryLaw_ct (L : Int) (A : Option Addr) (n c : Nat) (ns : List DI) (r L2 : Int) (A2 : Option Addr) (n2 c2 : Nat) (ns2 : List DI) (r2 : Int) (w : World) (hL : -9223372036854775808 ≤ L ∧ L ≤ 9223372036854775807) (hr : -9223372036854775808 ≤ r ∧ r ≤ 9223372036854775807) (hL2 : -9223372036854775808 ≤ L2 ∧ L2 ≤ 9223372036854775807) (hr2 : -9223372036854775808 ≤ r2 ∧ r2 ≤ 9223372036854775807) (h : Rd Enc.node w A n c ns) (h2 : Rd Enc.node w A2 n2 c2 ns2) :
    Calls Try.prog 4 #[.agg #[.int .i64 L, .slice A n c, .int .i64 r], .agg #[.int .i64 L2, .slice A2 n2 c2, .int .i64 r2]] w (Gives w (.bool true)) := by
  have hcf := fun W => DiagramFault_ct L A n c ns r W hL hr
  have hcf2 := fun W => DiagramFault_ct L2 A2 n2 c2 ns2 r2 W hL2 hr2
  have hca := fun W => And_d L A n c ns r L2 A2 n2 c2 ns2 r2 W hL hr hL2 hr2
  have hco := fun W => Or_d2 L A n c ns r L2 A2 n2 c2 ns2 r2 W hL hr hL2 hr2
  have hmay := binary_may L ns r L2 ns2 r2
  have hfd := field_int
  generalize hq : faultD L ns r = q at hcf hmay
  generalize hp : faultD L2 ns2 r2 = p at hcf2 hmay
  obtain ⟨q0, q1⟩ := q
  obtain ⟨p0, p1⟩ := p
  simp only [faultV] at hcf hcf2
  have Hcf := hide hcf
  have Hcf2 := hide hcf2
  have Hca := hide hca
  have Hco := hide hco
  have Hmay := hide hmay
  have Hrd := hide h
  have Hrd2 := hide h2
  have hykd := Blk.new w 30 [.int .i64 L, .slice A n c, .int .i64 r]
  have hyke := Blk.new (w.alloc (.cells #[.int .i64 L, .slice A n c, .int .i64 r] 30)) 30 [.int .i64 L2, .slice A2 n2 c2, .int .i64 r2]
  replace hykd := hykd.alloc (.cells #[.int .i64 L2, .slice A2 n2 c2, .int .i64 r2] 30)
  simp only [World.size_alloc] at hyke
  have hbW := below_two w (.cells #[.int .i64 L, .slice A n c, .int .i64 r] 30) (.cells #[.int .i64 L2, .slice A2 n2 c2, .int .i64 r2] 30)
  have Hbl := hide hbW
  have Hkd := hide hykd
  have Hke := hide hyke
  clear h h2 hcf hcf2 hca hco hmay hq hp hykd hyke hbW
  go_enter Try.func4, Try.ntmps4
  go_upto_region 1 with (fail)
  obtain ⟨V, hV⟩ : ∃ W, W = (w.alloc (.cells #[.int .i64 L, .slice A n c, .int .i64 r] 30)).alloc (.cells #[.int .i64 L2, .slice A2 n2 c2, .int .i64 r2] 30) := ⟨_, rfl⟩
  rw [← hV] at Hkd Hke Hbl ⊢
  clear hV
  generalize hgd : w.heap.size = gd at Hkd Hke ⊢
  have kd0 := Hkd.out.cell 0
  have kd1 := Hkd.out.cell 1
  have kd2 := Hkd.out.cell 2
  have kdl := Hkd.out.lt
  have ke0 := Hke.out.cell 0
  have ke1 := Hke.out.cell 1
  have ke2 := Hke.out.cell 2
  have kel := Hke.out.lt
  simp only [List.getElem?_cons_zero, List.getElem?_cons_succ] at kd0 kd1 kd2 ke0 ke1 ke2
  go_wp2_with fail
  with_reducible refine (example_ct _).mono ?_
  rintro e w1 ⟨rfl, hb⟩
  clear kd0 kd1 kd2 ke0 ke1 ke2 kdl kel
  replace Hkd := hide (Hkd.out.keep hb)
  replace Hke := hide (Hke.out.keep hb)
  replace Hbl := hide (Hbl.out.trans (hb.mono Hbl.out.size))
  clear hb
  have kd0 := Hkd.out.cell 0
  have kd1 := Hkd.out.cell 1
  have kd2 := Hkd.out.cell 2
  have kdl := Hkd.out.lt
  have ke0 := Hke.out.cell 0
  have ke1 := Hke.out.cell 1
  have ke2 := Hke.out.cell 2
  have kel := Hke.out.lt
  simp only [List.getElem?_cons_zero, List.getElem?_cons_succ] at kd0 kd1 kd2 ke0 ke1 ke2
  go_wp2_with fail
  with_reducible refine (Hcf.out w1 (Hrd.out.keep Hbl.out)).mono ?_
  rintro e w2 ⟨rfl, hb⟩
  clear kd0 kd1 kd2 ke0 ke1 ke2 kdl kel
  replace Hkd := hide (Hkd.out.keep hb)
  replace Hke := hide (Hke.out.keep hb)
  replace Hbl := hide (Hbl.out.trans (hb.mono Hbl.out.size))
  clear hb
  have kd0 := Hkd.out.cell 0
  have kd1 := Hkd.out.cell 1
  have kd2 := Hkd.out.cell 2
  have kdl := Hkd.out.lt
  have ke0 := Hke.out.cell 0
  have ke1 := Hke.out.cell 1
  have ke2 := Hke.out.cell 2
  have kel := Hke.out.lt
  simp only [List.getElem?_cons_zero, List.getElem?_cons_succ] at kd0 kd1 kd2 ke0 ke1 ke2
  have hlx : gd + 1 < w2.heap.size := kel
  go_upto_region 4 with (fail)
  clear kd0 kd1 kd2 ke0 ke1 ke2 kdl kel
  have hykx := Blk.new (w2) 25 [.int .i64 q0, .int .i64 q1]
  have hbW : Below (w2).heap.size (w2) ((w2).alloc (.cells #[.int .i64 q0, .int .i64 q1] 25)) := (Below.refl _ _).alloc (Nat.le_refl _) _
  obtain ⟨W2, hW⟩ : ∃ W, W = (w2).alloc (.cells #[.int .i64 q0, .int .i64 q1] 25) := ⟨_, rfl⟩
  rw [← hW] at hykx hbW ⊢
  replace Hkd := hide (Hkd.out.keep hbW)
  replace Hke := hide (Hke.out.keep hbW)
  replace Hbl := hide (Hbl.out.trans (hbW.mono Hbl.out.size))
  have Hkx := hide hykx
  clear hW hbW hykx
  generalize w2.heap.size = gx at hlx Hkx ⊢
  have kd0 := Hkd.out.cell 0
  have kd1 := Hkd.out.cell 1
  have kd2 := Hkd.out.cell 2
  have kdl := Hkd.out.lt
  have ke0 := Hke.out.cell 0
  have ke1 := Hke.out.cell 1
  have ke2 := Hke.out.cell 2
  have kel := Hke.out.lt
  have kx0 := Hkx.out.cell 0
  have kx1 := Hkx.out.cell 1
  have kxl := Hkx.out.lt
  simp only [List.getElem?_cons_zero, List.getElem?_cons_succ] at kd0 kd1 kd2 ke0 ke1 ke2 kx0 kx1
  by_cases hq0 : q0 ≠ 0
  · have hqb : (q0 == 0) = false := by rw [beq_eq_false_iff_ne]; exact hq0
    have hqb2 : (q0 != 0) = true := by rw [bne_iff_ne]; exact hq0
    have hcomb := Hmay.out.1 hq0
    have hca := Hca.out
    rw [hcomb] at hca
    have hco := Hco.out
    rw [hcomb] at hco
    have Hca2 := hide hca
    have Hco2 := hide hco
    clear hca hco hcomb Hca Hco Hmay
    clear hq0
    go_wp2_with fail
    with_reducible refine (Hca2.out _ (Hrd.out.keep Hbl.out) (Hrd2.out.keep Hbl.out)).mono ?_
    rintro e w5 ⟨⟨O, m, d, rfl, hrd3, _⟩, hb⟩
    clear kd0 kd1 kd2 ke0 ke1 ke2 kx0 kx1 kdl kel kxl
    replace Hkd := hide (Hkd.out.keep hb)
    replace Hke := hide (Hke.out.keep hb)
    replace Hkx := hide (Hkx.out.keep hb)
    replace Hbl := hide (Hbl.out.trans (hb.mono Hbl.out.size))
    clear hb
    simp only [faultV]
    simp only at hrd3
    have Hrd3 := hide hrd3
    clear hrd3
    go_upto_region 11 with (fail)
    have hyky := Blk.new (w5) 30 [.int .i64 0, .slice O m d, .int .i64 0]
    have hykz := Blk.new ((w5).alloc (.cells #[.int .i64 0, .slice O m d, .int .i64 0] 30)) 25 [.int .i64 q0, .int .i64 q1]
    replace hyky := hyky.alloc (.cells #[.int .i64 q0, .int .i64 q1] 25)
    have hbW := below_two w5 (.cells #[.int .i64 0, .slice O m d, .int .i64 0] 30) (.cells #[.int .i64 q0, .int .i64 q1] 25)
    simp only [World.size_alloc] at hykz
    obtain ⟨W5, hW⟩ : ∃ W, W = ((w5).alloc (.cells #[.int .i64 0, .slice O m d, .int .i64 0] 30)).alloc (.cells #[.int .i64 q0, .int .i64 q1] 25) := ⟨_, rfl⟩
    rw [← hW] at hyky hykz hbW ⊢
    replace Hkd := hide (Hkd.out.keep hbW)
    replace Hke := hide (Hke.out.keep hbW)
    replace Hkx := hide (Hkx.out.keep hbW)
    replace Hrd3 := hide (Hrd3.out.keep hbW)
    replace Hbl := hide (Hbl.out.trans (hbW.mono Hbl.out.size))
    have Hky := hide hyky
    have Hkz := hide hykz
    clear hW hbW hyky hykz
    generalize w5.heap.size = gy at Hky Hkz ⊢
    have kd0 := Hkd.out.cell 0
    have kd1 := Hkd.out.cell 1
    have kd2 := Hkd.out.cell 2
    have kdl := Hkd.out.lt
    have ke0 := Hke.out.cell 0
    have ke1 := Hke.out.cell 1
    have ke2 := Hke.out.cell 2
    have kel := Hke.out.lt
    have kx0 := Hkx.out.cell 0
    have kx1 := Hkx.out.cell 1
    have kxl := Hkx.out.lt
    have ky0 := Hky.out.cell 0
    have ky1 := Hky.out.cell 1
    have ky2 := Hky.out.cell 2
    have kyl := Hky.out.lt
    have kz0 := Hkz.out.cell 0
    have kz1 := Hkz.out.cell 1
    have kzl := Hkz.out.lt
    simp only [List.getElem?_cons_zero, List.getElem?_cons_succ] at kd0 kd1 kd2 ke0 ke1 ke2 kx0 kx1 ky0 ky1 ky2 kz0 kz1
    go_wp2_with fail
    with_reducible refine (Hco2.out _ (Hrd.out.keep Hbl.out) (Hrd2.out.keep Hbl.out)).mono ?_
    rintro e w6 ⟨⟨O3, m3, d3, rfl, hrd4, _⟩, hb⟩
    clear kd0 kd1 kd2 ke0 ke1 ke2 kx0 kx1 ky0 ky1 ky2 kz0 kz1 kdl kel kxl kyl kzl
    replace Hkd := hide (Hkd.out.keep hb)
    replace Hke := hide (Hke.out.keep hb)
    replace Hkx := hide (Hkx.out.keep hb)
    replace Hky := hide (Hky.out.keep hb)
    replace Hkz := hide (Hkz.out.keep hb)
    replace Hrd3 := hide (Hrd3.out.keep hb)
    replace Hbl := hide (Hbl.out.trans (hb.mono Hbl.out.size))
    clear hb
    simp only [faultV]
    simp only at hrd4
    have Hrd4 := hide hrd4
    clear hrd4
    go_upto_region 12 with (fail)
    have hyku := Blk.new (w6) 30 [.int .i64 0, .slice O3 m3 d3, .int .i64 0]
    have hykv := Blk.new ((w6).alloc (.cells #[.int .i64 0, .slice O3 m3 d3, .int .i64 0] 30)) 25 [.int .i64 q0, .int .i64 q1]
    replace hyku := hyku.alloc (.cells #[.int .i64 q0, .int .i64 q1] 25)
    have hbW := below_two w6 (.cells #[.int .i64 0, .slice O3 m3 d3, .int .i64 0] 30) (.cells #[.int .i64 q0, .int .i64 q1] 25)
    simp only [World.size_alloc] at hykv
    obtain ⟨W6, hW⟩ : ∃ W, W = ((w6).alloc (.cells #[.int .i64 0, .slice O3 m3 d3, .int .i64 0] 30)).alloc (.cells #[.int .i64 q0, .int .i64 q1] 25) := ⟨_, rfl⟩
    rw [← hW] at hyku hykv hbW ⊢
    replace Hkd := hide (Hkd.out.keep hbW)
    replace Hke := hide (Hke.out.keep hbW)
    replace Hkx := hide (Hkx.out.keep hbW)
    replace Hky := hide (Hky.out.keep hbW)
    replace Hkz := hide (Hkz.out.keep hbW)
    replace Hrd3 := hide (Hrd3.out.keep hbW)
    replace Hrd4 := hide (Hrd4.out.keep hbW)
    replace Hbl := hide (Hbl.out.trans (hbW.mono Hbl.out.size))
    have Hku := hide hyku
    have Hkv := hide hykv
    clear hW hbW hyku hykv
    generalize w6.heap.size = gu at Hku Hkv ⊢
    have kd0 := Hkd.out.cell 0
    have kd1 := Hkd.out.cell 1
    have kd2 := Hkd.out.cell 2
    have kdl := Hkd.out.lt
    have ke0 := Hke.out.cell 0
    have ke1 := Hke.out.cell 1
    have ke2 := Hke.out.cell 2
    have kel := Hke.out.lt
    have kx0 := Hkx.out.cell 0
    have kx1 := Hkx.out.cell 1
    have kxl := Hkx.out.lt
    have ky0 := Hky.out.cell 0
    have ky1 := Hky.out.cell 1
    have ky2 := Hky.out.cell 2
    have kyl := Hky.out.lt
    have kz0 := Hkz.out.cell 0
    have kz1 := Hkz.out.cell 1
    have kzl := Hkz.out.lt
    have ku0 := Hku.out.cell 0
    have ku1 := Hku.out.cell 1
    have ku2 := Hku.out.cell 2
    have kul := Hku.out.lt
    have kv0 := Hkv.out.cell 0
    have kv1 := Hkv.out.cell 1
    have kvl := Hkv.out.lt
    simp only [List.getElem?_cons_zero, List.getElem?_cons_succ] at kd0 kd1 kd2 ke0 ke1 ke2 kx0 kx1 ky0 ky1 ky2 kz0 kz1 ku0 ku1 ku2 kv0 kv1
    have hcall := failed_ct 0 O m d [] 0 (q0, q1) (q0, q1) _ Hrd3.out
    rw [fail_same] at hcall
    simp only [faultV] at hcall
    have Hcall := hide hcall
    clear hcall
    go_wp2_with fail
    with_reducible refine (Hcall.out).mono ?_
    rintro e w7 ⟨rfl, hb⟩
    clear kd0 kd1 kd2 ke0 ke1 ke2 kx0 kx1 ky0 ky1 ky2 kz0 kz1 ku0 ku1 ku2 kv0 kv1 kdl kel kxl kyl kzl kul kvl
    replace Hkd := hide (Hkd.out.keep hb)
    replace Hke := hide (Hke.out.keep hb)
    replace Hkx := hide (Hkx.out.keep hb)
    replace Hky := hide (Hky.out.keep hb)
    replace Hkz := hide (Hkz.out.keep hb)
    replace Hku := hide (Hku.out.keep hb)
    replace Hkv := hide (Hkv.out.keep hb)
    replace Hrd3 := hide (Hrd3.out.keep hb)
    replace Hrd4 := hide (Hrd4.out.keep hb)
    replace Hbl := hide (Hbl.out.trans (hb.mono Hbl.out.size))
    clear hb
    clear Hcall
    have kd0 := Hkd.out.cell 0
    have kd1 := Hkd.out.cell 1
    have kd2 := Hkd.out.cell 2
    have kdl := Hkd.out.lt
    have ke0 := Hke.out.cell 0
    have ke1 := Hke.out.cell 1
    have ke2 := Hke.out.cell 2
    have kel := Hke.out.lt
    have kx0 := Hkx.out.cell 0
    have kx1 := Hkx.out.cell 1
    have kxl := Hkx.out.lt
    have ky0 := Hky.out.cell 0
    have ky1 := Hky.out.cell 1
    have ky2 := Hky.out.cell 2
    have kyl := Hky.out.lt
    have kz0 := Hkz.out.cell 0
    have kz1 := Hkz.out.cell 1
    have kzl := Hkz.out.lt
    have ku0 := Hku.out.cell 0
    have ku1 := Hku.out.cell 1
    have ku2 := Hku.out.cell 2
    have kul := Hku.out.lt
    have kv0 := Hkv.out.cell 0
    have kv1 := Hkv.out.cell 1
    have kvl := Hkv.out.lt
    simp only [List.getElem?_cons_zero, List.getElem?_cons_succ] at kd0 kd1 kd2 ke0 ke1 ke2 kx0 kx1 ky0 ky1 ky2 kz0 kz1 ku0 ku1 ku2 kv0 kv1
    have hcall := failed_ct 0 O3 m3 d3 [] 0 (q0, q1) (q0, q1) _ Hrd4.out
    rw [fail_same] at hcall
    simp only [faultV] at hcall
    have Hcall := hide hcall
    clear hcall
    go_wp2_with fail
    with_reducible refine (Hcall.out).mono ?_
    rintro e w8 ⟨rfl, hb⟩
    clear kd0 kd1 kd2 ke0 ke1 ke2 kx0 kx1 ky0 ky1 ky2 kz0 kz1 ku0 ku1 ku2 kv0 kv1 kdl kel kxl kyl kzl kul kvl
    replace Hkd := hide (Hkd.out.keep hb)
    replace Hke := hide (Hke.out.keep hb)
    replace Hkx := hide (Hkx.out.keep hb)
    replace Hky := hide (Hky.out.keep hb)
    replace Hkz := hide (Hkz.out.keep hb)
    replace Hku := hide (Hku.out.keep hb)
    replace Hkv := hide (Hkv.out.keep hb)
    replace Hrd3 := hide (Hrd3.out.keep hb)
    replace Hrd4 := hide (Hrd4.out.keep hb)
    replace Hbl := hide (Hbl.out.trans (hb.mono Hbl.out.size))
    clear hb
    clear Hcall
    go_wp2
    go_ret
    exact ⟨rfl, Hbl.out⟩
  replace hq0 : q0 = 0 := by omega
  have hq1 := Hmay.out.2.1 hq0
  subst hq0
  subst hq1
  by_cases hp0 : p0 ≠ 0
  · have hpb : (p0 == 0) = false := by rw [beq_eq_false_iff_ne]; exact hp0
    have hpb2 : (p0 != 0) = true := by rw [bne_iff_ne]; exact hp0
    have hcomb := Hmay.out.2.2.2.1 rfl hp0
    have hca := Hca.out
    rw [hcomb] at hca
    have hco := Hco.out
    rw [hcomb] at hco
    have Hca2 := hide hca
    have Hco2 := hide hco
    clear hca hco hcomb Hca Hco Hmay
    clear hp0
    have Hfd := hide hfd
    go_wp2_with fail
    with_reducible refine (Hcf2.out _ (Hrd2.out.keep Hbl.out)).mono ?_
    rintro e w3 ⟨rfl, hb⟩
    clear kd0 kd1 kd2 ke0 ke1 ke2 kx0 kx1 kdl kel kxl
    replace Hkd := hide (Hkd.out.keep hb)
    replace Hke := hide (Hke.out.keep hb)
    replace Hkx := hide (Hkx.out.keep hb)
    replace Hbl := hide (Hbl.out.trans (hb.mono Hbl.out.size))
    clear hb
    have kd0 := Hkd.out.cell 0
    have kd1 := Hkd.out.cell 1
    have kd2 := Hkd.out.cell 2
    have kdl := Hkd.out.lt
    have ke0 := Hke.out.cell 0
    have ke1 := Hke.out.cell 1
    have ke2 := Hke.out.cell 2
    have kel := Hke.out.lt
    have kx0 := Hkx.out.cell 0
    have kx1 := Hkx.out.cell 1
    have kxl := Hkx.out.lt
    simp only [List.getElem?_cons_zero, List.getElem?_cons_succ] at kd0 kd1 kd2 ke0 ke1 ke2 kx0 kx1
    go_wp2_with fail
    with_reducible refine (Hcf2.out _ (Hrd2.out.keep Hbl.out)).mono ?_
    rintro e w4 ⟨rfl, hb⟩
    clear kd0 kd1 kd2 ke0 ke1 ke2 kx0 kx1 kdl kel kxl
    replace Hkd := hide (Hkd.out.keep hb)
    replace Hke := hide (Hke.out.keep hb)
    replace Hkx := hide (Hkx.out.keep hb)
    replace Hbl := hide (Hbl.out.trans (hb.mono Hbl.out.size))
    clear hb
    have kd0 := Hkd.out.cell 0
    have kd1 := Hkd.out.cell 1
    have kd2 := Hkd.out.cell 2
    have kdl := Hkd.out.lt
    have ke0 := Hke.out.cell 0
    have ke1 := Hke.out.cell 1
    have ke2 := Hke.out.cell 2
    have kel := Hke.out.lt
    have kx0 := Hkx.out.cell 0
    have kx1 := Hkx.out.cell 1
    have kxl := Hkx.out.lt
    simp only [List.getElem?_cons_zero, List.getElem?_cons_succ] at kd0 kd1 kd2 ke0 ke1 ke2 kx0 kx1
    have kxf0 := Hkx.out.frozen 0
    have kxf1 := Hkx.out.frozen 1
    go_wp2_with fail
    with_reducible refine (At_ct p0 (-4) _).mono ?_
    rintro e w4 ⟨rfl, hb⟩
    clear kd0 kd1 kd2 ke0 ke1 ke2 kx0 kx1 kdl kel kxl
    replace Hkd := hide (Hkd.out.keep hb)
    replace Hke := hide (Hke.out.keep hb)
    replace Hkx := hide (Hkx.out.keep hb)
    replace Hbl := hide (Hbl.out.trans (hb.mono Hbl.out.size))
    clear hb
    clear kxf0 kxf1
    have kd0 := Hkd.out.cell 0
    have kd1 := Hkd.out.cell 1
    have kd2 := Hkd.out.cell 2
    have kdl := Hkd.out.lt
    have ke0 := Hke.out.cell 0
    have ke1 := Hke.out.cell 1
    have ke2 := Hke.out.cell 2
    have kel := Hke.out.lt
    have kx0 := Hkx.out.cell 0
    have kx1 := Hkx.out.cell 1
    have kxl := Hkx.out.lt
    simp only [List.getElem?_cons_zero, List.getElem?_cons_succ] at kd0 kd1 kd2 ke0 ke1 ke2 kx0 kx1
    have kxf0 := Hkx.out.frozen 0
    have kxf1 := Hkx.out.frozen 1
    unfold fault
    go_upto_region 6 with (fail)
    have hxx := (Hkx.out.set 0 (.int .i64 p0)).set 1 (.int .i64 (-4))
    have hxd := (Hkd.out.far (p := ⟨gx, 0, none⟩) (by simp; omega) (.int .i64 p0)).far (p := ⟨gx, 1, none⟩) (by simp; omega) (.int .i64 (-4))
    have hxe := (Hke.out.far (p := ⟨gx, 0, none⟩) (by simp; omega) (.int .i64 p0)).far (p := ⟨gx, 1, none⟩) (by simp; omega) (.int .i64 (-4))
    have hbx := (Hbl.out.setCell (p := ⟨gx, 0, none⟩) (by simp; omega) (.int .i64 p0)).setCell (p := ⟨gx, 1, none⟩) (by simp; omega) (.int .i64 (-4))
    simp only [List.set_cons_zero, List.set_cons_succ] at hxx
    obtain ⟨W4, hW⟩ : ∃ W, W = ((w4.setCell ⟨gx, 0, none⟩ (.int .i64 p0)).setCell ⟨gx, 1, none⟩ (.int .i64 (-4))) := ⟨_, rfl⟩
    rw [← hW] at hxx hxd hxe hbx ⊢
    clear kd0 kd1 kd2 ke0 ke1 ke2 kx0 kx1 kdl kel kxl
    replace Hkx := hide hxx
    replace Hkd := hide hxd
    replace Hke := hide hxe
    replace Hbl := hide hbx
    clear hW hxx hxd hxe hbx
    have kd0 := Hkd.out.cell 0
    have kd1 := Hkd.out.cell 1
    have kd2 := Hkd.out.cell 2
    have kdl := Hkd.out.lt
    have ke0 := Hke.out.cell 0
    have ke1 := Hke.out.cell 1
    have ke2 := Hke.out.cell 2
    have kel := Hke.out.lt
    have kx0 := Hkx.out.cell 0
    have kx1 := Hkx.out.cell 1
    have kxl := Hkx.out.lt
    simp only [List.getElem?_cons_zero, List.getElem?_cons_succ] at kd0 kd1 kd2 ke0 ke1 ke2 kx0 kx1
    clear kxf0 kxf1
    go_wp2_with fail
    with_reducible refine (Hca2.out _ (Hrd.out.keep Hbl.out) (Hrd2.out.keep Hbl.out)).mono ?_
    rintro e w5 ⟨⟨O, m, d, rfl, hrd3, _⟩, hb⟩
    clear kd0 kd1 kd2 ke0 ke1 ke2 kx0 kx1 kdl kel kxl
    replace Hkd := hide (Hkd.out.keep hb)
    replace Hke := hide (Hke.out.keep hb)
    replace Hkx := hide (Hkx.out.keep hb)
    replace Hbl := hide (Hbl.out.trans (hb.mono Hbl.out.size))
    clear hb
    simp only [faultV]
    simp only at hrd3
    have Hrd3 := hide hrd3
    clear hrd3
    go_upto_region 11 with (fail)
    have hyky := Blk.new (w5) 30 [.int .i64 0, .slice O m d, .int .i64 0]
    have hykz := Blk.new ((w5).alloc (.cells #[.int .i64 0, .slice O m d, .int .i64 0] 30)) 25 [.int .i64 p0, .int .i64 (-4)]
    replace hyky := hyky.alloc (.cells #[.int .i64 p0, .int .i64 (-4)] 25)
    have hbW := below_two w5 (.cells #[.int .i64 0, .slice O m d, .int .i64 0] 30) (.cells #[.int .i64 p0, .int .i64 (-4)] 25)
    simp only [World.size_alloc] at hykz
    obtain ⟨W5, hW⟩ : ∃ W, W = ((w5).alloc (.cells #[.int .i64 0, .slice O m d, .int .i64 0] 30)).alloc (.cells #[.int .i64 p0, .int .i64 (-4)] 25) := ⟨_, rfl⟩
    rw [← hW] at hyky hykz hbW ⊢
    replace Hkd := hide (Hkd.out.keep hbW)
    replace Hke := hide (Hke.out.keep hbW)
    replace Hkx := hide (Hkx.out.keep hbW)
    replace Hrd3 := hide (Hrd3.out.keep hbW)
    replace Hbl := hide (Hbl.out.trans (hbW.mono Hbl.out.size))
    have Hky := hide hyky
    have Hkz := hide hykz
    clear hW hbW hyky hykz
    generalize w5.heap.size = gy at Hky Hkz ⊢
    have kd0 := Hkd.out.cell 0
    have kd1 := Hkd.out.cell 1
    have kd2 := Hkd.out.cell 2
    have kdl := Hkd.out.lt
    have ke0 := Hke.out.cell 0
    have ke1 := Hke.out.cell 1
    have ke2 := Hke.out.cell 2
    have kel := Hke.out.lt
    have kx0 := Hkx.out.cell 0
    have kx1 := Hkx.out.cell 1
    have kxl := Hkx.out.lt
    have ky0 := Hky.out.cell 0
    have ky1 := Hky.out.cell 1
    have ky2 := Hky.out.cell 2
    have kyl := Hky.out.lt
    have kz0 := Hkz.out.cell 0
    have kz1 := Hkz.out.cell 1
    have kzl := Hkz.out.lt
    simp only [List.getElem?_cons_zero, List.getElem?_cons_succ] at kd0 kd1 kd2 ke0 ke1 ke2 kx0 kx1 ky0 ky1 ky2 kz0 kz1
    go_wp2_with fail
    with_reducible refine (Hco2.out _ (Hrd.out.keep Hbl.out) (Hrd2.out.keep Hbl.out)).mono ?_
    rintro e w6 ⟨⟨O3, m3, d3, rfl, hrd4, _⟩, hb⟩
    clear kd0 kd1 kd2 ke0 ke1 ke2 kx0 kx1 ky0 ky1 ky2 kz0 kz1 kdl kel kxl kyl kzl
    replace Hkd := hide (Hkd.out.keep hb)
    replace Hke := hide (Hke.out.keep hb)
    replace Hkx := hide (Hkx.out.keep hb)
    replace Hky := hide (Hky.out.keep hb)
    replace Hkz := hide (Hkz.out.keep hb)
    replace Hrd3 := hide (Hrd3.out.keep hb)
    replace Hbl := hide (Hbl.out.trans (hb.mono Hbl.out.size))
    clear hb
    simp only [faultV]
    simp only at hrd4
    have Hrd4 := hide hrd4
    clear hrd4
    go_upto_region 12 with (fail)
    have hyku := Blk.new (w6) 30 [.int .i64 0, .slice O3 m3 d3, .int .i64 0]
    have hykv := Blk.new ((w6).alloc (.cells #[.int .i64 0, .slice O3 m3 d3, .int .i64 0] 30)) 25 [.int .i64 p0, .int .i64 (-4)]
    replace hyku := hyku.alloc (.cells #[.int .i64 p0, .int .i64 (-4)] 25)
    have hbW := below_two w6 (.cells #[.int .i64 0, .slice O3 m3 d3, .int .i64 0] 30) (.cells #[.int .i64 p0, .int .i64 (-4)] 25)
    simp only [World.size_alloc] at hykv
    obtain ⟨W6, hW⟩ : ∃ W, W = ((w6).alloc (.cells #[.int .i64 0, .slice O3 m3 d3, .int .i64 0] 30)).alloc (.cells #[.int .i64 p0, .int .i64 (-4)] 25) := ⟨_, rfl⟩
    rw [← hW] at hyku hykv hbW ⊢
    replace Hkd := hide (Hkd.out.keep hbW)
    replace Hke := hide (Hke.out.keep hbW)
    replace Hkx := hide (Hkx.out.keep hbW)
    replace Hky := hide (Hky.out.keep hbW)
    replace Hkz := hide (Hkz.out.keep hbW)
    replace Hrd3 := hide (Hrd3.out.keep hbW)
    replace Hrd4 := hide (Hrd4.out.keep hbW)
    replace Hbl := hide (Hbl.out.trans (hbW.mono Hbl.out.size))
    have Hku := hide hyku
    have Hkv := hide hykv
    clear hW hbW hyku hykv
    generalize w6.heap.size = gu at Hku Hkv ⊢
    have kd0 := Hkd.out.cell 0
    have kd1 := Hkd.out.cell 1
    have kd2 := Hkd.out.cell 2
    have kdl := Hkd.out.lt
    have ke0 := Hke.out.cell 0
    have ke1 := Hke.out.cell 1
    have ke2 := Hke.out.cell 2
    have kel := Hke.out.lt
    have kx0 := Hkx.out.cell 0
    have kx1 := Hkx.out.cell 1
    have kxl := Hkx.out.lt
    have ky0 := Hky.out.cell 0
    have ky1 := Hky.out.cell 1
    have ky2 := Hky.out.cell 2
    have kyl := Hky.out.lt
    have kz0 := Hkz.out.cell 0
    have kz1 := Hkz.out.cell 1
    have kzl := Hkz.out.lt
    have ku0 := Hku.out.cell 0
    have ku1 := Hku.out.cell 1
    have ku2 := Hku.out.cell 2
    have kul := Hku.out.lt
    have kv0 := Hkv.out.cell 0
    have kv1 := Hkv.out.cell 1
    have kvl := Hkv.out.lt
    simp only [List.getElem?_cons_zero, List.getElem?_cons_succ] at kd0 kd1 kd2 ke0 ke1 ke2 kx0 kx1 ky0 ky1 ky2 kz0 kz1 ku0 ku1 ku2 kv0 kv1
    have hcall := failed_ct 0 O m d [] 0 (p0, (-4)) (p0, (-4)) _ Hrd3.out
    rw [fail_same] at hcall
    simp only [faultV] at hcall
    have Hcall := hide hcall
    clear hcall
    go_wp2_with fail
    with_reducible refine (Hcall.out).mono ?_
    rintro e w7 ⟨rfl, hb⟩
    clear kd0 kd1 kd2 ke0 ke1 ke2 kx0 kx1 ky0 ky1 ky2 kz0 kz1 ku0 ku1 ku2 kv0 kv1 kdl kel kxl kyl kzl kul kvl
    replace Hkd := hide (Hkd.out.keep hb)
    replace Hke := hide (Hke.out.keep hb)
    replace Hkx := hide (Hkx.out.keep hb)
    replace Hky := hide (Hky.out.keep hb)
    replace Hkz := hide (Hkz.out.keep hb)
    replace Hku := hide (Hku.out.keep hb)
    replace Hkv := hide (Hkv.out.keep hb)
    replace Hrd3 := hide (Hrd3.out.keep hb)
    replace Hrd4 := hide (Hrd4.out.keep hb)
    replace Hbl := hide (Hbl.out.trans (hb.mono Hbl.out.size))
    clear hb
    clear Hcall
    have kd0 := Hkd.out.cell 0
    have kd1 := Hkd.out.cell 1
    have kd2 := Hkd.out.cell 2
    have kdl := Hkd.out.lt
    have ke0 := Hke.out.cell 0
    have ke1 := Hke.out.cell 1
    have ke2 := Hke.out.cell 2
    have kel := Hke.out.lt
    have kx0 := Hkx.out.cell 0
    have kx1 := Hkx.out.cell 1
    have kxl := Hkx.out.lt
    have ky0 := Hky.out.cell 0
    have ky1 := Hky.out.cell 1
    have ky2 := Hky.out.cell 2
    have kyl := Hky.out.lt
    have kz0 := Hkz.out.cell 0
    have kz1 := Hkz.out.cell 1
    have kzl := Hkz.out.lt
    have ku0 := Hku.out.cell 0
    have ku1 := Hku.out.cell 1
    have ku2 := Hku.out.cell 2
    have kul := Hku.out.lt
    have kv0 := Hkv.out.cell 0
    have kv1 := Hkv.out.cell 1
    have kvl := Hkv.out.lt
    simp only [List.getElem?_cons_zero, List.getElem?_cons_succ] at kd0 kd1 kd2 ke0 ke1 ke2 kx0 kx1 ky0 ky1 ky2 kz0 kz1 ku0 ku1 ku2 kv0 kv1
    have hcall := failed_ct 0 O3 m3 d3 [] 0 (p0, (-4)) (p0, (-4)) _ Hrd4.out
    rw [fail_same] at hcall
    simp only [faultV] at hcall
    have Hcall := hide hcall
    clear hcall
    go_wp2_with fail
    with_reducible refine (Hcall.out).mono ?_
    rintro e w8 ⟨rfl, hb⟩
    clear kd0 kd1 kd2 ke0 ke1 ke2 kx0 kx1 ky0 ky1 ky2 kz0 kz1 ku0 ku1 ku2 kv0 kv1 kdl kel kxl kyl kzl kul kvl
    replace Hkd := hide (Hkd.out.keep hb)
    replace Hke := hide (Hke.out.keep hb)
    replace Hkx := hide (Hkx.out.keep hb)
    replace Hky := hide (Hky.out.keep hb)
    replace Hkz := hide (Hkz.out.keep hb)
    replace Hku := hide (Hku.out.keep hb)
    replace Hkv := hide (Hkv.out.keep hb)
    replace Hrd3 := hide (Hrd3.out.keep hb)
    replace Hrd4 := hide (Hrd4.out.keep hb)
    replace Hbl := hide (Hbl.out.trans (hb.mono Hbl.out.size))
    clear hb
    clear Hcall
    go_wp2
    go_ret
    exact ⟨rfl, Hbl.out⟩
  replace hp0 : p0 = 0 := by omega
  have hp1 := Hmay.out.2.2.1 hp0
  subst hp0
  subst hp1
  by_cases hLL : L ≠ L2
  · have hlb : (L == L2) = false := by rw [beq_eq_false_iff_ne]; exact hLL
    have hlb2 : (L != L2) = true := by rw [bne_iff_ne]; exact hLL
    have hcomb := Hmay.out.2.2.2.2.1 rfl rfl hLL
    have hca := Hca.out
    rw [hcomb] at hca
    have hco := Hco.out
    rw [hcomb] at hco
    have Hca2 := hide hca
    have Hco2 := hide hco
    clear hca hco hcomb Hca Hco Hmay
    clear hLL
    go_wp2_with fail
    with_reducible refine (Hcf2.out _ (Hrd2.out.keep Hbl.out)).mono ?_
    rintro e w3 ⟨rfl, hb⟩
    clear kd0 kd1 kd2 ke0 ke1 ke2 kx0 kx1 kdl kel kxl
    replace Hkd := hide (Hkd.out.keep hb)
    replace Hke := hide (Hke.out.keep hb)
    replace Hkx := hide (Hkx.out.keep hb)
    replace Hbl := hide (Hbl.out.trans (hb.mono Hbl.out.size))
    clear hb
    have kd0 := Hkd.out.cell 0
    have kd1 := Hkd.out.cell 1
    have kd2 := Hkd.out.cell 2
    have kdl := Hkd.out.lt
    have ke0 := Hke.out.cell 0
    have ke1 := Hke.out.cell 1
    have ke2 := Hke.out.cell 2
    have kel := Hke.out.lt
    have kx0 := Hkx.out.cell 0
    have kx1 := Hkx.out.cell 1
    have kxl := Hkx.out.lt
    simp only [List.getElem?_cons_zero, List.getElem?_cons_succ] at kd0 kd1 kd2 ke0 ke1 ke2 kx0 kx1
    have kxf0 := Hkx.out.frozen 0
    have kxf1 := Hkx.out.frozen 1
    go_wp2_with fail
    with_reducible refine (At_ct 9 (-5) _).mono ?_
    rintro e w4 ⟨rfl, hb⟩
    clear kd0 kd1 kd2 ke0 ke1 ke2 kx0 kx1 kdl kel kxl
    replace Hkd := hide (Hkd.out.keep hb)
    replace Hke := hide (Hke.out.keep hb)
    replace Hkx := hide (Hkx.out.keep hb)
    replace Hbl := hide (Hbl.out.trans (hb.mono Hbl.out.size))
    clear hb
    clear kxf0 kxf1
    have kd0 := Hkd.out.cell 0
    have kd1 := Hkd.out.cell 1
    have kd2 := Hkd.out.cell 2
    have kdl := Hkd.out.lt
    have ke0 := Hke.out.cell 0
    have ke1 := Hke.out.cell 1
    have ke2 := Hke.out.cell 2
    have kel := Hke.out.lt
    have kx0 := Hkx.out.cell 0
    have kx1 := Hkx.out.cell 1
    have kxl := Hkx.out.lt
    simp only [List.getElem?_cons_zero, List.getElem?_cons_succ] at kd0 kd1 kd2 ke0 ke1 ke2 kx0 kx1
    have kxf0 := Hkx.out.frozen 0
    have kxf1 := Hkx.out.frozen 1
    unfold fault
    go_upto_region 8 with (fail)
    have hxx := (Hkx.out.set 0 (.int .i64 9)).set 1 (.int .i64 (-5))
    have hxd := (Hkd.out.far (p := ⟨gx, 0, none⟩) (by simp; omega) (.int .i64 9)).far (p := ⟨gx, 1, none⟩) (by simp; omega) (.int .i64 (-5))
    have hxe := (Hke.out.far (p := ⟨gx, 0, none⟩) (by simp; omega) (.int .i64 9)).far (p := ⟨gx, 1, none⟩) (by simp; omega) (.int .i64 (-5))
    have hbx := (Hbl.out.setCell (p := ⟨gx, 0, none⟩) (by simp; omega) (.int .i64 9)).setCell (p := ⟨gx, 1, none⟩) (by simp; omega) (.int .i64 (-5))
    simp only [List.set_cons_zero, List.set_cons_succ] at hxx
    obtain ⟨W4, hW⟩ : ∃ W, W = ((w4.setCell ⟨gx, 0, none⟩ (.int .i64 9)).setCell ⟨gx, 1, none⟩ (.int .i64 (-5))) := ⟨_, rfl⟩
    rw [← hW] at hxx hxd hxe hbx ⊢
    clear kd0 kd1 kd2 ke0 ke1 ke2 kx0 kx1 kdl kel kxl
    replace Hkx := hide hxx
    replace Hkd := hide hxd
    replace Hke := hide hxe
    replace Hbl := hide hbx
    clear hW hxx hxd hxe hbx
    have kd0 := Hkd.out.cell 0
    have kd1 := Hkd.out.cell 1
    have kd2 := Hkd.out.cell 2
    have kdl := Hkd.out.lt
    have ke0 := Hke.out.cell 0
    have ke1 := Hke.out.cell 1
    have ke2 := Hke.out.cell 2
    have kel := Hke.out.lt
    have kx0 := Hkx.out.cell 0
    have kx1 := Hkx.out.cell 1
    have kxl := Hkx.out.lt
    simp only [List.getElem?_cons_zero, List.getElem?_cons_succ] at kd0 kd1 kd2 ke0 ke1 ke2 kx0 kx1
    clear kxf0 kxf1
    go_wp2_with fail
    with_reducible refine (Hca2.out _ (Hrd.out.keep Hbl.out) (Hrd2.out.keep Hbl.out)).mono ?_
    rintro e w5 ⟨⟨O, m, d, rfl, hrd3, _⟩, hb⟩
    clear kd0 kd1 kd2 ke0 ke1 ke2 kx0 kx1 kdl kel kxl
    replace Hkd := hide (Hkd.out.keep hb)
    replace Hke := hide (Hke.out.keep hb)
    replace Hkx := hide (Hkx.out.keep hb)
    replace Hbl := hide (Hbl.out.trans (hb.mono Hbl.out.size))
    clear hb
    simp only [faultV]
    simp only at hrd3
    have Hrd3 := hide hrd3
    clear hrd3
    go_upto_region 11 with (fail)
    have hyky := Blk.new (w5) 30 [.int .i64 0, .slice O m d, .int .i64 0]
    have hykz := Blk.new ((w5).alloc (.cells #[.int .i64 0, .slice O m d, .int .i64 0] 30)) 25 [.int .i64 9, .int .i64 (-5)]
    replace hyky := hyky.alloc (.cells #[.int .i64 9, .int .i64 (-5)] 25)
    have hbW := below_two w5 (.cells #[.int .i64 0, .slice O m d, .int .i64 0] 30) (.cells #[.int .i64 9, .int .i64 (-5)] 25)
    simp only [World.size_alloc] at hykz
    obtain ⟨W5, hW⟩ : ∃ W, W = ((w5).alloc (.cells #[.int .i64 0, .slice O m d, .int .i64 0] 30)).alloc (.cells #[.int .i64 9, .int .i64 (-5)] 25) := ⟨_, rfl⟩
    rw [← hW] at hyky hykz hbW ⊢
    replace Hkd := hide (Hkd.out.keep hbW)
    replace Hke := hide (Hke.out.keep hbW)
    replace Hkx := hide (Hkx.out.keep hbW)
    replace Hrd3 := hide (Hrd3.out.keep hbW)
    replace Hbl := hide (Hbl.out.trans (hbW.mono Hbl.out.size))
    have Hky := hide hyky
    have Hkz := hide hykz
    clear hW hbW hyky hykz
    generalize w5.heap.size = gy at Hky Hkz ⊢
    have kd0 := Hkd.out.cell 0
    have kd1 := Hkd.out.cell 1
    have kd2 := Hkd.out.cell 2
    have kdl := Hkd.out.lt
    have ke0 := Hke.out.cell 0
    have ke1 := Hke.out.cell 1
    have ke2 := Hke.out.cell 2
    have kel := Hke.out.lt
    have kx0 := Hkx.out.cell 0
    have kx1 := Hkx.out.cell 1
    have kxl := Hkx.out.lt
    have ky0 := Hky.out.cell 0
    have ky1 := Hky.out.cell 1
    have ky2 := Hky.out.cell 2
    have kyl := Hky.out.lt
    have kz0 := Hkz.out.cell 0
    have kz1 := Hkz.out.cell 1
    have kzl := Hkz.out.lt
    simp only [List.getElem?_cons_zero, List.getElem?_cons_succ] at kd0 kd1 kd2 ke0 ke1 ke2 kx0 kx1 ky0 ky1 ky2 kz0 kz1
    go_wp2_with fail
    with_reducible refine (Hco2.out _ (Hrd.out.keep Hbl.out) (Hrd2.out.keep Hbl.out)).mono ?_
    rintro e w6 ⟨⟨O3, m3, d3, rfl, hrd4, _⟩, hb⟩
    clear kd0 kd1 kd2 ke0 ke1 ke2 kx0 kx1 ky0 ky1 ky2 kz0 kz1 kdl kel kxl kyl kzl
    replace Hkd := hide (Hkd.out.keep hb)
    replace Hke := hide (Hke.out.keep hb)
    replace Hkx := hide (Hkx.out.keep hb)
    replace Hky := hide (Hky.out.keep hb)
    replace Hkz := hide (Hkz.out.keep hb)
    replace Hrd3 := hide (Hrd3.out.keep hb)
    replace Hbl := hide (Hbl.out.trans (hb.mono Hbl.out.size))
    clear hb
    simp only [faultV]
    simp only at hrd4
    have Hrd4 := hide hrd4
    clear hrd4
    go_upto_region 12 with (fail)
    have hyku := Blk.new (w6) 30 [.int .i64 0, .slice O3 m3 d3, .int .i64 0]
    have hykv := Blk.new ((w6).alloc (.cells #[.int .i64 0, .slice O3 m3 d3, .int .i64 0] 30)) 25 [.int .i64 9, .int .i64 (-5)]
    replace hyku := hyku.alloc (.cells #[.int .i64 9, .int .i64 (-5)] 25)
    have hbW := below_two w6 (.cells #[.int .i64 0, .slice O3 m3 d3, .int .i64 0] 30) (.cells #[.int .i64 9, .int .i64 (-5)] 25)
    simp only [World.size_alloc] at hykv
    obtain ⟨W6, hW⟩ : ∃ W, W = ((w6).alloc (.cells #[.int .i64 0, .slice O3 m3 d3, .int .i64 0] 30)).alloc (.cells #[.int .i64 9, .int .i64 (-5)] 25) := ⟨_, rfl⟩
    rw [← hW] at hyku hykv hbW ⊢
    replace Hkd := hide (Hkd.out.keep hbW)
    replace Hke := hide (Hke.out.keep hbW)
    replace Hkx := hide (Hkx.out.keep hbW)
    replace Hky := hide (Hky.out.keep hbW)
    replace Hkz := hide (Hkz.out.keep hbW)
    replace Hrd3 := hide (Hrd3.out.keep hbW)
    replace Hrd4 := hide (Hrd4.out.keep hbW)
    replace Hbl := hide (Hbl.out.trans (hbW.mono Hbl.out.size))
    have Hku := hide hyku
    have Hkv := hide hykv
    clear hW hbW hyku hykv
    generalize w6.heap.size = gu at Hku Hkv ⊢
    have kd0 := Hkd.out.cell 0
    have kd1 := Hkd.out.cell 1
    have kd2 := Hkd.out.cell 2
    have kdl := Hkd.out.lt
    have ke0 := Hke.out.cell 0
    have ke1 := Hke.out.cell 1
    have ke2 := Hke.out.cell 2
    have kel := Hke.out.lt
    have kx0 := Hkx.out.cell 0
    have kx1 := Hkx.out.cell 1
    have kxl := Hkx.out.lt
    have ky0 := Hky.out.cell 0
    have ky1 := Hky.out.cell 1
    have ky2 := Hky.out.cell 2
    have kyl := Hky.out.lt
    have kz0 := Hkz.out.cell 0
    have kz1 := Hkz.out.cell 1
    have kzl := Hkz.out.lt
    have ku0 := Hku.out.cell 0
    have ku1 := Hku.out.cell 1
    have ku2 := Hku.out.cell 2
    have kul := Hku.out.lt
    have kv0 := Hkv.out.cell 0
    have kv1 := Hkv.out.cell 1
    have kvl := Hkv.out.lt
    simp only [List.getElem?_cons_zero, List.getElem?_cons_succ] at kd0 kd1 kd2 ke0 ke1 ke2 kx0 kx1 ky0 ky1 ky2 kz0 kz1 ku0 ku1 ku2 kv0 kv1
    have hcall := failed_ct 0 O m d [] 0 (9, (-5)) (9, (-5)) _ Hrd3.out
    rw [fail_same] at hcall
    simp only [faultV] at hcall
    have Hcall := hide hcall
    clear hcall
    go_wp2_with fail
    with_reducible refine (Hcall.out).mono ?_
    rintro e w7 ⟨rfl, hb⟩
    clear kd0 kd1 kd2 ke0 ke1 ke2 kx0 kx1 ky0 ky1 ky2 kz0 kz1 ku0 ku1 ku2 kv0 kv1 kdl kel kxl kyl kzl kul kvl
    replace Hkd := hide (Hkd.out.keep hb)
    replace Hke := hide (Hke.out.keep hb)
    replace Hkx := hide (Hkx.out.keep hb)
    replace Hky := hide (Hky.out.keep hb)
    replace Hkz := hide (Hkz.out.keep hb)
    replace Hku := hide (Hku.out.keep hb)
    replace Hkv := hide (Hkv.out.keep hb)
    replace Hrd3 := hide (Hrd3.out.keep hb)
    replace Hrd4 := hide (Hrd4.out.keep hb)
    replace Hbl := hide (Hbl.out.trans (hb.mono Hbl.out.size))
    clear hb
    clear Hcall
    have kd0 := Hkd.out.cell 0
    have kd1 := Hkd.out.cell 1
    have kd2 := Hkd.out.cell 2
    have kdl := Hkd.out.lt
    have ke0 := Hke.out.cell 0
    have ke1 := Hke.out.cell 1
    have ke2 := Hke.out.cell 2
    have kel := Hke.out.lt
    have kx0 := Hkx.out.cell 0
    have kx1 := Hkx.out.cell 1
    have kxl := Hkx.out.lt
    have ky0 := Hky.out.cell 0
    have ky1 := Hky.out.cell 1
    have ky2 := Hky.out.cell 2
    have kyl := Hky.out.lt
    have kz0 := Hkz.out.cell 0
    have kz1 := Hkz.out.cell 1
    have kzl := Hkz.out.lt
    have ku0 := Hku.out.cell 0
    have ku1 := Hku.out.cell 1
    have ku2 := Hku.out.cell 2
    have kul := Hku.out.lt
    have kv0 := Hkv.out.cell 0
    have kv1 := Hkv.out.cell 1
    have kvl := Hkv.out.lt
    simp only [List.getElem?_cons_zero, List.getElem?_cons_succ] at kd0 kd1 kd2 ke0 ke1 ke2 kx0 kx1 ky0 ky1 ky2 kz0 kz1 ku0 ku1 ku2 kv0 kv1
    have hcall := failed_ct 0 O3 m3 d3 [] 0 (9, (-5)) (9, (-5)) _ Hrd4.out
    rw [fail_same] at hcall
    simp only [faultV] at hcall
    have Hcall := hide hcall
    clear hcall
    go_wp2_with fail
    with_reducible refine (Hcall.out).mono ?_
    rintro e w8 ⟨rfl, hb⟩
    clear kd0 kd1 kd2 ke0 ke1 ke2 kx0 kx1 ky0 ky1 ky2 kz0 kz1 ku0 ku1 ku2 kv0 kv1 kdl kel kxl kyl kzl kul kvl
    replace Hkd := hide (Hkd.out.keep hb)
    replace Hke := hide (Hke.out.keep hb)
    replace Hkx := hide (Hkx.out.keep hb)
    replace Hky := hide (Hky.out.keep hb)
    replace Hkz := hide (Hkz.out.keep hb)
    replace Hku := hide (Hku.out.keep hb)
    replace Hkv := hide (Hkv.out.keep hb)
    replace Hrd3 := hide (Hrd3.out.keep hb)
    replace Hrd4 := hide (Hrd4.out.keep hb)
    replace Hbl := hide (Hbl.out.trans (hb.mono Hbl.out.size))
    clear hb
    clear Hcall
    go_wp2
    go_ret
    exact ⟨rfl, Hbl.out⟩
  replace hLL : L = L2 := by omega
  obtain ⟨L', r', r2', ds, ds2, rfl, rfl, rfl, rfl, rfl, hval, hval2, hcomb⟩ := Hmay.out.2.2.2.2.2 rfl rfl hLL
  obtain rfl : L2 = (L' : Int) := hLL.symm
  have Hval := hide hval
  have Hval2 := hide hval2
  have hlow := hval.low
  clear hval hval2 Hmay hLL
  by_cases hm : (10 : Int) < L'
  · have hm2 : decide ((10 : Int) < L') = true := decide_eq_true hm
    have Hmany := hide (many_ct (L' : Int))
    rw [hm2] at Hmany
    clear hm hm2 hcomb
    go_wp2_with fail
    with_reducible refine (Hcf2.out _ (Hrd2.out.keep Hbl.out)).mono ?_
    rintro e w3 ⟨rfl, hb⟩
    clear kd0 kd1 kd2 ke0 ke1 ke2 kx0 kx1 kdl kel kxl
    replace Hkd := hide (Hkd.out.keep hb)
    replace Hke := hide (Hke.out.keep hb)
    replace Hkx := hide (Hkx.out.keep hb)
    replace Hbl := hide (Hbl.out.trans (hb.mono Hbl.out.size))
    clear hb
    have kd0 := Hkd.out.cell 0
    have kd1 := Hkd.out.cell 1
    have kd2 := Hkd.out.cell 2
    have kdl := Hkd.out.lt
    have ke0 := Hke.out.cell 0
    have ke1 := Hke.out.cell 1
    have ke2 := Hke.out.cell 2
    have kel := Hke.out.lt
    have kx0 := Hkx.out.cell 0
    have kx1 := Hkx.out.cell 1
    have kxl := Hkx.out.lt
    simp only [List.getElem?_cons_zero, List.getElem?_cons_succ] at kd0 kd1 kd2 ke0 ke1 ke2 kx0 kx1
    go_wp2_with fail
    refine (Hmany.out _).mono ?_
    rintro e w4 ⟨rfl, rfl⟩
    go_wp2_with fail
    go_ret
    exact ⟨rfl, Hbl.out⟩
  have hm2 : decide ((10 : Int) < L') = false := decide_eq_false hm
  have Hmany := hide (many_ct (L' : Int))
  rw [hm2] at Hmany
  have Hm := hide hm
  have hmadeA := made_lim L' (diaF L' (fun s => opF 0 (sem ds r' s) (sem ds2 r2' s)))
  have hmadeO := made_lim L' (diaF L' (fun s => opF 1 (sem ds r' s) (sem ds2 r2' s)))
  have hca := Hca.out
  rw [hcomb 0] at hca
  have hco := Hco.out
  rw [hcomb 1] at hco
  generalize limF L' (diaF L' (fun s => opF 0 (sem ds r' s) (sem ds2 r2' s))) = R at hca hmadeA
  generalize limF L' (diaF L' (fun s => opF 1 (sem ds r' s) (sem ds2 r2' s))) = R2 at hco hmadeO
  obtain ⟨⟨d0, dn, dr⟩, f0, f1⟩ := R
  obtain ⟨⟨a0, an, ar⟩, b0, b1⟩ := R2
  have Hca2 := hide hca
  have Hco2 := hide hco
  have HmadeA := hide hmadeA
  have HmadeO := hide hmadeO
  clear hm hm2 hca hco hmadeA hmadeO hcomb Hca Hco
  go_wp2_with fail
  with_reducible refine (Hcf2.out _ (Hrd2.out.keep Hbl.out)).mono ?_
  rintro e w3 ⟨rfl, hb⟩
  clear kd0 kd1 kd2 ke0 ke1 ke2 kx0 kx1 kdl kel kxl
  replace Hkd := hide (Hkd.out.keep hb)
  replace Hke := hide (Hke.out.keep hb)
  replace Hkx := hide (Hkx.out.keep hb)
  replace Hbl := hide (Hbl.out.trans (hb.mono Hbl.out.size))
  clear hb
  have kd0 := Hkd.out.cell 0
  have kd1 := Hkd.out.cell 1
  have kd2 := Hkd.out.cell 2
  have kdl := Hkd.out.lt
  have ke0 := Hke.out.cell 0
  have ke1 := Hke.out.cell 1
  have ke2 := Hke.out.cell 2
  have kel := Hke.out.lt
  have kx0 := Hkx.out.cell 0
  have kx1 := Hkx.out.cell 1
  have kxl := Hkx.out.lt
  simp only [List.getElem?_cons_zero, List.getElem?_cons_succ] at kd0 kd1 kd2 ke0 ke1 ke2 kx0 kx1
  go_wp2_with fail
  refine (Hmany.out _).mono ?_
  rintro e w4 ⟨rfl, rfl⟩
  go_wp2_with fail
  with_reducible refine (Hca2.out _ (Hrd.out.keep Hbl.out) (Hrd2.out.keep Hbl.out)).mono ?_
  rintro e w5 ⟨⟨O, m, d, rfl, hrd3, _⟩, hb⟩
  clear kd0 kd1 kd2 ke0 ke1 ke2 kx0 kx1 kdl kel kxl
  replace Hkd := hide (Hkd.out.keep hb)
  replace Hke := hide (Hke.out.keep hb)
  replace Hkx := hide (Hkx.out.keep hb)
  replace Hbl := hide (Hbl.out.trans (hb.mono Hbl.out.size))
  clear hb
  simp only [faultV]
  simp only at hrd3
  have Hrd3 := hide hrd3
  clear hrd3
  go_upto_region 11 with (fail)
  have hyky := Blk.new (w5) 30 [.int .i64 d0, .slice O m d, .int .i64 dr]
  have hykz := Blk.new ((w5).alloc (.cells #[.int .i64 d0, .slice O m d, .int .i64 dr] 30)) 25 [.int .i64 f0, .int .i64 f1]
  replace hyky := hyky.alloc (.cells #[.int .i64 f0, .int .i64 f1] 25)
  have hbW := below_two w5 (.cells #[.int .i64 d0, .slice O m d, .int .i64 dr] 30) (.cells #[.int .i64 f0, .int .i64 f1] 25)
  simp only [World.size_alloc] at hykz
  obtain ⟨W5, hW⟩ : ∃ W, W = ((w5).alloc (.cells #[.int .i64 d0, .slice O m d, .int .i64 dr] 30)).alloc (.cells #[.int .i64 f0, .int .i64 f1] 25) := ⟨_, rfl⟩
  rw [← hW] at hyky hykz hbW ⊢
  replace Hkd := hide (Hkd.out.keep hbW)
  replace Hke := hide (Hke.out.keep hbW)
  replace Hkx := hide (Hkx.out.keep hbW)
  replace Hrd3 := hide (Hrd3.out.keep hbW)
  replace Hbl := hide (Hbl.out.trans (hbW.mono Hbl.out.size))
  have Hky := hide hyky
  have Hkz := hide hykz
  clear hW hbW hyky hykz
  generalize w5.heap.size = gy at Hky Hkz ⊢
  have kd0 := Hkd.out.cell 0
  have kd1 := Hkd.out.cell 1
  have kd2 := Hkd.out.cell 2
  have kdl := Hkd.out.lt
  have ke0 := Hke.out.cell 0
  have ke1 := Hke.out.cell 1
  have ke2 := Hke.out.cell 2
  have kel := Hke.out.lt
  have kx0 := Hkx.out.cell 0
  have kx1 := Hkx.out.cell 1
  have kxl := Hkx.out.lt
  have ky0 := Hky.out.cell 0
  have ky1 := Hky.out.cell 1
  have ky2 := Hky.out.cell 2
  have kyl := Hky.out.lt
  have kz0 := Hkz.out.cell 0
  have kz1 := Hkz.out.cell 1
  have kzl := Hkz.out.lt
  simp only [List.getElem?_cons_zero, List.getElem?_cons_succ] at kd0 kd1 kd2 ke0 ke1 ke2 kx0 kx1 ky0 ky1 ky2 kz0 kz1
  go_wp2_with fail
  with_reducible refine (Hco2.out _ (Hrd.out.keep Hbl.out) (Hrd2.out.keep Hbl.out)).mono ?_
  rintro e w6 ⟨⟨O3, m3, d3, rfl, hrd4, _⟩, hb⟩
  clear kd0 kd1 kd2 ke0 ke1 ke2 kx0 kx1 ky0 ky1 ky2 kz0 kz1 kdl kel kxl kyl kzl
  replace Hkd := hide (Hkd.out.keep hb)
  replace Hke := hide (Hke.out.keep hb)
  replace Hkx := hide (Hkx.out.keep hb)
  replace Hky := hide (Hky.out.keep hb)
  replace Hkz := hide (Hkz.out.keep hb)
  replace Hrd3 := hide (Hrd3.out.keep hb)
  replace Hbl := hide (Hbl.out.trans (hb.mono Hbl.out.size))
  clear hb
  simp only [faultV]
  simp only at hrd4
  have Hrd4 := hide hrd4
  clear hrd4
  go_upto_region 12 with (fail)
  have hyku := Blk.new (w6) 30 [.int .i64 a0, .slice O3 m3 d3, .int .i64 ar]
  have hykv := Blk.new ((w6).alloc (.cells #[.int .i64 a0, .slice O3 m3 d3, .int .i64 ar] 30)) 25 [.int .i64 b0, .int .i64 b1]
  replace hyku := hyku.alloc (.cells #[.int .i64 b0, .int .i64 b1] 25)
  have hbW := below_two w6 (.cells #[.int .i64 a0, .slice O3 m3 d3, .int .i64 ar] 30) (.cells #[.int .i64 b0, .int .i64 b1] 25)
  simp only [World.size_alloc] at hykv
  obtain ⟨W6, hW⟩ : ∃ W, W = ((w6).alloc (.cells #[.int .i64 a0, .slice O3 m3 d3, .int .i64 ar] 30)).alloc (.cells #[.int .i64 b0, .int .i64 b1] 25) := ⟨_, rfl⟩
  rw [← hW] at hyku hykv hbW ⊢
  replace Hkd := hide (Hkd.out.keep hbW)
  replace Hke := hide (Hke.out.keep hbW)
  replace Hkx := hide (Hkx.out.keep hbW)
  replace Hky := hide (Hky.out.keep hbW)
  replace Hkz := hide (Hkz.out.keep hbW)
  replace Hrd3 := hide (Hrd3.out.keep hbW)
  replace Hrd4 := hide (Hrd4.out.keep hbW)
  replace Hbl := hide (Hbl.out.trans (hbW.mono Hbl.out.size))
  have Hku := hide hyku
  have Hkv := hide hykv
  clear hW hbW hyku hykv
  generalize w6.heap.size = gu at Hku Hkv ⊢
  have kd0 := Hkd.out.cell 0
  have kd1 := Hkd.out.cell 1
  have kd2 := Hkd.out.cell 2
  have kdl := Hkd.out.lt
  have ke0 := Hke.out.cell 0
  have ke1 := Hke.out.cell 1
  have ke2 := Hke.out.cell 2
  have kel := Hke.out.lt
  have kx0 := Hkx.out.cell 0
  have kx1 := Hkx.out.cell 1
  have kxl := Hkx.out.lt
  have ky0 := Hky.out.cell 0
  have ky1 := Hky.out.cell 1
  have ky2 := Hky.out.cell 2
  have kyl := Hky.out.lt
  have kz0 := Hkz.out.cell 0
  have kz1 := Hkz.out.cell 1
  have kzl := Hkz.out.lt
  have ku0 := Hku.out.cell 0
  have ku1 := Hku.out.cell 1
  have ku2 := Hku.out.cell 2
  have kul := Hku.out.lt
  have kv0 := Hkv.out.cell 0
  have kv1 := Hkv.out.cell 1
  have kvl := Hkv.out.lt
  simp only [List.getElem?_cons_zero, List.getElem?_cons_succ] at kd0 kd1 kd2 ke0 ke1 ke2 kx0 kx1 ky0 ky1 ky2 kz0 kz1 ku0 ku1 ku2 kv0 kv1
  go_wp2_with fail
  with_reducible refine (Truths_ct L' n c r' A ds _ Hval.out (Hrd.out.keep Hbl.out)).mono ?_
  rintro e w7 ⟨hb, OU, cu, rfl, hown⟩
  clear kd0 kd1 kd2 ke0 ke1 ke2 kx0 kx1 ky0 ky1 ky2 kz0 kz1 ku0 ku1 ku2 kv0 kv1 kdl kel kxl kyl kzl kul kvl
  replace Hkd := hide (Hkd.out.keep hb)
  replace Hke := hide (Hke.out.keep hb)
  replace Hkx := hide (Hkx.out.keep hb)
  replace Hky := hide (Hky.out.keep hb)
  replace Hkz := hide (Hkz.out.keep hb)
  replace Hku := hide (Hku.out.keep hb)
  replace Hkv := hide (Hkv.out.keep hb)
  replace Hrd3 := hide (Hrd3.out.keep hb)
  replace Hrd4 := hide (Hrd4.out.keep hb)
  replace Hbl := hide (Hbl.out.trans (hb.mono Hbl.out.size))
  clear hb
  have hlu : (tableF L' (sem ds r')).length = 2 ^ L' := by simp [tableF]
  have hrdu := own_rdB hown rfl
  rw [hlu] at hrdu ⊢
  have hp : 2 ^ L' ≤ 1024 := Nat.le_trans (Nat.pow_le_pow_right (by omega) (show L' ≤ 10 by have := Hm.out; omega)) (by decide)
  have Hrdu := hide hrdu
  clear hrdu hown hlu
  have kd0 := Hkd.out.cell 0
  have kd1 := Hkd.out.cell 1
  have kd2 := Hkd.out.cell 2
  have kdl := Hkd.out.lt
  have ke0 := Hke.out.cell 0
  have ke1 := Hke.out.cell 1
  have ke2 := Hke.out.cell 2
  have kel := Hke.out.lt
  have kx0 := Hkx.out.cell 0
  have kx1 := Hkx.out.cell 1
  have kxl := Hkx.out.lt
  have ky0 := Hky.out.cell 0
  have ky1 := Hky.out.cell 1
  have ky2 := Hky.out.cell 2
  have kyl := Hky.out.lt
  have kz0 := Hkz.out.cell 0
  have kz1 := Hkz.out.cell 1
  have kzl := Hkz.out.lt
  have ku0 := Hku.out.cell 0
  have ku1 := Hku.out.cell 1
  have ku2 := Hku.out.cell 2
  have kul := Hku.out.lt
  have kv0 := Hkv.out.cell 0
  have kv1 := Hkv.out.cell 1
  have kvl := Hkv.out.lt
  simp only [List.getElem?_cons_zero, List.getElem?_cons_succ] at kd0 kd1 kd2 ke0 ke1 ke2 kx0 kx1 ky0 ky1 ky2 kz0 kz1 ku0 ku1 ku2 kv0 kv1
  go_wp2_with fail
  with_reducible refine (Truths_ct L' n2 c2 r2' A2 ds2 _ Hval2.out (Hrd2.out.keep Hbl.out)).mono ?_
  rintro e w8 ⟨hb, OV, cv, rfl, hown⟩
  clear kd0 kd1 kd2 ke0 ke1 ke2 kx0 kx1 ky0 ky1 ky2 kz0 kz1 ku0 ku1 ku2 kv0 kv1 kdl kel kxl kyl kzl kul kvl
  replace Hkd := hide (Hkd.out.keep hb)
  replace Hke := hide (Hke.out.keep hb)
  replace Hkx := hide (Hkx.out.keep hb)
  replace Hky := hide (Hky.out.keep hb)
  replace Hkz := hide (Hkz.out.keep hb)
  replace Hku := hide (Hku.out.keep hb)
  replace Hkv := hide (Hkv.out.keep hb)
  replace Hrd3 := hide (Hrd3.out.keep hb)
  replace Hrd4 := hide (Hrd4.out.keep hb)
  replace Hrdu := hide (Hrdu.out.keep hb)
  replace Hbl := hide (Hbl.out.trans (hb.mono Hbl.out.size))
  clear hb
  have hlu : (tableF L' (sem ds2 r2')).length = 2 ^ L' := by simp [tableF]
  have hrdv := own_rdB hown rfl
  rw [hlu] at hrdv ⊢
  have hcu := Hrdu.out.cap
  have hsu := Hrdu.out.small
  have hcv := hrdv.cap
  have hsv := hrdv.small
  have hru := Hrdu.out
  generalize hP : 2 ^ L' = P at hp hrdv hru hcu hsu hcv hsv ⊢
  have HP := hide hP
  have Hrdv := hide hrdv
  clear Hrdu
  have Hrdu := hide hru
  clear hrdv hown hlu hP hru
  have kd0 := Hkd.out.cell 0
  have kd1 := Hkd.out.cell 1
  have kd2 := Hkd.out.cell 2
  have kdl := Hkd.out.lt
  have ke0 := Hke.out.cell 0
  have ke1 := Hke.out.cell 1
  have ke2 := Hke.out.cell 2
  have kel := Hke.out.lt
  have kx0 := Hkx.out.cell 0
  have kx1 := Hkx.out.cell 1
  have kxl := Hkx.out.lt
  have ky0 := Hky.out.cell 0
  have ky1 := Hky.out.cell 1
  have ky2 := Hky.out.cell 2
  have kyl := Hky.out.lt
  have kz0 := Hkz.out.cell 0
  have kz1 := Hkz.out.cell 1
  have kzl := Hkz.out.lt
  have ku0 := Hku.out.cell 0
  have ku1 := Hku.out.cell 1
  have ku2 := Hku.out.cell 2
  have kul := Hku.out.lt
  have kv0 := Hkv.out.cell 0
  have kv1 := Hkv.out.cell 1
  have kvl := Hkv.out.lt
  simp only [List.getElem?_cons_zero, List.getElem?_cons_succ] at kd0 kd1 kd2 ke0 ke1 ke2 kx0 kx1 ky0 ky1 ky2 kz0 kz1 ku0 ku1 ku2 kv0 kv1
  obtain ⟨i0, hi0, hz0, hz1, hz2⟩ := info_parts boolInfo
  go_wp2_with fail
  go_loopw [12, 13, 14] (fun o1 o2 i wr => ∃ (k : Nat) (O1 : Option Addr) (oc1 : Nat) (O2 : Option Addr) (oc2 : Nat), k ≤ P ∧ i = .int .i64 k ∧ o1 = .slice O1 k oc1 ∧ o2 = .slice O2 k oc2 ∧ TwoR wr w8.heap.size 4 (.slice O1 k oc1) (.slice O2 k oc2) k k ((tabK L' (fun s => opF 0 (sem ds r' s) (sem ds2 r2' s)) k).map Value.bool) ((tabK L' (fun s => opF 1 (sem ds r' s) (sem ds2 r2' s)) k).map Value.bool) ∧ Below w8.heap.size w8 wr) (fun _ _ i _ => P - (intOf i).toNat)
  case atStart => exact ⟨0, none, 0, none, 0, by omega, rfl, rfl, rfl, ⟨World.ownsRow_nil _ _ _ _, World.ownsRow_nil _ _ _ _, fun r hr => by cases hr⟩, Below.refl _ _⟩
  case round =>
    obtain ⟨k, O1, oc1, O2, oc2, hk, rfl, rfl, rfl, hown, hbr⟩ := hrel
    clear kd0 kd1 kd2 ke0 ke1 ke2 kx0 kx1 ky0 ky1 ky2 kz0 kz1 ku0 ku1 ku2 kv0 kv1 kdl kel kxl kyl kzl kul kvl
    have hsz := hbr.size
    have Hown := hide hown
    have Hbr := hide hbr
    clear hown hbr
    by_cases hlt : k < P
    · obtain ⟨b, off, x, rfl, hx, hcx⟩ := (Hrdu.out.keep Hbr.out).bool hlt
      obtain ⟨b', off', y, rfl, hy, hcy⟩ := (Hrdv.out.keep Hbr.out).bool hlt
      have htA := tabK_succ L' (fun s => opF 0 (sem ds r' s) (sem ds2 r2' s)) k
      have htO := tabK_succ L' (fun s => opF 1 (sem ds r' s) (sem ds2 r2' s)) k
      rw [← table_get hx, ← table_get hy] at htA htO
      have HtA := hide htA
      have HtO := hide htO
      clear htA htO hx hy
      obtain ⟨b1, o1, x1, e1, hx1, hc1⟩ := Hrdu.out.bool hlt
      injection e1 with e1
      injection e1 with e1 e2
      subst e1 e2
      have hbu := World.block_lt_of_cell? w8 _ hc1
      have hcx8 := ((Hbr.out.cell (p := ⟨b, off + k, none⟩) hbu)).symm.trans hcx
      obtain ⟨b2, o2, x2, e1, hx2, hc2⟩ := Hrdv.out.bool hlt
      injection e1 with e1
      injection e1 with e1 e2
      subst e1 e2
      have hbv := World.block_lt_of_cell? w8 _ hc2
      have hcy8 := ((Hbr.out.cell (p := ⟨b', off' + k, none⟩) hbv)).symm.trans hcy
      have Hcx8 := hide hcx8
      have Hcy8 := hide hcy8
      simp only at hbu hbv
      have hbur : b < wr.heap.size := by omega
      have hbvr : b' < wr.heap.size := by omega
      clear hx1 hc1 hx2 hc2 hcx8 hcy8
      cases x
      all_goals
        go_wp2_with
          (first
           | (at_builtin
              refine wpList_pushA rfl _ _ 35 rfl w8.heap.size 4 i0 (.bool false) 1 1 Try.underlying35 hi0 hz0 hz1 hz2 rfl (by decide) _ _ _ rfl Ho9.out.two [.bool _] rfl (by intro u hu; simp at hu; subst hu; rfl) rfl (by omega) (by omega) hsz9 ?_
              intro O2' oc2' w10 hown10 hg10 hat10)
           | (at_builtin
              refine wpList_pushA rfl _ _ 35 rfl w8.heap.size 4 i0 (.bool false) 1 1 Try.underlying35 hi0 hz0 hz1 hz2 rfl (by decide) _ _ _ rfl Hown.out.one [.bool _] rfl (by intro u hu; simp at hu; subst hu; rfl) rfl (by omega) (by omega) hsz ?_
              intro O1' oc1' w9 hown9 hg9 hat9
              have hb9 := TwoR.below Hbr.out hsz Hown.out.one hg9
              have ho9 := Hown.out.push1 hown9 hg9 hat9
              have hcx9 := (hb9.cell (p := ⟨b, off + k, none⟩) hbu).trans Hcx8.out
              have hcy9 := (hb9.cell (p := ⟨b', off' + k, none⟩) hbv).trans Hcy8.out
              have hsz9 := hb9.size
              have hbu9 : b < w9.heap.size := by omega
              have hbv9 : b' < w9.heap.size := by omega
              have Hb9 := hide hb9
              have Ho9 := hide ho9
              clear hown9 hg9 hat9 hb9 ho9 hcx hcy))
        have ho10 := Ho9.out.push2 hown10 hg10 hat10
        have hb10 := TwoR.below Hb9.out hsz9 Ho9.out.two hg10
        have Ho10 := hide ho10
        have Hb10 := hide hb10
        clear hown10 hg10 hat10 ho10 hb10
        go_roundw
        case rel => exact ⟨k + 1, O1', oc1', O2', oc2', by omega, by go_num, rfl, rfl, by rw [HtA.out, HtO.out]; simpa [opF] using Ho10.out, Hb10.out⟩
        case measure => simp [intOf]; omega
    · obtain rfl : k = P := by omega
      have hown := Hown.out
      have htA : tabK L' (fun s => opF 0 (sem ds r' s) (sem ds2 r2' s)) k = tableF L' (fun s => opF 0 (sem ds r' s) (sem ds2 r2' s)) := by rw [← HP.out]; exact tabK_all _ _
      have htO : tabK L' (fun s => opF 1 (sem ds r' s) (sem ds2 r2' s)) k = tableF L' (fun s => opF 1 (sem ds r' s) (sem ds2 r2' s)) := by rw [← HP.out]; exact tabK_all _ _
      rw [htA, htO] at hown
      have hrdA := own_rdB hown.one (by simp [tableF]; exact HP.out)
      have hrdO := own_rdB hown.two (by simp [tableF]; exact HP.out)
      have hbq := Hbr.out
      replace Hkd := hide (Hkd.out.keep hbq)
      replace Hke := hide (Hke.out.keep hbq)
      replace Hkx := hide (Hkx.out.keep hbq)
      replace Hky := hide (Hky.out.keep hbq)
      replace Hkz := hide (Hkz.out.keep hbq)
      replace Hku := hide (Hku.out.keep hbq)
      replace Hkv := hide (Hkv.out.keep hbq)
      replace Hrd3 := hide (Hrd3.out.keep hbq)
      replace Hrd4 := hide (Hrd4.out.keep hbq)
      replace Hrdu := hide (Hrdu.out.keep hbq)
      replace Hrdv := hide (Hrdv.out.keep hbq)
      replace Hbl := hide (Hbl.out.trans (hbq.mono Hbl.out.size))
      have HrdA := hide hrdA
      have HrdO := hide hrdO
      clear hrdA hrdO hbq hown Hbr Hown htA htO
      obtain ⟨w9, rfl⟩ : ∃ V, V = wr := ⟨_, rfl⟩
      have kd0 := Hkd.out.cell 0
      have kd1 := Hkd.out.cell 1
      have kd2 := Hkd.out.cell 2
      have kdl := Hkd.out.lt
      have ke0 := Hke.out.cell 0
      have ke1 := Hke.out.cell 1
      have ke2 := Hke.out.cell 2
      have kel := Hke.out.lt
      have kx0 := Hkx.out.cell 0
      have kx1 := Hkx.out.cell 1
      have kxl := Hkx.out.lt
      have ky0 := Hky.out.cell 0
      have ky1 := Hky.out.cell 1
      have ky2 := Hky.out.cell 2
      have kyl := Hky.out.lt
      have kz0 := Hkz.out.cell 0
      have kz1 := Hkz.out.cell 1
      have kzl := Hkz.out.lt
      have ku0 := Hku.out.cell 0
      have ku1 := Hku.out.cell 1
      have ku2 := Hku.out.cell 2
      have kul := Hku.out.lt
      have kv0 := Hkv.out.cell 0
      have kv1 := Hkv.out.cell 1
      have kvl := Hkv.out.lt
      simp only [List.getElem?_cons_zero, List.getElem?_cons_succ] at kd0 kd1 kd2 ke0 ke1 ke2 kx0 kx1 ky0 ky1 ky2 kz0 kz1 ku0 ku1 ku2 kv0 kv1
      have hmade2 : madeB d0 dn dr (f0, f1) L' (canonical L' (tableF L' (fun s => opF 0 (sem ds r' s) (sem ds2 r2' s)))) = true := HmadeA.out
      have hcall := made_ct d0 O m d dn dr (f0, f1) L' O1 k oc1 _ _ (by have := Hm.out; omega) HP.out.symm Hrd3.out HrdA.out
      rw [hmade2] at hcall
      simp only [faultV] at hcall
      have Hcall := hide hcall
      clear hcall hmade2
      go_wp2_with fail
      with_reducible refine (Hcall.out).mono ?_
      rintro e w10 ⟨rfl, hb⟩
      clear kd0 kd1 kd2 ke0 ke1 ke2 kx0 kx1 ky0 ky1 ky2 kz0 kz1 ku0 ku1 ku2 kv0 kv1 kdl kel kxl kyl kzl kul kvl
      replace Hkd := hide (Hkd.out.keep hb)
      replace Hke := hide (Hke.out.keep hb)
      replace Hkx := hide (Hkx.out.keep hb)
      replace Hky := hide (Hky.out.keep hb)
      replace Hkz := hide (Hkz.out.keep hb)
      replace Hku := hide (Hku.out.keep hb)
      replace Hkv := hide (Hkv.out.keep hb)
      replace Hrd3 := hide (Hrd3.out.keep hb)
      replace Hrd4 := hide (Hrd4.out.keep hb)
      replace Hrdu := hide (Hrdu.out.keep hb)
      replace Hrdv := hide (Hrdv.out.keep hb)
      replace HrdA := hide (HrdA.out.keep hb)
      replace HrdO := hide (HrdO.out.keep hb)
      replace Hbl := hide (Hbl.out.trans (hb.mono Hbl.out.size))
      clear hb
      clear Hcall
      have kd0 := Hkd.out.cell 0
      have kd1 := Hkd.out.cell 1
      have kd2 := Hkd.out.cell 2
      have kdl := Hkd.out.lt
      have ke0 := Hke.out.cell 0
      have ke1 := Hke.out.cell 1
      have ke2 := Hke.out.cell 2
      have kel := Hke.out.lt
      have kx0 := Hkx.out.cell 0
      have kx1 := Hkx.out.cell 1
      have kxl := Hkx.out.lt
      have ky0 := Hky.out.cell 0
      have ky1 := Hky.out.cell 1
      have ky2 := Hky.out.cell 2
      have kyl := Hky.out.lt
      have kz0 := Hkz.out.cell 0
      have kz1 := Hkz.out.cell 1
      have kzl := Hkz.out.lt
      have ku0 := Hku.out.cell 0
      have ku1 := Hku.out.cell 1
      have ku2 := Hku.out.cell 2
      have kul := Hku.out.lt
      have kv0 := Hkv.out.cell 0
      have kv1 := Hkv.out.cell 1
      have kvl := Hkv.out.lt
      simp only [List.getElem?_cons_zero, List.getElem?_cons_succ] at kd0 kd1 kd2 ke0 ke1 ke2 kx0 kx1 ky0 ky1 ky2 kz0 kz1 ku0 ku1 ku2 kv0 kv1
      have hmade2 : madeB a0 an ar (b0, b1) L' (canonical L' (tableF L' (fun s => opF 1 (sem ds r' s) (sem ds2 r2' s)))) = true := HmadeO.out
      have hcall := made_ct a0 O3 m3 d3 an ar (b0, b1) L' O2 k oc2 _ _ (by have := Hm.out; omega) HP.out.symm Hrd4.out HrdO.out
      rw [hmade2] at hcall
      simp only [faultV] at hcall
      have Hcall := hide hcall
      clear hcall hmade2
      go_wp2_with fail
      with_reducible refine (Hcall.out).mono ?_
      rintro e w11 ⟨rfl, hb⟩
      clear kd0 kd1 kd2 ke0 ke1 ke2 kx0 kx1 ky0 ky1 ky2 kz0 kz1 ku0 ku1 ku2 kv0 kv1 kdl kel kxl kyl kzl kul kvl
      replace Hkd := hide (Hkd.out.keep hb)
      replace Hke := hide (Hke.out.keep hb)
      replace Hkx := hide (Hkx.out.keep hb)
      replace Hky := hide (Hky.out.keep hb)
      replace Hkz := hide (Hkz.out.keep hb)
      replace Hku := hide (Hku.out.keep hb)
      replace Hkv := hide (Hkv.out.keep hb)
      replace Hrd3 := hide (Hrd3.out.keep hb)
      replace Hrd4 := hide (Hrd4.out.keep hb)
      replace Hrdu := hide (Hrdu.out.keep hb)
      replace Hrdv := hide (Hrdv.out.keep hb)
      replace HrdA := hide (HrdA.out.keep hb)
      replace HrdO := hide (HrdO.out.keep hb)
      replace Hbl := hide (Hbl.out.trans (hb.mono Hbl.out.size))
      clear hb
      clear Hcall
      go_wp2
      go_ret
      exact ⟨rfl, Hbl.out⟩
end Go.Proofs.Ytgenpcokpodhkaa
