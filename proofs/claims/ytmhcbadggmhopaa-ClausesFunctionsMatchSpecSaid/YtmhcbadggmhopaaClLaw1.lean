/- ClausesFunctionsMatchSpec: the walk of the law. -/
import Derived.Test.YtmhcbadggmhopaaClLaws
import Derived.Test.YtmhcbadggmhopaaClLaw4
import Derived.Test.YtmhcbadggmhopaaClPure3
namespace Go.Proofs.Ytmhcbadggmhopaa
open Go.RowKit

/-- the formula's box and the three faults -/
structure L1 (W : World) (g0 g1 g2 g3 : Nat) (v : Int) (A : Option Addr) (n c : Nat) (x1 y1 x2 y2 x3 y3 : Int) : Prop where
  f : Blk 24 W g0 [.int .i64 v, .slice A n c]
  a1 : Blk 28 W g1 [.int .i64 x1, .int .i64 y1]
  a2 : Blk 28 W g2 [.int .i64 x2, .int .i64 y2]
  a3 : Blk 28 W g3 [.int .i64 x3, .int .i64 y3]
theorem L1.keep {W W' : World} {g0 g1 g2 g3 : Nat} {v : Int} {A : Option Addr} {n c : Nat} {x1 y1 x2 y2 x3 y3 : Int} (h : L1 W g0 g1 g2 g3 v A n c x1 y1 x2 y2 x3 y3) (hb : Below W.heap.size W W') : L1 W' g0 g1 g2 g3 v A n c x1 y1 x2 y2 x3 y3 :=
  ⟨h.f.keep hb, h.a1.keep hb, h.a2.keep hb, h.a3.keep hb⟩
theorem L1.facts {W : World} {g0 g1 g2 g3 : Nat} {v : Int} {A : Option Addr} {n c : Nat} {x1 y1 x2 y2 x3 y3 : Int} (h : L1 W g0 g1 g2 g3 v A n c x1 y1 x2 y2 x3 y3) :
    W.cell? ⟨g0, 0, none⟩ = some (.int .i64 v) ∧ W.cell? ⟨g0, 1, none⟩ = some (.slice A n c) ∧ W.cell? ⟨g1, 0, none⟩ = some (.int .i64 x1) ∧ W.cell? ⟨g1, 1, none⟩ = some (.int .i64 y1) ∧
    W.cell? ⟨g2, 0, none⟩ = some (.int .i64 x2) ∧ W.cell? ⟨g2, 1, none⟩ = some (.int .i64 y2) ∧ W.cell? ⟨g3, 0, none⟩ = some (.int .i64 x3) ∧ W.cell? ⟨g3, 1, none⟩ = some (.int .i64 y3) :=
  ⟨h.f.cell 0, h.f.cell 1, h.a1.cell 0, h.a1.cell 1, h.a2.cell 0, h.a2.cell 1, h.a3.cell 0, h.a3.cell 1⟩

theorem CnfFault_at {v : Int} {cs : List (List Int)} {ec ei : Int} (he : cnfFault v cs = (ec, ei)) (A : Option Addr) (n c : Nat) (w : World) (h : Rd (Enc.sl Enc.int) w A n c cs) :
    Calls Try.prog 7 #[.agg #[.int .i64 v, .slice A n c]] w (Gives w (.agg #[.int .i64 ec, .int .i64 ei])) := by
  have := CnfFault_ct v A n c cs w h
  rw [he] at this
  exact this
theorem eq_self_of {x : Int} : (x == x) = true := by simp

set_option maxRecDepth 100000 in
set_option maxHeartbeats 3200000 in
theorem match_ct (v : Int) (A : Option Addr) (n c : Nat) (cs : List (List Int)) (D : Option Addr) (n1 c1 : Nat) (a : List Int) (B : Option Addr) (n' c' : Nat) (m : List Bool) (w : World) (hv1 : -9223372036854775808 ≤ v) (hv2 : v ≤ 9223372036854775807)
    (h : Rd (Enc.sl Enc.int) w A n c cs) (ha : Rd Enc.int w D n1 c1 a) (hm : Rd Enc.bool w B n' c' m) :
    Calls Try.prog 3 #[.agg #[.int .i64 v, .slice A n c], .slice D n1 c1, .slice B n' c'] w (Gives w (.bool true)) := by
  have hw1 : Below w.heap.size w (w.alloc (.cells #[.int .i64 v, .slice A n c] 24)) := (Below.refl _ _).alloc (Nat.le_refl _) _
  have Hw1 := hide hw1
  have HB1 := hide (Blk.new w 24 [.int .i64 v, .slice A n c])
  clear hw1
  rcases hf : cnfFault v cs with ⟨ec, ei⟩
  rcases hp : propF v cs a with ⟨l, ok, ec1, ei1⟩
  rcases hr : holdsR v cs m with ⟨hb, ec2, ei2⟩
  have Hf := hide hf
  have Hp := hide hp
  have Hr := hide hr
  clear hf hp hr
  go_enter Try.func3, Try.ntmps3
  go_wp2_with fail
  refine (CnfFault_at Hf.out A n c _ (h.keep Hw1.out)).mono ?_
  rintro e w1 ⟨rfl, hb1⟩
  have hal1 : Below w1.heap.size w1 (w1.alloc (.cells #[.int .i64 ec, .int .i64 ei] 28)) := (Below.refl _ _).alloc (Nat.le_refl _) _
  have HA1 := hide (Blk.new w1 28 [.int .i64 ec, .int .i64 ei])
  have Hw2 := hide ((Hw1.out.trans (hb1.mono Hw1.out.size)).trans (hal1.mono (Nat.le_trans Hw1.out.size hb1.size)))
  have HB2 := hide ((HB1.out.keep hb1).keep hal1)
  have hz1 : w.heap.size < w1.heap.size := (HB1.out.keep hb1).lt
  obtain ⟨hc1, hc2⟩ := (HB1.out.keep hb1).cell2
  clear hb1 HB1 Hw1 hal1
  go_wp2_with fail
  have hct := Propagate_ct v A D n c n1 c1 cs a _ hv1 hv2 (h.keep Hw2.out) (ha.keep Hw2.out)
  rw [Hp.out] at hct
  refine hct.mono ?_
  clear hct hc1 hc2
  rintro e w2 ⟨hb2, L, ln, lc, rfl, hrl⟩
  have hal2 : Below w2.heap.size w2 (w2.alloc (.cells #[.int .i64 ec1, .int .i64 ei1] 28)) := (Below.refl _ _).alloc (Nat.le_refl _) _
  have HA2 := hide (Blk.new w2 28 [.int .i64 ec1, .int .i64 ei1])
  have Hw3 := hide ((Hw2.out.trans (hb2.mono Hw2.out.size)).trans (hal2.mono (Nat.le_trans Hw2.out.size hb2.size)))
  have HA1' := hide ((HA1.out.keep hb2).keep hal2)
  have HB3 := hide ((HB2.out.keep hb2).keep hal2)
  have Hrl := hide (hrl.keep hal2)
  have Hll := hide hrl.len
  have hz2 : w.heap.size < w2.heap.size := (HB2.out.keep hb2).lt
  obtain ⟨hc1, hc2⟩ := (HB2.out.keep hb2).cell2
  clear hb2 HB2 Hw2 hal2 HA1 hrl
  go_wp2_with fail
  have hct := Holds_ct v A B n c n' c' cs m _ hv1 hv2 (h.keep Hw3.out) (hm.keep Hw3.out)
  rw [Hr.out] at hct
  refine hct.mono ?_
  clear hct hc1 hc2
  rintro e w3 ⟨rfl, hb3⟩
  unfold holdsV
  have hal3 : Below w3.heap.size w3 (w3.alloc (.cells #[.int .i64 ec2, .int .i64 ei2] 28)) := (Below.refl _ _).alloc (Nat.le_refl _) _
  have hb4 := hb3.trans (hal3.mono hb3.size)
  have HW := hide (Hw3.out.trans (hb4.mono Hw3.out.size))
  have HL := hide (L1.mk (HB3.out.keep hb4) (HA1'.out.keep hb4) (HA2.out.keep hb4) (Blk.new w3 28 [.int .i64 ec2, .int .i64 ei2]))
  have HlW := hide (Hrl.out.keep hb4)
  clear hb3 hb4 hal3 HB3 HA1' HA2 Hw3 Hrl
  go_wp2_with fail
  generalize w3.alloc (.cells #[.int .i64 ec2, .int .i64 ei2] 28) = W at *
  obtain ⟨hc1, hc2, hc3, hc4, hc5, hc6, hc7, hc8⟩ := HL.out.facts
  go_cut [38] (fun s38 wc => s38 = .bool false ∧ Below W.heap.size W wc)
  case first =>
    go_region_held3 (fun w' => w'.cell? ⟨w.heap.size, 0, none⟩ = some (.int .i64 v) ∧ w'.cell? ⟨w.heap.size, 1, none⟩ = some (.slice A n c) ∧ w'.cell? ⟨w1.heap.size, 0, none⟩ = some (.int .i64 ec) ∧ w'.cell? ⟨w1.heap.size, 1, none⟩ = some (.int .i64 ei)) (first | go_keep) (first
      | (go_at_call 10
         refine (example_ct _).mono ?_
         rintro e wq ⟨rfl, hbq⟩
         have hbW := (Below.refl W.heap.size W).drew.trans hbq
         obtain ⟨hk1, hk2, hk3, hk4, _, _, _, _⟩ := (HL.out.keep hbW).facts)
      | (go_at_call 11
         refine (Validate_at Hf.out _ _ _ _ hv1 hv2 (by exact h.keep (HW.out.trans (hbW.mono HW.out.size)))).mono ?_
         rintro e wr ⟨rfl, hbr⟩
         have hbX := hbW.trans (hbr.mono hbW.size)
         obtain ⟨hl1, hl2, hl3, hl4, _, _, _, _⟩ := (HL.out.keep hbX).facts))
    go_wp2_with fail
    go_meet
    exact ⟨rfl, hbX⟩
  case rest =>
    obtain ⟨V, rfl⟩ : ∃ V, V = wc := ⟨_, rfl⟩
    obtain ⟨rfl, hbw⟩ := hcut
    have HLc := hide (HL.out.keep hbw)
    have Hwc := hide (HW.out.trans (hbw.mono HW.out.size))
    have HlC := hide (HlW.out.keep hbw)
    clear hc1 hc2 hc3 hc4 hc5 hc6 hc7 hc8 hbw HL HW HlW
    obtain ⟨hc1, hc2, hc3, hc4, hc5, hc6, hc7, hc8⟩ := HLc.out.facts
    by_cases hec : ec = 0
    · have hfz := cnfFault_zero (v := v) (cs := cs) (by rw [Hf.out]; exact hec)
      rw [Hf.out] at hfz
      simp only [Prod.mk.injEq] at hfz
      obtain ⟨rfl, rfl⟩ := hfz
      clear hec
      have hok := (cnfFault_ok (v := v) (cs := cs)).1 (by rw [Hf.out])
      obtain ⟨q, rfl⟩ : ∃ q : Nat, v = (q : Int) := ⟨v.toNat, by omega⟩
      have hq80 : q ≤ 80 := by omega
      have hcode : propF (q : Int) cs a = if clauseCode (q : Int) none a ≠ 0 then ([], false, clauseCode (q : Int) none a, -2) else ((propR q cs a).getD [], (propR q cs a).isSome, 0, 0) := by
        rw [propF, if_neg (by rw [Hf.out]; simp), Int.toNat_natCast]
      rw [Hp.out] at hcode
      have Hcode := hide hcode
      have Hok := hide hok
      clear hcode hok Hp
      by_cases hml : n' = q
      · subst hml
        have hr : (hb, ec2, ei2) = (trueAll cs m, 0, 0) := by
          rw [← Hr.out, holdsR, if_neg (by rw [Hf.out]; simp), if_neg (by rw [hm.len]; simp)]
        simp only [Prod.mk.injEq] at hr
        obtain ⟨rfl, rfl, rfl⟩ := hr
        clear Hr
        go_wp2_with fail
        refine (Satisfies_ct A B n c n' c' cs m _ (h.keep Hwc.out) (hm.keep Hwc.out) (by omega) (fun l hl => code_fits (Hok.out.2.2 l hl))).mono ?_
        rintro e wd ⟨rfl, hwd⟩
        have HLd := hwd ▸ HLc.out
        have Hwd := hwd ▸ Hwc.out
        have HlD := hwd ▸ HlC.out
        clear hc1 hc2 hc3 hc4 hc5 hc6 hc7 hc8 hwd HLc Hwc HlC
        obtain ⟨hc1, hc2, hc3, hc4, hc5, hc6, hc7, hc8⟩ := HLd.facts
        go_wp2_with fail
        refine (ClauseCode_ct D n1 c1 (n' : Int) a _ (ha.keep Hwd) (by omega) (by omega)).mono ?_
        rintro e wx ⟨rfl, d, rfl⟩
        by_cases hcd : clauseCode (n' : Int) none a = 0
        · have hpf := Hcode.out
          rw [if_neg (by simpa using hcd)] at hpf
          simp only [Prod.mk.injEq] at hpf
          obtain ⟨p1, p2, p3, p4⟩ := hpf
          subst p3 p4
          rw [hcd]
          have hf0 : (cnfFault (n' : Int) cs).1 = 0 := by rw [Hf.out]
          obtain ⟨k1, k2⟩ := units_prop hf0 hcd
          have hn1 : n1 ≤ 1000 := by have := code_len hcd; have := ha.len; omega
          have Hhf := hide (fun (x : List Int) (hx : x ∈ cs) => code_fits (Hok.out.2.2 x hx))
          have hwe := below_drewN Hwd d
          cases hpr : propR n' cs a with
          | none =>
            rw [hpr] at p1 p2
            obtain rfl : l = [] := p1
            obtain rfl : ok = false := p2
            obtain rfl : ln = 0 := by have := Hll.out; simpa using this.symm
            have hu := k1 hpr
            clear hpr k1 k2 hcd Hcode hf0
            go_wp2_with fail
            refine (Units_ct n' A n c cs (by omega) Hhf.out (n' + 2) D n1 c1 a none _ (h.keep hwe) (ha.keep hwe) (by omega) hu).mono ?_
            rintro e wy ⟨hby, hres⟩
            rcases hres with ⟨_, rfl⟩ | ⟨_, _, _, _, hno, _⟩
            · obtain ⟨hd1, hd2, hd3, hd4, hd5, hd6, hd7, hd8⟩ := (HLd.keep ((Qt.refl wd).drewN d |>.below _) |>.keep hby).facts
              have hwy := hwe.trans (hby.mono hwe.size)
              clear hc1 hc2 hc3 hc4 hc5 hc6 hc7 hc8 hby
              go_wp2
              go_ret
              exact ⟨rfl, hwy⟩
            · cases hno
          | some l' =>
            rw [hpr] at p1 p2
            obtain rfl : l = l' := p1
            obtain rfl : ok = true := p2
            obtain ⟨kn, hu, hbv⟩ := k2 l hpr
            have Hbv := hide hbv
            have Hlf := hide (prop_fits hf0 hcd hpr)
            clear hbv
            clear hpr k1 k2 hcd Hcode hf0
            go_wp2_with fail
            refine (Units_ct n' A n c cs (by omega) Hhf.out (n' + 2) D n1 c1 a (some kn) _ (h.keep hwe) (ha.keep hwe) (by omega) hu).mono ?_
            rintro e wy ⟨hby, hres⟩
            rcases hres with ⟨hno, _⟩ | ⟨kn', K, kl, kc, hk, rfl, hrk⟩
            · cases hno
            · obtain rfl : kn = kn' := by injection hk
              have HLy := hide (HLd.keep ((Qt.refl wd).drewN d |>.below _) |>.keep hby)
              obtain ⟨hd1, hd2, hd3, hd4, hd5, hd6, hd7, hd8⟩ := HLy.out.facts
              have hwy := hwe.trans (hby.mono hwe.size)
              have hly := (HlD.qt ⟨d, rfl⟩).keep hby
              have hgz := HLy.out.f.lt
              clear hc1 hc2 hc3 hc4 hc5 hc6 hc7 hc8 hby hk
              go_wp2_with fail
              have hbc := ByVariable_ct K kl kc kn n' _ hrk (by omega)
              rw [Hbv.out] at hbc
              refine hbc.mono ?_
              clear hbc
              rintro e wz ⟨hbz, O, oc, rfl, hown⟩
              have hbr : ∀ x ∈ l, -9223372036854775808 ≤ x ∧ x ≤ 9223372036854775807 := fun x hx => by have := Hlf.out x hx; unfold Fits at this; omega
              have ho := own_rd hown rfl hbr
              have hlz := hly.keep hbz
              have hwz := hwy.trans (hbz.mono hwy.size)
              clear hd1 hd2 hd3 hd4 hd5 hd6 hd7 hd8 hown
              go_wp2_with fail
              refine (Ints_ct L O ln lc l.length oc l l _ hlz ho).mono ?_
              rintro e wz2 ⟨rfl, d2, rfl⟩
              rw [show intsB l l = true from by simp [intsB]]
              go_wp2
              go_ret
              exact ⟨rfl, below_drewN hwz d2⟩
        · have hpf := Hcode.out
          rw [if_pos hcd] at hpf
          simp only [Prod.mk.injEq] at hpf
          obtain ⟨rfl, rfl, rfl, rfl⟩ := hpf
          obtain rfl : ln = 0 := by have := Hll.out; simpa using this.symm
          generalize clauseCode (n' : Int) none a = code at *
          have hne : (code != 0) = true := by simpa using hcd
          go_wp2_with fail
          go_cut [6] (fun s6 we => s6 = .bool true ∧ Below wd.heap.size wd we)
          case first =>
            go_region_held3 (fun w' => w'.cell? ⟨w2.heap.size, 0, none⟩ = some (.int .i64 code) ∧ w'.cell? ⟨w2.heap.size, 1, none⟩ = some (.int .i64 (-2))) (first | go_keep) (first
              | (go_at_call 12
                 refine (At_ct _ _ _).mono ?_
                 rintro e wq ⟨rfl, hbq⟩
                 unfold fault
                 have hbW := (below_drewN (Below.refl wd.heap.size wd) _).trans hbq
                 obtain ⟨_, _, _, _, hk5, hk6, _, _⟩ := (HLd.keep hbW).facts))
            go_wp2_with fail
            go_meet
            exact ⟨rfl, hbW⟩
          case rest =>
            obtain ⟨rfl, hbw⟩ := hcut
            go_wp2
            go_ret
            exact ⟨rfl, Hwd.trans (hbw.mono Hwd.size)⟩
      · have hr : (hb, ec2, ei2) = (false, 9, -2) := by
          rw [← Hr.out, holdsR, if_neg (by rw [Hf.out]; simp), if_pos (by rw [hm.len]; omega)]
        simp only [Prod.mk.injEq] at hr
        obtain ⟨rfl, rfl, rfl⟩ := hr
        clear Hr
        have hne : ((n' : Int) != (q : Int)) = true := by rw [bne_iff_ne]; omega
        go_wp2_with fail
        go_cut [73] (fun s73 wd => s73 = .bool false ∧ Below V.heap.size V wd)
        case first =>
          go_region_held3 (fun w' => w'.cell? ⟨w3.heap.size, 0, none⟩ = some (.int .i64 9) ∧ w'.cell? ⟨w3.heap.size, 1, none⟩ = some (.int .i64 (-2))) (first | go_keep) (first
            | (go_at_call 12
               refine (At_ct _ _ _).mono ?_
               rintro e wq ⟨rfl, hbq⟩
               unfold fault
               have hbW := (Below.refl V.heap.size V).drew.trans hbq
               obtain ⟨_, _, _, _, _, _, hk1, hk2⟩ := (HLc.out.keep hbW).facts))
          go_wp2_with fail
          go_meet
          exact ⟨rfl, hbW⟩
        case rest =>
          obtain ⟨wd, rfl⟩ : ∃ wd, wd = wc := ⟨_, rfl⟩
          obtain ⟨rfl, hbw⟩ := hcut
          have HLd := HLc.out.keep hbw
          have Hwd := Hwc.out.trans (hbw.mono Hwc.out.size)
          have HlD := HlC.out.keep hbw
          clear hc1 hc2 hc3 hc4 hc5 hc6 hc7 hc8 hbw HLc Hwc HlC
          obtain ⟨hc1, hc2, hc3, hc4, hc5, hc6, hc7, hc8⟩ := HLd.facts
          go_wp2_with fail
          refine (ClauseCode_ct D n1 c1 (q : Int) a _ (ha.keep Hwd) (by omega) (by omega)).mono ?_
          rintro e wx ⟨rfl, d, rfl⟩
          by_cases hcd : clauseCode (q : Int) none a = 0
          · have hpf := Hcode.out
            rw [if_neg (by simpa using hcd)] at hpf
            simp only [Prod.mk.injEq] at hpf
            obtain ⟨p1, p2, p3, p4⟩ := hpf
            subst p3 p4
            rw [hcd]
            have hf0 : (cnfFault (q : Int) cs).1 = 0 := by rw [Hf.out]
            obtain ⟨k1, k2⟩ := units_prop hf0 hcd
            have hn1 : n1 ≤ 1000 := by have := code_len hcd; have := ha.len; omega
            have Hhf := hide (fun (x : List Int) (hx : x ∈ cs) => code_fits (Hok.out.2.2 x hx))
            have hwe := below_drewN Hwd d
            cases hpr : propR q cs a with
            | none =>
              rw [hpr] at p1 p2
              obtain rfl : l = [] := p1
              obtain rfl : ok = false := p2
              obtain rfl : ln = 0 := by have := Hll.out; simpa using this.symm
              have hu := k1 hpr
              clear hpr k1 k2 hcd Hcode hf0
              go_wp2_with fail
              refine (Units_ct q A n c cs (by omega) Hhf.out (q + 2) D n1 c1 a none _ (h.keep hwe) (ha.keep hwe) (by omega) hu).mono ?_
              rintro e wy ⟨hby, hres⟩
              rcases hres with ⟨_, rfl⟩ | ⟨_, _, _, _, hno, _⟩
              · obtain ⟨hd1, hd2, hd3, hd4, hd5, hd6, hd7, hd8⟩ := (HLd.keep ((Qt.refl wd).drewN d |>.below _) |>.keep hby).facts
                have hwy := hwe.trans (hby.mono hwe.size)
                clear hc1 hc2 hc3 hc4 hc5 hc6 hc7 hc8 hby
                go_wp2
                go_ret
                exact ⟨rfl, hwy⟩
              · cases hno
            | some l' =>
              rw [hpr] at p1 p2
              obtain rfl : l = l' := p1
              obtain rfl : ok = true := p2
              obtain ⟨kn, hu, hbv⟩ := k2 l hpr
              have Hbv := hide hbv
              have Hlf := hide (prop_fits hf0 hcd hpr)
              clear hbv
              clear hpr k1 k2 hcd Hcode hf0
              go_wp2_with fail
              refine (Units_ct q A n c cs (by omega) Hhf.out (q + 2) D n1 c1 a (some kn) _ (h.keep hwe) (ha.keep hwe) (by omega) hu).mono ?_
              rintro e wy ⟨hby, hres⟩
              rcases hres with ⟨hno, _⟩ | ⟨kn', K, kl, kc, hk, rfl, hrk⟩
              · cases hno
              · obtain rfl : kn = kn' := by injection hk
                have HLy := hide (HLd.keep ((Qt.refl wd).drewN d |>.below _) |>.keep hby)
                obtain ⟨hd1, hd2, hd3, hd4, hd5, hd6, hd7, hd8⟩ := HLy.out.facts
                have hwy := hwe.trans (hby.mono hwe.size)
                have hly := (HlD.qt ⟨d, rfl⟩).keep hby
                have hgz := HLy.out.f.lt
                clear hc1 hc2 hc3 hc4 hc5 hc6 hc7 hc8 hby hk
                go_wp2_with fail
                have hbc := ByVariable_ct K kl kc kn q _ hrk (by omega)
                rw [Hbv.out] at hbc
                refine hbc.mono ?_
                clear hbc
                rintro e wz ⟨hbz, O, oc, rfl, hown⟩
                have hbr : ∀ x ∈ l, -9223372036854775808 ≤ x ∧ x ≤ 9223372036854775807 := fun x hx => by have := Hlf.out x hx; unfold Fits at this; omega
                have ho := own_rd hown rfl hbr
                have hlz := hly.keep hbz
                have hwz := hwy.trans (hbz.mono hwy.size)
                clear hd1 hd2 hd3 hd4 hd5 hd6 hd7 hd8 hown
                go_wp2_with fail
                refine (Ints_ct L O ln lc l.length oc l l _ hlz ho).mono ?_
                rintro e wz2 ⟨rfl, d2, rfl⟩
                rw [show intsB l l = true from by simp [intsB]]
                go_wp2
                go_ret
                exact ⟨rfl, below_drewN hwz d2⟩
          · have hpf := Hcode.out
            rw [if_pos hcd] at hpf
            simp only [Prod.mk.injEq] at hpf
            obtain ⟨rfl, rfl, rfl, rfl⟩ := hpf
            obtain rfl : ln = 0 := by have := Hll.out; simpa using this.symm
            generalize clauseCode (q : Int) none a = code at *
            have hne : (code != 0) = true := by simpa using hcd
            go_wp2_with fail
            go_cut [6] (fun s6 we => s6 = .bool true ∧ Below wd.heap.size wd we)
            case first =>
              go_region_held3 (fun w' => w'.cell? ⟨w2.heap.size, 0, none⟩ = some (.int .i64 code) ∧ w'.cell? ⟨w2.heap.size, 1, none⟩ = some (.int .i64 (-2))) (first | go_keep) (first
                | (go_at_call 12
                   refine (At_ct _ _ _).mono ?_
                   rintro e wq ⟨rfl, hbq⟩
                   unfold fault
                   have hbW := (below_drewN (Below.refl wd.heap.size wd) _).trans hbq
                   obtain ⟨_, _, _, _, hk5, hk6, _, _⟩ := (HLd.keep hbW).facts))
              go_wp2_with fail
              go_meet
              exact ⟨rfl, hbW⟩
            case rest =>
              obtain ⟨rfl, hbw⟩ := hcut
              go_wp2
              go_ret
              exact ⟨rfl, Hwd.trans (hbw.mono Hwd.size)⟩
    · have hne : (ec != 0) = true := by simpa using hec
      have hpe : propF v cs a = ([], false, ec, ei) := by rw [propF, Hf.out, if_pos hec]
      have hre : holdsR v cs m = (false, ec, ei) := by rw [holdsR, Hf.out, if_pos hec]
      rw [Hp.out] at hpe
      rw [Hr.out] at hre
      simp only [Prod.mk.injEq] at hpe hre
      obtain ⟨rfl, rfl, rfl, rfl⟩ := hpe
      obtain ⟨rfl, rfl, rfl⟩ := hre
      obtain rfl : ln = 0 := by have := Hll.out; simpa using this.symm
      clear Hp Hr
      go_wp2
      go_ret
      exact ⟨rfl, Hwc.out⟩
end Go.Proofs.Ytmhcbadggmhopaa
