/- ClausesPropagateIsClosure: the plain law and the walk of the law. -/
import Derived.Test.YtmhcbadggmhopaaClLaws
import Derived.Test.YtmhcbadggmhopaaClPure2
namespace Go.Proofs.Ytmhcbadggmhopaa
open Go.RowKit

theorem lits_code {v : Int} {vals : List Int} (ht : Tri vals) : ∀ {u : Nat} {p : Option Int}, 1 ≤ u → (u : Int) + vals.length ≤ v + 1 → (∀ y, p = some y → litVar y < u) → clauseCode v p (litsFrom u vals) = 0 := by
  induction vals with
  | nil => intro u p _ _ _; exact clauseCode_nil v p
  | cons y ys ih =>
    intro u p hu hl hp
    have ht' : Tri ys := fun z hz => ht z (List.mem_cons_of_mem _ hz)
    have hy := ht y List.mem_cons_self
    simp only [List.length_cons, Int.natCast_add, Int.natCast_one] at hl
    unfold litsFrom
    by_cases h0 : y = 0
    · rw [if_pos h0]
      exact ih ht' (by omega) (by omega) (fun z hz => by have := hp z hz; omega)
    · rw [if_neg h0]
      have hx : ∃ x : Int, x = (u : Int) * y ∧ litVar x = u ∧ ¬ (x = 0 ∨ x < -v ∨ v < x) := by
        refine ⟨_, rfl, ?_, ?_⟩ <;> (try unfold litVar) <;> rcases hy with rfl | rfl | rfl <;> omega
      obtain ⟨x, hxe, hxv, hxb⟩ := hx
      rw [← hxe]
      have hrest := ih ht' (u := u + 1) (p := some x) (by omega) (by simp only [Int.natCast_add, Int.natCast_one]; omega) (fun z hz => by injection hz with hz; subst hz; omega)
      cases p with
      | none => rw [clauseCode_first _ hxb]; exact hrest
      | some q =>
        rw [clauseCode_next _ hxb (by have := hp q rfl; omega)]
        exact hrest
theorem lits_ext {vals vals' : List Int} (ht : Tri vals) (ht' : Tri vals') (hl : vals.length = vals'.length) (h : ∀ x, Lit vals x ↔ Lit vals' x) : litsOf vals = litsOf vals' := by
  have hd : vals.drop 1 = vals'.drop 1 := by
    apply List.ext_getElem?
    intro i
    rw [List.getElem?_drop, List.getElem?_drop]
    have key : ∀ {us : List Int}, Tri us → (hi : 1 + i < us.length) → us[1 + i]? = some (valOf us ((i : Int) + 1)) := by
      intro us _ hi
      have e : (litVar ((i : Int) + 1)).toNat = 1 + i := by unfold litVar; omega
      rw [valOf, e, List.getD_eq_getElem?_getD, List.getElem?_eq_getElem hi]
      rfl
    by_cases hi : 1 + i < vals.length
    · rw [key ht hi, key ht' (by omega)]
      have hx : ((i : Int) + 1) ≠ 0 := by omega
      have hs : sgn ((i : Int) + 1) = 1 := by unfold sgn; rw [if_neg (by omega)]
      have hval : ∀ {us : List Int}, Tri us → (valOf us ((i : Int) + 1) = 1 ↔ Lit us ((i : Int) + 1)) ∧ (valOf us ((i : Int) + 1) = -1 ↔ Lit us (-((i : Int) + 1))) := by
        intro us _
        unfold Lit
        rw [valOf_neg, sgn_neg hx, hs]
        exact ⟨⟨fun h => ⟨hx, h⟩, fun h => h.2⟩, ⟨fun h => ⟨by omega, h⟩, fun h => h.2⟩⟩
      obtain ⟨a1, a2⟩ := hval ht
      obtain ⟨b1, b2⟩ := hval ht'
      have c1 := (a1.trans (h _)).trans b1.symm
      have c2 := (a2.trans (h _)).trans b2.symm
      rcases ht.val ((i : Int) + 1) with e | e | e <;> rcases ht'.val ((i : Int) + 1) with e' | e' | e' <;> rw [e, e'] at c1 c2 ⊢ <;> simp at c1 c2
    · rw [List.getElem?_eq_none (by omega), List.getElem?_eq_none (by omega)]
  rw [litsOf, litsOf, hd]

theorem closure_law {v : Nat} {cs : List (List Int)} {a l : List Int} (hcs : (cnfFault v cs).1 = 0) (ha : clauseCode v none a = 0) (hp : propR v cs a = some l) :
    clauseCode v none l = 0 ∧ propR v cs l = some l ∧ subsetB a l = true ∧
    ∀ b l2, clauseCode v none b = 0 → propR v cs b = some l2 → subsetB a b = true → subsetB l l2 = true := by
  obtain ⟨_, s2⟩ := prop_spec hcs ha
  obtain ⟨vals, rfl, ht, hl, hleast⟩ := s2 l hp
  have hcode : clauseCode (v : Int) none (litsOf vals) = 0 := lits_code (fun z hz => ht z (List.mem_of_mem_drop hz)) (Nat.le_refl 1) (by rw [List.length_drop]; omega) (fun y hy => by cases hy)
  refine ⟨hcode, ?_, ?_, ?_⟩
  · obtain ⟨t1, t2⟩ := prop_spec hcs hcode
    cases hq : propR v cs (litsOf vals) with
    | none => exact absurd (fun x hx => (litsOf_mem ht x).1 hx) (t1 hq _ hleast.good)
    | some l3 =>
      obtain ⟨vals3, rfl, ht3, hl3, hleast3⟩ := t2 l3 hq
      congr 1
      refine lits_ext ht3 ht (by omega) (fun x => ⟨hleast3.least _ hleast.good (fun y hy => (litsOf_mem ht y).1 hy) x, fun hx => hleast3.has x ((litsOf_mem ht x).2 hx)⟩)
  · rw [subsetB, List.all_eq_true]
    exact fun x hx => hasB_iff.2 ((litsOf_mem ht x).2 (hleast.has x hx))
  · intro b l2 hb hq hab
    obtain ⟨_, t2⟩ := prop_spec hcs hb
    obtain ⟨vals2, rfl, ht2, hl2, hleast2⟩ := t2 l2 hq
    rw [subsetB, List.all_eq_true] at hab ⊢
    intro x hx
    refine hasB_iff.2 ((litsOf_mem ht2 x).2 (hleast.least _ hleast2.good (fun y hy => hleast2.has y (hasB_iff.1 (hab y hy))) x ((litsOf_mem ht x).1 hx)))

set_option maxHeartbeats 3200000 in
theorem closure_ct (v : Int) (A : Option Addr) (n c : Nat) (cs : List (List Int)) (D : Option Addr) (n1 c1 : Nat) (a : List Int) (B : Option Addr) (n' c' : Nat) (b : List Int) (w : World) (hv1 : -9223372036854775808 ≤ v) (hv2 : v ≤ 9223372036854775807)
    (h : Rd (Enc.sl Enc.int) w A n c cs) (ha : Rd Enc.int w D n1 c1 a) (hm : Rd Enc.int w B n' c' b) :
    Calls Try.prog 4 #[.agg #[.int .i64 v, .slice A n c], .slice D n1 c1, .slice B n' c'] w (Gives w (.bool true)) := by
  have hw1 : Below w.heap.size w (w.alloc (.cells #[.int .i64 v, .slice A n c] 24)) := (Below.refl _ _).alloc (Nat.le_refl _) _
  have Hw1 := hide hw1
  have HB1 := hide (Blk.new w 24 [.int .i64 v, .slice A n c])
  clear hw1
  rcases hp : propF v cs a with ⟨l, ok, ec, ei⟩
  rcases hp2 : propF v cs b with ⟨l2, ok2, ec2, ei2⟩
  have Hp := hide hp
  have Hp2 := hide hp2
  clear hp hp2
  go_enter Try.func4, Try.ntmps4
  go_wp2_with fail
  refine (example_ct _).mono ?_
  rintro e w1 ⟨rfl, hb1⟩
  have Hw2 := hide (Hw1.out.trans (hb1.mono Hw1.out.size))
  have HB2 := hide (HB1.out.keep hb1)
  have hz1 := HB2.out.lt
  obtain ⟨hc1, hc2⟩ := HB2.out.cell2
  clear hb1 HB1 Hw1
  go_wp2_with fail
  have hct := Propagate_ct v A D n c n1 c1 cs a w1 hv1 hv2 (h.keep Hw2.out) (ha.keep Hw2.out)
  rw [Hp.out] at hct
  refine hct.mono ?_
  clear hct
  rintro e w2 ⟨hb2, L, ln, lc, rfl, hrl⟩
  have hal : Below w2.heap.size w2 (w2.alloc (.cells #[.int .i64 ec, .int .i64 ei] 28)) := (Below.refl _ _).alloc (Nat.le_refl _) _
  have Hw3 := hide ((Hw2.out.trans (hb2.mono Hw2.out.size)).trans (hal.mono (Nat.le_trans Hw2.out.size hb2.size)))
  have HB3 := hide ((HB2.out.keep hb2).keep hal)
  have Hrl := hide (hrl.keep hal)
  have hz2 : w.heap.size < w2.heap.size := (HB2.out.keep hb2).lt
  obtain ⟨hc3, hc4⟩ := (HB2.out.keep hb2).cell2
  have Hll := hide hrl.len
  clear hb2 HB2 Hw2 hal hrl hz1 hc1 hc2
  by_cases hec : ec = 0
  · obtain ⟨q, hvq, hcf, hcode, hpf⟩ := propF_ok (v := v) (cs := cs) (a := a) (by rw [Hp.out]; exact hec)
    rw [Hp.out] at hpf
    simp only [Prod.mk.injEq] at hpf
    obtain ⟨e1, e2, e3, e4⟩ := hpf
    subst hec
    cases hpr : propR q cs a with
    | none =>
      rw [hpr] at e1 e2
      obtain rfl : l = [] := e1
      obtain rfl : ok = false := e2
      obtain rfl : ln = 0 := by have := Hll.out; simpa using this.symm
      clear hvq hcf hcode e3 e4 hpr
      go_wp2
      go_ret
      exact ⟨rfl, Hw3.out⟩
    | some l' =>
      rw [hpr] at e1 e2
      obtain rfl : l = l' := e1
      obtain rfl : ok = true := e2
      subst hvq
      obtain ⟨k1, k2, k3, k4⟩ := closure_law hcf hcode hpr
      have hpf2 : propF (q : Int) cs l = (l, true, 0, 0) := by
        rw [propF, if_neg (by simpa using hcf), if_neg (by simpa using k1), Int.toNat_natCast, k2]
        rfl
      have Hpf2 := hide hpf2
      have K3 := hide k3
      have Hmore := hide (fun (h0 : ec2 = 0) (h1 : ok2 = true) (h2 : subsetB a b = true) => show subsetB l l2 = true by
        obtain ⟨q', hq', hcf', hcode', hpf'⟩ := propF_ok (v := (q : Int)) (cs := cs) (a := b) (by rw [Hp2.out]; exact h0)
        have hqq : q' = q := by omega
        subst hqq
        rw [Hp2.out] at hpf'
        simp only [Prod.mk.injEq] at hpf'
        obtain ⟨f1, f2, _, _⟩ := hpf'
        cases hpr2 : propR q' cs b with
        | none => rw [hpr2, h1] at f2; cases f2
        | some l3 =>
          rw [hpr2] at f1
          obtain rfl : l2 = l3 := f1
          exact k4 b l2 hcode' hpr2 h2)
      clear e3 e4 hpr hcf hcode k1 k2 k3 k4 hpf2
      go_wp2_with fail
      have hct := Propagate_ct (q : Int) A L n c ln lc cs l _ hv1 hv2 (h.keep Hw3.out) Hrl.out
      rw [Hpf2.out] at hct
      refine hct.mono ?_
      clear hct hc3 hc4
      rintro e w3 ⟨hb3, Y, yn, yc, rfl, hry⟩
      have hal : Below w3.heap.size w3 (w3.alloc (.cells #[.int .i64 0, .int .i64 0] 28)) := (Below.refl _ _).alloc (Nat.le_refl _) _
      have hb4 := hb3.trans (hal.mono hb3.size)
      have Hw4 := hide (Hw3.out.trans (hb4.mono Hw3.out.size))
      have HB4 := hide (HB3.out.keep hb4)
      have Hrl4 := hide (Hrl.out.keep hb4)
      have Hry := hide (hry.keep hal)
      obtain ⟨hc1, hc2⟩ := (HB3.out.keep hb3).cell2
      have hz3 : w.heap.size < w3.heap.size := (HB3.out.keep hb3).lt
      clear hb3 hb4 hal hry HB3 Hw3 Hrl
      go_wp2_with fail
      refine (Ints_ct L Y ln lc yn yc l l _ Hrl4.out Hry.out).mono ?_
      rintro e w4 ⟨rfl, d1, rfl⟩
      rw [show intsB l l = true from by simp [intsB]]
      go_wp2_with fail
      refine (Subset_ct D L n1 c1 ln lc a l _ (ha.keep (below_drewN Hw4.out d1)) (Hrl4.out.qt ⟨d1, rfl⟩)).mono ?_
      rintro e w4 ⟨rfl, d2, rfl⟩
      rw [K3.out]
      go_wp2_with fail
      have hwd := below_drewN Hw4.out (d1 + d2)
      have hrl5 := Hrl4.out.qt ⟨d1 + d2, rfl⟩
      have hct := Propagate_ct (q : Int) A B n c n' c' cs b _ hv1 hv2 (h.keep hwd) (hm.keep hwd)
      rw [Hp2.out] at hct
      refine hct.mono ?_
      clear hct hc1 hc2
      rintro e w5 ⟨hb5, Z, zn, zc, rfl, hrz⟩
      have hal : Below w5.heap.size w5 (w5.alloc (.cells #[.int .i64 ec2, .int .i64 ei2] 28)) := (Below.refl _ _).alloc (Nat.le_refl _) _
      have hb6 := hb5.trans (hal.mono hb5.size)
      have Hw6 := hide (hwd.trans (hb6.mono hwd.size))
      have Hrl6 := hide (hrl5.keep hb6)
      have Hrz := hide (hrz.keep hal)
      clear hb5 hb6 hal hwd hrl5 hrz HB4 Hw4 Hrl4 Hry
      by_cases hec2 : ec2 = 0
      · subst hec2
        cases ok2 with
        | false =>
          go_wp2
          go_ret
          exact ⟨rfl, Hw6.out⟩
        | true =>
          go_wp2_with fail
          refine (Subset_ct D B n1 c1 n' c' a b _ (ha.keep Hw6.out) (hm.keep Hw6.out)).mono ?_
          rintro e w7 ⟨rfl, d3, rfl⟩
          cases hab : subsetB a b with
          | false =>
            go_wp2
            go_ret
            exact ⟨rfl, below_drewN Hw6.out d3⟩
          | true =>
            have hll2 := Hmore.out (by trivial) (by trivial) hab
            go_wp2_with fail
            refine (Subset_ct L Z ln lc zn zc l l2 _ (Hrl6.out.qt ⟨d3, rfl⟩) (Hrz.out.qt ⟨d3, rfl⟩)).mono ?_
            rintro e w8 ⟨rfl, d4, rfl⟩
            rw [hll2]
            go_wp2
            go_ret
            exact ⟨rfl, below_drewN Hw6.out _⟩
      · have hne : (ec2 != 0) = true := by simpa using hec2
        go_wp2
        go_ret
        exact ⟨rfl, Hw6.out⟩
  · have hne : (ec != 0) = true := by simpa using hec
    have hl0 : l = [] := by
      have := Hp.out
      unfold propF at this
      split at this
      · injection this with this _
        exact this.symm
      · split at this
        · injection this with this _
          exact this.symm
        · injection this with _ e2
          injection e2 with _ e3
          injection e3 with e3 _
          exact absurd e3.symm hec
    obtain rfl : ln = 0 := by rw [← Hll.out, hl0]; rfl
    clear hl0
    go_wp2
    go_ret
    exact ⟨rfl, Hw3.out⟩
end Go.Proofs.Ytmhcbadggmhopaa
