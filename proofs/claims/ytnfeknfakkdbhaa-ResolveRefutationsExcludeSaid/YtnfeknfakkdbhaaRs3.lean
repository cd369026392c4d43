/- The solver's propagate. -/
import Derived.Test.YtnfeknfakkdbhaaRs2
namespace Go.Proofs.Ytnfeknfakkdbhaa
set_option linter.unusedVariables false
set_option linter.unusedSimpArgs false
open Go.RowKit

/-- after a propagation: what was added, and how it ended -/
def PropP (B : Nat) (w : World) (g : Nat) (a : SA) (V : Nat) (cs ln : List (List Int)) (t0 : List Int) (starts : List Nat) (e : Ending) (w' : World) : Prop :=
  ∃ (k : Int) (O : Option Addr) (oc : Nat) (vals lev rea t : List Int), e = .returned (.int .i64 k) ∧ Below B w w' ∧ Sv B w' g { a with T := O, tc := oc } V cs ln vals lev rea t starts ∧ St V cs starts t vals lev rea ∧ t0 <+: t ∧
    ((k = -1 ∧ ∀ c ∈ cs, Calm c t) ∨ ∃ (i : Nat) (c : List Int), k = (i : Int) ∧ cs[i]? = some c ∧ ∀ y ∈ c, -y ∈ t) ∧ (Fresh cs t0 → t0.length < t.length)
theorem fresh_grown {V : Nat} {cs : List (List Int)} {starts : List Nat} {t0 t vals lev rea : List Int} (h : St V cs starts t vals lev rea) (hp : t0 <+: t) (hx : Fresh cs t → False) : Fresh cs t0 → t0.length < t.length := fun hf => by
  rcases Nat.lt_or_ge t0.length t.length with hl | hl
  · exact hl
  · have e : t0 = t := hp.eq_of_length (by have := hp.length_le; omega)
    exact (hx (e ▸ hf)).elim
set_option maxRecDepth 100000 in
set_option maxHeartbeats 3200000 in
theorem propagate_ct {B : Nat} {w : World} {g : Nat} {a : SA} {V : Nat} {cs ln : List (List Int)} {vals lev rea t0 : List Int} {starts : List Nat} (h : Sv B w g a V cs ln vals lev rea t0 starts) (hst : St V cs starts t0 vals lev rea) (hV : V ≤ 1000) :
    Calls Try.prog 101 #[.pointer (some ⟨g, 0, none⟩)] w (PropP B w g a V cs ln t0 starts) := by
  have hcl : cs.length ≤ 9223372036854775807 := by
    obtain ⟨vs, h1, _, _⟩ := h.lst
    have := own_nil_or h1
    omega
  obtain ⟨gv, gl, gr, L, lc, D, dc, T, tc, S, sc⟩ := a
  have H := hide h
  have Hst := hide hst
  clear h hst
  go_enter Try.func101, Try.ntmps101
  go_wp2_with fail
  go_loopg [3] (2 * V + 2) (fun gk s3 wr => ∃ (ag : Bool) (O : Option Addr) (oc : Nat) (vs ls rs t : List Int), s3 = .bool ag ∧ Below B w wr ∧ Sv B wr g ⟨gv, gl, gr, L, lc, D, dc, O, oc, S, sc⟩ V cs ln vs ls rs t starts ∧ St V cs starts t vs ls rs ∧ t0 <+: t ∧ (ag = false → ∀ c ∈ cs, Calm c t) ∧ 2 * (V - t.length) + (if ag = true then 1 else 0) < gk)
  case atStart =>
    refine ⟨true, T, tc, vals, lev, rea, t0, rfl, Below.refl _ _, H.out, Hst.out, List.prefix_refl _, (fun h => by cases h), ?_⟩
    rw [if_pos rfl]
    omega
  case round =>
    obtain ⟨ag, O, oc, vs, ls, rs, t, rfl, hb, hsv, hs, hpre, hcalm, hgk⟩ := hrel
    cases ag with
    | false =>
      have Hf := hide (fresh_grown hs hpre (fun hf => fresh_calm hs.inv.tr hf (hcalm rfl)))
      have Hcalm := hide (hcalm rfl)
      have Hpre := hide hpre
      have Hb := hide hb
      have Hsv := hide hsv
      have Hs := hide hs
      clear hb hsv hs hpre hcalm hgk
      go_wp2
      go_ret
      exact ⟨-1, O, oc, vs, ls, rs, t, rfl, Hb.out, Hsv.out, Hs.out, Hpre.out, .inl ⟨rfl, Hcalm.out⟩, Hf.out⟩
    | true =>
      rw [if_pos rfl] at hgk
      obtain ⟨gk, rfl⟩ : ∃ j, gk = j + 1 := ⟨gk - 1, by omega⟩
      obtain ⟨f0, f1, f2, f3, f4, f5, f6, f7⟩ := hsv.facts
      have Hpre := hide hpre
      have Hb := hide hb
      have Hsv := hide hsv
      have Hs := hide hs
      clear hb hsv hs hpre hcalm
      go_wp2_with fail
      obtain ⟨wo, hwo⟩ : ∃ wo : World, wo = wr := ⟨_, rfl⟩
      have Hwo := hide hwo
      clear hwo f0 f1 f2 f3 f4 f5 f6 f7
      go_loopw [3, 18] (fun s3 i wr => ∃ (k : Nat) (ag : Bool) (O : Option Addr) (oc : Nat) (vs ls rs t : List Int), k ≤ cs.length ∧ i = .int .i64 k ∧ s3 = .bool ag ∧ Below B w wr ∧ Sv B wr g ⟨gv, gl, gr, L, lc, D, dc, O, oc, S, sc⟩ V cs ln vs ls rs t starts ∧ St V cs starts t vs ls rs ∧ t0 <+: t ∧ (ag = false → ∀ j c, j < k → cs[j]? = some c → Calm c t) ∧ 2 * (V - t.length) + (if ag = true then 1 else 0) < gk) (fun _ i _ => cs.length - (intOf i).toNat)
      case atStart => exact ⟨0, false, O, oc, vs, ls, rs, t, by omega, rfl, rfl, Hb.out, Hsv.out, Hs.out, Hpre.out, fun _ j c hj => by omega, by simp; omega⟩
      case round =>
        obtain ⟨k, ag, O1, oc1, vs1, ls1, rs1, t1, hk, rfl, rfl, hb, hsv, hs, hpre, hcalm, hgk1⟩ := hrel
        clear Hpre Hb Hsv Hs
        have Hpre := hide hpre
        have Hb := hide hb
        have Hsv := hide hsv
        have Hs := hide hs
        have Hcalm := hide hcalm
        by_cases hlt : k < cs.length
        · obtain ⟨xs, hown, hxl, hxs⟩ := hsv.lst
          have hc : cs[k]? = some (cs[k]'hlt) := List.getElem?_eq_getElem _
          generalize cs[k]'hlt = l at hc
          obtain ⟨A', n', c', hx1, hrx, _⟩ := hxs k l hc
          obtain ⟨gL, hgL⟩ := own_addr hown (by omega)
          simp only at hgL
          subst hgL
          have hcell := hown.cells (g := gL) rfl k (.slice A' n' c') hx1
          rw [add_plain, Nat.zero_add] at hcell
          have hclean := hs.inv.clean l (List.mem_of_getElem? hc)
          have Hlf : Hid (∀ x ∈ l, Fits V x) := hide hclean.1
          have hsm' := hrx.low
          have Hl' := hide hrx.len
          have Hrx := hide hrx
          have Hc := hide hc
          have htri := hs.tri
          have Htri := hide htri
          clear hb hsv hs hpre hcalm hown hxl hxs hx1 hc hclean hrx htri
          go_wp2_with fail
          go_loop [6, 7, 8, 25] (fun s8 s9 s10 j => ∃ (kk : Nat) (f : Int) (m : Nat) (hb : Bool), kk ≤ n' ∧ j = .int .i64 kk ∧ s8 = .int .i64 f ∧ s9 = .int .i64 m ∧ s10 = .bool hb ∧ m ≤ kk ∧ (m = 0 → f = 0) ∧ (0 < m → Fits V f) ∧ scan vs1 l (0, 0, false) = scan vs1 (l.drop kk) (f, m, hb)) (fun _ _ _ j => n' - (intOf j).toNat)
          case atStart => exact ⟨0, 0, 0, false, by omega, rfl, rfl, rfl, rfl, by omega, fun _ => rfl, fun h => absurd h (by omega), by simp⟩
          case round =>
            obtain ⟨kk, f, m, hbb, hkk, rfl, rfl, rfl, rfl, hm, hm0, hm1, hrel2⟩ := hrel
            have Hm0 := hide hm0
            have Hm1 := hide hm1
            clear hm0 hm1
            by_cases hlt2 : kk < n'
            · obtain ⟨b1, off1, x, rfl, hx, hxl, hxh, hcx1⟩ := Hrx.out.int hlt2
              rw [drop_cons hx] at hrel2
              have hfx := Hlf.out x (List.mem_of_getElem? hx)
              have hx0 := hfx.1
              have hof := of_ct x Hsv.out hfx hV Htri.out
              have Hfx := hide hfx
              have Hx0 := hide hx0
              rcases ofV_tri Htri.out x with ho | ho | ho
              · rw [ho] at hof
                have Hof := hide hof
                have Hrel2 := hide (hrel2.trans (scan_of0 ho))
                clear hof ho hrel2 hfx hx hx0
                cases hbb
                all_goals
                  go_wp2_with fail
                  with_reducible refine Hof.out.mono ?_
                  rintro e w1 ⟨rfl, rfl⟩
                  go_wp2_with fail
                  go_round
                  case rel => exact ⟨kk + 1, x, m + 1, _, by omega, by go_num, rfl, by go_num, rfl, by omega, fun h => absurd h (by omega), fun _ => Hfx.out, Hrel2.out⟩
                  case measure => simp [intOf]; omega
              · rw [ho] at hof
                have Hof := hide hof
                have Hrel2 := hide (hrel2.trans (scan_of1 Hx0.out ho))
                clear hof ho hrel2 hfx hx hx0
                cases hbb
                all_goals
                  go_wp2_with fail
                  with_reducible refine Hof.out.mono ?_
                  rintro e w1 ⟨rfl, rfl⟩
                  go_wp2_with fail
                  go_round
                  case rel => exact ⟨kk + 1, f, m, _, by omega, by go_num, rfl, by go_num, rfl, by omega, Hm0.out, Hm1.out, Hrel2.out⟩
                  case measure => simp [intOf]; omega
              · rw [ho] at hof
                have Hof := hide hof
                have Hrel2 := hide (hrel2.trans (scan_of2 Hx0.out ho))
                clear hof ho hrel2 hfx hx hx0
                cases hbb
                all_goals
                  go_wp2_with fail
                  with_reducible refine Hof.out.mono ?_
                  rintro e w1 ⟨rfl, rfl⟩
                  go_wp2_with fail
                  go_round
                  case rel => exact ⟨kk + 1, f, m, _, by omega, by go_num, rfl, by go_num, rfl, by omega, Hm0.out, Hm1.out, Hrel2.out⟩
                  case measure => simp [intOf]; omega
            · have hscan : scan vs1 l (0, 0, false) = (f, m, hbb) := by
                rw [hrel2, List.drop_of_length_le (by rw [Hl'.out]; omega), scan]
              obtain ⟨c1, c2, c3⟩ := Hs.out.scan (List.mem_of_getElem? Hc.out) hscan
              have C1 := hide c1
              have C2 := hide c2
              have C3 := hide c3
              clear hscan hrel2 c1 c2 c3
              by_cases hgo : hbb = true ∨ 1 < m
              · have hcl2 : ag = false → ∀ j c, j < k + 1 → cs[j]? = some c → Calm c t1 := fun e j c hj hjc => by
                  rcases Nat.lt_or_ge j k with hlj | hge
                  · exact Hcalm.out e j c hlj hjc
                  · obtain rfl : j = k := by omega
                    have := Hc.out
                    rw [hjc] at this
                    obtain rfl := Option.some.inj this
                    exact C1.out hgo
                have Hcl2 := hide hcl2
                have Hgk1 := hide hgk1
                clear hcl2
                cases hbb with
                | true =>
                  clear hgo hgk1
                  go_wp2_with fail
                  go_roundw
                  case rel => exact ⟨k + 1, ag, O1, oc1, vs1, ls1, rs1, t1, by omega, by go_num, rfl, Hb.out, Hsv.out, Hs.out, Hpre.out, Hcl2.out, Hgk1.out⟩
                  case measure => simp [intOf]; omega
                | false =>
                  have hm2 : 1 < m := by simpa using hgo
                  clear hgo hgk1
                  go_wp2_with fail
                  go_roundw
                  case rel => exact ⟨k + 1, ag, O1, oc1, vs1, ls1, rs1, t1, by omega, by go_num, rfl, Hb.out, Hsv.out, Hs.out, Hpre.out, Hcl2.out, Hgk1.out⟩
                  case measure => simp [intOf]; omega
              · obtain rfl : hbb = false := by simpa using fun h => hgo (.inl h)
                have hm2 : m ≤ 1 := by omega
                by_cases hm3 : m = 0
                · have Hneg := hide (C2.out hgo hm3)
                  subst hm3
                  have Hf := hide (fresh_grown Hs.out Hpre.out (fun hf => fresh_false Hs.out.inv.tr hf (List.mem_of_getElem? Hc.out) Hneg.out))
                  clear hgo hgk1
                  go_wp2_with fail
                  go_ret
                  exact ⟨k, O1, oc1, vs1, ls1, rs1, t1, rfl, Hb.out, Hsv.out, Hs.out, Hpre.out, .inr ⟨k, l, rfl, Hc.out, Hneg.out⟩, Hf.out⟩
                · obtain ⟨u1, u2, u3, u4⟩ := C3.out hgo hm3
                  obtain rfl : m = 1 := by omega
                  have hff := Hlf.out f u1
                  have htl := Hs.out.inv.tr.len
                  have hs2 := Hs.out.assign Hc.out u1 u2 u3 u4
                  have htl2 := hs2.inv.tr.len
                  have hasg := assign_ct f k Hsv.out hff hV htl
                  have Hasg := hide hasg
                  have Hs2 := hide hs2
                  have Hgk1 := hide hgk1
                  clear hgo hgk1 u1 u2 u3 u4 hff htl hs2 hasg hm3
                  go_wp2_with fail
                  with_reducible refine Hasg.out.mono ?_
                  rintro e w1 ⟨he, hb1, O2, oc2, hsv2⟩
                  unfold Ends at he
                  subst he
                  simp only at hsv2
                  have Hb2 := hide (Hb.out.trans hb1)
                  have Hsv2 := hide hsv2
                  clear hb1 hsv2
                  go_wp2_with fail
                  go_roundw
                  case rel =>
                    refine ⟨k + 1, true, O2, oc2, _, _, _, t1 ++ [f], by omega, by go_num, rfl, Hb2.out, Hsv2.out, Hs2.out, Hpre.out.trans (List.prefix_append _ _), (fun e => by cases e), ?_⟩
                    have := Hgk1.out
                    rw [List.length_append, List.length_singleton] at htl2 ⊢
                    rw [if_pos rfl]
                    split at this <;> omega
                  case measure => simp [intOf]; omega
        · have hcalm2 : ag = false → ∀ c ∈ cs, Calm c t1 := fun e c hc => by
            obtain ⟨j, hj⟩ := List.getElem?_of_mem hc
            exact Hcalm.out e j c (by have := (List.getElem?_eq_some_iff.1 hj).1; omega) hj
          have Hcalm2 := hide hcalm2
          clear hb hsv hs hpre hcalm hcalm2
          go_wp2_with fail
          go_roundg gk
          case measure => omega
          case rel => exact ⟨ag, O1, oc1, vs1, ls1, rs1, t1, rfl, Hb.out, Hsv.out, Hs.out, Hpre.out, Hcalm2.out, hgk1⟩
end Go.Proofs.Ytnfeknfakkdbhaa
