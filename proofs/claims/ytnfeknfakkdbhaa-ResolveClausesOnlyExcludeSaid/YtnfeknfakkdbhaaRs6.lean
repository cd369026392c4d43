/- The closure of learn that marks the literals of a clause. -/
import Derived.Test.YtnfeknfakkdbhaaRs5
namespace Go.Proofs.Ytnfeknfakkdbhaa
set_option linter.unusedVariables false
set_option linter.unusedSimpArgs false
open Go.RowKit

def MarkP (w2 : World) (g V bS bR bP bO bL : Nat) (lev : Nat → Int) (cur : Nat) (C : List Int) (seen : List Bool) (out : List Int) (left : Nat) (e : Ending) (w' : World) : Prop :=
  Ends e ∧ ∃ (seen' : List Bool) (out' : List Int) (left' : Nat) (O : Option Addr) (oc : Nat), markF lev cur C (Sb seen, out, left) = (Sb seen', out', left') ∧ MkS w2 w' g V bS bR bP bO bL seen' out' left' O oc
theorem markF_skip {lev : Nat → Int} {cur : Nat} {x : Int} {xs : List Int} {seen : Nat → Bool} {out : List Int} {left q : Nat} (hq : (litVar x).toNat = q) (h : seen q = true ∨ lev q = 0) : markF lev cur (x :: xs) (seen, out, left) = markF lev cur xs (seen, out, left) := by
  subst hq
  rw [markF, if_pos h]
theorem markF_low {lev : Nat → Int} {cur : Nat} {x : Int} {xs : List Int} {seen : List Bool} {out : List Int} {left q : Nat} (hq : (litVar x).toNat = q) (hl : q < seen.length) (h : Sb seen q = false) (h0 : lev q ≠ 0) (h1 : lev q < cur) : markF lev cur (x :: xs) (Sb seen, out, left) = markF lev cur xs (Sb (seen.set q true), out ++ [x], left) := by
  subst hq
  rw [markF, if_neg (by simp [h, h0]), if_pos h1, Sb_set hl]
  rfl
theorem markF_cur {lev : Nat → Int} {cur : Nat} {x : Int} {xs : List Int} {seen : List Bool} {out : List Int} {left q : Nat} (hq : (litVar x).toNat = q) (hl : q < seen.length) (h : Sb seen q = false) (h0 : lev q ≠ 0) (h1 : ¬ lev q < cur) : markF lev cur (x :: xs) (Sb seen, out, left) = markF lev cur xs (Sb (seen.set q true), out, left + 1) := by
  subst hq
  rw [markF, if_neg (by simp [h, h0]), if_neg h1, Sb_set hl]
  rfl
set_option maxRecDepth 100000 in
set_option maxHeartbeats 3200000 in
theorem mark_ct {B : Nat} {w2 w : World} {g : Nat} {a : SA} {V : Nat} {cs ln : List (List Int)} {vals lev rea t : List Int} {starts : List Nat} {A : Option Addr} {n c : Nat} {C : List Int} {bS bR bP bO bL : Nat} {seen : List Bool} {out : List Int} {left : Nat} {O : Option Addr} {oc : Nat}
    (h : Sv B w2 g a V cs ln vals lev rea t starts) (hr : Rd Enc.int w2 A n c C) (hf : ∀ x ∈ C, Fits V x) (hV : V ≤ 1000) (hm : MkS w2 w g V bS bR bP bO bL seen out left O oc) (hl : left + n ≤ 1000000) (ho : out.length + n ≤ 1000000) :
    Calls Try.prog 121 #[.slice A n c, .pointer (some ⟨bS, 0, none⟩), .pointer (some ⟨bP, 0, none⟩), .pointer (some ⟨bO, 0, none⟩), .pointer (some ⟨bL, 0, none⟩)] w (MarkP w2 g V bS bR bP bO bL (Lf lev) starts.length C seen out left) := by
  have hsm := hr.low
  have Hl := hide hr.len
  have hsl : starts.length ≤ 9223372036854775807 := by have := own_nil_or h.sts; omega
  obtain ⟨gv, gl, gr, L, lc, D, dc, T, tc, S, sc⟩ := a
  have Hr := hide hr
  have H := hide h
  have Hf := hide hf
  have Hm := hide hm
  clear hr h hf hm
  go_enter Try.func121, Try.ntmps121
  go_wp2_with fail
  go_loopw [11] (fun i wr => ∃ (k : Nat) (seen' : List Bool) (out' : List Int) (left' : Nat) (O : Option Addr) (oc : Nat), k ≤ n ∧ i = .int .i64 k ∧ MkS w2 wr g V bS bR bP bO bL seen' out' left' O oc ∧ left' ≤ left + k ∧ out'.length ≤ out.length + k ∧ markF (Lf lev) starts.length C (Sb seen, out, left) = markF (Lf lev) starts.length (C.drop k) (Sb seen', out', left')) (fun i _ => n - (intOf i).toNat)
  case atStart => exact ⟨0, seen, out, left, O, oc, by omega, rfl, Hm.out, by omega, by omega, by simp⟩
  case round =>
    clear Hm
    obtain ⟨k, seen, out, left, O, oc, hk, rfl, hm, hkl, hko, hrel⟩ := hrel
    have hsv := H.out.keep hm.below
    obtain ⟨f0, f1, f2, f3, f4, f5, f6, f7⟩ := hsv.facts
    obtain ⟨m1, m2, m3, m4, m5, m6, m7, m8, m9, m10, m11⟩ := hm.facts
    simp only at f0 f1 f2 f3 f4 f5 f6 f7
    clear f0 f1 f2 f3 f5 f6
    have Hm := hide hm
    by_cases hlt : k < n
    · obtain ⟨b0, off, x, rfl, hx, hxl, hxh, hcx⟩ := (Hr.out.keep hm.below).int hlt
      rw [drop_cons hx] at hrel
      have hfx := Hf.out x (List.mem_of_getElem? hx)
      have hxb := hfx.2
      have hv := hfx.var
      obtain ⟨q, hqv⟩ : ∃ q : Nat, (q : Int) = litVar x := ⟨(litVar x).toNat, by omega⟩
      have hqn : (litVar x).toNat = q := by omega
      have Hqn := hide hqn
      have hqV : q < V + 1 := by omega
      have hvarc := fun W => Variable_ct x W (by omega) (by omega)
      rw [← hqv] at hvarc
      have hcl := hsv.lvl.cell (Lf_get (l := lev) (show q < lev.length by rw [hsv.llen]; exact hqV))
      simp only at hcl
      have hsl2 : q < seen.length := by rw [hm.sl]; exact hqV
      have hcs := hm.sr.cell q
      rw [List.getElem?_map, Sb_get hsl2] at hcs
      simp only [Option.map_some] at hcs
      have hcf := hm.sr.frozen q
      have nOR : bO ≠ bR := hm.ob.ne hm.sr (by decide)
      have nLR : bL ≠ bR := hm.lb.ne hm.sr (by decide)
      have hq0' : (0 : Int) ≤ (q : Int) := by omega
      have hq1' : (q : Int) < (V : Int) + 1 := by omega
      have Hvarc := hide hvarc
      have Hrel := hide hrel
      obtain ⟨b, hb⟩ : ∃ b, b = Sb seen q := ⟨_, rfl⟩
      obtain ⟨u, hu⟩ : ∃ u, u = Lf lev q := ⟨_, rfl⟩
      rw [← hb] at hcs
      rw [← hu] at hcl
      have Hb := hide hb
      have Hu := hide hu
      clear hx hfx hv hqn hqv hvarc hsv hm hrel hb hu
      cases b with
      | true =>
        have Hrel2 := hide (Hrel.out.trans (markF_skip Hqn.out (.inl Hb.out.symm)))
        clear Hrel
        go_wp2_with fail
        with_reducible refine (Hvarc.out _).mono ?_
        rintro e w1 ⟨rfl, rfl⟩
        go_wp2_with fail
        go_roundw
        case rel => exact ⟨k + 1, seen, out, left, O, oc, by omega, by go_num, Hm.out, by omega, by omega, Hrel2.out⟩
        case measure => simp [intOf]; omega
      | false =>
        by_cases h0 : u = 0
        · have Hrel2 := hide (Hrel.out.trans (markF_skip Hqn.out (.inr (by rw [← Hu.out, h0]))))
          clear Hrel
          subst h0
          go_wp2_with fail
          with_reducible refine (Hvarc.out _).mono ?_
          rintro e w1 ⟨rfl, rfl⟩
          go_wp2_with fail
          go_roundw
          case rel => exact ⟨k + 1, seen, out, left, O, oc, by omega, by go_num, Hm.out, by omega, by omega, Hrel2.out⟩
          case measure => simp [intOf]; omega
        · by_cases h1 : u < (starts.length : Int)
          · have Hrel2 := hide (Hrel.out.trans (markF_low Hqn.out hsl2 Hb.out.symm (by rw [← Hu.out]; exact h0) (by rw [← Hu.out]; exact h1)))
            clear Hrel
            go_wp2_with fail
            with_reducible refine (Hvarc.out _).mono ?_
            rintro e w1 ⟨rfl, rfl⟩
            go_wp2_with fail
            go_quiet (fail)
            go_upto_region 9 with (fail)
            have hset := (Hm.out.keep (((Qt.refl wr).drewN nq).below _)).setSeen q
            obtain ⟨W, hW⟩ : ∃ W, W = ((wr.drewN nq).setCell ⟨bR, q, none⟩ (.bool true)) := ⟨_, rfl⟩
            rw [← hW] at hset ⊢
            clear hW f4 f7 m1 m2 m3 m4 m5 m6 m7 m8 m9 m10 m11 hcl hcs hcf Hm
            obtain ⟨m1, m2, m3, m4, m5, m6, m7, m8, m9, m10, m11⟩ := hset.facts
            clear m1 m2 m4
            obtain ⟨i0, hi0, hz0, hz1, hz2⟩ := info_parts Try.intInfo
            have hWs := hset.below.size
            have Hset := hide hset
            clear hset
            go_wp2_with
              (at_builtin
               refine wpList_pushA rfl _ _ 22 rfl w2.heap.size 3 i0 (.int .i64 0) 1 8 Try.underlying22 hi0 hz0 hz1 hz2 rfl (by decide) _ _ _ rfl Hset.out.orow [.int .i64 x] rfl (by intro u hu; simp at hu; subst hu; rfl) rfl (by omega) (by omega) hWs ?_
               intro O6 oc6 w6 hown6 hg6 hat6
               obtain ⟨hbk6, hp6⟩ := Hset.out.push hown6 hg6 hat6
               have c6 := hbk6.cell 0
               have c6f := hbk6.frozen 0
               have c6l := hbk6.lt
               simp only [List.getElem?_cons_zero] at c6
               have Hp6 := hide hp6
               clear hown6 hg6 hat6 hp6 hbk6)
            go_roundw
            case rel => exact ⟨k + 1, seen.set q true, out ++ [x], left, O6, oc6, by omega, by go_num, by simpa using Hp6.out, by omega, by simp; omega, Hrel2.out⟩
            case measure => simp [intOf]; omega
          · have Hrel2 := hide (Hrel.out.trans (markF_cur Hqn.out hsl2 Hb.out.symm (by rw [← Hu.out]; exact h0) (by rw [← Hu.out]; exact h1)))
            clear Hrel
            go_wp2_with fail
            with_reducible refine (Hvarc.out _).mono ?_
            rintro e w1 ⟨rfl, rfl⟩
            go_wp2_with fail
            go_quiet (fail)
            go_wp2_with fail
            have hset := ((Hm.out.keep (((Qt.refl wr).drewN nq).below _)).setSeen q).setLeft (left + 1)
            have Hset := hide hset
            clear hset
            go_roundw
            case rel => exact ⟨k + 1, seen.set q true, out, left + 1, O, oc, by omega, by go_num, by simpa using Hset.out, by omega, by omega, Hrel2.out⟩
            case measure => simp [intOf]; omega
    · have hfin : markF (Lf lev) starts.length (C.drop k) (Sb seen, out, left) = (Sb seen, out, left) := by rw [List.drop_of_length_le (by rw [Hl.out]; omega)]; rfl
      have Hfin := hide (hrel.trans hfin)
      clear hfin hrel hsv hm
      go_wp2_with fail
      go_end0
      exact ⟨rfl, seen, out, left, O, oc, Hfin.out, Hm.out⟩
end Go.Proofs.Ytnfeknfakkdbhaa
