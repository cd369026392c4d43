/- What is learned. -/
import Derived.Test.YtnfeknfakkdbhaaRs6
namespace Go.Proofs.Ytnfeknfakkdbhaa
set_option linter.unusedVariables false
set_option linter.unusedSimpArgs false
open Go.RowKit

theorem boolInfo2 : (Try.prog.info? 4).map (fun i => (i.zero, i.size, i.bytes)) = some (some (.bool false), 1, 1) := by kernel_rfl
/-- n times false, as make lays them -/
def falsesA (n : Nat) : Array Value := ((List.replicate n false).map Value.bool).toArray
theorem run_make_bools {P : Program} (t e : TypeId) (i : TypeInfo) (ht : P.underlying t = some (.slice e)) (hi : P.info? e = some i) (hz : i.zero = some (.bool false)) (h1 : i.size = 1) (h8 : i.bytes = 1)
    (n : Nat) (hn : n ≤ 1000000000) (w : World) :
    (Instr.makeSlice t (.int .i64 (n : Int)) (.int .i64 (n : Int))).run P w = .ok (.slice (some ⟨w.heap.size, 0, none⟩) n n) (w.alloc (.cells (falsesA n) e)) := by
  have hr := run_make (P := P) w t e i _ ht hi hz .i64 .i64 n n (by omega) (by omega) (by rw [h8]; omega) (by omega)
  simp only [Int.toNat_natCast] at hr
  rw [hr, h1, Nat.mul_one]
  congr 3
  apply Array.ext'
  rw [falsesA, show (Value.bool false).cells = #[Value.bool false] from rfl, toList_madeCells_one]
  simp
theorem Clean.trail {V : Nat} {c : List Int} (h : Clean V c) : Trail V c := ⟨h.1, h.2.imp (fun {a b} hab e => by omega)⟩
theorem Clean.len {V : Nat} {c : List Int} (h : Clean V c) : c.length ≤ V := h.trail.len
section
variable {V : Nat} {cs : List (List Int)} {starts : List Nat} {t : List Int} {lev rea : Nat → Int} {n : Nat} {seen : Nat → Bool} {out : List Int} {left : Nat}
theorem LInv.left_le (h : LInv V cs starts t lev n seen out left) : left ≤ t.length := by
  rw [h.cnt]
  unfold nSeen
  exact Nat.le_trans List.countP_le_length (by rw [List.length_take]; omega)
theorem LInv.out_fits (h : LInv V cs starts t lev n seen out left) (hi : Inv V cs starts t lev rea) : ∀ y ∈ out, Fits V y := fun y hy => by
  have := hi.tr.fits _ (h.low y hy).1
  have h1 := this.1
  have h2 := this.2
  exact ⟨by omega, by omega, by omega⟩
theorem LInv.out_len (h : LInv V cs starts t lev n seen out left) (hi : Inv V cs starts t lev rea) : out.length ≤ V := (Trail.mk (h.out_fits hi) h.apart).len
end
/-- how the sort leaves the row -/
def SortQ (w : World) (base g n oc : Nat) (C : List Int) (e : Ending) (w' : World) : Prop :=
  Ends e ∧ w.grownBy w' (some g) ∧ ∃ C' : List Int, C'.Perm C ∧ C'.Pairwise (fun a b => litVar a ≤ litVar b) ∧ w'.ownsRow base 3 1 (.slice (some ⟨g, 0, none⟩) n oc) n (C'.map (Value.int .i64))
def SortC (V : Nat) : Prop := ∀ (w : World) (base g n oc : Nat) (C : List Int), w.ownsRow base 3 1 (.slice (some ⟨g, 0, none⟩) n oc) n (C.map (Value.int .i64)) → C.length = n → 0 < n → n ≤ V → (∀ x ∈ C, Fits V x) →
  Calls Try.prog 122 #[.slice (some ⟨g, 0, none⟩) n oc, .func (.func 123) #[] #[]] w (SortQ w base g n oc C)
def LearnP (w : World) (V : Nat) (cs : List (List Int)) (starts : List Nat) (t : List Int) (lev : Nat → Int) (e : Ending) (w' : World) : Prop :=
  ∃ (g oc : Nat) (C : List Int), e = .returned (.slice (some ⟨g, 0, none⟩) C.length oc) ∧ Below w.heap.size w w' ∧ w'.ownsRow w.heap.size 3 1 (.slice (some ⟨g, 0, none⟩) C.length oc) C.length (C.map (Value.int .i64)) ∧ Learnt V cs starts t lev C ∧ Clean V C
/-- the boxes, just laid -/
theorem mks_start (w : World) (g V : Nat) : MkS w (((((w.alloc (.cells #[.pointer (some ⟨g, 0, none⟩)] 90)).alloc (.cells (falsesA (V + 1)) 4)).alloc (.cells #[.slice (some ⟨w.heap.size + 1, 0, none⟩) (V + 1) (V + 1)] 52)).alloc
    (.cells #[.slice none 0 0] 22)).alloc (.cells #[.int .i64 0] 3)) g V (w.heap.size + 1 + 1) (w.heap.size + 1) w.heap.size (w.heap.size + 1 + 1 + 1) (w.heap.size + 1 + 1 + 1 + 1) (List.replicate (V + 1) false) [] 0 none 0 := by
  have s1 : (w.alloc (.cells #[.pointer (some ⟨g, 0, none⟩)] 90)).heap.size = w.heap.size + 1 := by simp
  have b1 := Blk.new w 90 [.pointer (some ⟨g, 0, none⟩)]
  have g1 : Below w.heap.size w (w.alloc (.cells #[.pointer (some ⟨g, 0, none⟩)] 90)) := (Below.refl _ _).alloc (Nat.le_refl _) _
  generalize (w.alloc (.cells #[.pointer (some ⟨g, 0, none⟩)] 90)) = w1 at s1 b1 g1 ⊢
  have b2 := Blk.new w1 4 ((List.replicate (V + 1) false).map Value.bool)
  have s2 : (w1.alloc (.cells (falsesA (V + 1)) 4)).heap.size = w.heap.size + 1 + 1 := by simp [s1]
  have g2 := g1.alloc (by omega) (.cells (falsesA (V + 1)) 4)
  rw [s1] at b2
  have b1 := b1.alloc (.cells (falsesA (V + 1)) 4)
  change Blk _ (w1.alloc (.cells (falsesA (V + 1)) 4)) _ _ at b2
  generalize (w1.alloc (.cells (falsesA (V + 1)) 4)) = w2 at s2 b1 b2 g2 ⊢
  have b3 := Blk.new w2 52 [.slice (some ⟨w.heap.size + 1, 0, none⟩) (V + 1) (V + 1)]
  have s3 : (w2.alloc (.cells #[.slice (some ⟨w.heap.size + 1, 0, none⟩) (V + 1) (V + 1)] 52)).heap.size = w.heap.size + 1 + 1 + 1 := by simp [s2]
  have g3 := g2.alloc (by omega) (.cells #[.slice (some ⟨w.heap.size + 1, 0, none⟩) (V + 1) (V + 1)] 52)
  rw [s2] at b3
  have b1 := b1.alloc (.cells #[.slice (some ⟨w.heap.size + 1, 0, none⟩) (V + 1) (V + 1)] 52)
  have b2 := b2.alloc (.cells #[.slice (some ⟨w.heap.size + 1, 0, none⟩) (V + 1) (V + 1)] 52)
  generalize (w2.alloc (.cells #[.slice (some ⟨w.heap.size + 1, 0, none⟩) (V + 1) (V + 1)] 52)) = w3 at s3 b1 b2 b3 g3 ⊢
  have b4 := Blk.new w3 22 [.slice none 0 0]
  have s4 : (w3.alloc (.cells #[.slice none 0 0] 22)).heap.size = w.heap.size + 1 + 1 + 1 + 1 := by simp [s3]
  have g4 := g3.alloc (by omega) (.cells #[.slice none 0 0] 22)
  rw [s3] at b4
  have b1 := b1.alloc (.cells #[.slice none 0 0] 22)
  have b2 := b2.alloc (.cells #[.slice none 0 0] 22)
  have b3 := b3.alloc (.cells #[.slice none 0 0] 22)
  generalize (w3.alloc (.cells #[.slice none 0 0] 22)) = w4 at s4 b1 b2 b3 b4 g4 ⊢
  have b5 := Blk.new w4 3 [.int .i64 0]
  rw [s4] at b5
  have g5 := g4.alloc (by omega) (.cells #[.int .i64 0] 3)
  exact ⟨g5, ⟨by omega, by omega, by omega, by omega, by omega⟩, b3.alloc _, b2.alloc _, by simp, b1.alloc _, b4.alloc _, World.ownsRow_nil _ _ _ _, b5, by simp [blkO]⟩
set_option maxRecDepth 100000 in
set_option maxHeartbeats 3200000 in
theorem learn_ct {B : Nat} {w : World} {g : Nat} {a : SA} {V : Nat} {cs ln : List (List Int)} {vals lev rea t : List Int} {starts : List Nat} {i : Nat} {c : List Int} (hsort : SortC V)
    (h : Sv B w g a V cs ln vals lev rea t starts) (hst : St V cs starts t vals lev rea) (hc : cs[i]? = some c) (hneg : ∀ y ∈ c, -y ∈ t) (hs : starts ≠ []) (hV : V ≤ 1000) :
    Calls Try.prog 102 #[.pointer (some ⟨g, 0, none⟩), .int .i64 i] w (LearnP w V cs starts t (Lf lev)) := by
  obtain ⟨gv, gl, gr, L, lc, D, dc, T, tc, S, sc⟩ := a
  obtain ⟨f0, f1, f2, f3, f4, f5, f6, f7⟩ := h.facts
  simp only at f0 f1 f2 f3 f4 f5 f6 f7
  have hgl := h.blk.lt
  have hil := (List.getElem?_eq_some_iff.1 hc).1
  obtain ⟨i0, hi0, hz0, hz1, hz2⟩ := info_parts boolInfo2
  have hmk := fun w => run_make_bools (P := Try.prog) 52 4 i0 Try.underlying52 hi0 hz0 hz1 hz2 (V + 1) (by omega) w
  simp only [Int.natCast_add, Int.natCast_one] at hmk
  have htl := hst.inv.tr.len
  have hcl := (hst.inv.clean c (List.mem_of_getElem? hc)).len
  obtain ⟨xs, hown, hxl, hxs⟩ := h.lst
  obtain ⟨gL, hgL⟩ := own_addr hown (by omega)
  simp only at hgL
  subst hgL
  have hcs63 := own_nil_or hown
  simp only at hcs63
  obtain ⟨A0, n0, c0, hx0, hrx0, _⟩ := hxs i c hc
  have Hxs := hide hxs
  have hn0 := hrx0.len
  have hgLl := (own_block hown (r := gL) (by rw [own_blkO]; rfl)).1
  have hcell0 := hown.cells (g := gL) rfl i (.slice A0 n0 c0) hx0
  rw [add_plain, Nat.zero_add] at hcell0
  have Hown := hide hown
  have H := hide h
  have Hst := hide hst
  have Hneg := hide hneg
  have Hc := hide hc
  have Hs := hide hs
  have Hsort := hide hsort
  have Hrx0 := hide hrx0
  clear h hst hneg hc hs hsort hxs hown hrx0 hx0
  go_enter Try.func102, Try.ntmps102
  go_upto_region 5 with (fail)
  have hm := mks_start w g V
  obtain ⟨W, hW⟩ : ∃ W, W = (((((w.alloc (.cells #[.pointer (some ⟨g, 0, none⟩)] 90)).alloc (.cells (falsesA (V + 1)) 4)).alloc (.cells #[.slice (some ⟨w.heap.size + 1, 0, none⟩) (V + 1) (V + 1)] 52)).alloc
    (.cells #[.slice none 0 0] 22)).alloc (.cells #[.int .i64 0] 3)) := ⟨_, rfl⟩
  rw [← hW] at hm ⊢
  clear hW hmk f0 f1 f2 f3 f4 f5 f6 f7
  generalize w.heap.size + 1 + 1 + 1 + 1 = bL at hm ⊢
  generalize w.heap.size + 1 + 1 + 1 = bO at hm ⊢
  generalize w.heap.size + 1 + 1 = bS at hm ⊢
  generalize w.heap.size + 1 = bR at hm ⊢
  obtain ⟨bP, hbP⟩ : ∃ bP, bP = w.heap.size := ⟨_, rfl⟩
  rw [← hbP] at hm ⊢
  have hbPge := hm.ge
  clear hbP
  have hsv := H.out.keep hm.below
  obtain ⟨f0, f1, f2, f3, f4, f5, f6, f7⟩ := hsv.facts
  obtain ⟨m1, m2, m3, m4, m5, m6, m7, m8, m9, m10, m11⟩ := hm.facts
  simp only at f0 f1 f2 f3 f4 f5 f6 f7
  have hcell : W.cell? ⟨gL, i, none⟩ = some (.slice A0 n0 c0) := (hm.below.cell (p := ⟨gL, i, none⟩) hgLl).trans hcell0
  have hmark := mark_ct H.out Hrx0.out ((Hst.out.inv.clean c (List.mem_of_getElem? Hc.out)).1) hV hm (by omega) (by simp; omega)
  obtain ⟨seen0, out0, left0, hm0, hl0⟩ := LInv.start Hst.out.inv (List.mem_of_getElem? Hc.out) Hneg.out Hs.out
  have Hm0 := hide hm0
  have Hl0 := hide hl0
  have Hmark := hide hmark
  have i1 : (i : Int) < (cs.length : Int) := by omega
  have i2 : (0 : Int) ≤ (i : Int) := by omega
  clear hmark hm hsv hm0 hl0 hcell0
  go_wp2_with fail
  with_reducible refine (Hmark.out).mono ?_
  rintro e w1 ⟨he, seen1, out1, left1, O1, oc1, hmf, hm1⟩
  unfold Ends at he
  subst he
  have Hm1 := hide hm1
  have hf2 : Sb (List.replicate (V + 1) false) = fun _ => false := by
    funext v
    show (List.replicate (V + 1) false).getD v false = false
    rw [List.getD_eq_getElem?_getD, List.getElem?_replicate]
    split <;> rfl
  rw [hf2, Hm0.out] at hmf
  injection hmf with hs1 hmf
  injection hmf with ho1 hle1
  subst hs1 ho1 hle1
  clear hf2 m1 m2 m3 m4 m5 m6 m7 m8 m9 m10 m11 f0 f1 f2 f3 f4 f5 f6 f7 Hmark Hm0 hcell
  have hsv := H.out.keep hm1.below
  obtain ⟨f0, f1, f2, f3, f4, f5, f6, f7⟩ := hsv.facts
  obtain ⟨m1, m2, m3, m4, m5, m6, m7, m8, m9, m10, m11⟩ := hm1.facts
  simp only at f0 f1 f2 f3 f4 f5 f6 f7
  clear hsv hm1
  have htp : 0 < t.length := Hl0.out.more
  obtain ⟨gT, hgT⟩ := own_addr H.out.trl htp
  simp only at hgT
  subst hgT
  clear m1 m3 m4 m5 m6 m7 m8 m9 m10 m11 f0 f1 f2 f3 f4 f5 f7
  go_wp2_with fail
  clear m2
  go_loopw [9] (fun i9 wr => ∃ (m : Nat) (seen : List Bool) (out : List Int) (left : Nat) (O : Option Addr) (oc : Nat), m < t.length ∧ i9 = .int .i64 m ∧ MkS w wr g V bS bR bP bO bL seen out left O oc ∧ LInv V cs starts t (Lf lev) (m + 1) (Sb seen) out left) (fun i _ => (intOf i).toNat)
  case atStart => exact ⟨t.length - 1, seen1, out0, left0, O1, oc1, by omega, by go_num, Hm1.out, by rw [show t.length - 1 + 1 = t.length from by omega]; exact Hl0.out⟩
  case round =>
    clear Hm1 Hl0 f6
    obtain ⟨m, seen, out, left, O, oc, hmt, rfl, hm, hl⟩ := hrel
    have hsv := H.out.keep hm.below
    obtain ⟨f0, f1, f2, f3, f4, f5, f6, f7⟩ := hsv.facts
    obtain ⟨m1, m2, m3, m4, m5, m6, m7, m8, m9, m10, m11⟩ := hm.facts
    simp only at f0 f1 f2 f3 f4 f5 f6 f7
    have hx : t[m]? = some (t[m]'hmt) := List.getElem?_eq_getElem _
    generalize t[m]'hmt = x at hx
    have hfx := Hst.out.inv.tr.fits x (List.mem_of_getElem? hx)
    have hxb := hfx.2
    have hv := hfx.var
    obtain ⟨q, hqv⟩ : ∃ q : Nat, (q : Int) = litVar x := ⟨(litVar x).toNat, by omega⟩
    have hqn : (litVar x).toNat = q := by omega
    have Hqn := hide hqn
    have hqV : q < V + 1 := by omega
    have hcT := hsv.trl.cells (g := gT) rfl m (.int .i64 x) (by rw [List.getElem?_map, hx]; rfl)
    rw [add_plain, Nat.zero_add] at hcT
    have hvarc := fun W => Variable_ct x W (by omega) (by omega)
    rw [← hqv] at hvarc
    have hsl2 : q < seen.length := by rw [hm.sl]; exact hqV
    have hcs := hm.sr.cell q
    rw [List.getElem?_map, Sb_get hsl2] at hcs
    simp only [Option.map_some] at hcs
    have hq0' : (0 : Int) ≤ (q : Int) := by omega
    have hq1' : (q : Int) < (V : Int) + 1 := by omega
    have j1 : (m : Int) < (t.length : Int) := by omega
    have j0 : (0 : Int) ≤ (m : Int) := by omega
    have Hx := hide hx
    have Hvarc := hide hvarc
    have Hm := hide hm
    have Hl := hide hl
    have Hsv := hide hsv
    obtain ⟨b, hb⟩ : ∃ b, b = Sb seen q := ⟨_, rfl⟩
    rw [← hb] at hcs
    have Hb := hide hb
    clear hx hfx hv hqn hqv hvarc hsv hm hl hb
    cases b with
    | false =>
      have hl2 := Hl.out.skip Hx.out (by rw [Hqn.out]; exact Hb.out.symm)
      have hm0 := hl2.more
      have Hl2 := hide hl2
      clear hl2
      go_wp2_with fail
      with_reducible refine (Hvarc.out _).mono ?_
      rintro e w1 ⟨rfl, rfl⟩
      go_wp2_with fail
      go_roundw
      case rel => exact ⟨m - 1, seen, out, left, O, oc, by omega, by go_num, Hm.out, by rw [show m - 1 + 1 = m from by omega]; exact Hl2.out⟩
      case measure => simp [intOf]; omega
    | true =>
      have hlo := Hl.out.out_len Hst.out.inv
      have hll := Hl.out.left_le
      have hlp := Hl.out.pos
      by_cases h1 : left = 1
      · subst h1
        have hdone := Hl.out.done Hst.out.inv Hx.out (by rw [Hqn.out]; exact Hb.out.symm) Hs.out
        have hfits : ∀ y ∈ out ++ [-x], Fits V y := fun y hy => by
          have := Hst.out.inv.tr.fits _ (hdone.neg y hy)
          have h1 := this.1
          have h2 := this.2
          exact ⟨by omega, by omega, by omega⟩
        have hwB := Hm.out.below.size
        have htrC : Trail V (out ++ [-x]) := ⟨hfits, hdone.apart⟩
        have Hdone := hide hdone
        have Hfits := hide hfits
        have HlenC := hide htrC.len
        clear hdone hfits htrC f0 f1 f2 f3 f4 f5 f7
        obtain ⟨i1, hi1, hy0, hy1, hy2⟩ := info_parts Try.intInfo
        go_wp2_with fail
        with_reducible refine (Hvarc.out _).mono ?_
        rintro e w1 ⟨rfl, rfl⟩
        go_wp2_with
          (at_builtin
           refine wpList_pushA rfl _ _ 22 rfl w.heap.size 3 i1 (.int .i64 0) 1 8 Try.underlying22 hi1 hy0 hy1 hy2 rfl (by decide) _ _ _ rfl Hm.out.orow [.int .i64 (-x)] rfl (by intro u hu; simp at hu; subst hu; rfl) rfl (by omega) (by omega) hwB ?_
           intro O6 oc6 w6 hown6 hg6 hat6
           obtain ⟨hbk6, hp6⟩ := Hm.out.push hown6 hg6 hat6
           obtain ⟨gO, hgO⟩ := own_addr hown6 (by omega)
           subst hgO
           have c6 := hbk6.cell 0
           have c6f := hbk6.frozen 0
           have c6l := hbk6.lt
           simp only [List.getElem?_cons_zero] at c6
           have hrow := hp6.orow
           have hlc : (out ++ [-x]).length = out.length + 1 := by simp
           rw [hlc] at hrow
           have hso := Hsort.out _ _ gO _ _ _ hrow hlc (by omega) (by have := HlenC.out; omega) Hfits.out
           have Hp6 := hide hp6
           have Hso := hide hso
           clear hown6 hg6 hat6 hp6 hbk6 hso hrow hlc)
        with_reducible refine Hso.out.mono ?_
        rintro e w7 ⟨he, hg7, C', hperm, hsorted, hrow7⟩
        unfold Ends at he
        subst he
        have hob := Hp6.out.ob.grown hg7 (fun e => own_ne Hp6.out.orow Hp6.out.ob (by decide) (by rw [e]; rfl))
        have hcO := hob.cell 0
        simp only [List.getElem?_cons_zero] at hcO
        have hlc : (out ++ [-x]).length = out.length + 1 := by simp
        rw [hlc] at hcO
        have hbel := Hp6.out.below.grown hg7 Hp6.out.below.size (fun k hk => own_base Hp6.out.orow (by rw [← hk]; rfl))
        have Hbel := hide hbel
        have Hperm := hide hperm
        have Hsorted := hide hsorted
        have Hrow7 := hide hrow7
        clear hbel hperm hsorted hrow7 hg7 hob
        go_wp2_with fail
        go_ret
        have hlc' : C'.length = out.length + 1 := by rw [Hperm.out.length_eq, hlc]
        have hL := Hdone.out.perm Hperm.out
        refine ⟨gO, oc6, C', by rw [hlc']; rfl, Hbel.out, by rw [hlc']; exact Hrow7.out, hL, fun y hy => Hfits.out y (Hperm.out.mem_iff.1 hy), ?_⟩
        exact (Hsorted.out.and hL.apart).imp (fun {a b} hab => by omega)
      · obtain ⟨ci, c2, hre, hc2, hxc, hall⟩ := Hl.out.reason Hst.out.inv Hx.out (by rw [Hqn.out]; exact Hb.out.symm) h1
        obtain ⟨seen3, out3, left3, hmf3, hl3⟩ := Hl.out.step Hst.out.inv Hx.out (by rw [Hqn.out]; exact Hb.out.symm) h1 hc2 hxc hall
        have Hmf3 := hide hmf3
        have Hl3 := hide hl3
        clear hmf3 hl3 hxc hall
        rw [Hqn.out] at hre
        obtain ⟨A1, n1, c1, hx1, hrx1, _⟩ := Hxs.out ci c2 hc2
        have hcil := (List.getElem?_eq_some_iff.1 hc2).1
        have hcl2 := Hst.out.inv.clean c2 (List.mem_of_getElem? hc2)
        have hn1 := hrx1.len
        have hcl2l := hcl2.len
        have hcell1 := Hown.out.cells (g := gL) rfl ci (.slice A1 n1 c1) hx1
        rw [add_plain, Nat.zero_add] at hcell1
        have hms := Hm.out.setLeft (left - 1)
        have hmark := fun W => fun hW : MkS w W g V bS bR bP bO bL seen out (left - 1) O oc => mark_ct H.out hrx1 hcl2.1 hV hW (by omega) (by omega)
        have hkeep : ∀ W : World, Below w.heap.size w W → Blk 90 W bP [.pointer (some ⟨g, 0, none⟩)] → W.cell? ⟨bP, 0, none⟩ = some (.pointer (some ⟨g, 0, none⟩)) ∧ W.cell? ⟨g, 1, none⟩ = some (.slice (some ⟨gL, 0, none⟩) cs.length lc) ∧ W.cell? ⟨g, 5, none⟩ = some (.slice (some ⟨gr, 0, none⟩) (V + 1) (V + 1)) ∧ W.cell? ⟨gr, q, none⟩ = some (.int .i64 (ci : Int)) ∧ W.cell? ⟨gL, ci, none⟩ = some (.slice A1 n1 c1) := fun W hW hbk => by
          have hsv := H.out.keep hW
          obtain ⟨f0, f1, f2, f3, f4, f5, f6, f7⟩ := hsv.facts
          refine ⟨hbk.cell 0, f1, f5, ?_, (hW.cell (p := ⟨gL, ci, none⟩) hgLl).trans hcell1⟩
          have := hsv.rsn.cell (Lf_get (l := rea) (show q < rea.length by rw [hsv.rlen]; exact hqV))
          rw [hre] at this
          exact this
        have Hmark := hide hmark
        have Hkeep := hide hkeep
        have Hms := hide hms
        have k1 : (ci : Int) < (cs.length : Int) := by omega
        have k0 : (0 : Int) ≤ (ci : Int) := by omega
        have hh1 : ¬ ((left : Int) = 1) := by omega
        have hle1 : ((left - 1 : Nat) : Int) = (left : Int) - 1 := by omega
        clear hmark hkeep hms hre hc2 hx1 hrx1 hcl2 hcell1 h1
        go_wp2_with fail
        with_reducible refine (Hvarc.out _).mono ?_
        rintro e w1 ⟨rfl, rfl⟩
        go_upto_region 14 with (fail)
        rw [← hle1]
        obtain ⟨W, hW⟩ : ∃ W : World, W = wr.setCell ⟨bL, 0, none⟩ (.int .i64 ((left - 1 : Nat) : Int)) := ⟨_, rfl⟩
        rw [← hW] at Hms ⊢
        have hmk2 := Hmark.out _ (Hms.out.keep (Below.refl _ _).drew)
        clear Hmark
        have Hmark := hide hmk2
        clear hmk2 hW f0 f1 f2 f3 f4 f5 f6 f7 m1 m2 m3 m4 m10 m11 hcs hcT
        have hS0 := Hkeep.out W Hms.out.below Hms.out.pb
        refine wp_region_held_drew (S := (fun w' => w'.cell? ⟨bP, 0, none⟩ = some (.pointer (some ⟨g, 0, none⟩)) ∧ w'.cell? ⟨g, 1, none⟩ = some (.slice (some ⟨gL, 0, none⟩) cs.length lc) ∧ w'.cell? ⟨g, 5, none⟩ = some (.slice (some ⟨gr, 0, none⟩) (V + 1) (V + 1)) ∧ w'.cell? ⟨gr, q, none⟩ = some (.int .i64 (ci : Int)) ∧ w'.cell? ⟨gL, ci, none⟩ = some (.slice A1 n1 c1))) (by kernel_rfl) ?_ (fun hHeld => ?_)
        · (try dsimp only); exact hS0
        refine take1 (i := 0) (v := ?_) (some 59) rfl rfl (by kernel_rfl) (by kernel_rfl) (by kernel_rfl) (fun _ _ _ h => h) (Or.inl ⟨by rfl, ?_⟩) (by assumption) ?_
        rotate_left
        · intro w hSw; (try dsimp only at hSw); obtain ⟨s1, s2, s3, s4, s5⟩ := hSw; first | (go_simp; done) | (go_simp; with_reducible rfl)
        try simp only [Act.put, List.setIfInBounds_toArray, List.set_cons_zero, List.set_cons_succ]
        refine take1 (i := 1) (v := ?_) (some 60) rfl rfl (by kernel_rfl) (by kernel_rfl) (by kernel_rfl) (fun _ _ _ h => h) (Or.inl ⟨by rfl, ?_⟩) (by assumption) ?_
        rotate_left
        · intro w hSw; (try dsimp only at hSw); obtain ⟨s1, s2, s3, s4, s5⟩ := hSw; first | (go_simp; done) | (go_simp; with_reducible rfl)
        try simp only [Act.put, List.setIfInBounds_toArray, List.set_cons_zero, List.set_cons_succ]
        refine take1 (i := 2) (v := ?_) (some 61) rfl rfl (by kernel_rfl) (by kernel_rfl) (by kernel_rfl) (fun _ _ _ h => h) (Or.inl ⟨by rfl, ?_⟩) (by assumption) ?_
        rotate_left
        · intro w hSw; (try dsimp only at hSw); obtain ⟨s1, s2, s3, s4, s5⟩ := hSw; first | (go_simp; done) | (go_simp; with_reducible rfl)
        try simp only [Act.put, List.setIfInBounds_toArray, List.set_cons_zero, List.set_cons_succ]
        refine take1 (i := 3) (v := ?_) (some 62) rfl rfl (by kernel_rfl) (by kernel_rfl) (by kernel_rfl) (fun _ _ _ h => h) (Or.inl ⟨by rfl, ?_⟩) (by assumption) ?_
        rotate_left
        · intro w hSw; (try dsimp only at hSw); obtain ⟨s1, s2, s3, s4, s5⟩ := hSw; first | (go_simp; done) | (go_simp; with_reducible rfl)
        try simp only [Act.put, List.setIfInBounds_toArray, List.set_cons_zero, List.set_cons_succ]
        refine take1 (i := 4) (v := ?_) (some 63) rfl rfl (by kernel_rfl) (by kernel_rfl) (by kernel_rfl) (fun _ _ _ h => h) (Or.inl ⟨by rfl, ?_⟩) (by assumption) ?_
        rotate_left
        · intro w hSw; (try dsimp only at hSw); obtain ⟨s1, s2, s3, s4, s5⟩ := hSw; first | (go_simp; done) | (go_simp; with_reducible rfl)
        try simp only [Act.put, List.setIfInBounds_toArray, List.set_cons_zero, List.set_cons_succ]
        refine take1 (i := 5) (v := ?_) (some 64) rfl rfl (by kernel_rfl) (by kernel_rfl) (by kernel_rfl) (fun _ _ _ h => h) (Or.inl ⟨by rfl, ?_⟩) (by assumption) ?_
        rotate_left
        · intro w hSw; (try dsimp only at hSw); obtain ⟨s1, s2, s3, s4, s5⟩ := hSw; first | (go_simp; done) | (go_simp; with_reducible rfl)
        try simp only [Act.put, List.setIfInBounds_toArray, List.set_cons_zero, List.set_cons_succ]
        refine take1 (i := 6) (v := ?_) (some 65) rfl rfl (by kernel_rfl) (by kernel_rfl) (by kernel_rfl) (fun _ _ _ h => h) (Or.inl ⟨by rfl, ?_⟩) (by assumption) ?_
        rotate_left
        · intro w hSw; (try dsimp only at hSw); obtain ⟨s1, s2, s3, s4, s5⟩ := hSw; first | (go_simp; done) | (go_simp; with_reducible rfl)
        try simp only [Act.put, List.setIfInBounds_toArray, List.set_cons_zero, List.set_cons_succ]
        refine take1 (i := 7) (v := ?_) (some 66) rfl rfl (by kernel_rfl) (by kernel_rfl) (by kernel_rfl) (fun _ _ _ h => h) (Or.inl ⟨by rfl, ?_⟩) (by assumption) ?_
        rotate_left
        · intro w hSw; (try dsimp only at hSw); obtain ⟨s1, s2, s3, s4, s5⟩ := hSw; first | (go_simp; done) | (go_simp; with_reducible rfl)
        try simp only [Act.put, List.setIfInBounds_toArray, List.set_cons_zero, List.set_cons_succ]
        refine take1 (i := 8) (v := ?_) (some 67) rfl rfl (by kernel_rfl) (by kernel_rfl) (by kernel_rfl) (fun _ _ _ h => h) (Or.inl ⟨by rfl, ?_⟩) (by assumption) ?_
        rotate_left
        · intro w hSw; (try dsimp only at hSw); obtain ⟨s1, s2, s3, s4, s5⟩ := hSw; first | (go_simp; done) | (go_simp; with_reducible rfl)
        try simp only [Act.put, List.setIfInBounds_toArray, List.set_cons_zero, List.set_cons_succ]
        refine take1 (i := 9) (v := ?_) (some 68) rfl rfl (by kernel_rfl) (by kernel_rfl) (by kernel_rfl) (fun _ _ _ h => h) (Or.inl ⟨by rfl, ?_⟩) (by assumption) ?_
        rotate_left
        · intro w hSw; (try dsimp only at hSw); obtain ⟨s1, s2, s3, s4, s5⟩ := hSw; first | (go_simp; done) | (go_simp; with_reducible rfl)
        try simp only [Act.put, List.setIfInBounds_toArray, List.set_cons_zero, List.set_cons_succ]
        refine take1 (i := 10) (v := ?_) (some 69) rfl rfl (by kernel_rfl) (by kernel_rfl) (by kernel_rfl) (fun _ _ _ h => h) (Or.inl ⟨by rfl, ?_⟩) (by assumption) ?_
        rotate_left
        · intro w hSw; (try dsimp only at hSw); obtain ⟨s1, s2, s3, s4, s5⟩ := hSw; first | (go_simp; done) | (go_simp; with_reducible rfl)
        try simp only [Act.put, List.setIfInBounds_toArray, List.set_cons_zero, List.set_cons_succ]
        refine take1 (i := 11) (v := ?_) (some 70) rfl rfl (by kernel_rfl) (by kernel_rfl) (by kernel_rfl) (fun _ _ _ h => h) (Or.inl ⟨by rfl, ?_⟩) (by assumption) ?_
        rotate_left
        · intro w hSw; (try dsimp only at hSw); obtain ⟨s1, s2, s3, s4, s5⟩ := hSw; first | (go_simp; done) | (go_simp; with_reducible rfl)
        try simp only [Act.put, List.setIfInBounds_toArray, List.set_cons_zero, List.set_cons_succ]
        refine take1 (i := 12) (v := ?_) (some 71) rfl rfl (by kernel_rfl) (by kernel_rfl) (by kernel_rfl) (fun _ _ _ h => h) (Or.inl ⟨by rfl, ?_⟩) (by assumption) ?_
        rotate_left
        · intro w hSw; (try dsimp only at hSw); obtain ⟨s1, s2, s3, s4, s5⟩ := hSw; first | (go_simp; done) | (go_simp; with_reducible rfl)
        try simp only [Act.put, List.setIfInBounds_toArray, List.set_cons_zero, List.set_cons_succ]
        refine take1 (i := 13) (v := ?_) (some 72) rfl rfl (by kernel_rfl) (by kernel_rfl) (by kernel_rfl) (fun _ _ _ h => h) (Or.inl ⟨by rfl, ?_⟩) (by assumption) ?_
        rotate_left
        · intro w hSw; (try dsimp only at hSw); obtain ⟨s1, s2, s3, s4, s5⟩ := hSw; first | (go_simp; done) | (go_simp; with_reducible rfl)
        try simp only [Act.put, List.setIfInBounds_toArray, List.set_cons_zero, List.set_cons_succ]
        refine wpAnyH_ready (rs := [14]) (by kernel_rfl) (by simp) ?_
        refine AllReadyH.cons rfl (fun K hK => ?_) AllReadyH.nil
        go_simp
        with_reducible refine (Hmark.out).mono ?_
        rintro e w1 ⟨he, seen2, out2, left2, O2, oc2, hmf, hm2⟩
        unfold Ends at he
        subst he
        have hS1 := Hkeep.out w1 hm2.below hm2.pb
        have Hmf := hide hmf
        have Hm2 := hide hm2
        clear hmf hm2
        refine hK.out _ _ ?_ (fun hHeld2 => ?_)
        · (try dsimp only); exact hS1
        clear hK K hHeld
        try simp only [Act.put, List.setIfInBounds_toArray, List.set_cons_zero, List.set_cons_succ]
        have hHeld := hHeld2; clear hHeld2
        refine wpAnyH_done (by kernel_rfl) ?_ _
        have hl4 : LInv V cs starts t (Lf lev) m (Sb seen2) out2 left2 := by
          have he := Hmf3.out.symm.trans Hmf.out
          injection he with he1 he
          injection he with he2 he3
          rw [← he1, ← he2, ← he3]
          exact Hl3.out
        have hm0 := hl4.more
        have Hl4 := hide hl4
        clear hl4 hHeld hS0 hS1
        go_wp2_with fail
        go_roundw
        case rel => exact ⟨m - 1, seen2, out2, left2, O2, oc2, by omega, by go_num, Hm2.out, by rw [show m - 1 + 1 = m from by omega]; exact Hl4.out⟩
        case measure => simp [intOf]; omega
end Go.Proofs.Ytnfeknfakkdbhaa
