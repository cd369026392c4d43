/- What the law asks for, part 15: Rs10 Rs11 Rs12 Rs13 Rs14. -/
import Derived.Test.YtemiecammmbjdaaGreatL1
import Derived.Test.YtemiecammmbjdaaGreatL2
import Derived.Test.YtemiecammmbjdaaGreatL4
import Derived.Test.YtemiecammmbjdaaGreatL5
import Derived.Test.YtemiecammmbjdaaGreatL11
import Derived.Test.YtemiecammmbjdaaGreatL12
import Derived.Test.YtemiecammmbjdaaGreatL13
import Derived.Test.YtemiecammmbjdaaGreatL14
import Derived.BigQuiet
import Derived.Deep.AppendLies
import Derived.Deep.DeepCutAuto
import Derived.Deep.Draws
import Derived.Deep.Fields
import Derived.Deep.LoopGhost
import Derived.Deep.QuietTactic
import Derived.Deep.RegionHeld3
import Derived.Deep.RegionLaw
import Derived.Deep.Slices
import Derived.Ground.Names2Prog
import Derived.Ground.SlgnProg
import Derived.Ground.SlsfProg
import Derived.Laws.AppendOwnNone
import Derived.Laws.OwnMore
import Derived.Lib.Hide
import Derived.Maps.AppendAt
import Derived.Shelf.SlSortCmp.Whole1
import Derived.Shelf.SlicesE.Clone
import Derived.Sort.OwnSortedInts
import Derived.Test.YtemiecammmbjdaaGreatProg
import Derived.WalkKit
import Init
namespace Go.Proofs.YtemiecammmbjdaaGreat
set_option linter.unusedVariables false
set_option linter.unusedSimpArgs false
open Go.RowKit
theorem lit_zero {vals : List Int} {q : Nat} {x : Int} : Lit (vals.set q 0) x ↔ Lit vals x ∧ (litVar x).toNat ≠ q := by
  unfold Lit valOf
  rw [List.getD_eq_getElem?_getD, List.getD_eq_getElem?_getD, List.getElem?_set]
  by_cases h : q = (litVar x).toNat
  · rw [if_pos h]
    constructor
    · rintro ⟨_, h2⟩
      exfalso
      split at h2
      · rcases sgn_cases x with e | e <;> simp at h2 <;> omega
      · rcases sgn_cases x with e | e <;> simp at h2 <;> omega
    · rintro ⟨_, h2⟩
      exact absurd h.symm h2
  · rw [if_neg h]
    constructor
    · exact fun h2 => ⟨h2, fun e => h e.symm⟩
    · exact fun h2 => h2.1
theorem lit_undoF : ∀ (D vals : List Int) (x : Int), Lit (undoF vals D) x ↔ Lit vals x ∧ ∀ y ∈ D, (litVar x).toNat ≠ (litVar y).toNat := by
  intro D
  induction D with
  | nil => intro vals x; simp [undoF]
  | cons y D ih =>
    intro vals x
    rw [undoF, ih, lit_zero]
    constructor
    · rintro ⟨⟨h1, h2⟩, h3⟩
      refine ⟨h1, fun z hz => ?_⟩
      rcases List.mem_cons.1 hz with rfl | hz
      · exact h2
      · exact h3 z hz
    · rintro ⟨h1, h2⟩
      exact ⟨⟨h1, h2 y (List.mem_cons_self ..)⟩, fun z hz => h2 z (List.mem_cons_of_mem _ hz)⟩
theorem undoF_len : ∀ (D vals : List Int), (undoF vals D).length = vals.length := by
  intro D
  induction D with
  | nil => intro vals; rfl
  | cons y D ih => intro vals; rw [undoF, ih, List.length_set]
theorem undoF_tri : ∀ (D vals : List Int), Tri vals → Tri (undoF vals D) := by
  intro D
  induction D with
  | nil => intro vals h; exact h
  | cons y D ih =>
    intro vals h
    rw [undoF]
    refine ih _ (fun z hz => ?_)
    rcases List.mem_or_eq_of_mem_set hz with hz | hz
    · exact h z hz
    · omega
theorem St.undo {V : Nat} {cs : List (List Int)} {starts : List Nat} {t vals lev rea : List Int} (h : St V cs starts t vals lev rea) {C : List Int} (hC : Learnt V cs starts t (Lf lev) C) (hcl : Clean V C) {b : Nat} (hb : (b : Int) = backF (Lf lev) starts.length C 0) {s : Nat} (hs : starts[b]? = some s) :
    St V (cs ++ [C]) (starts.take b) (t.take s) (undoF vals (t.drop s)) lev rea ∧ Fresh (cs ++ [C]) (t.take s) := by
  obtain ⟨h1, h2⟩ := h.inv.undo hC hcl hb hs
  refine ⟨⟨h1, undoF_tri _ _ h.tri, fun x hx => ?_, by rw [undoF_len, h.vlen], h.llen, h.rlen⟩, h2⟩
  rw [lit_undoF, h.lit x hx]
  have hap := h.inv.tr.apart
  rw [← List.take_append_drop s t, List.pairwise_append] at hap
  constructor
  · rintro ⟨h3, h4⟩
    rw [← List.take_append_drop s t] at h3
    rcases List.mem_append.1 h3 with h3 | h3
    · exact h3
    · exact absurd rfl (h4 x h3)
  · intro h3
    refine ⟨List.mem_of_mem_take h3, fun y hy e => hap.2.2 x h3 y hy ?_⟩
    unfold litVar at e ⊢
    omega
/-- the measure of the search -/
def meas (A V wlo tlo : Nat) : Nat := (A - wlo) * (V + 2) + (V + 1 - tlo)
theorem meas_conf {A V wlo tlo wlo' tlo' : Nat} (h : wlo < wlo') (h2 : wlo' ≤ A) : meas A V wlo' tlo' < meas A V wlo tlo := by
  unfold meas
  have := Nat.mul_le_mul_right (V + 2) (show A - wlo' + 1 ≤ A - wlo by omega)
  rw [Nat.add_mul, Nat.one_mul] at this
  omega
theorem meas_dec {A V wlo tlo wlo' tlo' : Nat} (h : wlo ≤ wlo') (h1 : tlo < tlo') (h2 : tlo ≤ V) : meas A V wlo' tlo' < meas A V wlo tlo := by
  unfold meas
  have := Nat.mul_le_mul_right (V + 2) (show A - wlo' ≤ A - wlo by omega)
  omega
/-- append in a region that draws -/
theorem step_pushA {P : Program} {w : World} {ops : Array Oper} {o : Oper} {a : Act} {K : Act → World → Prop} {Q : Exit → Act → World → Prop} {E : Prop} (hgd : o.guard = none) (s x : Operand) (t : TypeId)
    (ho : o.op = .call { callee := .builtin .append, args := #[s, x], argTypes := #[t, t] })
    (base : Nat) (e : TypeId) (i : TypeInfo) (z : Value) (size bytes : Nat) (ht : P.underlying t = some (.slice e)) (hi : P.info? e = some i) (hz : i.zero = some z)
    (hsize : i.size = size) (hby : i.bytes = bytes) (hzs : z.cells.size = size) (hsz : 0 < size)
    (v : Value) (n : Nat) (xs : List Value) (hs : a.eval s = v) (hown : w.ownsRow base e size v n xs)
    (us : List Value) (hus : us.length = size) (h1 : ∀ u ∈ us, u.oneCell' = true) (hx : a.eval x = .slice (some ⟨w.heap.size, 0, none⟩) 1 1)
    (h63 : n + 1 ≤ 5800000000000) (hbytes : (n + 1) * bytes ≤ 140737488355328) (hbase : base ≤ w.heap.size)
    (h : ∀ O oc w', w'.ownsRow base e size (.slice O (n + 1) oc) (n + 1) (xs ++ us) → (w.alloc (.cells us.toArray e)).grownBy w' v.ownBlock → ((Value.slice O (n + 1) oc).ownBlock = v.ownBlock ∨ (Value.slice O (n + 1) oc).ownBlock = some (w.heap.size + 1)) → K (a.put o.dst (.slice O (n + 1) oc)) w') :
    if Region.wanted o (yielded ops a.tmps) = true then Oper.wp P o a (w.alloc (.cells us.toArray e)) K Q else E := by
  have hw : Region.wanted o (yielded ops a.tmps) = true := by simp [Region.wanted, hgd]
  rw [if_pos hw]
  obtain ⟨g, cap', w', hr, h2, h3, h4, h5⟩ := run_append_lies (P := P) (w := w.alloc (.cells us.toArray e)) t o.type base e i z size bytes ht hi hz hsize hby hzs hsz _ n xs (hown.alloc _) ⟨w.heap.size, 0, none⟩ 1 1 us (by omega) (by
    intro j u hj
    rw [add_plain, Nat.zero_add]
    have := (Blk.new w e us).cell j
    rw [hj] at this
    exact this) h1 (by omega) (by unfold maxLen; omega) hbytes (by simp; omega) (w.heap.size + 1) (by simp)
  unfold Oper.wp execOp
  simp only [ho, resolve, invoke, builtin, Sem.run_bind, Sem.run_pure, Result.andThen_ok, List.map_toArray, List.map_cons, List.map_nil, hs, hx, hr]
  refine h _ cap' w' h2 h3 ?_
  rcases h4 with h4 | h4
  · exact .inl (by rw [h4]; rfl)
  · exact .inr (by rw [h4]; rfl)
/-- how the search ends -/
def RunP (B : Nat) (w : World) (g V : Nat) (cs0 : List (List Int)) (most : Int) (e : Ending) (w' : World) : Prop :=
  Below B w w' ∧ ∃ (a : SA) (cs ln : List (List Int)) (vals lev rea t : List Int) (starts : List Nat), Sv B w' g a V cs ln vals lev rea t starts ∧ Rups cs0 ln ∧ (∀ C ∈ ln, Clean V C) ∧ (most = 4000 → ln.length ≤ 4000) ∧
    ((e = .returned (.tuple #[.bool true, .bool true]) ∧ cs = cs0 ++ ln ∧ St V cs starts t vals lev rea ∧ (∀ c ∈ cs, Calm c t) ∧ ∀ v, 1 ≤ v → v ≤ V → Lf vals v ≠ 0) ∨
     (e = .returned (.tuple #[.bool false, .bool true]) ∧ ∃ ln', ln = ln' ++ [[]]) ∨
     (e = .returned (.tuple #[.bool false, .bool false]) ∧ (ln.length : Int) = most ∧ ln.length < 2 ^ V))
theorem conflict_base {V : Nat} {cs : List (List Int)} {t : List Int} {lev rea : Nat → Int} (h : Inv V cs [] t lev rea) {c : List Int} (hc : c ∈ cs) (hneg : ∀ y ∈ c, -y ∈ t) : ∀ T, Good cs T → ¬ ∀ y ∈ ([] : List Int), T (-y) := fun T hT _ => by
  obtain ⟨y, hy, hn⟩ := hT.alive c hc
  obtain ⟨j, hj⟩ := List.getElem?_of_mem (hneg y hy)
  exact hn (h.low hT j j _ (Nat.le_refl _) hj rfl)
/-- what is known at the head of the search -/
def Ahead (V : Nat) (cs : List (List Int)) (starts : List Nat) (t : List Int) (wlo tlo : Nat) : Prop := ∀ n, t.length ≤ n → (Fresh cs t → t.length < n) → n ≤ V → wlo ≤ potW V starts n ∧ tlo ≤ n
end Go.Proofs.YtemiecammmbjdaaGreat
namespace Go.Proofs.YtemiecammmbjdaaGreat
set_option linter.unusedVariables false
set_option linter.unusedSimpArgs false
open Go.RowKit
theorem sliceInfo : (Tryz.prog.info? 22).map (fun i => (i.zero, i.size, i.bytes)) = some (some (.slice none 0 0), 1, 24) := by kernel_rfl
theorem Inv.starts_len {V : Nat} {cs : List (List Int)} {starts : List Nat} {t : List Int} {lev rea : Nat → Int} (h : Inv V cs starts t lev rea) : starts.length ≤ t.length := by
  have hnd : starts.Nodup := h.rise.imp (fun {a b} hab e => by omega)
  have := List.Nodup.length_le_of_subset (l₂ := List.range t.length) hnd (fun s hs => List.mem_range.2 (h.inside s hs))
  simpa using this
/-- what the search has been through, as long as what it learned -/
def HistL (V : Nat) (cs0 ln : List (List Int)) (starts : List Nat) (t : List Int) : Prop := ∃ H, H.length = ln.length ∧ Hist V cs0 (cs0 ++ ln) starts t H
theorem HistL.few {V D : Nat} {cs0 ln : List (List Int)} {starts : List Nat} {t : List Int} (h : HistL V cs0 ln starts t) (hf : Few V cs0 D) : ln.length ≤ D := by
  obtain ⟨H, h1, h2⟩ := h
  rw [← h1]
  exact hf H h2.nod h2.fit
theorem HistL.dec {V : Nat} {cs0 ln : List (List Int)} {starts : List Nat} {t vals lev rea : List Int} (h : HistL V cs0 ln starts t) (hst : St V (cs0 ++ ln) starts t vals lev rea) {k : Nat} (hk : 1 ≤ k) (hall : ∀ j, 1 ≤ j → j < k → Lf vals j ≠ 0) : HistL V cs0 ln (starts ++ [t.length]) (t ++ [-(k : Int)]) := by
  obtain ⟨H, h1, h2⟩ := h
  refine ⟨H, h1, ?_⟩
  have := h2.deci hst.inv.inside (k - 1) (fun u hu => by
    have hne := hall (u + 1) (by omega) (by omega)
    have hfr := hst.free (x := (u : Int) + 1) (by omega)
    have hv : valOf vals ((u : Int) + 1) = Lf vals (u + 1) := by
      unfold valOf Lf
      rw [show (litVar ((u : Int) + 1)).toNat = u + 1 by unfold litVar; omega]
    rw [hv] at hfr
    apply Classical.byContradiction
    intro hno
    exact hne (hfr.2 ⟨fun hm => hno (.inl hm), fun hm => hno (.inr hm)⟩))
  rwa [show (((k - 1 : Nat) : Int) + 1) = (k : Int) by omega] at this
set_option maxRecDepth 100000 in
set_option maxHeartbeats 6400000 in
theorem run_ct {B : Nat} {w : World} {g : Nat} {a : SA} {V : Nat} {cs0 : List (List Int)} {vals lev rea : List Int} {most : Int} (h : Sv B w g a V cs0 [] vals lev rea [] []) (hst : St V cs0 [] [] vals lev rea) (hV : V ≤ 1000) (hm : most = 4000 ∨ (most = -1 ∧ Few V cs0 4000000000000)) (hl0 : cs0.length ≤ 1000000) :
    Calls Tryz.prog 45 #[.pointer (some ⟨g, 0, none⟩), .int .i64 most] w (RunP B w g V cs0 most) := by
  have H := hide h
  have Hst := hide hst
  have Hm := hide hm
  have hmb : -1 ≤ most ∧ most ≤ 4000 := by rcases hm with h | ⟨h, _⟩ <;> omega
  clear h hst hm
  go_enter Tryz.func45, Tryz.ntmps45
  go_wp2_with fail
  go_loopg [] (meas (2 ^ V) V 0 0 + 1) (fun gk wr => ∃ (a : SA) (ln : List (List Int)) (vals lev rea t : List Int) (starts : List Nat) (wlo tlo : Nat), Below B w wr ∧ Sv B wr g a V (cs0 ++ ln) ln vals lev rea t starts ∧ St V (cs0 ++ ln) starts t vals lev rea ∧
    Rups cs0 ln ∧ (∀ C ∈ ln, Clean V C) ∧ ln.length ≤ wlo ∧ wlo ≤ 2 ^ V ∧ (most = 4000 → ln.length ≤ 4000) ∧ Ahead V (cs0 ++ ln) starts t wlo tlo ∧ HistL V cs0 ln starts t ∧ meas (2 ^ V) V wlo tlo < gk)
  case atStart => exact ⟨a, [], vals, lev, rea, [], [], 0, 0, Below.refl _ _, by simpa using H.out, by simpa using Hst.out, trivial, (fun C hC => by cases hC), Nat.le_refl _, Nat.zero_le _, (fun _ => Nat.zero_le _), (fun n _ _ _ => ⟨Nat.zero_le _, Nat.zero_le _⟩), ⟨[], rfl, Hist.start _ _ _⟩, Nat.lt_succ_self _⟩
  case round =>
    clear H Hst a vals lev rea
    obtain ⟨a, ln, vals, lev, rea, t, starts, wlo, tlo, hb, hsv, hst, hrups, hlnc, hlw, hwA, hln4, hah, hhl, hgk⟩ := hrel
    obtain ⟨gk, rfl⟩ : ∃ j, gk = j + 1 := ⟨gk - 1, by omega⟩
    obtain ⟨gv, gl, gr, L, lc, D, dc, T, tc, S, sc⟩ := a
    have hprop := propagate_ct hsv hst hV
    have Hprop := hide hprop
    have Hb := hide hb
    have Hrups := hide hrups
    have Hlnc := hide hlnc
    have Hln4 := hide hln4
    have Hah := hide hah
    have hlb : ln.length ≤ 4000000000000 := by
      rcases Hm.out with h | ⟨_, h⟩
      · have := hln4 h
        omega
      · exact hhl.few h
    have Hhl := hide (show ∀ t1, t <+: t1 → HistL V cs0 ln starts t1 from fun t1 hp => by
      obtain ⟨H, h1, h2⟩ := hhl
      exact ⟨H, h1, h2.go hst.inv.inside hp⟩)
    clear hhl
    clear hprop hb hsv hst hrups hlnc hln4 hah
    go_wp2_with fail
    with_reducible refine Hprop.out.mono ?_
    rintro e w1 ⟨k0, O1, oc1, vals1, lev1, rea1, t1, rfl, hb1, hsv1, hst1, hpre, hres, hfr⟩
    simp only at hsv1
    obtain ⟨hw1, ht1⟩ := Hah.out t1.length hpre.length_le hfr hst1.inv.tr.len
    have htl1 := hst1.inv.tr.len
    have hsl1 := hst1.inv.starts_len
    have hpot := potW_lt (V := V) (starts := starts) t1.length htl1
    have hpos := Nat.two_pow_pos (V - t1.length)
    have Hh1 := hide (Hhl.out t1 hpre)
    clear Hhl
    have Hb1 := hide (Hb.out.trans hb1)
    have Hsv1 := hide hsv1
    have Hst1 := hide hst1
    obtain ⟨f0, f1, f2, f3, f4, f5, f6, f7⟩ := hsv1.facts
    simp only at f0 f1 f2 f3 f4 f5 f6 f7
    have hgl1 := hsv1.blk.lt
    have hB1 : B ≤ w1.heap.size := by have := hsv1.ge 0 g rfl; omega
    have hst63 := own_nil_or hsv1.sts
    simp only at hst63
    clear hb1 hsv1 hst1 hpre hfr Hprop Hah Hb
    rcases hres with ⟨rfl, hcalm⟩ | ⟨i, c, rfl, hc, hneg⟩
    · have Hcalm := hide hcalm
      clear hcalm
      go_wp2_with fail
      obtain ⟨wo, hwo⟩ : ∃ wo : World, wo = w1 := ⟨_, rfl⟩
      go_loopw [8] (fun v wr => wr = w1 ∧ ∃ k : Nat, 1 ≤ k ∧ k ≤ V + 1 ∧ v = .int .i64 k ∧ ∀ j, 1 ≤ j → j < k → Lf vals1 j ≠ 0) (fun v _ => V + 1 - (intOf v).toNat)
      case atStart => exact ⟨rfl, 1, by omega, by omega, rfl, fun j h1 h2 => by omega⟩
      case round =>
        obtain ⟨rfl, k, hk1, hk2, rfl, hall⟩ := hrel
        have Hall := hide hall
        clear hall
        by_cases hkV : k ≤ V
        · have hcell := Hsv1.out.val.cell (Lf_get (l := vals1) (show k < vals1.length by rw [Hsv1.out.vlen]; omega))
          simp only at hcell
          have hk0' : (0 : Int) ≤ (k : Int) := by omega
          have hk1' : (k : Int) < (V : Int) + 1 := by omega
          have hk2' : (k : Int) ≤ (V : Int) := by omega
          obtain ⟨u, hu⟩ : ∃ u, u = Lf vals1 k := ⟨_, rfl⟩
          rw [← hu] at hcell
          have Hu := hide hu
          clear hu
          by_cases hz : u = 0
          · have hfk : Fits V (-(k : Int)) := ⟨by omega, by omega, by omega⟩
            have hlv : litVar (-(k : Int)) = k := by unfold litVar; omega
            have hval : valOf vals1 (-(k : Int)) = 0 := by
              unfold valOf
              rw [hlv, Int.toNat_natCast]
              exact Hu.out.symm.trans hz
            obtain ⟨n1, n2⟩ := (Hst1.out.free hfk.1).1 hval
            have hdec := Hst1.out.decide hfk n1 n2 Hcalm.out (-1)
            rw [show starts.length + 1 = (starts ++ [t1.length]).length by simp] at hdec
            have hah2 : Ahead V (cs0 ++ ln) (starts ++ [t1.length]) (t1 ++ [-(k : Int)]) (potW V starts t1.length) (t1.length + 1) := fun n h1 _ h3 => by
              rw [List.length_append, List.length_singleton] at h1
              exact ⟨pot_decide (by omega), h1⟩
            have Hdec := hide hdec
            have Hah2 := hide hah2
            have Hh2 := hide (Hh1.out.dec Hst1.out hk1 Hall.out)
            have Hdr := hide (Hsv1.out.keep (Below.refl _ _).drew)
            have Hbd := hide (Hb1.out.drew)
            have g6n := (Hdr.out.blk.alloc (.cells #[.int .i64 (t1.length : Int)] 3)).cell 6
            simp only [List.getElem?_cons_zero, List.getElem?_cons_succ] at g6n
            obtain ⟨i0, hi0, hz0, hz1, hz2⟩ := info_parts Tryz.intInfo
            subst hz
            clear hval hlv n1 n2 hdec hah2 Hu
            go_upto_region 17 with (fail)
            refine wp_region_held_drew (S := (fun w' => w'.cell? ⟨g, 6, none⟩ = some (.slice O1 t1.length oc1))) (by kernel_rfl) ?_ (fun hHeld => ?_)
            · (try dsimp only); exact f6
            refine take1 (i := 0) (v := ?_) (some 87) rfl rfl (by kernel_rfl) (by kernel_rfl) (by kernel_rfl) (fun _ _ _ h => h) (Or.inl ⟨by rfl, ?_⟩) (by assumption) ?_
            rotate_left
            · intro w hSw; (try dsimp only at hSw); first | (go_simp; done) | (go_simp; with_reducible rfl)
            try simp only [Act.put, List.setIfInBounds_toArray, List.set_cons_zero, List.set_cons_succ]
            refine take1 (i := 1) (v := ?_) (some 88) rfl rfl (by kernel_rfl) (by kernel_rfl) (by kernel_rfl) (fun _ _ _ h => h) (Or.inl ⟨by rfl, ?_⟩) (by assumption) ?_
            rotate_left
            · intro w hSw; (try dsimp only at hSw); first | (go_simp; done) | (go_simp; with_reducible rfl)
            try simp only [Act.put, List.setIfInBounds_toArray, List.set_cons_zero, List.set_cons_succ]
            refine take1 (i := 2) (v := ?_) (some 89) rfl rfl (by kernel_rfl) (by kernel_rfl) (by kernel_rfl) (fun _ _ _ h => h) (Or.inl ⟨by rfl, ?_⟩) (by assumption) ?_
            rotate_left
            · intro w hSw; (try dsimp only at hSw); first | (go_simp; done) | (go_simp; with_reducible rfl)
            try simp only [Act.put, List.setIfInBounds_toArray, List.set_cons_zero, List.set_cons_succ]
            refine take1 (i := 3) (v := ?_) (some 90) rfl rfl (by kernel_rfl) (by kernel_rfl) (by kernel_rfl) (fun _ _ _ h => h) (Or.inl ⟨by rfl, ?_⟩) (by assumption) ?_
            rotate_left
            · intro w hSw; (try dsimp only at hSw); first | (go_simp; done) | (go_simp; with_reducible rfl)
            try simp only [Act.put, List.setIfInBounds_toArray, List.set_cons_zero, List.set_cons_succ]
            refine take1 (i := 5) (v := ?_) (some 92) rfl rfl (by kernel_rfl) (by kernel_rfl) (by kernel_rfl) (fun _ _ _ h => h) (Or.inl ⟨by rfl, ?_⟩) (by assumption) ?_
            rotate_left
            · intro w hSw; (try dsimp only at hSw); first | (go_simp; done) | (go_simp; with_reducible rfl)
            try simp only [Act.put, List.setIfInBounds_toArray, List.set_cons_zero, List.set_cons_succ]
            refine take1 (i := 6) (v := ?_) (some 93) rfl rfl (by kernel_rfl) (by kernel_rfl) (by kernel_rfl) (fun _ _ _ h => h) (Or.inl ⟨by rfl, ?_⟩) (by assumption) ?_
            rotate_left
            · intro w hSw; (try dsimp only at hSw); first | (go_simp; done) | (go_simp; with_reducible rfl)
            try simp only [Act.put, List.setIfInBounds_toArray, List.set_cons_zero, List.set_cons_succ]
            refine take1 (i := 7) (v := ?_) (some 94) rfl rfl (by kernel_rfl) (by kernel_rfl) (by kernel_rfl) (fun _ _ _ h => h) (Or.inl ⟨by rfl, ?_⟩) (by assumption) ?_
            rotate_left
            · intro w hSw; (try dsimp only at hSw); first | (go_simp; done) | (go_simp; with_reducible rfl)
            try simp only [Act.put, List.setIfInBounds_toArray, List.set_cons_zero, List.set_cons_succ]
            refine take1 (i := 8) (v := ?_) (some 95) rfl rfl (by kernel_rfl) (by kernel_rfl) (by kernel_rfl) (fun _ _ _ h => h) (Or.inl ⟨by rfl, ?_⟩) (by assumption) ?_
            rotate_left
            · intro w hSw; (try dsimp only at hSw); first | (go_simp; done) | (go_simp; with_reducible rfl)
            try simp only [Act.put, List.setIfInBounds_toArray, List.set_cons_zero, List.set_cons_succ]
            refine take1 (i := 9) (v := ?_) (some 96) rfl rfl (by kernel_rfl) (by kernel_rfl) (by kernel_rfl) (fun _ _ _ h => h) (Or.inl ⟨by rfl, ?_⟩) (by assumption) ?_
            rotate_left
            · intro w hSw; (try dsimp only at hSw); first | (go_simp; done) | (go_simp; with_reducible rfl)
            try simp only [Act.put, List.setIfInBounds_toArray, List.set_cons_zero, List.set_cons_succ]
            refine wpAnyH_ready (rs := [4, 10]) (by kernel_rfl) (by simp) ?_
            refine AllReadyH.cons rfl (fun K hK => ?_) (AllReadyH.cons rfl (fun K hK => ?_) AllReadyH.nil)
            · go_simp
              refine hK.out _ _ ?_ (fun hHeld2 => ?_)
              · (try dsimp only); exact f6
              clear hK K hHeld
              try simp only [Act.put, List.setIfInBounds_toArray, List.set_cons_zero, List.set_cons_succ]
              have hHeld := hHeld2; clear hHeld2
              refine wpAnyH_ready (rs := [10]) (by kernel_rfl) (by simp) ?_
              refine AllReadyH.cons rfl (fun K hK => ?_) AllReadyH.nil
              go_simp
              refine hK.out _ _ ?_ (fun hHeld2 => ?_)
              · (try dsimp only); exact g6n
              clear hK K hHeld
              try simp only [Act.put, List.setIfInBounds_toArray, List.set_cons_zero, List.set_cons_succ]
              have hHeld := hHeld2; clear hHeld2
              refine wpAnyH_ready (rs := [11]) (by kernel_rfl) (by simp) ?_
              refine AllReadyH.cons rfl (fun K hK => ?_) AllReadyH.nil
              refine step_pushA rfl _ _ 22 rfl B 3 i0 (.int .i64 0) 1 8 Tryz.underlying22 hi0 hz0 hz1 hz2 rfl (by decide) (.slice S starts.length sc) starts.length (starts.map fun s : Nat => Value.int .i64 (s : Int)) rfl Hdr.out.sts [.int .i64 (t1.length : Int)] rfl (by intro u hu; simp at hu; subst hu; rfl) rfl (by omega) (by omega) hB1 ?_
              intro O6 oc6 w6 hown6 hg6 hat6
              obtain ⟨hp6, hb6⟩ := Hdr.out.pushS (x := t1.length) hown6 hg6 hat6
              have hblk6 := (Hdr.out.blk.alloc (.cells #[.int .i64 (t1.length : Int)] 3)).grown hg6 (fun e => by
                have := Hdr.out.ap 5 0 g (by show blkO S = some g; rw [← own_blkO]; exact e.symm) rfl
                omega)
              have c6 := hblk6.cell 7
              have g6' := hblk6.cell 6
              have c6f := hblk6.frozen 7
              have c6l := hblk6.lt
              simp only [List.getElem?_cons_zero, List.getElem?_cons_succ] at c6 g6'
              have g6s := hp6.blk.cell 6
              simp only [List.getElem?_cons_zero, List.getElem?_cons_succ] at g6s
              have Hp6 := hide hp6
              have Hb6 := hide hb6
              clear hown6 hg6 hat6 hp6 hb6 hblk6
              refine hK.out _ _ ?_ (fun hHeld2 => ?_)
              · (try dsimp only); exact g6'
              clear hK K hHeld
              try simp only [Act.put, List.setIfInBounds_toArray, List.set_cons_zero, List.set_cons_succ]
              have hHeld := hHeld2; clear hHeld2
              refine take1 (i := 12) (v := ?_) (some 99) rfl rfl (by kernel_rfl) (by kernel_rfl) (by kernel_rfl) (fun _ _ _ h => h) (Or.inl ⟨by rfl, ?_⟩) (by assumption) ?_
              rotate_left
              · intro w hSw; (try dsimp only at hSw); first | (go_simp; done) | (go_simp; with_reducible rfl)
              try simp only [Act.put, List.setIfInBounds_toArray, List.set_cons_zero, List.set_cons_succ]
              refine take1 (i := 13) (v := ?_) (some 100) rfl rfl (by kernel_rfl) (by kernel_rfl) (by kernel_rfl) (fun _ _ _ h => h) (Or.inl ⟨by rfl, ?_⟩) (by assumption) ?_
              rotate_left
              · intro w hSw; (try dsimp only at hSw); first | (go_simp; done) | (go_simp; with_reducible rfl)
              try simp only [Act.put, List.setIfInBounds_toArray, List.set_cons_zero, List.set_cons_succ]
              refine wpAnyH_ready (rs := [14]) (by kernel_rfl) (by simp) ?_
              refine AllReadyH.cons rfl (fun K hK => ?_) AllReadyH.nil
              go_simp
              refine hK.out _ _ ?_ (fun hHeld2 => ?_)
              · (try dsimp only); exact g6s
              clear hK K hHeld
              try simp only [Act.put, List.setIfInBounds_toArray, List.set_cons_zero, List.set_cons_succ]
              have hHeld := hHeld2; clear hHeld2
              refine wpAnyH_done (by kernel_rfl) ?_ _
              have hasg := assign_ct (-(k : Int)) (-1) Hp6.out hfk hV htl1
              have Hasg := hide hasg
              clear hasg hHeld c6 g6' c6f c6l g6s
              go_wp2_with fail
              with_reducible refine Hasg.out.mono ?_
              rintro e w8 ⟨he, hb8, O8, oc8, hsv8⟩
              unfold Ends at he
              subst he
              simp only at hsv8
              have Hb8 := hide (Hbd.out.trans (Hb6.out.trans hb8))
              have Hsv8 := hide hsv8
              clear hb8 hsv8
              go_wp2_with fail
              go_roundg gk
              case measure => omega
              case rel => exact ⟨_, ln, _, _, _, _, _, potW V starts t1.length, t1.length + 1, Hb8.out, Hsv8.out, Hdec.out, Hrups.out, Hlnc.out, by omega, by omega, Hln4.out, Hah2.out, Hh2.out, Nat.lt_of_lt_of_le (meas_dec (A := 2 ^ V) (V := V) hw1 (show tlo < t1.length + 1 by omega) (by omega)) (by omega)⟩
            · go_simp
              refine hK.out _ _ ?_ (fun hHeld2 => ?_)
              · (try dsimp only); exact g6n
              clear hK K hHeld
              try simp only [Act.put, List.setIfInBounds_toArray, List.set_cons_zero, List.set_cons_succ]
              have hHeld := hHeld2; clear hHeld2
              refine wpAnyH_ready (rs := [4]) (by kernel_rfl) (by simp) ?_
              refine AllReadyH.cons rfl (fun K hK => ?_) AllReadyH.nil
              go_simp
              refine hK.out _ _ ?_ (fun hHeld2 => ?_)
              · (try dsimp only); exact g6n
              clear hK K hHeld
              try simp only [Act.put, List.setIfInBounds_toArray, List.set_cons_zero, List.set_cons_succ]
              have hHeld := hHeld2; clear hHeld2
              refine wpAnyH_ready (rs := [11]) (by kernel_rfl) (by simp) ?_
              refine AllReadyH.cons rfl (fun K hK => ?_) AllReadyH.nil
              refine step_pushA rfl _ _ 22 rfl B 3 i0 (.int .i64 0) 1 8 Tryz.underlying22 hi0 hz0 hz1 hz2 rfl (by decide) (.slice S starts.length sc) starts.length (starts.map fun s : Nat => Value.int .i64 (s : Int)) rfl Hdr.out.sts [.int .i64 (t1.length : Int)] rfl (by intro u hu; simp at hu; subst hu; rfl) rfl (by omega) (by omega) hB1 ?_
              intro O6 oc6 w6 hown6 hg6 hat6
              obtain ⟨hp6, hb6⟩ := Hdr.out.pushS (x := t1.length) hown6 hg6 hat6
              have hblk6 := (Hdr.out.blk.alloc (.cells #[.int .i64 (t1.length : Int)] 3)).grown hg6 (fun e => by
                have := Hdr.out.ap 5 0 g (by show blkO S = some g; rw [← own_blkO]; exact e.symm) rfl
                omega)
              have c6 := hblk6.cell 7
              have g6' := hblk6.cell 6
              have c6f := hblk6.frozen 7
              have c6l := hblk6.lt
              simp only [List.getElem?_cons_zero, List.getElem?_cons_succ] at c6 g6'
              have g6s := hp6.blk.cell 6
              simp only [List.getElem?_cons_zero, List.getElem?_cons_succ] at g6s
              have Hp6 := hide hp6
              have Hb6 := hide hb6
              clear hown6 hg6 hat6 hp6 hb6 hblk6
              refine hK.out _ _ ?_ (fun hHeld2 => ?_)
              · (try dsimp only); exact g6'
              clear hK K hHeld
              try simp only [Act.put, List.setIfInBounds_toArray, List.set_cons_zero, List.set_cons_succ]
              have hHeld := hHeld2; clear hHeld2
              refine take1 (i := 12) (v := ?_) (some 99) rfl rfl (by kernel_rfl) (by kernel_rfl) (by kernel_rfl) (fun _ _ _ h => h) (Or.inl ⟨by rfl, ?_⟩) (by assumption) ?_
              rotate_left
              · intro w hSw; (try dsimp only at hSw); first | (go_simp; done) | (go_simp; with_reducible rfl)
              try simp only [Act.put, List.setIfInBounds_toArray, List.set_cons_zero, List.set_cons_succ]
              refine take1 (i := 13) (v := ?_) (some 100) rfl rfl (by kernel_rfl) (by kernel_rfl) (by kernel_rfl) (fun _ _ _ h => h) (Or.inl ⟨by rfl, ?_⟩) (by assumption) ?_
              rotate_left
              · intro w hSw; (try dsimp only at hSw); first | (go_simp; done) | (go_simp; with_reducible rfl)
              try simp only [Act.put, List.setIfInBounds_toArray, List.set_cons_zero, List.set_cons_succ]
              refine wpAnyH_ready (rs := [14]) (by kernel_rfl) (by simp) ?_
              refine AllReadyH.cons rfl (fun K hK => ?_) AllReadyH.nil
              go_simp
              refine hK.out _ _ ?_ (fun hHeld2 => ?_)
              · (try dsimp only); exact g6s
              clear hK K hHeld
              try simp only [Act.put, List.setIfInBounds_toArray, List.set_cons_zero, List.set_cons_succ]
              have hHeld := hHeld2; clear hHeld2
              refine wpAnyH_done (by kernel_rfl) ?_ _
              have hasg := assign_ct (-(k : Int)) (-1) Hp6.out hfk hV htl1
              have Hasg := hide hasg
              clear hasg hHeld c6 g6' c6f c6l g6s
              go_wp2_with fail
              with_reducible refine Hasg.out.mono ?_
              rintro e w8 ⟨he, hb8, O8, oc8, hsv8⟩
              unfold Ends at he
              subst he
              simp only at hsv8
              have Hb8 := hide (Hbd.out.trans (Hb6.out.trans hb8))
              have Hsv8 := hide hsv8
              clear hb8 hsv8
              go_wp2_with fail
              go_roundg gk
              case measure => omega
              case rel => exact ⟨_, ln, _, _, _, _, _, potW V starts t1.length, t1.length + 1, Hb8.out, Hsv8.out, Hdec.out, Hrups.out, Hlnc.out, by omega, by omega, Hln4.out, Hah2.out, Hh2.out, Nat.lt_of_lt_of_le (meas_dec (A := 2 ^ V) (V := V) hw1 (show tlo < t1.length + 1 by omega) (by omega)) (by omega)⟩
          · go_wp2_with fail
            go_roundw
            case rel => exact ⟨by first | trivial | rfl, k + 1, by omega, by omega, by go_num, fun j h1 h2 => by
              by_cases hj : j = k
              · rw [hj, ← Hu.out]
                exact hz
              · exact Hall.out j h1 (by omega)⟩
            case measure => simp [intOf]; omega
        · have hk2' : ¬ ((k : Int) ≤ (V : Int)) := by omega
          go_wp2_with fail
          go_ret2
          exact ⟨Hb1.out, _, _, ln, vals1, lev1, rea1, t1, starts, Hsv1.out, Hrups.out, Hlnc.out, Hln4.out, .inl ⟨rfl, rfl, Hst1.out, Hcalm.out, fun v h1 h2 => Hall.out v h1 (by omega)⟩⟩
    · have Hc := hide hc
      have Hneg := hide hneg
      clear hc hneg
      by_cases hmo : (ln.length : Int) = most
      · go_wp2_with fail
        go_ret2
        exact ⟨Hb1.out, _, _, ln, vals1, lev1, rea1, t1, starts, Hsv1.out, Hrups.out, Hlnc.out, Hln4.out, .inr (.inr ⟨rfl, hmo, by omega⟩)⟩
      · obtain ⟨i1, hi1, hy0, hy1, hy2⟩ := info_parts sliceInfo
        by_cases hs0 : starts = []
        · obtain ⟨vs, hownD, hvsl, hxsD⟩ := Hsv1.out.lrn
          have hvl : vs.length = ln.length := by rw [hownD.1, Nat.mul_one]
          have hsl0 : starts.length = 0 := by rw [hs0]; rfl
          have hin := Hst1.out.inv
          rw [hs0] at hin
          have hbase := conflict_base hin (List.mem_of_getElem? Hc.out) Hneg.out
          have Hr2 := hide (Hrups.out.snoc hbase)
          have HownD := hide hownD
          have HxsD := hide hxsD
          rw [hsl0] at f7
          clear hin hbase hownD hxsD
          go_wp2_with
            (at_builtin
             refine wpList_pushA rfl _ _ 36 rfl B 22 i1 (.slice none 0 0) 1 24 Tryz.underlying36 hi1 hy0 hy1 hy2 rfl (by decide) _ _ _ rfl HownD.out [.slice none 0 0] rfl (by intro u hu; simp at hu; subst hu; rfl) rfl (by omega) (by omega) hB1 ?_
             intro O6 oc6 w6 hown6 hg6 hat6
             obtain ⟨hp6, hb6, _⟩ := Hsv1.out.pushD (C := []) (A1 := none) (n1 := 0) (c1 := 0) (Rd.nil_ _ _) (fun b off e => by cases e) hvl HxsD.out hown6 hg6 hat6
             have hblk6 := (Hsv1.out.blk.alloc (.cells #[.slice none 0 0] 22)).grown hg6 (fun e => by
               have := Hsv1.out.ap 7 0 g (by show blkO D = some g; rw [← own_blkO]; exact e.symm) rfl
               omega)
             have c6 := hblk6.cell 2
             have c6f := hblk6.frozen 2
             have c6l := hblk6.lt
             simp only [List.getElem?_cons_zero, List.getElem?_cons_succ] at c6
             have Hp6 := hide hp6
             have Hb6 := hide hb6
             clear hown6 hg6 hat6 hp6 hb6 hblk6 f0 f1 f2 f3 f4 f5 f6 f7)
          go_ret2
          refine ⟨Hb1.out.trans Hb6.out, _, _, ln ++ [[]], vals1, lev1, rea1, t1, starts, Hp6.out, Hr2.out, fun C hC => ?_, fun h4 => ?_, .inr (.inl ⟨rfl, ln, rfl⟩)⟩
          · rcases List.mem_append.1 hC with hC | hC
            · exact Hlnc.out C hC
            · simp at hC
              subst hC
              exact ⟨fun x hx => (by cases hx), List.Pairwise.nil⟩
          · have := Hln4.out h4
            rw [List.length_append, List.length_singleton]
            omega
        · have hlearn := learn_ct (sort_ct hV) Hsv1.out Hst1.out Hc.out Hneg.out hs0 hV
          have Hlearn := hide hlearn
          have hmx : ∀ b : Nat, Mine g ⟨gv, gl, gr, L, lc, D, dc, O1, oc1, S, sc⟩ b → b < w1.heap.size := fun b ⟨j, hj⟩ => Hsv1.out.lt hj
          have Hmx := hide hmx
          have hspI : ¬ ((starts.length : Int) = 0) := fun h => hs0 (List.length_eq_zero_iff.1 (by omega))
          clear hlearn hmx
          go_wp2_with fail
          with_reducible refine Hlearn.out.mono ?_
          rintro e w2 ⟨gC, ocC, C, rfl, hb2, hownC, hlrn, hclC⟩
          have hsv2 := Hsv1.out.keep hb2
          have hrC : Rd Enc.int w2 (some ⟨gC, 0, none⟩) C.length ocC C := own_rd hownC rfl (fun x hx => by
            have := (hclC.1 x hx).2
            omega)
          have hgCge : w1.heap.size ≤ gC := own_base hownC rfl
          have hnm : ∀ b off, (some ⟨gC, 0, none⟩ : Option Addr) = some ⟨b, off, none⟩ → 0 < C.length → ¬ Mine g ⟨gv, gl, gr, L, lc, D, dc, O1, oc1, S, sc⟩ b := fun b off e _ hmi => by
            injection e with e
            injection e with e _
            have := Hmx.out b hmi
            omega
          have hCl := hclC.len
          obtain ⟨vs, hownD, hvsl, hxsD⟩ := hsv2.lrn
          have hvl : vs.length = ln.length := by rw [hownD.1, Nat.mul_one]
          have hB2 : B ≤ w2.heap.size := by have := hb2.size; omega
          have Hb2 := hide (Hb1.out.trans (hb2.mono hB1))
          have HrC := hide hrC
          have Hnm := hide hnm
          have HownD := hide hownD
          have HxsD := hide hxsD
          have Hsv2 := hide hsv2
          have Hlrn := hide hlrn
          have HclC := hide hclC
          clear f0 f1 f2 f3 f4 f5 f6 f7 Hlearn Hmx
          obtain ⟨f0, f1, f2, f3, f4, f5, f6, f7⟩ := hsv2.facts
          simp only at f0 f1 f2 f3 f4 f5 f6 f7
          clear hb2 hownC hlrn hclC hsv2 hrC hnm hownD hxsD hgCge hgl1
          have hgl2 := Hsv2.out.blk.lt
          obtain ⟨cs, hcs⟩ : ∃ cs, cs = cs0 ++ ln := ⟨_, rfl⟩
          rw [← hcs] at Hsv2 f1
          have Hcs := hide hcs
          clear hcs
          go_upto_region 10 with
            (at_builtin
             refine wpList_pushA rfl _ _ 36 rfl B 22 i1 (.slice none 0 0) 1 24 Tryz.underlying36 hi1 hy0 hy1 hy2 rfl (by decide) _ _ _ rfl HownD.out [.slice (some ⟨gC, 0, none⟩) C.length ocC] rfl (by intro u hu; simp at hu; subst hu; rfl) rfl (by omega) (by omega) hB2 ?_
             intro O6 oc6 w6 hown6 hg6 hat6
             obtain ⟨hp6, hb6, hk6⟩ := Hsv2.out.pushD HrC.out Hnm.out hvl HxsD.out hown6 hg6 hat6
             have hblk6 := (Hsv2.out.blk.alloc (.cells #[.slice (some ⟨gC, 0, none⟩) C.length ocC] 22)).grown hg6 (fun e => by
               have := Hsv2.out.ap 7 0 g (by show blkO D = some g; rw [← own_blkO]; exact e.symm) rfl
               omega)
             have c6 := hblk6.cell 2
             have c6f := hblk6.frozen 2
             have c6l := hblk6.lt
             simp only [List.getElem?_cons_zero, List.getElem?_cons_succ] at c6
             obtain ⟨hr6, hn6⟩ := hk6 _ _ _ _ HrC.out Hnm.out
             simp only at hp6 hn6
             have Hp6 := hide hp6
             have Hb6 := hide hb6
             have Hr6 := hide hr6
             have Hn6 := hide hn6
             clear hown6 hg6 hat6 hp6 hb6 hblk6 f0 f1 f2 f3 f4 f5 f6 f7 hk6 hr6 hn6)
          obtain ⟨W, hW⟩ : ∃ W, W = w6.setCell ⟨g, 2, none⟩ (.slice O6 (ln.length + 1) oc6) := ⟨_, rfl⟩
          rw [← hW] at Hp6 Hb6 Hr6 ⊢
          clear hW c6 c6f c6l HxsD HownD HrC Hnm
          obtain ⟨f0, f1, f2, f3, f4, f5, f6, f7⟩ := Hp6.out.facts
          simp only at f0 f1 f2 f3 f4 f5 f6 f7
          have hglW := Hp6.out.blk.lt
          obtain ⟨vs2, hownL, hvsl2, hxsL⟩ := Hp6.out.lst
          have hvl2 : vs2.length = cs.length := by rw [hownL.1, Nat.mul_one]
          have hcsl : cs.length ≤ 4000001000000 := by rw [Hcs.out, List.length_append]; omega
          have hBW : B ≤ W.heap.size := by have := Hp6.out.ge 0 g rfl; omega
          have HownL := hide hownL
          have HxsL := hide hxsL
          clear hownL hxsL hgl2
          go_upto_region 11 with
            (at_builtin
             refine wpList_pushA rfl _ _ 36 rfl B 22 i1 (.slice none 0 0) 1 24 Tryz.underlying36 hi1 hy0 hy1 hy2 rfl (by decide) _ _ _ rfl HownL.out [.slice (some ⟨gC, 0, none⟩) C.length ocC] rfl (by intro u hu; simp at hu; subst hu; rfl) rfl (by omega) (by omega) hBW ?_
             intro O7 oc7 w7 hown7 hg7 hat7
             obtain ⟨hp7, hb7, hk7⟩ := Hp6.out.pushL Hr6.out Hn6.out hvl2 HxsL.out hown7 hg7 hat7
             have hblk7 := (Hp6.out.blk.alloc (.cells #[.slice (some ⟨gC, 0, none⟩) C.length ocC] 22)).grown hg7 (fun e => by
               have := Hp6.out.ap 6 0 g (by show blkO L = some g; rw [← own_blkO]; exact e.symm) rfl
               omega)
             have c7 := hblk7.cell 1
             have c7f := hblk7.frozen 1
             have c7l := hblk7.lt
             simp only [List.getElem?_cons_zero, List.getElem?_cons_succ] at c7
             obtain ⟨hr7, hn7⟩ := hk7 _ _ _ _ Hr6.out Hn6.out
             simp only at hp7
             have Hp7 := hide hp7
             have Hb7 := hide hb7
             have Hr7 := hide hr7
             clear hown7 hg7 hat7 hp7 hb7 hblk7 f0 f1 f2 f3 f4 f5 f6 f7 hk7 hr7 hn7)
          obtain ⟨W2, hW2⟩ : ∃ W2, W2 = w7.setCell ⟨g, 1, none⟩ (.slice O7 (cs.length + 1) oc7) := ⟨_, rfl⟩
          rw [← hW2] at Hp7 Hb7 Hr7 ⊢
          clear hW2 c7 c7f c7l HxsL HownL Hr6 Hn6
          have hlev0 : ∀ y ∈ C, 0 ≤ Lf lev1 (litVar y).toNat := fun y hy => Int.le_of_lt (Hlrn.out.low y hy)
          have hsp : 0 < starts.length := List.length_pos_iff.2 hs0
          obtain ⟨b1, b2, _, _⟩ := backF_spec (Lf lev1) starts.length C 0 (Int.le_refl _) (by omega) hlev0
          obtain ⟨b, hb⟩ : ∃ b : Nat, (b : Int) = backF (Lf lev1) starts.length C 0 := ⟨(backF (Lf lev1) starts.length C 0).toNat, by omega⟩
          have hbs : b < starts.length := by omega
          obtain ⟨s, hs⟩ : ∃ s, starts[b]? = some s := ⟨_, List.getElem?_eq_getElem hbs⟩
          have hsl := Hst1.out.inv.inside s (List.mem_of_getElem? hs)
          have hback := back_ct Hp7.out Hr7.out HclC.out.1 hV
          rw [← hb] at hback
          obtain ⟨hu1, hu2⟩ := Hst1.out.undo Hlrn.out HclC.out hb hs
          have hah2 : Ahead V (cs0 ++ ln ++ [C]) (starts.take b) (t1.take s) (potW V starts t1.length + 1) 0 := fun n h1 h2 h3 => by
            have hlt := h2 hu2
            rw [List.length_take] at hlt
            exact ⟨pot_conflict Hst1.out.inv.rise hs hsl htl1 (by omega), Nat.zero_le _⟩
          have hr2 : Rups cs0 (ln ++ [C]) := Hrups.out.snoc Hlrn.out.rup
          have hh3 : HistL V cs0 (ln ++ [C]) (starts.take b) (t1.take s) := by
            obtain ⟨H, g1, g2⟩ := Hh1.out
            obtain ⟨r, g3⟩ := g2.learn Hst1.out.inv (fun c hc => List.mem_append_left _ hc) Hlrn.out HclC.out.1 hs
            exact ⟨H ++ [r], by rw [List.length_append, List.length_append, g1]; rfl, by rw [← List.append_assoc]; exact g3⟩
          have Hh3 := hide hh3
          clear hh3
          have hundo := fun W3 (hq : Qt W2 W3) => undo_ct (b := b) (s := s) (Hp7.out.keep (hq.below _)) Hst1.out.inv.tr.fits hs hsl hV htl1
          rw [List.append_assoc] at hu1 hah2
          have Hback := hide hback
          have Hu1 := hide hu1
          have Hah2 := hide hah2
          have Hr2 := hide hr2
          have Hundo := hide hundo
          clear hlev0 b1 b2 hb hback hu1 hu2 hah2 hr2 hundo hs
          go_wp2_with fail
          with_reducible refine Hback.out.mono ?_
          rintro e w5 ⟨rfl, hq5⟩
          have hundo := Hundo.out _ hq5
          have Hund2 := hide hundo
          have Hq5 := hide hq5
          clear hundo Hundo hq5
          go_wp2_with fail
          with_reducible refine Hund2.out.mono ?_
          rintro e w9 ⟨he, hb9, hsv9⟩
          unfold Ends at he
          subst he
          rw [Hcs.out, List.append_assoc] at hsv9
          have Hb9 := hide (Hb2.out.trans (Hb6.out.trans (Hb7.out.trans ((Hq5.out.below _).trans hb9))))
          have Hsv9 := hide hsv9
          clear hb9 hsv9
          go_wp2_with fail
          go_roundg gk
          case measure => omega
          case rel => exact ⟨_, ln ++ [C], _, _, _, _, _, potW V starts t1.length + 1, 0, Hb9.out, Hsv9.out, Hu1.out, Hr2.out, (fun D hD => by
            rcases List.mem_append.1 hD with hD | hD
            · exact Hlnc.out D hD
            · simp at hD
              rw [hD]
              exact HclC.out), by simp; omega, by omega, (fun h4 => by
            have := Hln4.out h4
            rw [List.length_append, List.length_singleton]
            omega), Hah2.out, Hh3.out, Nat.lt_of_lt_of_le (meas_conf (A := 2 ^ V) (V := V) (tlo := tlo) (tlo' := 0) (show wlo < potW V starts t1.length + 1 by omega) (by omega)) (by omega)⟩
end Go.Proofs.YtemiecammmbjdaaGreat
namespace Go.Proofs.YtemiecammmbjdaaGreat
set_option linter.unusedVariables false
set_option linter.unusedSimpArgs false
open Go.RowKit
def ValuesP (w : World) (V : Nat) (vals : List Int) (e : Ending) (w' : World) : Prop :=
  ∃ O oc, e = .returned (.slice O V oc) ∧ Below w.heap.size w w' ∧ w'.ownsRow w.heap.size 4 1 (.slice O V oc) V ((modelF vals V).map Value.bool)
set_option maxRecDepth 100000 in
set_option maxHeartbeats 1600000 in
theorem values_ct {B : Nat} {w : World} {g : Nat} {a : SA} {V : Nat} {cs ln : List (List Int)} {vals lev rea t : List Int} {starts : List Nat} (h : Sv B w g a V cs ln vals lev rea t starts) (hV : V ≤ 1000) :
    Calls Tryz.prog 46 #[.pointer (some ⟨g, 0, none⟩)] w (ValuesP w V vals) := by
  obtain ⟨i0, hi0, hz0, hz1, hz2⟩ := info_parts boolInfo2
  have H := hide h
  clear h
  go_enter Tryz.func46, Tryz.ntmps46
  go_wp2_with fail
  go_loopw [3, 4] (fun o v wr => ∃ (j : Nat) (O : Option Addr) (oc : Nat), j ≤ V ∧ v = .int .i64 ((j : Int) + 1) ∧ o = .slice O j oc ∧ wr.ownsRow w.heap.size 4 1 (.slice O j oc) j ((modelF vals j).map Value.bool) ∧ Below w.heap.size w wr) (fun _ v _ => V + 1 - (intOf v).toNat)
  case atStart => exact ⟨0, none, 0, by omega, by first | rfl | go_num, rfl, World.ownsRow_nil _ _ _ _, Below.refl _ _⟩
  case round =>
    obtain ⟨j, O, oc, hj, rfl, rfl, hown, hb⟩ := hrel
    have hsv := H.out.keep hb
    obtain ⟨f0, f1, f2, f3, f4, f5, f6, f7⟩ := hsv.facts
    clear f1 f2 f4 f5 f6 f7
    have hB := hb.size
    have Hown := hide hown
    have Hb := hide hb
    by_cases hlt : j < V
    · have hcell := hsv.val.cell (Lf_get (l := vals) (show j + 1 < vals.length by rw [hsv.vlen]; omega))
      have hq0' : (0 : Int) ≤ (j : Int) + 1 := by omega
      have hq1' : (j : Int) + 1 < (V : Int) + 1 := by omega
      have hq2' : (j : Int) + 1 ≤ (V : Int) := by omega
      have hms : modelF vals (j + 1) = modelF vals j ++ [decide (0 < Lf vals (j + 1))] := by
        unfold modelF
        rw [List.range_succ, List.map_append]
        rfl
      obtain ⟨u, hu⟩ : ∃ u, u = Lf vals (j + 1) := ⟨_, rfl⟩
      rw [← hu] at hcell hms
      have Hms := hide hms
      clear hsv hown hb hu hms
      go_wp2_with
        (at_builtin
         refine wpList_pushA rfl _ _ 51 rfl w.heap.size 4 i0 (.bool false) 1 1 Tryz.underlying51 hi0 hz0 hz1 hz2 rfl (by decide) _ _ _ rfl Hown.out [.bool (decide (0 < u))] rfl (by intro u hu; simp at hu; subst hu; rfl) rfl (by omega) (by omega) hB ?_
         intro O6 oc6 w6 hown6 hg6 hat6
         have hbl := ((Hb.out.alloc hB (.cells #[.bool (decide (0 < u))] 4))).grown hg6 (by simp; omega) (fun k hk => own_base Hown.out hk)
         have Hown6 := hide hown6
         have Hbl := hide hbl
         clear hown6 hg6 hat6 hbl)
      go_roundw
      case rel => exact ⟨j + 1, O6, oc6, by omega, by go_num, rfl, by rw [Hms.out, List.map_append]; exact Hown6.out, Hbl.out⟩
      case measure => simp [intOf]; omega
    · obtain rfl : j = V := by omega
      have hq2' : ¬ ((j : Int) + 1 ≤ (j : Int)) := by omega
      clear hsv hown hb
      go_wp2_with fail
      go_ret
      exact ⟨O, oc, rfl, Hb.out, Hown.out⟩
end Go.Proofs.YtemiecammmbjdaaGreat
namespace Go.Proofs.YtemiecammmbjdaaGreat
set_option linter.unusedVariables false
set_option linter.unusedSimpArgs false
open Go.RowKit
def CloneQ (w0 w : World) (n : Nat) (cs : List (List Int)) (e : Ending) (w' : World) : Prop :=
  ∃ (O : Option Addr) (oc : Nat), e = .returned (.slice O n oc) ∧ Below w.heap.size w w' ∧ ∃ xs : List Value, w'.ownsRow w.heap.size 22 1 (.slice O n oc) n xs ∧
    ∀ (i : Nat) (x : List Int), cs[i]? = some x → ∃ A' n' c', xs[i]? = some (Value.slice A' n' c') ∧ Rd Enc.int w0 A' n' c' x
theorem sizeOf_sl (w : World) : (Go.sizeOf 22).run Tryz.prog w = .ok 1 w := Tryz.sizeOf22 w
theorem clone_ct {w0 w : World} {A : Option Addr} {n c : Nat} {cs : List (List Int)} (h : Rd (Enc.sl Enc.int) w0 A n c cs) (hb0 : Below w0.heap.size w0 w) (hA : ∀ ad, A = some ad → ∃ b off, ad = ⟨b, off, none⟩) (hn : n ≤ 1000000) :
    Calls Tryz.prog 79 #[.slice A n c] w (CloneQ w0 w n cs) := by
  obtain ⟨i1, hi1, hy0, hy1, hy2⟩ := info_parts sliceInfo
  cases A with
  | none =>
    have hc := h.nil rfl
    have hn0 : n = 0 := by have := h.cap; omega
    subst hn0
    refine (Tryz.slices_Clone_nil_f79 0 c w).mono ?_
    rintro e w' ⟨rfl, rfl⟩
    refine ⟨none, 0, rfl, Below.refl _ _, [], World.ownsRow_nil _ _ _ _, fun i x hx => ?_⟩
    have := (List.getElem?_eq_some_iff.1 hx).1
    have := h.len
    omega
  | some ad =>
    have hx : ∃ (b off : Nat) (xs : List Value), ad = ⟨b, off, none⟩ ∧ xs.length = n ∧ (∀ j u, xs[j]? = some u → w.cell? ⟨b, off + j, none⟩ = some u) ∧ (∀ u ∈ xs, u.oneCell' = true) ∧
        ∀ (i : Nat) (x : List Int), cs[i]? = some x → ∃ A' n' c', xs[i]? = some (Value.slice A' n' c') ∧ Rd Enc.int w0 A' n' c' x := by
      rcases Nat.eq_zero_or_pos n with h0 | h0
      · obtain ⟨b, off, e⟩ := hA ad rfl
        refine ⟨b, off, [], e, by rw [h0]; rfl, (fun j u hu => by simp at hu), (fun u hu => by cases hu), fun i x hx => ?_⟩
        have := (List.getElem?_eq_some_iff.1 hx).1
        have := h.len
        omega
      · obtain ⟨b, off, e, _⟩ := h.at_ h0
        have hget : ∀ k : Nat, ∃ v : Value, k < n → ∃ x A' n' c', cs[k]? = some x ∧ v = .slice A' n' c' ∧ w.cell? ⟨b, off + k, none⟩ = some v ∧ Rd Enc.int w0 A' n' c' x := fun k => by
          by_cases hk : k < n
          · obtain ⟨b', off', x, A', n', c', e', h1, h2, h3⟩ := h.sl hk
            rw [e] at e'
            injection e' with e'
            injection e' with e1 e2
            subst e1 e2
            exact ⟨.slice A' n' c', fun _ => ⟨x, A', n', c', h1, rfl, (hb0.cell (p := ⟨b, off + k, none⟩) (World.block_lt_of_cell? w0 _ h2)).trans h2, h3⟩⟩
          · exact ⟨undef, fun h => absurd h hk⟩
        obtain ⟨f, hf⟩ := Classical.axiomOfChoice hget
        refine ⟨b, off, (List.range n).map f, by injection e, by simp, fun j u hu => ?_, fun u hu => ?_, fun i x hx => ?_⟩
        · rw [List.getElem?_map] at hu
          by_cases hj : j < n
          · rw [List.getElem?_range hj] at hu
            simp at hu
            subst hu
            obtain ⟨_, _, _, _, _, _, h2, _⟩ := hf j hj
            exact h2
          · rw [List.getElem?_eq_none (by simp; omega)] at hu
            cases hu
        · obtain ⟨j, hj, rfl⟩ := List.mem_map.1 hu
          obtain ⟨_, _, _, _, _, h1, _, _⟩ := hf j (List.mem_range.1 hj)
          rw [h1]
          rfl
        · have hi : i < n := by
            have := (List.getElem?_eq_some_iff.1 hx).1
            have := h.len
            omega
          obtain ⟨x', A', n', c', h1, h2, _, h3⟩ := hf i hi
          rw [hx] at h1
          obtain rfl := Option.some.inj h1
          exact ⟨A', n', c', by rw [List.getElem?_map, List.getElem?_range hi]; simp [h2], h3⟩
    obtain ⟨b, off, xs, he, hl, hc, h1, hxs⟩ := hx
    subst he
    refine (Tryz.slices_Clone_f79 i1 (.slice none 0 0) 1 24 hi1 hy0 hy1 hy2 rfl (by decide) sizeOf_sl b off n c xs w (by omega) (by unfold maxLen; omega) (by omega) hc h1).mono ?_
    rintro e w' ⟨v', rfl, hown, _, hb⟩
    have hsh : ∃ O oc, v' = .slice O n oc := by
      rcases hown.2 with ⟨e1, h0⟩ | ⟨g, cap, cur, e', _⟩
      · exact ⟨none, 0, by rw [e1, h0]⟩
      · exact ⟨_, _, e'⟩
    obtain ⟨O, oc, rfl⟩ := hsh
    exact ⟨O, oc, rfl, hb, xs, hown, hxs⟩
end Go.Proofs.YtemiecammmbjdaaGreat
namespace Go.Proofs.YtemiecammmbjdaaGreat
set_option linter.unusedVariables false
set_option linter.unusedSimpArgs false
open Go.RowKit
def NewP (w : World) (V : Nat) (cs : List (List Int)) (e : Ending) (w' : World) : Prop :=
  ∃ (g : Nat) (a : SA), e = .returned (.pointer (some ⟨g, 0, none⟩)) ∧ Below w.heap.size w w' ∧ Sv w.heap.size w' g a V cs [] (List.replicate (V + 1) 0) (List.replicate (V + 1) 0) (List.replicate (V + 1) 0) [] []
theorem own_mono {w : World} {B B' : Nat} {e : TypeId} {size n : Nat} {v : Value} {xs : List Value} (h : w.ownsRow B e size v n xs) (hB : B' ≤ B) : w.ownsRow B' e size v n xs := by
  refine ⟨h.1, ?_⟩
  rcases h.2 with h3 | ⟨r, cap, cur, e1, hr, hc, rest⟩
  · exact .inl h3
  · exact .inr ⟨r, cap, cur, e1, by omega, hc, rest⟩
/-- what the copy of the clauses has laid -/
def Cloned (B H : Nat) (w : World) (n : Nat) (cs : List (List Int)) (O : Option Addr) (oc : Nat) : Prop :=
  ∃ xs : List Value, w.ownsRow B 22 1 (.slice O n oc) n xs ∧
    ∀ (i : Nat) (x : List Int), cs[i]? = some x → ∃ A' n' c', xs[i]? = some (Value.slice A' n' c') ∧ Rd Enc.int w A' n' c' x ∧ ∀ b off, A' = some ⟨b, off, none⟩ → 0 < n' → b < H
theorem Cloned.keep {B H : Nat} {w w' : World} {n : Nat} {cs : List (List Int)} {O : Option Addr} {oc : Nat} (h : Cloned B H w n cs O oc) (hb : Below w.heap.size w w') : Cloned B H w' n cs O oc := by
  obtain ⟨xs, h1, h2⟩ := h
  refine ⟨xs, own_keep h1 hb, fun i x hx => ?_⟩
  obtain ⟨A', n', c', e1, e2, e3⟩ := h2 i x hx
  exact ⟨A', n', c', e1, e2.keep hb, e3⟩
theorem new_tail {w W : World} {V n gv gl gr : Nat} {cs : List (List Int)} {O : Option Addr} {oc : Nat} (hb : Below w.heap.size w W) (hv : BlkI 3 W gv (List.replicate (V + 1) 0)) (hl : BlkI 3 W gl (List.replicate (V + 1) 0)) (hr : BlkI 3 W gr (List.replicate (V + 1) 0))
    (d1 : gv ≠ gl) (d2 : gv ≠ gr) (d3 : gl ≠ gr) (g1 : w.heap.size ≤ gv) (g2 : w.heap.size ≤ gl) (g3 : w.heap.size ≤ gr) (hc : Cloned w.heap.size w.heap.size W n cs O oc) (hn : cs.length = n) {w' : World} {g : Nat}
    (hg : g = W.heap.size) (hw : w' = W.alloc (.cells #[.int .i64 V, .slice O n oc, .slice none 0 0, .slice (some ⟨gv, 0, none⟩) (V + 1) (V + 1), .slice (some ⟨gl, 0, none⟩) (V + 1) (V + 1), .slice (some ⟨gr, 0, none⟩) (V + 1) (V + 1), .slice none 0 0, .slice none 0 0] 140)) :
    Below w.heap.size w w' ∧ Sv w.heap.size w' g ⟨gv, gl, gr, O, oc, none, 0, none, 0, none, 0⟩ V cs [] (List.replicate (V + 1) 0) (List.replicate (V + 1) 0) (List.replicate (V + 1) 0) [] [] := by
  subst hg hn
  have hbx := Blk.new W 140 [.int .i64 V, .slice O cs.length oc, .slice none 0 0, .slice (some ⟨gv, 0, none⟩) (V + 1) (V + 1), .slice (some ⟨gl, 0, none⟩) (V + 1) (V + 1), .slice (some ⟨gr, 0, none⟩) (V + 1) (V + 1), .slice none 0 0, .slice none 0 0]
  have hk : Below W.heap.size W w' := by rw [hw]; exact (Below.refl _ _).alloc (Nat.le_refl _) _
  have hbx : Blk 140 w' W.heap.size [.int .i64 V, .slice O cs.length oc, .slice none 0 0, .slice (some ⟨gv, 0, none⟩) (V + 1) (V + 1), .slice (some ⟨gl, 0, none⟩) (V + 1) (V + 1), .slice (some ⟨gr, 0, none⟩) (V + 1) (V + 1), .slice none 0 0, .slice none 0 0] := by rw [hw]; exact hbx
  clear hw
  obtain ⟨xs, hown, hxs⟩ := hc
  have lv := hv.lt
  have ll := hl.lt
  have lr := hr.lt
  have hO : ∀ r, blkO O = some r → w.heap.size ≤ r ∧ r < W.heap.size ∧ r ≠ gv ∧ r ≠ gl ∧ r ≠ gr := fun r hr' => by
    have h1 := own_base hown (by rw [own_blkO]; exact hr')
    have h2 := (own_block hown (r := r) (by rw [own_blkO]; exact hr')).1
    have nb : ∀ {q : Nat} {ys : List Int}, BlkI 3 W q ys → r ≠ q := fun hq e => own_ne hown (cs := _) hq (by decide) (by rw [own_blkO, hr', e])
    exact ⟨h1, h2, nb hv, nb hl, nb hr⟩
  have hs := hb.size
  have hge : ∀ i r, ro W.heap.size ⟨gv, gl, gr, O, oc, none, 0, none, 0, none, 0⟩ i = some r → w.heap.size ≤ r := fun i r hi => by
    match i, hi with
    | 0, hi => injection hi with hi; omega
    | 1, hi => injection hi with hi; exact hi ▸ g1
    | 2, hi => injection hi with hi; exact hi ▸ g2
    | 3, hi => injection hi with hi; exact hi ▸ g3
    | 4, hi => cases hi
    | 5, hi => cases hi
    | 6, hi => exact (hO r hi).1
    | 7, hi => cases hi
  have val : ∀ i r, ro W.heap.size ⟨gv, gl, gr, O, oc, none, 0, none, 0, none, 0⟩ i = some r → (i = 0 ∧ r = W.heap.size) ∨ (i = 1 ∧ r = gv) ∨ (i = 2 ∧ r = gl) ∨ (i = 3 ∧ r = gr) ∨ (i = 6 ∧ blkO O = some r) := fun i r hi => by
    match i, hi with
    | 0, hi => injection hi with hi; exact .inl ⟨rfl, hi.symm⟩
    | 1, hi => injection hi with hi; exact .inr (.inl ⟨rfl, hi.symm⟩)
    | 2, hi => injection hi with hi; exact .inr (.inr (.inl ⟨rfl, hi.symm⟩))
    | 3, hi => injection hi with hi; exact .inr (.inr (.inr (.inl ⟨rfl, hi.symm⟩)))
    | 4, hi => cases hi
    | 5, hi => cases hi
    | 6, hi => exact .inr (.inr (.inr (.inr ⟨rfl, hi⟩)))
    | 7, hi => cases hi
  have hap : ∀ i j r, ro W.heap.size ⟨gv, gl, gr, O, oc, none, 0, none, 0, none, 0⟩ i = some r → ro W.heap.size ⟨gv, gl, gr, O, oc, none, 0, none, 0, none, 0⟩ j = some r → i = j := fun i j r hi hj => by
    rcases val i r hi with ⟨e1, e2⟩ | ⟨e1, e2⟩ | ⟨e1, e2⟩ | ⟨e1, e2⟩ | ⟨e1, e2⟩ <;> rcases val j r hj with ⟨e3, e4⟩ | ⟨e3, e4⟩ | ⟨e3, e4⟩ | ⟨e3, e4⟩ | ⟨e3, e4⟩ <;>
      first | omega | (have := hO r e2; omega) | (have := hO r e4; omega)
  refine ⟨hb.trans (hk.mono hs), hge, hap, hbx, hv.keep hk, by simp, hl.keep hk, by simp, hr.keep hk, by simp, World.ownsRow_nil _ _ _ _, World.ownsRow_nil _ _ _ _, ⟨xs, own_keep hown hk, rfl, fun i x hx => ?_⟩, ⟨[], World.ownsRow_nil _ _ _ _, rfl, fun i x hx => by simp at hx⟩⟩
  obtain ⟨A', n', c', e1, e2, e3⟩ := hxs i x hx
  refine ⟨A', n', c', e1, e2.keep hk, fun b off e hn hm => ?_⟩
  obtain ⟨j, hj⟩ := hm
  have h1 := hge j b hj
  have h2 := e3 b off e hn
  omega
set_option maxRecDepth 100000 in
set_option maxHeartbeats 16000000 in
theorem newSolver_ct {w : World} {A : Option Addr} {n c V : Nat} {cs : List (List Int)} (h : Rd (Enc.sl Enc.int) w A n c cs) (hA : ∀ ad, A = some ad → ∃ b off, ad = ⟨b, off, none⟩) (hn : n ≤ 1000000) (hV : V ≤ 1000) :
    Calls Tryz.prog 44 #[.agg #[.int .i64 V, .slice A n c]] w (NewP w V cs) := by
  obtain ⟨i0, hi0, hz0, hz1, hz2⟩ := info_parts Tryz.intInfo
  have hmk := fun w => run_make_ints (P := Tryz.prog) 22 3 i0 Tryz.underlying22 hi0 hz0 hz1 hz2 (V + 1) (by omega) w
  simp only [Int.natCast_add, Int.natCast_one] at hmk
  have Hlen := hide h.len
  have H := hide h
  have HA := hide hA
  clear h hA
  go_enter Tryz.func44, Tryz.ntmps44
  go_upto_region 2 with (fail)
  have hB0 := Blk.new w 45 [.int .i64 V, .slice A n c]
  have hb0 := ((Below.refl w.heap.size w).alloc (Nat.le_refl _) (.cells #[.int .i64 V, .slice A n c] 45)).drew
  obtain ⟨W0, hW0⟩ : ∃ W0, W0 = w.alloc (.cells #[.int .i64 V, .slice A n c] 45) := ⟨_, rfl⟩
  rw [← hW0] at hB0 hb0 ⊢
  clear hW0
  have Hb := hide hb0
  clear hb0
  obtain ⟨bB, hbB⟩ : ∃ b, b = w.heap.size := ⟨_, rfl⟩
  rw [← hbB] at hB0 ⊢
  clear hbB
  have c0 := hB0.cell 0
  have c1 := hB0.cell 1
  simp only [List.getElem?_cons_zero, List.getElem?_cons_succ] at c0 c1
  have HB := hide (hB0.keep (Below.refl W0.heap.size W0).drew)
  clear hB0
  refine wp_region_held_drew (S := (fun w' => w'.cell? ⟨bB, 0, none⟩ = some (.int .i64 V) ∧ w'.cell? ⟨bB, 1, none⟩ = some (.slice A n c))) (by kernel_rfl) ?_ (fun hHeld => ?_)
  · (try dsimp only); exact ⟨c0, c1⟩
  refine take1 (i := 0) (v := ?_) (some 7) rfl rfl (by kernel_rfl) (by kernel_rfl) (by kernel_rfl) (fun _ _ _ h => h) (Or.inl ⟨by rfl, ?_⟩) (by assumption) ?_
  rotate_left
  · intro w hSw; (try dsimp only at hSw); obtain ⟨s1, s2⟩ := hSw; first | (go_simp; done) | (go_simp; with_reducible rfl)
  try simp only [Act.put, List.setIfInBounds_toArray, List.set_cons_zero, List.set_cons_succ]
  refine take1 (i := 1) (v := ?_) (some 8) rfl rfl (by kernel_rfl) (by kernel_rfl) (by kernel_rfl) (fun _ _ _ h => h) (Or.inl ⟨by rfl, ?_⟩) (by assumption) ?_
  rotate_left
  · intro w hSw; (try dsimp only at hSw); obtain ⟨s1, s2⟩ := hSw; first | (go_simp; done) | (go_simp; with_reducible rfl)
  try simp only [Act.put, List.setIfInBounds_toArray, List.set_cons_zero, List.set_cons_succ]
  refine take1 (i := 2) (v := ?_) (some 9) rfl rfl (by kernel_rfl) (by kernel_rfl) (by kernel_rfl) (fun _ _ _ h => h) (Or.inl ⟨by rfl, ?_⟩) (by assumption) ?_
  rotate_left
  · intro w hSw; (try dsimp only at hSw); obtain ⟨s1, s2⟩ := hSw; first | (go_simp; done) | (go_simp; with_reducible rfl)
  try simp only [Act.put, List.setIfInBounds_toArray, List.set_cons_zero, List.set_cons_succ]
  refine take1 (i := 3) (v := ?_) (some 10) rfl rfl (by kernel_rfl) (by kernel_rfl) (by kernel_rfl) (fun _ _ _ h => h) (Or.inl ⟨by rfl, ?_⟩) (by assumption) ?_
  rotate_left
  · intro w hSw; (try dsimp only at hSw); obtain ⟨s1, s2⟩ := hSw; first | (go_simp; done) | (go_simp; with_reducible rfl)
  try simp only [Act.put, List.setIfInBounds_toArray, List.set_cons_zero, List.set_cons_succ]
  refine take1 (i := 5) (v := ?_) (some 12) rfl rfl (by kernel_rfl) (by kernel_rfl) (by kernel_rfl) (fun _ _ _ h => h) (Or.inl ⟨by rfl, ?_⟩) (by assumption) ?_
  rotate_left
  · intro w hSw; (try dsimp only at hSw); obtain ⟨s1, s2⟩ := hSw; first | (go_simp; done) | (go_simp; with_reducible rfl)
  try simp only [Act.put, List.setIfInBounds_toArray, List.set_cons_zero, List.set_cons_succ]
  refine take1 (i := 7) (v := ?_) (some 14) rfl rfl (by kernel_rfl) (by kernel_rfl) (by kernel_rfl) (fun _ _ _ h => h) (Or.inl ⟨by rfl, ?_⟩) (by assumption) ?_
  rotate_left
  · intro w hSw; (try dsimp only at hSw); obtain ⟨s1, s2⟩ := hSw; first | (go_simp; done) | (go_simp; with_reducible rfl)
  try simp only [Act.put, List.setIfInBounds_toArray, List.set_cons_zero, List.set_cons_succ]
  refine take1 (i := 9) (v := ?_) (some 16) rfl rfl (by kernel_rfl) (by kernel_rfl) (by kernel_rfl) (fun _ _ _ h => h) (Or.inl ⟨by rfl, ?_⟩) (by assumption) ?_
  rotate_left
  · intro w hSw; (try dsimp only at hSw); obtain ⟨s1, s2⟩ := hSw; first | (go_simp; done) | (go_simp; with_reducible rfl)
  try simp only [Act.put, List.setIfInBounds_toArray, List.set_cons_zero, List.set_cons_succ]
  obtain ⟨W1, hW1⟩ : ∃ W1, W1 = W0.drew := ⟨_, rfl⟩
  rw [← hW1] at HB Hb hHeld ⊢
  clear hW1 c0 c1
  refine wpAnyH_ready (rs := [4, 6, 8, 10]) (by kernel_rfl) (by simp) ?_
  refine AllReadyH.cons rfl (fun K hK => ?_) (AllReadyH.cons rfl (fun K hK => ?_) (AllReadyH.cons rfl (fun K hK => ?_) (AllReadyH.cons rfl (fun K hK => ?_) AllReadyH.nil)))
  · go_simp
    with_reducible refine (clone_ct H.out Hb.out HA.out hn).mono ?_
    rintro e W2 ⟨O, oc, rfl, hb, xs, hown, hxs⟩
    have hcl : Cloned w.heap.size w.heap.size W2 n cs O oc := ⟨xs, own_mono hown Hb.out.size, fun i x hx => by
      obtain ⟨A', n', c', e1, e2⟩ := hxs i x hx
      refine ⟨A', n', c', e1, e2.keep (Hb.out.trans (hb.mono Hb.out.size)), fun b off e hn9 => ?_⟩
      obtain ⟨b', off', e', hlt⟩ := rd_heap e2 hn9 (by decide)
      rw [e] at e'
      injection e' with e'
      injection e' with e' _
      omega⟩
    have HC := hide hcl
    clear hcl hown hxs xs
    replace HB := hide (HB.out.keep hb)
    replace Hb := hide (Hb.out.trans (hb.mono Hb.out.size))
    clear hb
    have c0 := HB.out.cell 0
    have c1 := HB.out.cell 1
    simp only [List.getElem?_cons_zero, List.getElem?_cons_succ] at c0 c1
    refine hK.out _ _ ?_ (fun hHeld2 => ?_)
    · (try dsimp only); exact ⟨c0, c1⟩
    clear hK K hHeld c0 c1
    try simp only [Act.put, List.setIfInBounds_toArray, List.set_cons_zero, List.set_cons_succ]
    have hHeld := hHeld2; clear hHeld2
    refine wpAnyH_ready (rs := [6, 8, 10]) (by kernel_rfl) (by simp) ?_
    refine AllReadyH.cons rfl (fun K hK => ?_) (AllReadyH.cons rfl (fun K hK => ?_) (AllReadyH.cons rfl (fun K hK => ?_) AllReadyH.nil))
    · go_simp
      have hb := (Below.refl W2.heap.size W2).alloc (Nat.le_refl _) (.cells (zerosA (V + 1)) 3)
      have hn2 := BlkI.made W2 3 (V + 1)
      obtain ⟨W3, hW2⟩ : ∃ W9, W9 = W2.alloc (.cells (zerosA (V + 1)) 3) := ⟨_, rfl⟩
      rw [← hW2] at hb hn2 ⊢
      clear hW2
      have gev := Hb.out.size
      replace HB := hide (HB.out.keep hb)
      replace HC := hide (HC.out.keep hb)
      replace Hb := hide (Hb.out.trans (hb.mono Hb.out.size))
      clear hb
      generalize W2.heap.size = gv at hn2 gev  ⊢
      have Hv := hide hn2
      clear hn2
      have c0 := HB.out.cell 0
      have c1 := HB.out.cell 1
      simp only [List.getElem?_cons_zero, List.getElem?_cons_succ] at c0 c1
      refine hK.out _ _ ?_ (fun hHeld2 => ?_)
      · (try dsimp only); exact ⟨c0, c1⟩
      clear hK K hHeld c0 c1
      try simp only [Act.put, List.setIfInBounds_toArray, List.set_cons_zero, List.set_cons_succ]
      have hHeld := hHeld2; clear hHeld2
      refine wpAnyH_ready (rs := [8, 10]) (by kernel_rfl) (by simp) ?_
      refine AllReadyH.cons rfl (fun K hK => ?_) (AllReadyH.cons rfl (fun K hK => ?_) AllReadyH.nil)
      · go_simp
        have hb := (Below.refl W3.heap.size W3).alloc (Nat.le_refl _) (.cells (zerosA (V + 1)) 3)
        have hn2 := BlkI.made W3 3 (V + 1)
        obtain ⟨W4, hW2⟩ : ∃ W9, W9 = W3.alloc (.cells (zerosA (V + 1)) 3) := ⟨_, rfl⟩
        rw [← hW2] at hb hn2 ⊢
        clear hW2
        have gel := Hb.out.size
        have nvl := Hv.out.lt
        replace HB := hide (HB.out.keep hb)
        replace Hv := hide (Hv.out.keep hb)
        replace HC := hide (HC.out.keep hb)
        replace Hb := hide (Hb.out.trans (hb.mono Hb.out.size))
        clear hb
        generalize W3.heap.size = gl at hn2 gel nvl ⊢
        have Hl := hide hn2
        clear hn2
        have c0 := HB.out.cell 0
        have c1 := HB.out.cell 1
        simp only [List.getElem?_cons_zero, List.getElem?_cons_succ] at c0 c1
        refine hK.out _ _ ?_ (fun hHeld2 => ?_)
        · (try dsimp only); exact ⟨c0, c1⟩
        clear hK K hHeld c0 c1
        try simp only [Act.put, List.setIfInBounds_toArray, List.set_cons_zero, List.set_cons_succ]
        have hHeld := hHeld2; clear hHeld2
        refine wpAnyH_ready (rs := [10]) (by kernel_rfl) (by simp) ?_
        refine AllReadyH.cons rfl (fun K hK => ?_) AllReadyH.nil
        · go_simp
          have hb := (Below.refl W4.heap.size W4).alloc (Nat.le_refl _) (.cells (zerosA (V + 1)) 3)
          have hn2 := BlkI.made W4 3 (V + 1)
          obtain ⟨W5, hW2⟩ : ∃ W9, W9 = W4.alloc (.cells (zerosA (V + 1)) 3) := ⟨_, rfl⟩
          rw [← hW2] at hb hn2 ⊢
          clear hW2
          have ger := Hb.out.size
          have nvr := Hv.out.lt
          have nlr := Hl.out.lt
          replace HB := hide (HB.out.keep hb)
          replace Hv := hide (Hv.out.keep hb)
          replace Hl := hide (Hl.out.keep hb)
          replace HC := hide (HC.out.keep hb)
          replace Hb := hide (Hb.out.trans (hb.mono Hb.out.size))
          clear hb
          generalize W4.heap.size = gr at hn2 ger nvr nlr ⊢
          have Hr := hide hn2
          clear hn2
          have c0 := HB.out.cell 0
          have c1 := HB.out.cell 1
          simp only [List.getElem?_cons_zero, List.getElem?_cons_succ] at c0 c1
          refine hK.out _ _ ?_ (fun hHeld2 => ?_)
          · (try dsimp only); exact ⟨c0, c1⟩
          clear hK K hHeld c0 c1
          try simp only [Act.put, List.setIfInBounds_toArray, List.set_cons_zero, List.set_cons_succ]
          have hHeld := hHeld2; clear hHeld2
          refine take1 (i := 11) (v := ?_) (some 18) rfl rfl (by kernel_rfl) (by kernel_rfl) (by kernel_rfl) (fun _ _ _ h => h) (Or.inl ⟨by rfl, ?_⟩) (by assumption) ?_
          rotate_left
          · intro w hSw; (try dsimp only at hSw); obtain ⟨s1, s2⟩ := hSw; first | (go_simp; done) | (go_simp; with_reducible rfl)
          try simp only [Act.put, List.setIfInBounds_toArray, List.set_cons_zero, List.set_cons_succ]
          refine wpAnyH_ready (rs := [12]) (by kernel_rfl) (by simp) ?_
          refine AllReadyH.cons rfl (fun K hK => ?_) AllReadyH.nil
          go_simp
          obtain ⟨WF, hWF⟩ : ∃ WF, WF = W5.alloc (.cells #[.int .i64 V, .slice O n oc, .slice none 0 0, .slice (some ⟨gv, 0, none⟩) (V + 1) (V + 1), .slice (some ⟨gl, 0, none⟩) (V + 1) (V + 1), .slice (some ⟨gr, 0, none⟩) (V + 1) (V + 1), .slice none 0 0, .slice none 0 0] 140) := ⟨_, rfl⟩
          obtain ⟨g, hg⟩ : ∃ g, g = W5.heap.size := ⟨_, rfl⟩
          obtain ⟨ht1, ht2⟩ := new_tail Hb.out Hv.out Hl.out Hr.out (by omega) (by omega) (by omega) gev gel ger HC.out Hlen.out hg hWF
          have hbx : Blk 45 WF bB [.int .i64 V, .slice A n c] := by rw [hWF]; exact HB.out.alloc _
          rw [← hWF, ← hg]
          have Ht1 := hide ht1
          have Ht2 := hide ht2
          have c0 := hbx.cell 0
          have c1 := hbx.cell 1
          simp only [List.getElem?_cons_zero, List.getElem?_cons_succ] at c0 c1
          clear hWF hg ht1 ht2 hbx
          refine hK.out _ _ ?_ (fun hHeld2 => ?_)
          · (try dsimp only); exact ⟨c0, c1⟩
          clear hK K hHeld
          try simp only [Act.put, List.setIfInBounds_toArray, List.set_cons_zero, List.set_cons_succ]
          have hHeld := hHeld2; clear hHeld2
          refine take1 (i := 13) (v := ?_) (some 2) rfl rfl (by kernel_rfl) (by kernel_rfl) (by kernel_rfl) (fun _ _ _ h => h) (Or.inl ⟨by rfl, ?_⟩) (by assumption) ?_
          rotate_left
          · intro w hSw; (try dsimp only at hSw); obtain ⟨s1, s2⟩ := hSw; first | (go_simp; done) | (go_simp; with_reducible rfl)
          try simp only [Act.put, List.setIfInBounds_toArray, List.set_cons_zero, List.set_cons_succ]
          refine wpAnyH_done (by kernel_rfl) ?_ _
          go_wp2
          go_ret
          exact ⟨g, _, rfl, Ht1.out, Ht2.out⟩
      · go_simp
        have hb := (Below.refl W3.heap.size W3).alloc (Nat.le_refl _) (.cells (zerosA (V + 1)) 3)
        have hn2 := BlkI.made W3 3 (V + 1)
        obtain ⟨W4, hW2⟩ : ∃ W9, W9 = W3.alloc (.cells (zerosA (V + 1)) 3) := ⟨_, rfl⟩
        rw [← hW2] at hb hn2 ⊢
        clear hW2
        have ger := Hb.out.size
        have nvr := Hv.out.lt
        replace HB := hide (HB.out.keep hb)
        replace Hv := hide (Hv.out.keep hb)
        replace HC := hide (HC.out.keep hb)
        replace Hb := hide (Hb.out.trans (hb.mono Hb.out.size))
        clear hb
        generalize W3.heap.size = gr at hn2 ger nvr ⊢
        have Hr := hide hn2
        clear hn2
        have c0 := HB.out.cell 0
        have c1 := HB.out.cell 1
        simp only [List.getElem?_cons_zero, List.getElem?_cons_succ] at c0 c1
        refine hK.out _ _ ?_ (fun hHeld2 => ?_)
        · (try dsimp only); exact ⟨c0, c1⟩
        clear hK K hHeld c0 c1
        try simp only [Act.put, List.setIfInBounds_toArray, List.set_cons_zero, List.set_cons_succ]
        have hHeld := hHeld2; clear hHeld2
        refine wpAnyH_ready (rs := [8]) (by kernel_rfl) (by simp) ?_
        refine AllReadyH.cons rfl (fun K hK => ?_) AllReadyH.nil
        · go_simp
          have hb := (Below.refl W4.heap.size W4).alloc (Nat.le_refl _) (.cells (zerosA (V + 1)) 3)
          have hn2 := BlkI.made W4 3 (V + 1)
          obtain ⟨W5, hW2⟩ : ∃ W9, W9 = W4.alloc (.cells (zerosA (V + 1)) 3) := ⟨_, rfl⟩
          rw [← hW2] at hb hn2 ⊢
          clear hW2
          have gel := Hb.out.size
          have nvl := Hv.out.lt
          have nrl := Hr.out.lt
          replace HB := hide (HB.out.keep hb)
          replace Hv := hide (Hv.out.keep hb)
          replace Hr := hide (Hr.out.keep hb)
          replace HC := hide (HC.out.keep hb)
          replace Hb := hide (Hb.out.trans (hb.mono Hb.out.size))
          clear hb
          generalize W4.heap.size = gl at hn2 gel nvl nrl ⊢
          have Hl := hide hn2
          clear hn2
          have c0 := HB.out.cell 0
          have c1 := HB.out.cell 1
          simp only [List.getElem?_cons_zero, List.getElem?_cons_succ] at c0 c1
          refine hK.out _ _ ?_ (fun hHeld2 => ?_)
          · (try dsimp only); exact ⟨c0, c1⟩
          clear hK K hHeld c0 c1
          try simp only [Act.put, List.setIfInBounds_toArray, List.set_cons_zero, List.set_cons_succ]
          have hHeld := hHeld2; clear hHeld2
          refine take1 (i := 11) (v := ?_) (some 18) rfl rfl (by kernel_rfl) (by kernel_rfl) (by kernel_rfl) (fun _ _ _ h => h) (Or.inl ⟨by rfl, ?_⟩) (by assumption) ?_
          rotate_left
          · intro w hSw; (try dsimp only at hSw); obtain ⟨s1, s2⟩ := hSw; first | (go_simp; done) | (go_simp; with_reducible rfl)
          try simp only [Act.put, List.setIfInBounds_toArray, List.set_cons_zero, List.set_cons_succ]
          refine wpAnyH_ready (rs := [12]) (by kernel_rfl) (by simp) ?_
          refine AllReadyH.cons rfl (fun K hK => ?_) AllReadyH.nil
          go_simp
          obtain ⟨WF, hWF⟩ : ∃ WF, WF = W5.alloc (.cells #[.int .i64 V, .slice O n oc, .slice none 0 0, .slice (some ⟨gv, 0, none⟩) (V + 1) (V + 1), .slice (some ⟨gl, 0, none⟩) (V + 1) (V + 1), .slice (some ⟨gr, 0, none⟩) (V + 1) (V + 1), .slice none 0 0, .slice none 0 0] 140) := ⟨_, rfl⟩
          obtain ⟨g, hg⟩ : ∃ g, g = W5.heap.size := ⟨_, rfl⟩
          obtain ⟨ht1, ht2⟩ := new_tail Hb.out Hv.out Hl.out Hr.out (by omega) (by omega) (by omega) gev gel ger HC.out Hlen.out hg hWF
          have hbx : Blk 45 WF bB [.int .i64 V, .slice A n c] := by rw [hWF]; exact HB.out.alloc _
          rw [← hWF, ← hg]
          have Ht1 := hide ht1
          have Ht2 := hide ht2
          have c0 := hbx.cell 0
          have c1 := hbx.cell 1
          simp only [List.getElem?_cons_zero, List.getElem?_cons_succ] at c0 c1
          clear hWF hg ht1 ht2 hbx
          refine hK.out _ _ ?_ (fun hHeld2 => ?_)
          · (try dsimp only); exact ⟨c0, c1⟩
          clear hK K hHeld
          try simp only [Act.put, List.setIfInBounds_toArray, List.set_cons_zero, List.set_cons_succ]
          have hHeld := hHeld2; clear hHeld2
          refine take1 (i := 13) (v := ?_) (some 2) rfl rfl (by kernel_rfl) (by kernel_rfl) (by kernel_rfl) (fun _ _ _ h => h) (Or.inl ⟨by rfl, ?_⟩) (by assumption) ?_
          rotate_left
          · intro w hSw; (try dsimp only at hSw); obtain ⟨s1, s2⟩ := hSw; first | (go_simp; done) | (go_simp; with_reducible rfl)
          try simp only [Act.put, List.setIfInBounds_toArray, List.set_cons_zero, List.set_cons_succ]
          refine wpAnyH_done (by kernel_rfl) ?_ _
          go_wp2
          go_ret
          exact ⟨g, _, rfl, Ht1.out, Ht2.out⟩
    · go_simp
      have hb := (Below.refl W2.heap.size W2).alloc (Nat.le_refl _) (.cells (zerosA (V + 1)) 3)
      have hn2 := BlkI.made W2 3 (V + 1)
      obtain ⟨W3, hW2⟩ : ∃ W9, W9 = W2.alloc (.cells (zerosA (V + 1)) 3) := ⟨_, rfl⟩
      rw [← hW2] at hb hn2 ⊢
      clear hW2
      have gel := Hb.out.size
      replace HB := hide (HB.out.keep hb)
      replace HC := hide (HC.out.keep hb)
      replace Hb := hide (Hb.out.trans (hb.mono Hb.out.size))
      clear hb
      generalize W2.heap.size = gl at hn2 gel  ⊢
      have Hl := hide hn2
      clear hn2
      have c0 := HB.out.cell 0
      have c1 := HB.out.cell 1
      simp only [List.getElem?_cons_zero, List.getElem?_cons_succ] at c0 c1
      refine hK.out _ _ ?_ (fun hHeld2 => ?_)
      · (try dsimp only); exact ⟨c0, c1⟩
      clear hK K hHeld c0 c1
      try simp only [Act.put, List.setIfInBounds_toArray, List.set_cons_zero, List.set_cons_succ]
      have hHeld := hHeld2; clear hHeld2
      refine wpAnyH_ready (rs := [6, 10]) (by kernel_rfl) (by simp) ?_
      refine AllReadyH.cons rfl (fun K hK => ?_) (AllReadyH.cons rfl (fun K hK => ?_) AllReadyH.nil)
      · go_simp
        have hb := (Below.refl W3.heap.size W3).alloc (Nat.le_refl _) (.cells (zerosA (V + 1)) 3)
        have hn2 := BlkI.made W3 3 (V + 1)
        obtain ⟨W4, hW2⟩ : ∃ W9, W9 = W3.alloc (.cells (zerosA (V + 1)) 3) := ⟨_, rfl⟩
        rw [← hW2] at hb hn2 ⊢
        clear hW2
        have gev := Hb.out.size
        have nlv := Hl.out.lt
        replace HB := hide (HB.out.keep hb)
        replace Hl := hide (Hl.out.keep hb)
        replace HC := hide (HC.out.keep hb)
        replace Hb := hide (Hb.out.trans (hb.mono Hb.out.size))
        clear hb
        generalize W3.heap.size = gv at hn2 gev nlv ⊢
        have Hv := hide hn2
        clear hn2
        have c0 := HB.out.cell 0
        have c1 := HB.out.cell 1
        simp only [List.getElem?_cons_zero, List.getElem?_cons_succ] at c0 c1
        refine hK.out _ _ ?_ (fun hHeld2 => ?_)
        · (try dsimp only); exact ⟨c0, c1⟩
        clear hK K hHeld c0 c1
        try simp only [Act.put, List.setIfInBounds_toArray, List.set_cons_zero, List.set_cons_succ]
        have hHeld := hHeld2; clear hHeld2
        refine wpAnyH_ready (rs := [10]) (by kernel_rfl) (by simp) ?_
        refine AllReadyH.cons rfl (fun K hK => ?_) AllReadyH.nil
        · go_simp
          have hb := (Below.refl W4.heap.size W4).alloc (Nat.le_refl _) (.cells (zerosA (V + 1)) 3)
          have hn2 := BlkI.made W4 3 (V + 1)
          obtain ⟨W5, hW2⟩ : ∃ W9, W9 = W4.alloc (.cells (zerosA (V + 1)) 3) := ⟨_, rfl⟩
          rw [← hW2] at hb hn2 ⊢
          clear hW2
          have ger := Hb.out.size
          have nlr := Hl.out.lt
          have nvr := Hv.out.lt
          replace HB := hide (HB.out.keep hb)
          replace Hl := hide (Hl.out.keep hb)
          replace Hv := hide (Hv.out.keep hb)
          replace HC := hide (HC.out.keep hb)
          replace Hb := hide (Hb.out.trans (hb.mono Hb.out.size))
          clear hb
          generalize W4.heap.size = gr at hn2 ger nlr nvr ⊢
          have Hr := hide hn2
          clear hn2
          have c0 := HB.out.cell 0
          have c1 := HB.out.cell 1
          simp only [List.getElem?_cons_zero, List.getElem?_cons_succ] at c0 c1
          refine hK.out _ _ ?_ (fun hHeld2 => ?_)
          · (try dsimp only); exact ⟨c0, c1⟩
          clear hK K hHeld c0 c1
          try simp only [Act.put, List.setIfInBounds_toArray, List.set_cons_zero, List.set_cons_succ]
          have hHeld := hHeld2; clear hHeld2
          refine take1 (i := 11) (v := ?_) (some 18) rfl rfl (by kernel_rfl) (by kernel_rfl) (by kernel_rfl) (fun _ _ _ h => h) (Or.inl ⟨by rfl, ?_⟩) (by assumption) ?_
          rotate_left
          · intro w hSw; (try dsimp only at hSw); obtain ⟨s1, s2⟩ := hSw; first | (go_simp; done) | (go_simp; with_reducible rfl)
          try simp only [Act.put, List.setIfInBounds_toArray, List.set_cons_zero, List.set_cons_succ]
          refine wpAnyH_ready (rs := [12]) (by kernel_rfl) (by simp) ?_
          refine AllReadyH.cons rfl (fun K hK => ?_) AllReadyH.nil
          go_simp
          obtain ⟨WF, hWF⟩ : ∃ WF, WF = W5.alloc (.cells #[.int .i64 V, .slice O n oc, .slice none 0 0, .slice (some ⟨gv, 0, none⟩) (V + 1) (V + 1), .slice (some ⟨gl, 0, none⟩) (V + 1) (V + 1), .slice (some ⟨gr, 0, none⟩) (V + 1) (V + 1), .slice none 0 0, .slice none 0 0] 140) := ⟨_, rfl⟩
          obtain ⟨g, hg⟩ : ∃ g, g = W5.heap.size := ⟨_, rfl⟩
          obtain ⟨ht1, ht2⟩ := new_tail Hb.out Hv.out Hl.out Hr.out (by omega) (by omega) (by omega) gev gel ger HC.out Hlen.out hg hWF
          have hbx : Blk 45 WF bB [.int .i64 V, .slice A n c] := by rw [hWF]; exact HB.out.alloc _
          rw [← hWF, ← hg]
          have Ht1 := hide ht1
          have Ht2 := hide ht2
          have c0 := hbx.cell 0
          have c1 := hbx.cell 1
          simp only [List.getElem?_cons_zero, List.getElem?_cons_succ] at c0 c1
          clear hWF hg ht1 ht2 hbx
          refine hK.out _ _ ?_ (fun hHeld2 => ?_)
          · (try dsimp only); exact ⟨c0, c1⟩
          clear hK K hHeld
          try simp only [Act.put, List.setIfInBounds_toArray, List.set_cons_zero, List.set_cons_succ]
          have hHeld := hHeld2; clear hHeld2
          refine take1 (i := 13) (v := ?_) (some 2) rfl rfl (by kernel_rfl) (by kernel_rfl) (by kernel_rfl) (fun _ _ _ h => h) (Or.inl ⟨by rfl, ?_⟩) (by assumption) ?_
          rotate_left
          · intro w hSw; (try dsimp only at hSw); obtain ⟨s1, s2⟩ := hSw; first | (go_simp; done) | (go_simp; with_reducible rfl)
          try simp only [Act.put, List.setIfInBounds_toArray, List.set_cons_zero, List.set_cons_succ]
          refine wpAnyH_done (by kernel_rfl) ?_ _
          go_wp2
          go_ret
          exact ⟨g, _, rfl, Ht1.out, Ht2.out⟩
      · go_simp
        have hb := (Below.refl W3.heap.size W3).alloc (Nat.le_refl _) (.cells (zerosA (V + 1)) 3)
        have hn2 := BlkI.made W3 3 (V + 1)
        obtain ⟨W4, hW2⟩ : ∃ W9, W9 = W3.alloc (.cells (zerosA (V + 1)) 3) := ⟨_, rfl⟩
        rw [← hW2] at hb hn2 ⊢
        clear hW2
        have ger := Hb.out.size
        have nlr := Hl.out.lt
        replace HB := hide (HB.out.keep hb)
        replace Hl := hide (Hl.out.keep hb)
        replace HC := hide (HC.out.keep hb)
        replace Hb := hide (Hb.out.trans (hb.mono Hb.out.size))
        clear hb
        generalize W3.heap.size = gr at hn2 ger nlr ⊢
        have Hr := hide hn2
        clear hn2
        have c0 := HB.out.cell 0
        have c1 := HB.out.cell 1
        simp only [List.getElem?_cons_zero, List.getElem?_cons_succ] at c0 c1
        refine hK.out _ _ ?_ (fun hHeld2 => ?_)
        · (try dsimp only); exact ⟨c0, c1⟩
        clear hK K hHeld c0 c1
        try simp only [Act.put, List.setIfInBounds_toArray, List.set_cons_zero, List.set_cons_succ]
        have hHeld := hHeld2; clear hHeld2
        refine wpAnyH_ready (rs := [6]) (by kernel_rfl) (by simp) ?_
        refine AllReadyH.cons rfl (fun K hK => ?_) AllReadyH.nil
        · go_simp
          have hb := (Below.refl W4.heap.size W4).alloc (Nat.le_refl _) (.cells (zerosA (V + 1)) 3)
          have hn2 := BlkI.made W4 3 (V + 1)
          obtain ⟨W5, hW2⟩ : ∃ W9, W9 = W4.alloc (.cells (zerosA (V + 1)) 3) := ⟨_, rfl⟩
          rw [← hW2] at hb hn2 ⊢
          clear hW2
          have gev := Hb.out.size
          have nlv := Hl.out.lt
          have nrv := Hr.out.lt
          replace HB := hide (HB.out.keep hb)
          replace Hl := hide (Hl.out.keep hb)
          replace Hr := hide (Hr.out.keep hb)
          replace HC := hide (HC.out.keep hb)
          replace Hb := hide (Hb.out.trans (hb.mono Hb.out.size))
          clear hb
          generalize W4.heap.size = gv at hn2 gev nlv nrv ⊢
          have Hv := hide hn2
          clear hn2
          have c0 := HB.out.cell 0
          have c1 := HB.out.cell 1
          simp only [List.getElem?_cons_zero, List.getElem?_cons_succ] at c0 c1
          refine hK.out _ _ ?_ (fun hHeld2 => ?_)
          · (try dsimp only); exact ⟨c0, c1⟩
          clear hK K hHeld c0 c1
          try simp only [Act.put, List.setIfInBounds_toArray, List.set_cons_zero, List.set_cons_succ]
          have hHeld := hHeld2; clear hHeld2
          refine take1 (i := 11) (v := ?_) (some 18) rfl rfl (by kernel_rfl) (by kernel_rfl) (by kernel_rfl) (fun _ _ _ h => h) (Or.inl ⟨by rfl, ?_⟩) (by assumption) ?_
          rotate_left
          · intro w hSw; (try dsimp only at hSw); obtain ⟨s1, s2⟩ := hSw; first | (go_simp; done) | (go_simp; with_reducible rfl)
          try simp only [Act.put, List.setIfInBounds_toArray, List.set_cons_zero, List.set_cons_succ]
          refine wpAnyH_ready (rs := [12]) (by kernel_rfl) (by simp) ?_
          refine AllReadyH.cons rfl (fun K hK => ?_) AllReadyH.nil
          go_simp
          obtain ⟨WF, hWF⟩ : ∃ WF, WF = W5.alloc (.cells #[.int .i64 V, .slice O n oc, .slice none 0 0, .slice (some ⟨gv, 0, none⟩) (V + 1) (V + 1), .slice (some ⟨gl, 0, none⟩) (V + 1) (V + 1), .slice (some ⟨gr, 0, none⟩) (V + 1) (V + 1), .slice none 0 0, .slice none 0 0] 140) := ⟨_, rfl⟩
          obtain ⟨g, hg⟩ : ∃ g, g = W5.heap.size := ⟨_, rfl⟩
          obtain ⟨ht1, ht2⟩ := new_tail Hb.out Hv.out Hl.out Hr.out (by omega) (by omega) (by omega) gev gel ger HC.out Hlen.out hg hWF
          have hbx : Blk 45 WF bB [.int .i64 V, .slice A n c] := by rw [hWF]; exact HB.out.alloc _
          rw [← hWF, ← hg]
          have Ht1 := hide ht1
          have Ht2 := hide ht2
          have c0 := hbx.cell 0
          have c1 := hbx.cell 1
          simp only [List.getElem?_cons_zero, List.getElem?_cons_succ] at c0 c1
          clear hWF hg ht1 ht2 hbx
          refine hK.out _ _ ?_ (fun hHeld2 => ?_)
          · (try dsimp only); exact ⟨c0, c1⟩
          clear hK K hHeld
          try simp only [Act.put, List.setIfInBounds_toArray, List.set_cons_zero, List.set_cons_succ]
          have hHeld := hHeld2; clear hHeld2
          refine take1 (i := 13) (v := ?_) (some 2) rfl rfl (by kernel_rfl) (by kernel_rfl) (by kernel_rfl) (fun _ _ _ h => h) (Or.inl ⟨by rfl, ?_⟩) (by assumption) ?_
          rotate_left
          · intro w hSw; (try dsimp only at hSw); obtain ⟨s1, s2⟩ := hSw; first | (go_simp; done) | (go_simp; with_reducible rfl)
          try simp only [Act.put, List.setIfInBounds_toArray, List.set_cons_zero, List.set_cons_succ]
          refine wpAnyH_done (by kernel_rfl) ?_ _
          go_wp2
          go_ret
          exact ⟨g, _, rfl, Ht1.out, Ht2.out⟩
    · go_simp
      have hb := (Below.refl W2.heap.size W2).alloc (Nat.le_refl _) (.cells (zerosA (V + 1)) 3)
      have hn2 := BlkI.made W2 3 (V + 1)
      obtain ⟨W3, hW2⟩ : ∃ W9, W9 = W2.alloc (.cells (zerosA (V + 1)) 3) := ⟨_, rfl⟩
      rw [← hW2] at hb hn2 ⊢
      clear hW2
      have ger := Hb.out.size
      replace HB := hide (HB.out.keep hb)
      replace HC := hide (HC.out.keep hb)
      replace Hb := hide (Hb.out.trans (hb.mono Hb.out.size))
      clear hb
      generalize W2.heap.size = gr at hn2 ger  ⊢
      have Hr := hide hn2
      clear hn2
      have c0 := HB.out.cell 0
      have c1 := HB.out.cell 1
      simp only [List.getElem?_cons_zero, List.getElem?_cons_succ] at c0 c1
      refine hK.out _ _ ?_ (fun hHeld2 => ?_)
      · (try dsimp only); exact ⟨c0, c1⟩
      clear hK K hHeld c0 c1
      try simp only [Act.put, List.setIfInBounds_toArray, List.set_cons_zero, List.set_cons_succ]
      have hHeld := hHeld2; clear hHeld2
      refine wpAnyH_ready (rs := [6, 8]) (by kernel_rfl) (by simp) ?_
      refine AllReadyH.cons rfl (fun K hK => ?_) (AllReadyH.cons rfl (fun K hK => ?_) AllReadyH.nil)
      · go_simp
        have hb := (Below.refl W3.heap.size W3).alloc (Nat.le_refl _) (.cells (zerosA (V + 1)) 3)
        have hn2 := BlkI.made W3 3 (V + 1)
        obtain ⟨W4, hW2⟩ : ∃ W9, W9 = W3.alloc (.cells (zerosA (V + 1)) 3) := ⟨_, rfl⟩
        rw [← hW2] at hb hn2 ⊢
        clear hW2
        have gev := Hb.out.size
        have nrv := Hr.out.lt
        replace HB := hide (HB.out.keep hb)
        replace Hr := hide (Hr.out.keep hb)
        replace HC := hide (HC.out.keep hb)
        replace Hb := hide (Hb.out.trans (hb.mono Hb.out.size))
        clear hb
        generalize W3.heap.size = gv at hn2 gev nrv ⊢
        have Hv := hide hn2
        clear hn2
        have c0 := HB.out.cell 0
        have c1 := HB.out.cell 1
        simp only [List.getElem?_cons_zero, List.getElem?_cons_succ] at c0 c1
        refine hK.out _ _ ?_ (fun hHeld2 => ?_)
        · (try dsimp only); exact ⟨c0, c1⟩
        clear hK K hHeld c0 c1
        try simp only [Act.put, List.setIfInBounds_toArray, List.set_cons_zero, List.set_cons_succ]
        have hHeld := hHeld2; clear hHeld2
        refine wpAnyH_ready (rs := [8]) (by kernel_rfl) (by simp) ?_
        refine AllReadyH.cons rfl (fun K hK => ?_) AllReadyH.nil
        · go_simp
          have hb := (Below.refl W4.heap.size W4).alloc (Nat.le_refl _) (.cells (zerosA (V + 1)) 3)
          have hn2 := BlkI.made W4 3 (V + 1)
          obtain ⟨W5, hW2⟩ : ∃ W9, W9 = W4.alloc (.cells (zerosA (V + 1)) 3) := ⟨_, rfl⟩
          rw [← hW2] at hb hn2 ⊢
          clear hW2
          have gel := Hb.out.size
          have nrl := Hr.out.lt
          have nvl := Hv.out.lt
          replace HB := hide (HB.out.keep hb)
          replace Hr := hide (Hr.out.keep hb)
          replace Hv := hide (Hv.out.keep hb)
          replace HC := hide (HC.out.keep hb)
          replace Hb := hide (Hb.out.trans (hb.mono Hb.out.size))
          clear hb
          generalize W4.heap.size = gl at hn2 gel nrl nvl ⊢
          have Hl := hide hn2
          clear hn2
          have c0 := HB.out.cell 0
          have c1 := HB.out.cell 1
          simp only [List.getElem?_cons_zero, List.getElem?_cons_succ] at c0 c1
          refine hK.out _ _ ?_ (fun hHeld2 => ?_)
          · (try dsimp only); exact ⟨c0, c1⟩
          clear hK K hHeld c0 c1
          try simp only [Act.put, List.setIfInBounds_toArray, List.set_cons_zero, List.set_cons_succ]
          have hHeld := hHeld2; clear hHeld2
          refine take1 (i := 11) (v := ?_) (some 18) rfl rfl (by kernel_rfl) (by kernel_rfl) (by kernel_rfl) (fun _ _ _ h => h) (Or.inl ⟨by rfl, ?_⟩) (by assumption) ?_
          rotate_left
          · intro w hSw; (try dsimp only at hSw); obtain ⟨s1, s2⟩ := hSw; first | (go_simp; done) | (go_simp; with_reducible rfl)
          try simp only [Act.put, List.setIfInBounds_toArray, List.set_cons_zero, List.set_cons_succ]
          refine wpAnyH_ready (rs := [12]) (by kernel_rfl) (by simp) ?_
          refine AllReadyH.cons rfl (fun K hK => ?_) AllReadyH.nil
          go_simp
          obtain ⟨WF, hWF⟩ : ∃ WF, WF = W5.alloc (.cells #[.int .i64 V, .slice O n oc, .slice none 0 0, .slice (some ⟨gv, 0, none⟩) (V + 1) (V + 1), .slice (some ⟨gl, 0, none⟩) (V + 1) (V + 1), .slice (some ⟨gr, 0, none⟩) (V + 1) (V + 1), .slice none 0 0, .slice none 0 0] 140) := ⟨_, rfl⟩
          obtain ⟨g, hg⟩ : ∃ g, g = W5.heap.size := ⟨_, rfl⟩
          obtain ⟨ht1, ht2⟩ := new_tail Hb.out Hv.out Hl.out Hr.out (by omega) (by omega) (by omega) gev gel ger HC.out Hlen.out hg hWF
          have hbx : Blk 45 WF bB [.int .i64 V, .slice A n c] := by rw [hWF]; exact HB.out.alloc _
          rw [← hWF, ← hg]
          have Ht1 := hide ht1
          have Ht2 := hide ht2
          have c0 := hbx.cell 0
          have c1 := hbx.cell 1
          simp only [List.getElem?_cons_zero, List.getElem?_cons_succ] at c0 c1
          clear hWF hg ht1 ht2 hbx
          refine hK.out _ _ ?_ (fun hHeld2 => ?_)
          · (try dsimp only); exact ⟨c0, c1⟩
          clear hK K hHeld
          try simp only [Act.put, List.setIfInBounds_toArray, List.set_cons_zero, List.set_cons_succ]
          have hHeld := hHeld2; clear hHeld2
          refine take1 (i := 13) (v := ?_) (some 2) rfl rfl (by kernel_rfl) (by kernel_rfl) (by kernel_rfl) (fun _ _ _ h => h) (Or.inl ⟨by rfl, ?_⟩) (by assumption) ?_
          rotate_left
          · intro w hSw; (try dsimp only at hSw); obtain ⟨s1, s2⟩ := hSw; first | (go_simp; done) | (go_simp; with_reducible rfl)
          try simp only [Act.put, List.setIfInBounds_toArray, List.set_cons_zero, List.set_cons_succ]
          refine wpAnyH_done (by kernel_rfl) ?_ _
          go_wp2
          go_ret
          exact ⟨g, _, rfl, Ht1.out, Ht2.out⟩
      · go_simp
        have hb := (Below.refl W3.heap.size W3).alloc (Nat.le_refl _) (.cells (zerosA (V + 1)) 3)
        have hn2 := BlkI.made W3 3 (V + 1)
        obtain ⟨W4, hW2⟩ : ∃ W9, W9 = W3.alloc (.cells (zerosA (V + 1)) 3) := ⟨_, rfl⟩
        rw [← hW2] at hb hn2 ⊢
        clear hW2
        have gel := Hb.out.size
        have nrl := Hr.out.lt
        replace HB := hide (HB.out.keep hb)
        replace Hr := hide (Hr.out.keep hb)
        replace HC := hide (HC.out.keep hb)
        replace Hb := hide (Hb.out.trans (hb.mono Hb.out.size))
        clear hb
        generalize W3.heap.size = gl at hn2 gel nrl ⊢
        have Hl := hide hn2
        clear hn2
        have c0 := HB.out.cell 0
        have c1 := HB.out.cell 1
        simp only [List.getElem?_cons_zero, List.getElem?_cons_succ] at c0 c1
        refine hK.out _ _ ?_ (fun hHeld2 => ?_)
        · (try dsimp only); exact ⟨c0, c1⟩
        clear hK K hHeld c0 c1
        try simp only [Act.put, List.setIfInBounds_toArray, List.set_cons_zero, List.set_cons_succ]
        have hHeld := hHeld2; clear hHeld2
        refine wpAnyH_ready (rs := [6]) (by kernel_rfl) (by simp) ?_
        refine AllReadyH.cons rfl (fun K hK => ?_) AllReadyH.nil
        · go_simp
          have hb := (Below.refl W4.heap.size W4).alloc (Nat.le_refl _) (.cells (zerosA (V + 1)) 3)
          have hn2 := BlkI.made W4 3 (V + 1)
          obtain ⟨W5, hW2⟩ : ∃ W9, W9 = W4.alloc (.cells (zerosA (V + 1)) 3) := ⟨_, rfl⟩
          rw [← hW2] at hb hn2 ⊢
          clear hW2
          have gev := Hb.out.size
          have nrv := Hr.out.lt
          have nlv := Hl.out.lt
          replace HB := hide (HB.out.keep hb)
          replace Hr := hide (Hr.out.keep hb)
          replace Hl := hide (Hl.out.keep hb)
          replace HC := hide (HC.out.keep hb)
          replace Hb := hide (Hb.out.trans (hb.mono Hb.out.size))
          clear hb
          generalize W4.heap.size = gv at hn2 gev nrv nlv ⊢
          have Hv := hide hn2
          clear hn2
          have c0 := HB.out.cell 0
          have c1 := HB.out.cell 1
          simp only [List.getElem?_cons_zero, List.getElem?_cons_succ] at c0 c1
          refine hK.out _ _ ?_ (fun hHeld2 => ?_)
          · (try dsimp only); exact ⟨c0, c1⟩
          clear hK K hHeld c0 c1
          try simp only [Act.put, List.setIfInBounds_toArray, List.set_cons_zero, List.set_cons_succ]
          have hHeld := hHeld2; clear hHeld2
          refine take1 (i := 11) (v := ?_) (some 18) rfl rfl (by kernel_rfl) (by kernel_rfl) (by kernel_rfl) (fun _ _ _ h => h) (Or.inl ⟨by rfl, ?_⟩) (by assumption) ?_
          rotate_left
          · intro w hSw; (try dsimp only at hSw); obtain ⟨s1, s2⟩ := hSw; first | (go_simp; done) | (go_simp; with_reducible rfl)
          try simp only [Act.put, List.setIfInBounds_toArray, List.set_cons_zero, List.set_cons_succ]
          refine wpAnyH_ready (rs := [12]) (by kernel_rfl) (by simp) ?_
          refine AllReadyH.cons rfl (fun K hK => ?_) AllReadyH.nil
          go_simp
          obtain ⟨WF, hWF⟩ : ∃ WF, WF = W5.alloc (.cells #[.int .i64 V, .slice O n oc, .slice none 0 0, .slice (some ⟨gv, 0, none⟩) (V + 1) (V + 1), .slice (some ⟨gl, 0, none⟩) (V + 1) (V + 1), .slice (some ⟨gr, 0, none⟩) (V + 1) (V + 1), .slice none 0 0, .slice none 0 0] 140) := ⟨_, rfl⟩
          obtain ⟨g, hg⟩ : ∃ g, g = W5.heap.size := ⟨_, rfl⟩
          obtain ⟨ht1, ht2⟩ := new_tail Hb.out Hv.out Hl.out Hr.out (by omega) (by omega) (by omega) gev gel ger HC.out Hlen.out hg hWF
          have hbx : Blk 45 WF bB [.int .i64 V, .slice A n c] := by rw [hWF]; exact HB.out.alloc _
          rw [← hWF, ← hg]
          have Ht1 := hide ht1
          have Ht2 := hide ht2
          have c0 := hbx.cell 0
          have c1 := hbx.cell 1
          simp only [List.getElem?_cons_zero, List.getElem?_cons_succ] at c0 c1
          clear hWF hg ht1 ht2 hbx
          refine hK.out _ _ ?_ (fun hHeld2 => ?_)
          · (try dsimp only); exact ⟨c0, c1⟩
          clear hK K hHeld
          try simp only [Act.put, List.setIfInBounds_toArray, List.set_cons_zero, List.set_cons_succ]
          have hHeld := hHeld2; clear hHeld2
          refine take1 (i := 13) (v := ?_) (some 2) rfl rfl (by kernel_rfl) (by kernel_rfl) (by kernel_rfl) (fun _ _ _ h => h) (Or.inl ⟨by rfl, ?_⟩) (by assumption) ?_
          rotate_left
          · intro w hSw; (try dsimp only at hSw); obtain ⟨s1, s2⟩ := hSw; first | (go_simp; done) | (go_simp; with_reducible rfl)
          try simp only [Act.put, List.setIfInBounds_toArray, List.set_cons_zero, List.set_cons_succ]
          refine wpAnyH_done (by kernel_rfl) ?_ _
          go_wp2
          go_ret
          exact ⟨g, _, rfl, Ht1.out, Ht2.out⟩
  · go_simp
    have hb := (Below.refl W1.heap.size W1).alloc (Nat.le_refl _) (.cells (zerosA (V + 1)) 3)
    have hn2 := BlkI.made W1 3 (V + 1)
    obtain ⟨W2, hW2⟩ : ∃ W9, W9 = W1.alloc (.cells (zerosA (V + 1)) 3) := ⟨_, rfl⟩
    rw [← hW2] at hb hn2 ⊢
    clear hW2
    have gev := Hb.out.size
    replace HB := hide (HB.out.keep hb)
    replace Hb := hide (Hb.out.trans (hb.mono Hb.out.size))
    clear hb
    generalize W1.heap.size = gv at hn2 gev  ⊢
    have Hv := hide hn2
    clear hn2
    have c0 := HB.out.cell 0
    have c1 := HB.out.cell 1
    simp only [List.getElem?_cons_zero, List.getElem?_cons_succ] at c0 c1
    refine hK.out _ _ ?_ (fun hHeld2 => ?_)
    · (try dsimp only); exact ⟨c0, c1⟩
    clear hK K hHeld c0 c1
    try simp only [Act.put, List.setIfInBounds_toArray, List.set_cons_zero, List.set_cons_succ]
    have hHeld := hHeld2; clear hHeld2
    refine wpAnyH_ready (rs := [4, 8, 10]) (by kernel_rfl) (by simp) ?_
    refine AllReadyH.cons rfl (fun K hK => ?_) (AllReadyH.cons rfl (fun K hK => ?_) (AllReadyH.cons rfl (fun K hK => ?_) AllReadyH.nil))
    · go_simp
      with_reducible refine (clone_ct H.out Hb.out HA.out hn).mono ?_
      rintro e W3 ⟨O, oc, rfl, hb, xs, hown, hxs⟩
      have hcl : Cloned w.heap.size w.heap.size W3 n cs O oc := ⟨xs, own_mono hown Hb.out.size, fun i x hx => by
        obtain ⟨A', n', c', e1, e2⟩ := hxs i x hx
        refine ⟨A', n', c', e1, e2.keep (Hb.out.trans (hb.mono Hb.out.size)), fun b off e hn9 => ?_⟩
        obtain ⟨b', off', e', hlt⟩ := rd_heap e2 hn9 (by decide)
        rw [e] at e'
        injection e' with e'
        injection e' with e' _
        omega⟩
      have HC := hide hcl
      clear hcl hown hxs xs
      replace HB := hide (HB.out.keep hb)
      replace Hv := hide (Hv.out.keep hb)
      replace Hb := hide (Hb.out.trans (hb.mono Hb.out.size))
      clear hb
      have c0 := HB.out.cell 0
      have c1 := HB.out.cell 1
      simp only [List.getElem?_cons_zero, List.getElem?_cons_succ] at c0 c1
      refine hK.out _ _ ?_ (fun hHeld2 => ?_)
      · (try dsimp only); exact ⟨c0, c1⟩
      clear hK K hHeld c0 c1
      try simp only [Act.put, List.setIfInBounds_toArray, List.set_cons_zero, List.set_cons_succ]
      have hHeld := hHeld2; clear hHeld2
      refine wpAnyH_ready (rs := [8, 10]) (by kernel_rfl) (by simp) ?_
      refine AllReadyH.cons rfl (fun K hK => ?_) (AllReadyH.cons rfl (fun K hK => ?_) AllReadyH.nil)
      · go_simp
        have hb := (Below.refl W3.heap.size W3).alloc (Nat.le_refl _) (.cells (zerosA (V + 1)) 3)
        have hn2 := BlkI.made W3 3 (V + 1)
        obtain ⟨W4, hW2⟩ : ∃ W9, W9 = W3.alloc (.cells (zerosA (V + 1)) 3) := ⟨_, rfl⟩
        rw [← hW2] at hb hn2 ⊢
        clear hW2
        have gel := Hb.out.size
        have nvl := Hv.out.lt
        replace HB := hide (HB.out.keep hb)
        replace Hv := hide (Hv.out.keep hb)
        replace HC := hide (HC.out.keep hb)
        replace Hb := hide (Hb.out.trans (hb.mono Hb.out.size))
        clear hb
        generalize W3.heap.size = gl at hn2 gel nvl ⊢
        have Hl := hide hn2
        clear hn2
        have c0 := HB.out.cell 0
        have c1 := HB.out.cell 1
        simp only [List.getElem?_cons_zero, List.getElem?_cons_succ] at c0 c1
        refine hK.out _ _ ?_ (fun hHeld2 => ?_)
        · (try dsimp only); exact ⟨c0, c1⟩
        clear hK K hHeld c0 c1
        try simp only [Act.put, List.setIfInBounds_toArray, List.set_cons_zero, List.set_cons_succ]
        have hHeld := hHeld2; clear hHeld2
        refine wpAnyH_ready (rs := [10]) (by kernel_rfl) (by simp) ?_
        refine AllReadyH.cons rfl (fun K hK => ?_) AllReadyH.nil
        · go_simp
          have hb := (Below.refl W4.heap.size W4).alloc (Nat.le_refl _) (.cells (zerosA (V + 1)) 3)
          have hn2 := BlkI.made W4 3 (V + 1)
          obtain ⟨W5, hW2⟩ : ∃ W9, W9 = W4.alloc (.cells (zerosA (V + 1)) 3) := ⟨_, rfl⟩
          rw [← hW2] at hb hn2 ⊢
          clear hW2
          have ger := Hb.out.size
          have nvr := Hv.out.lt
          have nlr := Hl.out.lt
          replace HB := hide (HB.out.keep hb)
          replace Hv := hide (Hv.out.keep hb)
          replace Hl := hide (Hl.out.keep hb)
          replace HC := hide (HC.out.keep hb)
          replace Hb := hide (Hb.out.trans (hb.mono Hb.out.size))
          clear hb
          generalize W4.heap.size = gr at hn2 ger nvr nlr ⊢
          have Hr := hide hn2
          clear hn2
          have c0 := HB.out.cell 0
          have c1 := HB.out.cell 1
          simp only [List.getElem?_cons_zero, List.getElem?_cons_succ] at c0 c1
          refine hK.out _ _ ?_ (fun hHeld2 => ?_)
          · (try dsimp only); exact ⟨c0, c1⟩
          clear hK K hHeld c0 c1
          try simp only [Act.put, List.setIfInBounds_toArray, List.set_cons_zero, List.set_cons_succ]
          have hHeld := hHeld2; clear hHeld2
          refine take1 (i := 11) (v := ?_) (some 18) rfl rfl (by kernel_rfl) (by kernel_rfl) (by kernel_rfl) (fun _ _ _ h => h) (Or.inl ⟨by rfl, ?_⟩) (by assumption) ?_
          rotate_left
          · intro w hSw; (try dsimp only at hSw); obtain ⟨s1, s2⟩ := hSw; first | (go_simp; done) | (go_simp; with_reducible rfl)
          try simp only [Act.put, List.setIfInBounds_toArray, List.set_cons_zero, List.set_cons_succ]
          refine wpAnyH_ready (rs := [12]) (by kernel_rfl) (by simp) ?_
          refine AllReadyH.cons rfl (fun K hK => ?_) AllReadyH.nil
          go_simp
          obtain ⟨WF, hWF⟩ : ∃ WF, WF = W5.alloc (.cells #[.int .i64 V, .slice O n oc, .slice none 0 0, .slice (some ⟨gv, 0, none⟩) (V + 1) (V + 1), .slice (some ⟨gl, 0, none⟩) (V + 1) (V + 1), .slice (some ⟨gr, 0, none⟩) (V + 1) (V + 1), .slice none 0 0, .slice none 0 0] 140) := ⟨_, rfl⟩
          obtain ⟨g, hg⟩ : ∃ g, g = W5.heap.size := ⟨_, rfl⟩
          obtain ⟨ht1, ht2⟩ := new_tail Hb.out Hv.out Hl.out Hr.out (by omega) (by omega) (by omega) gev gel ger HC.out Hlen.out hg hWF
          have hbx : Blk 45 WF bB [.int .i64 V, .slice A n c] := by rw [hWF]; exact HB.out.alloc _
          rw [← hWF, ← hg]
          have Ht1 := hide ht1
          have Ht2 := hide ht2
          have c0 := hbx.cell 0
          have c1 := hbx.cell 1
          simp only [List.getElem?_cons_zero, List.getElem?_cons_succ] at c0 c1
          clear hWF hg ht1 ht2 hbx
          refine hK.out _ _ ?_ (fun hHeld2 => ?_)
          · (try dsimp only); exact ⟨c0, c1⟩
          clear hK K hHeld
          try simp only [Act.put, List.setIfInBounds_toArray, List.set_cons_zero, List.set_cons_succ]
          have hHeld := hHeld2; clear hHeld2
          refine take1 (i := 13) (v := ?_) (some 2) rfl rfl (by kernel_rfl) (by kernel_rfl) (by kernel_rfl) (fun _ _ _ h => h) (Or.inl ⟨by rfl, ?_⟩) (by assumption) ?_
          rotate_left
          · intro w hSw; (try dsimp only at hSw); obtain ⟨s1, s2⟩ := hSw; first | (go_simp; done) | (go_simp; with_reducible rfl)
          try simp only [Act.put, List.setIfInBounds_toArray, List.set_cons_zero, List.set_cons_succ]
          refine wpAnyH_done (by kernel_rfl) ?_ _
          go_wp2
          go_ret
          exact ⟨g, _, rfl, Ht1.out, Ht2.out⟩
      · go_simp
        have hb := (Below.refl W3.heap.size W3).alloc (Nat.le_refl _) (.cells (zerosA (V + 1)) 3)
        have hn2 := BlkI.made W3 3 (V + 1)
        obtain ⟨W4, hW2⟩ : ∃ W9, W9 = W3.alloc (.cells (zerosA (V + 1)) 3) := ⟨_, rfl⟩
        rw [← hW2] at hb hn2 ⊢
        clear hW2
        have ger := Hb.out.size
        have nvr := Hv.out.lt
        replace HB := hide (HB.out.keep hb)
        replace Hv := hide (Hv.out.keep hb)
        replace HC := hide (HC.out.keep hb)
        replace Hb := hide (Hb.out.trans (hb.mono Hb.out.size))
        clear hb
        generalize W3.heap.size = gr at hn2 ger nvr ⊢
        have Hr := hide hn2
        clear hn2
        have c0 := HB.out.cell 0
        have c1 := HB.out.cell 1
        simp only [List.getElem?_cons_zero, List.getElem?_cons_succ] at c0 c1
        refine hK.out _ _ ?_ (fun hHeld2 => ?_)
        · (try dsimp only); exact ⟨c0, c1⟩
        clear hK K hHeld c0 c1
        try simp only [Act.put, List.setIfInBounds_toArray, List.set_cons_zero, List.set_cons_succ]
        have hHeld := hHeld2; clear hHeld2
        refine wpAnyH_ready (rs := [8]) (by kernel_rfl) (by simp) ?_
        refine AllReadyH.cons rfl (fun K hK => ?_) AllReadyH.nil
        · go_simp
          have hb := (Below.refl W4.heap.size W4).alloc (Nat.le_refl _) (.cells (zerosA (V + 1)) 3)
          have hn2 := BlkI.made W4 3 (V + 1)
          obtain ⟨W5, hW2⟩ : ∃ W9, W9 = W4.alloc (.cells (zerosA (V + 1)) 3) := ⟨_, rfl⟩
          rw [← hW2] at hb hn2 ⊢
          clear hW2
          have gel := Hb.out.size
          have nvl := Hv.out.lt
          have nrl := Hr.out.lt
          replace HB := hide (HB.out.keep hb)
          replace Hv := hide (Hv.out.keep hb)
          replace Hr := hide (Hr.out.keep hb)
          replace HC := hide (HC.out.keep hb)
          replace Hb := hide (Hb.out.trans (hb.mono Hb.out.size))
          clear hb
          generalize W4.heap.size = gl at hn2 gel nvl nrl ⊢
          have Hl := hide hn2
          clear hn2
          have c0 := HB.out.cell 0
          have c1 := HB.out.cell 1
          simp only [List.getElem?_cons_zero, List.getElem?_cons_succ] at c0 c1
          refine hK.out _ _ ?_ (fun hHeld2 => ?_)
          · (try dsimp only); exact ⟨c0, c1⟩
          clear hK K hHeld c0 c1
          try simp only [Act.put, List.setIfInBounds_toArray, List.set_cons_zero, List.set_cons_succ]
          have hHeld := hHeld2; clear hHeld2
          refine take1 (i := 11) (v := ?_) (some 18) rfl rfl (by kernel_rfl) (by kernel_rfl) (by kernel_rfl) (fun _ _ _ h => h) (Or.inl ⟨by rfl, ?_⟩) (by assumption) ?_
          rotate_left
          · intro w hSw; (try dsimp only at hSw); obtain ⟨s1, s2⟩ := hSw; first | (go_simp; done) | (go_simp; with_reducible rfl)
          try simp only [Act.put, List.setIfInBounds_toArray, List.set_cons_zero, List.set_cons_succ]
          refine wpAnyH_ready (rs := [12]) (by kernel_rfl) (by simp) ?_
          refine AllReadyH.cons rfl (fun K hK => ?_) AllReadyH.nil
          go_simp
          obtain ⟨WF, hWF⟩ : ∃ WF, WF = W5.alloc (.cells #[.int .i64 V, .slice O n oc, .slice none 0 0, .slice (some ⟨gv, 0, none⟩) (V + 1) (V + 1), .slice (some ⟨gl, 0, none⟩) (V + 1) (V + 1), .slice (some ⟨gr, 0, none⟩) (V + 1) (V + 1), .slice none 0 0, .slice none 0 0] 140) := ⟨_, rfl⟩
          obtain ⟨g, hg⟩ : ∃ g, g = W5.heap.size := ⟨_, rfl⟩
          obtain ⟨ht1, ht2⟩ := new_tail Hb.out Hv.out Hl.out Hr.out (by omega) (by omega) (by omega) gev gel ger HC.out Hlen.out hg hWF
          have hbx : Blk 45 WF bB [.int .i64 V, .slice A n c] := by rw [hWF]; exact HB.out.alloc _
          rw [← hWF, ← hg]
          have Ht1 := hide ht1
          have Ht2 := hide ht2
          have c0 := hbx.cell 0
          have c1 := hbx.cell 1
          simp only [List.getElem?_cons_zero, List.getElem?_cons_succ] at c0 c1
          clear hWF hg ht1 ht2 hbx
          refine hK.out _ _ ?_ (fun hHeld2 => ?_)
          · (try dsimp only); exact ⟨c0, c1⟩
          clear hK K hHeld
          try simp only [Act.put, List.setIfInBounds_toArray, List.set_cons_zero, List.set_cons_succ]
          have hHeld := hHeld2; clear hHeld2
          refine take1 (i := 13) (v := ?_) (some 2) rfl rfl (by kernel_rfl) (by kernel_rfl) (by kernel_rfl) (fun _ _ _ h => h) (Or.inl ⟨by rfl, ?_⟩) (by assumption) ?_
          rotate_left
          · intro w hSw; (try dsimp only at hSw); obtain ⟨s1, s2⟩ := hSw; first | (go_simp; done) | (go_simp; with_reducible rfl)
          try simp only [Act.put, List.setIfInBounds_toArray, List.set_cons_zero, List.set_cons_succ]
          refine wpAnyH_done (by kernel_rfl) ?_ _
          go_wp2
          go_ret
          exact ⟨g, _, rfl, Ht1.out, Ht2.out⟩
    · go_simp
      have hb := (Below.refl W2.heap.size W2).alloc (Nat.le_refl _) (.cells (zerosA (V + 1)) 3)
      have hn2 := BlkI.made W2 3 (V + 1)
      obtain ⟨W3, hW2⟩ : ∃ W9, W9 = W2.alloc (.cells (zerosA (V + 1)) 3) := ⟨_, rfl⟩
      rw [← hW2] at hb hn2 ⊢
      clear hW2
      have gel := Hb.out.size
      have nvl := Hv.out.lt
      replace HB := hide (HB.out.keep hb)
      replace Hv := hide (Hv.out.keep hb)
      replace Hb := hide (Hb.out.trans (hb.mono Hb.out.size))
      clear hb
      generalize W2.heap.size = gl at hn2 gel nvl ⊢
      have Hl := hide hn2
      clear hn2
      have c0 := HB.out.cell 0
      have c1 := HB.out.cell 1
      simp only [List.getElem?_cons_zero, List.getElem?_cons_succ] at c0 c1
      refine hK.out _ _ ?_ (fun hHeld2 => ?_)
      · (try dsimp only); exact ⟨c0, c1⟩
      clear hK K hHeld c0 c1
      try simp only [Act.put, List.setIfInBounds_toArray, List.set_cons_zero, List.set_cons_succ]
      have hHeld := hHeld2; clear hHeld2
      refine wpAnyH_ready (rs := [4, 10]) (by kernel_rfl) (by simp) ?_
      refine AllReadyH.cons rfl (fun K hK => ?_) (AllReadyH.cons rfl (fun K hK => ?_) AllReadyH.nil)
      · go_simp
        with_reducible refine (clone_ct H.out Hb.out HA.out hn).mono ?_
        rintro e W4 ⟨O, oc, rfl, hb, xs, hown, hxs⟩
        have hcl : Cloned w.heap.size w.heap.size W4 n cs O oc := ⟨xs, own_mono hown Hb.out.size, fun i x hx => by
          obtain ⟨A', n', c', e1, e2⟩ := hxs i x hx
          refine ⟨A', n', c', e1, e2.keep (Hb.out.trans (hb.mono Hb.out.size)), fun b off e hn9 => ?_⟩
          obtain ⟨b', off', e', hlt⟩ := rd_heap e2 hn9 (by decide)
          rw [e] at e'
          injection e' with e'
          injection e' with e' _
          omega⟩
        have HC := hide hcl
        clear hcl hown hxs xs
        replace HB := hide (HB.out.keep hb)
        replace Hv := hide (Hv.out.keep hb)
        replace Hl := hide (Hl.out.keep hb)
        replace Hb := hide (Hb.out.trans (hb.mono Hb.out.size))
        clear hb
        have c0 := HB.out.cell 0
        have c1 := HB.out.cell 1
        simp only [List.getElem?_cons_zero, List.getElem?_cons_succ] at c0 c1
        refine hK.out _ _ ?_ (fun hHeld2 => ?_)
        · (try dsimp only); exact ⟨c0, c1⟩
        clear hK K hHeld c0 c1
        try simp only [Act.put, List.setIfInBounds_toArray, List.set_cons_zero, List.set_cons_succ]
        have hHeld := hHeld2; clear hHeld2
        refine wpAnyH_ready (rs := [10]) (by kernel_rfl) (by simp) ?_
        refine AllReadyH.cons rfl (fun K hK => ?_) AllReadyH.nil
        · go_simp
          have hb := (Below.refl W4.heap.size W4).alloc (Nat.le_refl _) (.cells (zerosA (V + 1)) 3)
          have hn2 := BlkI.made W4 3 (V + 1)
          obtain ⟨W5, hW2⟩ : ∃ W9, W9 = W4.alloc (.cells (zerosA (V + 1)) 3) := ⟨_, rfl⟩
          rw [← hW2] at hb hn2 ⊢
          clear hW2
          have ger := Hb.out.size
          have nvr := Hv.out.lt
          have nlr := Hl.out.lt
          replace HB := hide (HB.out.keep hb)
          replace Hv := hide (Hv.out.keep hb)
          replace Hl := hide (Hl.out.keep hb)
          replace HC := hide (HC.out.keep hb)
          replace Hb := hide (Hb.out.trans (hb.mono Hb.out.size))
          clear hb
          generalize W4.heap.size = gr at hn2 ger nvr nlr ⊢
          have Hr := hide hn2
          clear hn2
          have c0 := HB.out.cell 0
          have c1 := HB.out.cell 1
          simp only [List.getElem?_cons_zero, List.getElem?_cons_succ] at c0 c1
          refine hK.out _ _ ?_ (fun hHeld2 => ?_)
          · (try dsimp only); exact ⟨c0, c1⟩
          clear hK K hHeld c0 c1
          try simp only [Act.put, List.setIfInBounds_toArray, List.set_cons_zero, List.set_cons_succ]
          have hHeld := hHeld2; clear hHeld2
          refine take1 (i := 11) (v := ?_) (some 18) rfl rfl (by kernel_rfl) (by kernel_rfl) (by kernel_rfl) (fun _ _ _ h => h) (Or.inl ⟨by rfl, ?_⟩) (by assumption) ?_
          rotate_left
          · intro w hSw; (try dsimp only at hSw); obtain ⟨s1, s2⟩ := hSw; first | (go_simp; done) | (go_simp; with_reducible rfl)
          try simp only [Act.put, List.setIfInBounds_toArray, List.set_cons_zero, List.set_cons_succ]
          refine wpAnyH_ready (rs := [12]) (by kernel_rfl) (by simp) ?_
          refine AllReadyH.cons rfl (fun K hK => ?_) AllReadyH.nil
          go_simp
          obtain ⟨WF, hWF⟩ : ∃ WF, WF = W5.alloc (.cells #[.int .i64 V, .slice O n oc, .slice none 0 0, .slice (some ⟨gv, 0, none⟩) (V + 1) (V + 1), .slice (some ⟨gl, 0, none⟩) (V + 1) (V + 1), .slice (some ⟨gr, 0, none⟩) (V + 1) (V + 1), .slice none 0 0, .slice none 0 0] 140) := ⟨_, rfl⟩
          obtain ⟨g, hg⟩ : ∃ g, g = W5.heap.size := ⟨_, rfl⟩
          obtain ⟨ht1, ht2⟩ := new_tail Hb.out Hv.out Hl.out Hr.out (by omega) (by omega) (by omega) gev gel ger HC.out Hlen.out hg hWF
          have hbx : Blk 45 WF bB [.int .i64 V, .slice A n c] := by rw [hWF]; exact HB.out.alloc _
          rw [← hWF, ← hg]
          have Ht1 := hide ht1
          have Ht2 := hide ht2
          have c0 := hbx.cell 0
          have c1 := hbx.cell 1
          simp only [List.getElem?_cons_zero, List.getElem?_cons_succ] at c0 c1
          clear hWF hg ht1 ht2 hbx
          refine hK.out _ _ ?_ (fun hHeld2 => ?_)
          · (try dsimp only); exact ⟨c0, c1⟩
          clear hK K hHeld
          try simp only [Act.put, List.setIfInBounds_toArray, List.set_cons_zero, List.set_cons_succ]
          have hHeld := hHeld2; clear hHeld2
          refine take1 (i := 13) (v := ?_) (some 2) rfl rfl (by kernel_rfl) (by kernel_rfl) (by kernel_rfl) (fun _ _ _ h => h) (Or.inl ⟨by rfl, ?_⟩) (by assumption) ?_
          rotate_left
          · intro w hSw; (try dsimp only at hSw); obtain ⟨s1, s2⟩ := hSw; first | (go_simp; done) | (go_simp; with_reducible rfl)
          try simp only [Act.put, List.setIfInBounds_toArray, List.set_cons_zero, List.set_cons_succ]
          refine wpAnyH_done (by kernel_rfl) ?_ _
          go_wp2
          go_ret
          exact ⟨g, _, rfl, Ht1.out, Ht2.out⟩
      · go_simp
        have hb := (Below.refl W3.heap.size W3).alloc (Nat.le_refl _) (.cells (zerosA (V + 1)) 3)
        have hn2 := BlkI.made W3 3 (V + 1)
        obtain ⟨W4, hW2⟩ : ∃ W9, W9 = W3.alloc (.cells (zerosA (V + 1)) 3) := ⟨_, rfl⟩
        rw [← hW2] at hb hn2 ⊢
        clear hW2
        have ger := Hb.out.size
        have nvr := Hv.out.lt
        have nlr := Hl.out.lt
        replace HB := hide (HB.out.keep hb)
        replace Hv := hide (Hv.out.keep hb)
        replace Hl := hide (Hl.out.keep hb)
        replace Hb := hide (Hb.out.trans (hb.mono Hb.out.size))
        clear hb
        generalize W3.heap.size = gr at hn2 ger nvr nlr ⊢
        have Hr := hide hn2
        clear hn2
        have c0 := HB.out.cell 0
        have c1 := HB.out.cell 1
        simp only [List.getElem?_cons_zero, List.getElem?_cons_succ] at c0 c1
        refine hK.out _ _ ?_ (fun hHeld2 => ?_)
        · (try dsimp only); exact ⟨c0, c1⟩
        clear hK K hHeld c0 c1
        try simp only [Act.put, List.setIfInBounds_toArray, List.set_cons_zero, List.set_cons_succ]
        have hHeld := hHeld2; clear hHeld2
        refine wpAnyH_ready (rs := [4]) (by kernel_rfl) (by simp) ?_
        refine AllReadyH.cons rfl (fun K hK => ?_) AllReadyH.nil
        · go_simp
          with_reducible refine (clone_ct H.out Hb.out HA.out hn).mono ?_
          rintro e W5 ⟨O, oc, rfl, hb, xs, hown, hxs⟩
          have hcl : Cloned w.heap.size w.heap.size W5 n cs O oc := ⟨xs, own_mono hown Hb.out.size, fun i x hx => by
            obtain ⟨A', n', c', e1, e2⟩ := hxs i x hx
            refine ⟨A', n', c', e1, e2.keep (Hb.out.trans (hb.mono Hb.out.size)), fun b off e hn9 => ?_⟩
            obtain ⟨b', off', e', hlt⟩ := rd_heap e2 hn9 (by decide)
            rw [e] at e'
            injection e' with e'
            injection e' with e' _
            omega⟩
          have HC := hide hcl
          clear hcl hown hxs xs
          replace HB := hide (HB.out.keep hb)
          replace Hv := hide (Hv.out.keep hb)
          replace Hl := hide (Hl.out.keep hb)
          replace Hr := hide (Hr.out.keep hb)
          replace Hb := hide (Hb.out.trans (hb.mono Hb.out.size))
          clear hb
          have c0 := HB.out.cell 0
          have c1 := HB.out.cell 1
          simp only [List.getElem?_cons_zero, List.getElem?_cons_succ] at c0 c1
          refine hK.out _ _ ?_ (fun hHeld2 => ?_)
          · (try dsimp only); exact ⟨c0, c1⟩
          clear hK K hHeld c0 c1
          try simp only [Act.put, List.setIfInBounds_toArray, List.set_cons_zero, List.set_cons_succ]
          have hHeld := hHeld2; clear hHeld2
          refine take1 (i := 11) (v := ?_) (some 18) rfl rfl (by kernel_rfl) (by kernel_rfl) (by kernel_rfl) (fun _ _ _ h => h) (Or.inl ⟨by rfl, ?_⟩) (by assumption) ?_
          rotate_left
          · intro w hSw; (try dsimp only at hSw); obtain ⟨s1, s2⟩ := hSw; first | (go_simp; done) | (go_simp; with_reducible rfl)
          try simp only [Act.put, List.setIfInBounds_toArray, List.set_cons_zero, List.set_cons_succ]
          refine wpAnyH_ready (rs := [12]) (by kernel_rfl) (by simp) ?_
          refine AllReadyH.cons rfl (fun K hK => ?_) AllReadyH.nil
          go_simp
          obtain ⟨WF, hWF⟩ : ∃ WF, WF = W5.alloc (.cells #[.int .i64 V, .slice O n oc, .slice none 0 0, .slice (some ⟨gv, 0, none⟩) (V + 1) (V + 1), .slice (some ⟨gl, 0, none⟩) (V + 1) (V + 1), .slice (some ⟨gr, 0, none⟩) (V + 1) (V + 1), .slice none 0 0, .slice none 0 0] 140) := ⟨_, rfl⟩
          obtain ⟨g, hg⟩ : ∃ g, g = W5.heap.size := ⟨_, rfl⟩
          obtain ⟨ht1, ht2⟩ := new_tail Hb.out Hv.out Hl.out Hr.out (by omega) (by omega) (by omega) gev gel ger HC.out Hlen.out hg hWF
          have hbx : Blk 45 WF bB [.int .i64 V, .slice A n c] := by rw [hWF]; exact HB.out.alloc _
          rw [← hWF, ← hg]
          have Ht1 := hide ht1
          have Ht2 := hide ht2
          have c0 := hbx.cell 0
          have c1 := hbx.cell 1
          simp only [List.getElem?_cons_zero, List.getElem?_cons_succ] at c0 c1
          clear hWF hg ht1 ht2 hbx
          refine hK.out _ _ ?_ (fun hHeld2 => ?_)
          · (try dsimp only); exact ⟨c0, c1⟩
          clear hK K hHeld
          try simp only [Act.put, List.setIfInBounds_toArray, List.set_cons_zero, List.set_cons_succ]
          have hHeld := hHeld2; clear hHeld2
          refine take1 (i := 13) (v := ?_) (some 2) rfl rfl (by kernel_rfl) (by kernel_rfl) (by kernel_rfl) (fun _ _ _ h => h) (Or.inl ⟨by rfl, ?_⟩) (by assumption) ?_
          rotate_left
          · intro w hSw; (try dsimp only at hSw); obtain ⟨s1, s2⟩ := hSw; first | (go_simp; done) | (go_simp; with_reducible rfl)
          try simp only [Act.put, List.setIfInBounds_toArray, List.set_cons_zero, List.set_cons_succ]
          refine wpAnyH_done (by kernel_rfl) ?_ _
          go_wp2
          go_ret
          exact ⟨g, _, rfl, Ht1.out, Ht2.out⟩
    · go_simp
      have hb := (Below.refl W2.heap.size W2).alloc (Nat.le_refl _) (.cells (zerosA (V + 1)) 3)
      have hn2 := BlkI.made W2 3 (V + 1)
      obtain ⟨W3, hW2⟩ : ∃ W9, W9 = W2.alloc (.cells (zerosA (V + 1)) 3) := ⟨_, rfl⟩
      rw [← hW2] at hb hn2 ⊢
      clear hW2
      have ger := Hb.out.size
      have nvr := Hv.out.lt
      replace HB := hide (HB.out.keep hb)
      replace Hv := hide (Hv.out.keep hb)
      replace Hb := hide (Hb.out.trans (hb.mono Hb.out.size))
      clear hb
      generalize W2.heap.size = gr at hn2 ger nvr ⊢
      have Hr := hide hn2
      clear hn2
      have c0 := HB.out.cell 0
      have c1 := HB.out.cell 1
      simp only [List.getElem?_cons_zero, List.getElem?_cons_succ] at c0 c1
      refine hK.out _ _ ?_ (fun hHeld2 => ?_)
      · (try dsimp only); exact ⟨c0, c1⟩
      clear hK K hHeld c0 c1
      try simp only [Act.put, List.setIfInBounds_toArray, List.set_cons_zero, List.set_cons_succ]
      have hHeld := hHeld2; clear hHeld2
      refine wpAnyH_ready (rs := [4, 8]) (by kernel_rfl) (by simp) ?_
      refine AllReadyH.cons rfl (fun K hK => ?_) (AllReadyH.cons rfl (fun K hK => ?_) AllReadyH.nil)
      · go_simp
        with_reducible refine (clone_ct H.out Hb.out HA.out hn).mono ?_
        rintro e W4 ⟨O, oc, rfl, hb, xs, hown, hxs⟩
        have hcl : Cloned w.heap.size w.heap.size W4 n cs O oc := ⟨xs, own_mono hown Hb.out.size, fun i x hx => by
          obtain ⟨A', n', c', e1, e2⟩ := hxs i x hx
          refine ⟨A', n', c', e1, e2.keep (Hb.out.trans (hb.mono Hb.out.size)), fun b off e hn9 => ?_⟩
          obtain ⟨b', off', e', hlt⟩ := rd_heap e2 hn9 (by decide)
          rw [e] at e'
          injection e' with e'
          injection e' with e' _
          omega⟩
        have HC := hide hcl
        clear hcl hown hxs xs
        replace HB := hide (HB.out.keep hb)
        replace Hv := hide (Hv.out.keep hb)
        replace Hr := hide (Hr.out.keep hb)
        replace Hb := hide (Hb.out.trans (hb.mono Hb.out.size))
        clear hb
        have c0 := HB.out.cell 0
        have c1 := HB.out.cell 1
        simp only [List.getElem?_cons_zero, List.getElem?_cons_succ] at c0 c1
        refine hK.out _ _ ?_ (fun hHeld2 => ?_)
        · (try dsimp only); exact ⟨c0, c1⟩
        clear hK K hHeld c0 c1
        try simp only [Act.put, List.setIfInBounds_toArray, List.set_cons_zero, List.set_cons_succ]
        have hHeld := hHeld2; clear hHeld2
        refine wpAnyH_ready (rs := [8]) (by kernel_rfl) (by simp) ?_
        refine AllReadyH.cons rfl (fun K hK => ?_) AllReadyH.nil
        · go_simp
          have hb := (Below.refl W4.heap.size W4).alloc (Nat.le_refl _) (.cells (zerosA (V + 1)) 3)
          have hn2 := BlkI.made W4 3 (V + 1)
          obtain ⟨W5, hW2⟩ : ∃ W9, W9 = W4.alloc (.cells (zerosA (V + 1)) 3) := ⟨_, rfl⟩
          rw [← hW2] at hb hn2 ⊢
          clear hW2
          have gel := Hb.out.size
          have nvl := Hv.out.lt
          have nrl := Hr.out.lt
          replace HB := hide (HB.out.keep hb)
          replace Hv := hide (Hv.out.keep hb)
          replace Hr := hide (Hr.out.keep hb)
          replace HC := hide (HC.out.keep hb)
          replace Hb := hide (Hb.out.trans (hb.mono Hb.out.size))
          clear hb
          generalize W4.heap.size = gl at hn2 gel nvl nrl ⊢
          have Hl := hide hn2
          clear hn2
          have c0 := HB.out.cell 0
          have c1 := HB.out.cell 1
          simp only [List.getElem?_cons_zero, List.getElem?_cons_succ] at c0 c1
          refine hK.out _ _ ?_ (fun hHeld2 => ?_)
          · (try dsimp only); exact ⟨c0, c1⟩
          clear hK K hHeld c0 c1
          try simp only [Act.put, List.setIfInBounds_toArray, List.set_cons_zero, List.set_cons_succ]
          have hHeld := hHeld2; clear hHeld2
          refine take1 (i := 11) (v := ?_) (some 18) rfl rfl (by kernel_rfl) (by kernel_rfl) (by kernel_rfl) (fun _ _ _ h => h) (Or.inl ⟨by rfl, ?_⟩) (by assumption) ?_
          rotate_left
          · intro w hSw; (try dsimp only at hSw); obtain ⟨s1, s2⟩ := hSw; first | (go_simp; done) | (go_simp; with_reducible rfl)
          try simp only [Act.put, List.setIfInBounds_toArray, List.set_cons_zero, List.set_cons_succ]
          refine wpAnyH_ready (rs := [12]) (by kernel_rfl) (by simp) ?_
          refine AllReadyH.cons rfl (fun K hK => ?_) AllReadyH.nil
          go_simp
          obtain ⟨WF, hWF⟩ : ∃ WF, WF = W5.alloc (.cells #[.int .i64 V, .slice O n oc, .slice none 0 0, .slice (some ⟨gv, 0, none⟩) (V + 1) (V + 1), .slice (some ⟨gl, 0, none⟩) (V + 1) (V + 1), .slice (some ⟨gr, 0, none⟩) (V + 1) (V + 1), .slice none 0 0, .slice none 0 0] 140) := ⟨_, rfl⟩
          obtain ⟨g, hg⟩ : ∃ g, g = W5.heap.size := ⟨_, rfl⟩
          obtain ⟨ht1, ht2⟩ := new_tail Hb.out Hv.out Hl.out Hr.out (by omega) (by omega) (by omega) gev gel ger HC.out Hlen.out hg hWF
          have hbx : Blk 45 WF bB [.int .i64 V, .slice A n c] := by rw [hWF]; exact HB.out.alloc _
          rw [← hWF, ← hg]
          have Ht1 := hide ht1
          have Ht2 := hide ht2
          have c0 := hbx.cell 0
          have c1 := hbx.cell 1
          simp only [List.getElem?_cons_zero, List.getElem?_cons_succ] at c0 c1
          clear hWF hg ht1 ht2 hbx
          refine hK.out _ _ ?_ (fun hHeld2 => ?_)
          · (try dsimp only); exact ⟨c0, c1⟩
          clear hK K hHeld
          try simp only [Act.put, List.setIfInBounds_toArray, List.set_cons_zero, List.set_cons_succ]
          have hHeld := hHeld2; clear hHeld2
          refine take1 (i := 13) (v := ?_) (some 2) rfl rfl (by kernel_rfl) (by kernel_rfl) (by kernel_rfl) (fun _ _ _ h => h) (Or.inl ⟨by rfl, ?_⟩) (by assumption) ?_
          rotate_left
          · intro w hSw; (try dsimp only at hSw); obtain ⟨s1, s2⟩ := hSw; first | (go_simp; done) | (go_simp; with_reducible rfl)
          try simp only [Act.put, List.setIfInBounds_toArray, List.set_cons_zero, List.set_cons_succ]
          refine wpAnyH_done (by kernel_rfl) ?_ _
          go_wp2
          go_ret
          exact ⟨g, _, rfl, Ht1.out, Ht2.out⟩
      · go_simp
        have hb := (Below.refl W3.heap.size W3).alloc (Nat.le_refl _) (.cells (zerosA (V + 1)) 3)
        have hn2 := BlkI.made W3 3 (V + 1)
        obtain ⟨W4, hW2⟩ : ∃ W9, W9 = W3.alloc (.cells (zerosA (V + 1)) 3) := ⟨_, rfl⟩
        rw [← hW2] at hb hn2 ⊢
        clear hW2
        have gel := Hb.out.size
        have nvl := Hv.out.lt
        have nrl := Hr.out.lt
        replace HB := hide (HB.out.keep hb)
        replace Hv := hide (Hv.out.keep hb)
        replace Hr := hide (Hr.out.keep hb)
        replace Hb := hide (Hb.out.trans (hb.mono Hb.out.size))
        clear hb
        generalize W3.heap.size = gl at hn2 gel nvl nrl ⊢
        have Hl := hide hn2
        clear hn2
        have c0 := HB.out.cell 0
        have c1 := HB.out.cell 1
        simp only [List.getElem?_cons_zero, List.getElem?_cons_succ] at c0 c1
        refine hK.out _ _ ?_ (fun hHeld2 => ?_)
        · (try dsimp only); exact ⟨c0, c1⟩
        clear hK K hHeld c0 c1
        try simp only [Act.put, List.setIfInBounds_toArray, List.set_cons_zero, List.set_cons_succ]
        have hHeld := hHeld2; clear hHeld2
        refine wpAnyH_ready (rs := [4]) (by kernel_rfl) (by simp) ?_
        refine AllReadyH.cons rfl (fun K hK => ?_) AllReadyH.nil
        · go_simp
          with_reducible refine (clone_ct H.out Hb.out HA.out hn).mono ?_
          rintro e W5 ⟨O, oc, rfl, hb, xs, hown, hxs⟩
          have hcl : Cloned w.heap.size w.heap.size W5 n cs O oc := ⟨xs, own_mono hown Hb.out.size, fun i x hx => by
            obtain ⟨A', n', c', e1, e2⟩ := hxs i x hx
            refine ⟨A', n', c', e1, e2.keep (Hb.out.trans (hb.mono Hb.out.size)), fun b off e hn9 => ?_⟩
            obtain ⟨b', off', e', hlt⟩ := rd_heap e2 hn9 (by decide)
            rw [e] at e'
            injection e' with e'
            injection e' with e' _
            omega⟩
          have HC := hide hcl
          clear hcl hown hxs xs
          replace HB := hide (HB.out.keep hb)
          replace Hv := hide (Hv.out.keep hb)
          replace Hr := hide (Hr.out.keep hb)
          replace Hl := hide (Hl.out.keep hb)
          replace Hb := hide (Hb.out.trans (hb.mono Hb.out.size))
          clear hb
          have c0 := HB.out.cell 0
          have c1 := HB.out.cell 1
          simp only [List.getElem?_cons_zero, List.getElem?_cons_succ] at c0 c1
          refine hK.out _ _ ?_ (fun hHeld2 => ?_)
          · (try dsimp only); exact ⟨c0, c1⟩
          clear hK K hHeld c0 c1
          try simp only [Act.put, List.setIfInBounds_toArray, List.set_cons_zero, List.set_cons_succ]
          have hHeld := hHeld2; clear hHeld2
          refine take1 (i := 11) (v := ?_) (some 18) rfl rfl (by kernel_rfl) (by kernel_rfl) (by kernel_rfl) (fun _ _ _ h => h) (Or.inl ⟨by rfl, ?_⟩) (by assumption) ?_
          rotate_left
          · intro w hSw; (try dsimp only at hSw); obtain ⟨s1, s2⟩ := hSw; first | (go_simp; done) | (go_simp; with_reducible rfl)
          try simp only [Act.put, List.setIfInBounds_toArray, List.set_cons_zero, List.set_cons_succ]
          refine wpAnyH_ready (rs := [12]) (by kernel_rfl) (by simp) ?_
          refine AllReadyH.cons rfl (fun K hK => ?_) AllReadyH.nil
          go_simp
          obtain ⟨WF, hWF⟩ : ∃ WF, WF = W5.alloc (.cells #[.int .i64 V, .slice O n oc, .slice none 0 0, .slice (some ⟨gv, 0, none⟩) (V + 1) (V + 1), .slice (some ⟨gl, 0, none⟩) (V + 1) (V + 1), .slice (some ⟨gr, 0, none⟩) (V + 1) (V + 1), .slice none 0 0, .slice none 0 0] 140) := ⟨_, rfl⟩
          obtain ⟨g, hg⟩ : ∃ g, g = W5.heap.size := ⟨_, rfl⟩
          obtain ⟨ht1, ht2⟩ := new_tail Hb.out Hv.out Hl.out Hr.out (by omega) (by omega) (by omega) gev gel ger HC.out Hlen.out hg hWF
          have hbx : Blk 45 WF bB [.int .i64 V, .slice A n c] := by rw [hWF]; exact HB.out.alloc _
          rw [← hWF, ← hg]
          have Ht1 := hide ht1
          have Ht2 := hide ht2
          have c0 := hbx.cell 0
          have c1 := hbx.cell 1
          simp only [List.getElem?_cons_zero, List.getElem?_cons_succ] at c0 c1
          clear hWF hg ht1 ht2 hbx
          refine hK.out _ _ ?_ (fun hHeld2 => ?_)
          · (try dsimp only); exact ⟨c0, c1⟩
          clear hK K hHeld
          try simp only [Act.put, List.setIfInBounds_toArray, List.set_cons_zero, List.set_cons_succ]
          have hHeld := hHeld2; clear hHeld2
          refine take1 (i := 13) (v := ?_) (some 2) rfl rfl (by kernel_rfl) (by kernel_rfl) (by kernel_rfl) (fun _ _ _ h => h) (Or.inl ⟨by rfl, ?_⟩) (by assumption) ?_
          rotate_left
          · intro w hSw; (try dsimp only at hSw); obtain ⟨s1, s2⟩ := hSw; first | (go_simp; done) | (go_simp; with_reducible rfl)
          try simp only [Act.put, List.setIfInBounds_toArray, List.set_cons_zero, List.set_cons_succ]
          refine wpAnyH_done (by kernel_rfl) ?_ _
          go_wp2
          go_ret
          exact ⟨g, _, rfl, Ht1.out, Ht2.out⟩
  · go_simp
    have hb := (Below.refl W1.heap.size W1).alloc (Nat.le_refl _) (.cells (zerosA (V + 1)) 3)
    have hn2 := BlkI.made W1 3 (V + 1)
    obtain ⟨W2, hW2⟩ : ∃ W9, W9 = W1.alloc (.cells (zerosA (V + 1)) 3) := ⟨_, rfl⟩
    rw [← hW2] at hb hn2 ⊢
    clear hW2
    have gel := Hb.out.size
    replace HB := hide (HB.out.keep hb)
    replace Hb := hide (Hb.out.trans (hb.mono Hb.out.size))
    clear hb
    generalize W1.heap.size = gl at hn2 gel  ⊢
    have Hl := hide hn2
    clear hn2
    have c0 := HB.out.cell 0
    have c1 := HB.out.cell 1
    simp only [List.getElem?_cons_zero, List.getElem?_cons_succ] at c0 c1
    refine hK.out _ _ ?_ (fun hHeld2 => ?_)
    · (try dsimp only); exact ⟨c0, c1⟩
    clear hK K hHeld c0 c1
    try simp only [Act.put, List.setIfInBounds_toArray, List.set_cons_zero, List.set_cons_succ]
    have hHeld := hHeld2; clear hHeld2
    refine wpAnyH_ready (rs := [4, 6, 10]) (by kernel_rfl) (by simp) ?_
    refine AllReadyH.cons rfl (fun K hK => ?_) (AllReadyH.cons rfl (fun K hK => ?_) (AllReadyH.cons rfl (fun K hK => ?_) AllReadyH.nil))
    · go_simp
      with_reducible refine (clone_ct H.out Hb.out HA.out hn).mono ?_
      rintro e W3 ⟨O, oc, rfl, hb, xs, hown, hxs⟩
      have hcl : Cloned w.heap.size w.heap.size W3 n cs O oc := ⟨xs, own_mono hown Hb.out.size, fun i x hx => by
        obtain ⟨A', n', c', e1, e2⟩ := hxs i x hx
        refine ⟨A', n', c', e1, e2.keep (Hb.out.trans (hb.mono Hb.out.size)), fun b off e hn9 => ?_⟩
        obtain ⟨b', off', e', hlt⟩ := rd_heap e2 hn9 (by decide)
        rw [e] at e'
        injection e' with e'
        injection e' with e' _
        omega⟩
      have HC := hide hcl
      clear hcl hown hxs xs
      replace HB := hide (HB.out.keep hb)
      replace Hl := hide (Hl.out.keep hb)
      replace Hb := hide (Hb.out.trans (hb.mono Hb.out.size))
      clear hb
      have c0 := HB.out.cell 0
      have c1 := HB.out.cell 1
      simp only [List.getElem?_cons_zero, List.getElem?_cons_succ] at c0 c1
      refine hK.out _ _ ?_ (fun hHeld2 => ?_)
      · (try dsimp only); exact ⟨c0, c1⟩
      clear hK K hHeld c0 c1
      try simp only [Act.put, List.setIfInBounds_toArray, List.set_cons_zero, List.set_cons_succ]
      have hHeld := hHeld2; clear hHeld2
      refine wpAnyH_ready (rs := [6, 10]) (by kernel_rfl) (by simp) ?_
      refine AllReadyH.cons rfl (fun K hK => ?_) (AllReadyH.cons rfl (fun K hK => ?_) AllReadyH.nil)
      · go_simp
        have hb := (Below.refl W3.heap.size W3).alloc (Nat.le_refl _) (.cells (zerosA (V + 1)) 3)
        have hn2 := BlkI.made W3 3 (V + 1)
        obtain ⟨W4, hW2⟩ : ∃ W9, W9 = W3.alloc (.cells (zerosA (V + 1)) 3) := ⟨_, rfl⟩
        rw [← hW2] at hb hn2 ⊢
        clear hW2
        have gev := Hb.out.size
        have nlv := Hl.out.lt
        replace HB := hide (HB.out.keep hb)
        replace Hl := hide (Hl.out.keep hb)
        replace HC := hide (HC.out.keep hb)
        replace Hb := hide (Hb.out.trans (hb.mono Hb.out.size))
        clear hb
        generalize W3.heap.size = gv at hn2 gev nlv ⊢
        have Hv := hide hn2
        clear hn2
        have c0 := HB.out.cell 0
        have c1 := HB.out.cell 1
        simp only [List.getElem?_cons_zero, List.getElem?_cons_succ] at c0 c1
        refine hK.out _ _ ?_ (fun hHeld2 => ?_)
        · (try dsimp only); exact ⟨c0, c1⟩
        clear hK K hHeld c0 c1
        try simp only [Act.put, List.setIfInBounds_toArray, List.set_cons_zero, List.set_cons_succ]
        have hHeld := hHeld2; clear hHeld2
        refine wpAnyH_ready (rs := [10]) (by kernel_rfl) (by simp) ?_
        refine AllReadyH.cons rfl (fun K hK => ?_) AllReadyH.nil
        · go_simp
          have hb := (Below.refl W4.heap.size W4).alloc (Nat.le_refl _) (.cells (zerosA (V + 1)) 3)
          have hn2 := BlkI.made W4 3 (V + 1)
          obtain ⟨W5, hW2⟩ : ∃ W9, W9 = W4.alloc (.cells (zerosA (V + 1)) 3) := ⟨_, rfl⟩
          rw [← hW2] at hb hn2 ⊢
          clear hW2
          have ger := Hb.out.size
          have nlr := Hl.out.lt
          have nvr := Hv.out.lt
          replace HB := hide (HB.out.keep hb)
          replace Hl := hide (Hl.out.keep hb)
          replace Hv := hide (Hv.out.keep hb)
          replace HC := hide (HC.out.keep hb)
          replace Hb := hide (Hb.out.trans (hb.mono Hb.out.size))
          clear hb
          generalize W4.heap.size = gr at hn2 ger nlr nvr ⊢
          have Hr := hide hn2
          clear hn2
          have c0 := HB.out.cell 0
          have c1 := HB.out.cell 1
          simp only [List.getElem?_cons_zero, List.getElem?_cons_succ] at c0 c1
          refine hK.out _ _ ?_ (fun hHeld2 => ?_)
          · (try dsimp only); exact ⟨c0, c1⟩
          clear hK K hHeld c0 c1
          try simp only [Act.put, List.setIfInBounds_toArray, List.set_cons_zero, List.set_cons_succ]
          have hHeld := hHeld2; clear hHeld2
          refine take1 (i := 11) (v := ?_) (some 18) rfl rfl (by kernel_rfl) (by kernel_rfl) (by kernel_rfl) (fun _ _ _ h => h) (Or.inl ⟨by rfl, ?_⟩) (by assumption) ?_
          rotate_left
          · intro w hSw; (try dsimp only at hSw); obtain ⟨s1, s2⟩ := hSw; first | (go_simp; done) | (go_simp; with_reducible rfl)
          try simp only [Act.put, List.setIfInBounds_toArray, List.set_cons_zero, List.set_cons_succ]
          refine wpAnyH_ready (rs := [12]) (by kernel_rfl) (by simp) ?_
          refine AllReadyH.cons rfl (fun K hK => ?_) AllReadyH.nil
          go_simp
          obtain ⟨WF, hWF⟩ : ∃ WF, WF = W5.alloc (.cells #[.int .i64 V, .slice O n oc, .slice none 0 0, .slice (some ⟨gv, 0, none⟩) (V + 1) (V + 1), .slice (some ⟨gl, 0, none⟩) (V + 1) (V + 1), .slice (some ⟨gr, 0, none⟩) (V + 1) (V + 1), .slice none 0 0, .slice none 0 0] 140) := ⟨_, rfl⟩
          obtain ⟨g, hg⟩ : ∃ g, g = W5.heap.size := ⟨_, rfl⟩
          obtain ⟨ht1, ht2⟩ := new_tail Hb.out Hv.out Hl.out Hr.out (by omega) (by omega) (by omega) gev gel ger HC.out Hlen.out hg hWF
          have hbx : Blk 45 WF bB [.int .i64 V, .slice A n c] := by rw [hWF]; exact HB.out.alloc _
          rw [← hWF, ← hg]
          have Ht1 := hide ht1
          have Ht2 := hide ht2
          have c0 := hbx.cell 0
          have c1 := hbx.cell 1
          simp only [List.getElem?_cons_zero, List.getElem?_cons_succ] at c0 c1
          clear hWF hg ht1 ht2 hbx
          refine hK.out _ _ ?_ (fun hHeld2 => ?_)
          · (try dsimp only); exact ⟨c0, c1⟩
          clear hK K hHeld
          try simp only [Act.put, List.setIfInBounds_toArray, List.set_cons_zero, List.set_cons_succ]
          have hHeld := hHeld2; clear hHeld2
          refine take1 (i := 13) (v := ?_) (some 2) rfl rfl (by kernel_rfl) (by kernel_rfl) (by kernel_rfl) (fun _ _ _ h => h) (Or.inl ⟨by rfl, ?_⟩) (by assumption) ?_
          rotate_left
          · intro w hSw; (try dsimp only at hSw); obtain ⟨s1, s2⟩ := hSw; first | (go_simp; done) | (go_simp; with_reducible rfl)
          try simp only [Act.put, List.setIfInBounds_toArray, List.set_cons_zero, List.set_cons_succ]
          refine wpAnyH_done (by kernel_rfl) ?_ _
          go_wp2
          go_ret
          exact ⟨g, _, rfl, Ht1.out, Ht2.out⟩
      · go_simp
        have hb := (Below.refl W3.heap.size W3).alloc (Nat.le_refl _) (.cells (zerosA (V + 1)) 3)
        have hn2 := BlkI.made W3 3 (V + 1)
        obtain ⟨W4, hW2⟩ : ∃ W9, W9 = W3.alloc (.cells (zerosA (V + 1)) 3) := ⟨_, rfl⟩
        rw [← hW2] at hb hn2 ⊢
        clear hW2
        have ger := Hb.out.size
        have nlr := Hl.out.lt
        replace HB := hide (HB.out.keep hb)
        replace Hl := hide (Hl.out.keep hb)
        replace HC := hide (HC.out.keep hb)
        replace Hb := hide (Hb.out.trans (hb.mono Hb.out.size))
        clear hb
        generalize W3.heap.size = gr at hn2 ger nlr ⊢
        have Hr := hide hn2
        clear hn2
        have c0 := HB.out.cell 0
        have c1 := HB.out.cell 1
        simp only [List.getElem?_cons_zero, List.getElem?_cons_succ] at c0 c1
        refine hK.out _ _ ?_ (fun hHeld2 => ?_)
        · (try dsimp only); exact ⟨c0, c1⟩
        clear hK K hHeld c0 c1
        try simp only [Act.put, List.setIfInBounds_toArray, List.set_cons_zero, List.set_cons_succ]
        have hHeld := hHeld2; clear hHeld2
        refine wpAnyH_ready (rs := [6]) (by kernel_rfl) (by simp) ?_
        refine AllReadyH.cons rfl (fun K hK => ?_) AllReadyH.nil
        · go_simp
          have hb := (Below.refl W4.heap.size W4).alloc (Nat.le_refl _) (.cells (zerosA (V + 1)) 3)
          have hn2 := BlkI.made W4 3 (V + 1)
          obtain ⟨W5, hW2⟩ : ∃ W9, W9 = W4.alloc (.cells (zerosA (V + 1)) 3) := ⟨_, rfl⟩
          rw [← hW2] at hb hn2 ⊢
          clear hW2
          have gev := Hb.out.size
          have nlv := Hl.out.lt
          have nrv := Hr.out.lt
          replace HB := hide (HB.out.keep hb)
          replace Hl := hide (Hl.out.keep hb)
          replace Hr := hide (Hr.out.keep hb)
          replace HC := hide (HC.out.keep hb)
          replace Hb := hide (Hb.out.trans (hb.mono Hb.out.size))
          clear hb
          generalize W4.heap.size = gv at hn2 gev nlv nrv ⊢
          have Hv := hide hn2
          clear hn2
          have c0 := HB.out.cell 0
          have c1 := HB.out.cell 1
          simp only [List.getElem?_cons_zero, List.getElem?_cons_succ] at c0 c1
          refine hK.out _ _ ?_ (fun hHeld2 => ?_)
          · (try dsimp only); exact ⟨c0, c1⟩
          clear hK K hHeld c0 c1
          try simp only [Act.put, List.setIfInBounds_toArray, List.set_cons_zero, List.set_cons_succ]
          have hHeld := hHeld2; clear hHeld2
          refine take1 (i := 11) (v := ?_) (some 18) rfl rfl (by kernel_rfl) (by kernel_rfl) (by kernel_rfl) (fun _ _ _ h => h) (Or.inl ⟨by rfl, ?_⟩) (by assumption) ?_
          rotate_left
          · intro w hSw; (try dsimp only at hSw); obtain ⟨s1, s2⟩ := hSw; first | (go_simp; done) | (go_simp; with_reducible rfl)
          try simp only [Act.put, List.setIfInBounds_toArray, List.set_cons_zero, List.set_cons_succ]
          refine wpAnyH_ready (rs := [12]) (by kernel_rfl) (by simp) ?_
          refine AllReadyH.cons rfl (fun K hK => ?_) AllReadyH.nil
          go_simp
          obtain ⟨WF, hWF⟩ : ∃ WF, WF = W5.alloc (.cells #[.int .i64 V, .slice O n oc, .slice none 0 0, .slice (some ⟨gv, 0, none⟩) (V + 1) (V + 1), .slice (some ⟨gl, 0, none⟩) (V + 1) (V + 1), .slice (some ⟨gr, 0, none⟩) (V + 1) (V + 1), .slice none 0 0, .slice none 0 0] 140) := ⟨_, rfl⟩
          obtain ⟨g, hg⟩ : ∃ g, g = W5.heap.size := ⟨_, rfl⟩
          obtain ⟨ht1, ht2⟩ := new_tail Hb.out Hv.out Hl.out Hr.out (by omega) (by omega) (by omega) gev gel ger HC.out Hlen.out hg hWF
          have hbx : Blk 45 WF bB [.int .i64 V, .slice A n c] := by rw [hWF]; exact HB.out.alloc _
          rw [← hWF, ← hg]
          have Ht1 := hide ht1
          have Ht2 := hide ht2
          have c0 := hbx.cell 0
          have c1 := hbx.cell 1
          simp only [List.getElem?_cons_zero, List.getElem?_cons_succ] at c0 c1
          clear hWF hg ht1 ht2 hbx
          refine hK.out _ _ ?_ (fun hHeld2 => ?_)
          · (try dsimp only); exact ⟨c0, c1⟩
          clear hK K hHeld
          try simp only [Act.put, List.setIfInBounds_toArray, List.set_cons_zero, List.set_cons_succ]
          have hHeld := hHeld2; clear hHeld2
          refine take1 (i := 13) (v := ?_) (some 2) rfl rfl (by kernel_rfl) (by kernel_rfl) (by kernel_rfl) (fun _ _ _ h => h) (Or.inl ⟨by rfl, ?_⟩) (by assumption) ?_
          rotate_left
          · intro w hSw; (try dsimp only at hSw); obtain ⟨s1, s2⟩ := hSw; first | (go_simp; done) | (go_simp; with_reducible rfl)
          try simp only [Act.put, List.setIfInBounds_toArray, List.set_cons_zero, List.set_cons_succ]
          refine wpAnyH_done (by kernel_rfl) ?_ _
          go_wp2
          go_ret
          exact ⟨g, _, rfl, Ht1.out, Ht2.out⟩
    · go_simp
      have hb := (Below.refl W2.heap.size W2).alloc (Nat.le_refl _) (.cells (zerosA (V + 1)) 3)
      have hn2 := BlkI.made W2 3 (V + 1)
      obtain ⟨W3, hW2⟩ : ∃ W9, W9 = W2.alloc (.cells (zerosA (V + 1)) 3) := ⟨_, rfl⟩
      rw [← hW2] at hb hn2 ⊢
      clear hW2
      have gev := Hb.out.size
      have nlv := Hl.out.lt
      replace HB := hide (HB.out.keep hb)
      replace Hl := hide (Hl.out.keep hb)
      replace Hb := hide (Hb.out.trans (hb.mono Hb.out.size))
      clear hb
      generalize W2.heap.size = gv at hn2 gev nlv ⊢
      have Hv := hide hn2
      clear hn2
      have c0 := HB.out.cell 0
      have c1 := HB.out.cell 1
      simp only [List.getElem?_cons_zero, List.getElem?_cons_succ] at c0 c1
      refine hK.out _ _ ?_ (fun hHeld2 => ?_)
      · (try dsimp only); exact ⟨c0, c1⟩
      clear hK K hHeld c0 c1
      try simp only [Act.put, List.setIfInBounds_toArray, List.set_cons_zero, List.set_cons_succ]
      have hHeld := hHeld2; clear hHeld2
      refine wpAnyH_ready (rs := [4, 10]) (by kernel_rfl) (by simp) ?_
      refine AllReadyH.cons rfl (fun K hK => ?_) (AllReadyH.cons rfl (fun K hK => ?_) AllReadyH.nil)
      · go_simp
        with_reducible refine (clone_ct H.out Hb.out HA.out hn).mono ?_
        rintro e W4 ⟨O, oc, rfl, hb, xs, hown, hxs⟩
        have hcl : Cloned w.heap.size w.heap.size W4 n cs O oc := ⟨xs, own_mono hown Hb.out.size, fun i x hx => by
          obtain ⟨A', n', c', e1, e2⟩ := hxs i x hx
          refine ⟨A', n', c', e1, e2.keep (Hb.out.trans (hb.mono Hb.out.size)), fun b off e hn9 => ?_⟩
          obtain ⟨b', off', e', hlt⟩ := rd_heap e2 hn9 (by decide)
          rw [e] at e'
          injection e' with e'
          injection e' with e' _
          omega⟩
        have HC := hide hcl
        clear hcl hown hxs xs
        replace HB := hide (HB.out.keep hb)
        replace Hl := hide (Hl.out.keep hb)
        replace Hv := hide (Hv.out.keep hb)
        replace Hb := hide (Hb.out.trans (hb.mono Hb.out.size))
        clear hb
        have c0 := HB.out.cell 0
        have c1 := HB.out.cell 1
        simp only [List.getElem?_cons_zero, List.getElem?_cons_succ] at c0 c1
        refine hK.out _ _ ?_ (fun hHeld2 => ?_)
        · (try dsimp only); exact ⟨c0, c1⟩
        clear hK K hHeld c0 c1
        try simp only [Act.put, List.setIfInBounds_toArray, List.set_cons_zero, List.set_cons_succ]
        have hHeld := hHeld2; clear hHeld2
        refine wpAnyH_ready (rs := [10]) (by kernel_rfl) (by simp) ?_
        refine AllReadyH.cons rfl (fun K hK => ?_) AllReadyH.nil
        · go_simp
          have hb := (Below.refl W4.heap.size W4).alloc (Nat.le_refl _) (.cells (zerosA (V + 1)) 3)
          have hn2 := BlkI.made W4 3 (V + 1)
          obtain ⟨W5, hW2⟩ : ∃ W9, W9 = W4.alloc (.cells (zerosA (V + 1)) 3) := ⟨_, rfl⟩
          rw [← hW2] at hb hn2 ⊢
          clear hW2
          have ger := Hb.out.size
          have nlr := Hl.out.lt
          have nvr := Hv.out.lt
          replace HB := hide (HB.out.keep hb)
          replace Hl := hide (Hl.out.keep hb)
          replace Hv := hide (Hv.out.keep hb)
          replace HC := hide (HC.out.keep hb)
          replace Hb := hide (Hb.out.trans (hb.mono Hb.out.size))
          clear hb
          generalize W4.heap.size = gr at hn2 ger nlr nvr ⊢
          have Hr := hide hn2
          clear hn2
          have c0 := HB.out.cell 0
          have c1 := HB.out.cell 1
          simp only [List.getElem?_cons_zero, List.getElem?_cons_succ] at c0 c1
          refine hK.out _ _ ?_ (fun hHeld2 => ?_)
          · (try dsimp only); exact ⟨c0, c1⟩
          clear hK K hHeld c0 c1
          try simp only [Act.put, List.setIfInBounds_toArray, List.set_cons_zero, List.set_cons_succ]
          have hHeld := hHeld2; clear hHeld2
          refine take1 (i := 11) (v := ?_) (some 18) rfl rfl (by kernel_rfl) (by kernel_rfl) (by kernel_rfl) (fun _ _ _ h => h) (Or.inl ⟨by rfl, ?_⟩) (by assumption) ?_
          rotate_left
          · intro w hSw; (try dsimp only at hSw); obtain ⟨s1, s2⟩ := hSw; first | (go_simp; done) | (go_simp; with_reducible rfl)
          try simp only [Act.put, List.setIfInBounds_toArray, List.set_cons_zero, List.set_cons_succ]
          refine wpAnyH_ready (rs := [12]) (by kernel_rfl) (by simp) ?_
          refine AllReadyH.cons rfl (fun K hK => ?_) AllReadyH.nil
          go_simp
          obtain ⟨WF, hWF⟩ : ∃ WF, WF = W5.alloc (.cells #[.int .i64 V, .slice O n oc, .slice none 0 0, .slice (some ⟨gv, 0, none⟩) (V + 1) (V + 1), .slice (some ⟨gl, 0, none⟩) (V + 1) (V + 1), .slice (some ⟨gr, 0, none⟩) (V + 1) (V + 1), .slice none 0 0, .slice none 0 0] 140) := ⟨_, rfl⟩
          obtain ⟨g, hg⟩ : ∃ g, g = W5.heap.size := ⟨_, rfl⟩
          obtain ⟨ht1, ht2⟩ := new_tail Hb.out Hv.out Hl.out Hr.out (by omega) (by omega) (by omega) gev gel ger HC.out Hlen.out hg hWF
          have hbx : Blk 45 WF bB [.int .i64 V, .slice A n c] := by rw [hWF]; exact HB.out.alloc _
          rw [← hWF, ← hg]
          have Ht1 := hide ht1
          have Ht2 := hide ht2
          have c0 := hbx.cell 0
          have c1 := hbx.cell 1
          simp only [List.getElem?_cons_zero, List.getElem?_cons_succ] at c0 c1
          clear hWF hg ht1 ht2 hbx
          refine hK.out _ _ ?_ (fun hHeld2 => ?_)
          · (try dsimp only); exact ⟨c0, c1⟩
          clear hK K hHeld
          try simp only [Act.put, List.setIfInBounds_toArray, List.set_cons_zero, List.set_cons_succ]
          have hHeld := hHeld2; clear hHeld2
          refine take1 (i := 13) (v := ?_) (some 2) rfl rfl (by kernel_rfl) (by kernel_rfl) (by kernel_rfl) (fun _ _ _ h => h) (Or.inl ⟨by rfl, ?_⟩) (by assumption) ?_
          rotate_left
          · intro w hSw; (try dsimp only at hSw); obtain ⟨s1, s2⟩ := hSw; first | (go_simp; done) | (go_simp; with_reducible rfl)
          try simp only [Act.put, List.setIfInBounds_toArray, List.set_cons_zero, List.set_cons_succ]
          refine wpAnyH_done (by kernel_rfl) ?_ _
          go_wp2
          go_ret
          exact ⟨g, _, rfl, Ht1.out, Ht2.out⟩
      · go_simp
        have hb := (Below.refl W3.heap.size W3).alloc (Nat.le_refl _) (.cells (zerosA (V + 1)) 3)
        have hn2 := BlkI.made W3 3 (V + 1)
        obtain ⟨W4, hW2⟩ : ∃ W9, W9 = W3.alloc (.cells (zerosA (V + 1)) 3) := ⟨_, rfl⟩
        rw [← hW2] at hb hn2 ⊢
        clear hW2
        have ger := Hb.out.size
        have nlr := Hl.out.lt
        have nvr := Hv.out.lt
        replace HB := hide (HB.out.keep hb)
        replace Hl := hide (Hl.out.keep hb)
        replace Hv := hide (Hv.out.keep hb)
        replace Hb := hide (Hb.out.trans (hb.mono Hb.out.size))
        clear hb
        generalize W3.heap.size = gr at hn2 ger nlr nvr ⊢
        have Hr := hide hn2
        clear hn2
        have c0 := HB.out.cell 0
        have c1 := HB.out.cell 1
        simp only [List.getElem?_cons_zero, List.getElem?_cons_succ] at c0 c1
        refine hK.out _ _ ?_ (fun hHeld2 => ?_)
        · (try dsimp only); exact ⟨c0, c1⟩
        clear hK K hHeld c0 c1
        try simp only [Act.put, List.setIfInBounds_toArray, List.set_cons_zero, List.set_cons_succ]
        have hHeld := hHeld2; clear hHeld2
        refine wpAnyH_ready (rs := [4]) (by kernel_rfl) (by simp) ?_
        refine AllReadyH.cons rfl (fun K hK => ?_) AllReadyH.nil
        · go_simp
          with_reducible refine (clone_ct H.out Hb.out HA.out hn).mono ?_
          rintro e W5 ⟨O, oc, rfl, hb, xs, hown, hxs⟩
          have hcl : Cloned w.heap.size w.heap.size W5 n cs O oc := ⟨xs, own_mono hown Hb.out.size, fun i x hx => by
            obtain ⟨A', n', c', e1, e2⟩ := hxs i x hx
            refine ⟨A', n', c', e1, e2.keep (Hb.out.trans (hb.mono Hb.out.size)), fun b off e hn9 => ?_⟩
            obtain ⟨b', off', e', hlt⟩ := rd_heap e2 hn9 (by decide)
            rw [e] at e'
            injection e' with e'
            injection e' with e' _
            omega⟩
          have HC := hide hcl
          clear hcl hown hxs xs
          replace HB := hide (HB.out.keep hb)
          replace Hl := hide (Hl.out.keep hb)
          replace Hv := hide (Hv.out.keep hb)
          replace Hr := hide (Hr.out.keep hb)
          replace Hb := hide (Hb.out.trans (hb.mono Hb.out.size))
          clear hb
          have c0 := HB.out.cell 0
          have c1 := HB.out.cell 1
          simp only [List.getElem?_cons_zero, List.getElem?_cons_succ] at c0 c1
          refine hK.out _ _ ?_ (fun hHeld2 => ?_)
          · (try dsimp only); exact ⟨c0, c1⟩
          clear hK K hHeld c0 c1
          try simp only [Act.put, List.setIfInBounds_toArray, List.set_cons_zero, List.set_cons_succ]
          have hHeld := hHeld2; clear hHeld2
          refine take1 (i := 11) (v := ?_) (some 18) rfl rfl (by kernel_rfl) (by kernel_rfl) (by kernel_rfl) (fun _ _ _ h => h) (Or.inl ⟨by rfl, ?_⟩) (by assumption) ?_
          rotate_left
          · intro w hSw; (try dsimp only at hSw); obtain ⟨s1, s2⟩ := hSw; first | (go_simp; done) | (go_simp; with_reducible rfl)
          try simp only [Act.put, List.setIfInBounds_toArray, List.set_cons_zero, List.set_cons_succ]
          refine wpAnyH_ready (rs := [12]) (by kernel_rfl) (by simp) ?_
          refine AllReadyH.cons rfl (fun K hK => ?_) AllReadyH.nil
          go_simp
          obtain ⟨WF, hWF⟩ : ∃ WF, WF = W5.alloc (.cells #[.int .i64 V, .slice O n oc, .slice none 0 0, .slice (some ⟨gv, 0, none⟩) (V + 1) (V + 1), .slice (some ⟨gl, 0, none⟩) (V + 1) (V + 1), .slice (some ⟨gr, 0, none⟩) (V + 1) (V + 1), .slice none 0 0, .slice none 0 0] 140) := ⟨_, rfl⟩
          obtain ⟨g, hg⟩ : ∃ g, g = W5.heap.size := ⟨_, rfl⟩
          obtain ⟨ht1, ht2⟩ := new_tail Hb.out Hv.out Hl.out Hr.out (by omega) (by omega) (by omega) gev gel ger HC.out Hlen.out hg hWF
          have hbx : Blk 45 WF bB [.int .i64 V, .slice A n c] := by rw [hWF]; exact HB.out.alloc _
          rw [← hWF, ← hg]
          have Ht1 := hide ht1
          have Ht2 := hide ht2
          have c0 := hbx.cell 0
          have c1 := hbx.cell 1
          simp only [List.getElem?_cons_zero, List.getElem?_cons_succ] at c0 c1
          clear hWF hg ht1 ht2 hbx
          refine hK.out _ _ ?_ (fun hHeld2 => ?_)
          · (try dsimp only); exact ⟨c0, c1⟩
          clear hK K hHeld
          try simp only [Act.put, List.setIfInBounds_toArray, List.set_cons_zero, List.set_cons_succ]
          have hHeld := hHeld2; clear hHeld2
          refine take1 (i := 13) (v := ?_) (some 2) rfl rfl (by kernel_rfl) (by kernel_rfl) (by kernel_rfl) (fun _ _ _ h => h) (Or.inl ⟨by rfl, ?_⟩) (by assumption) ?_
          rotate_left
          · intro w hSw; (try dsimp only at hSw); obtain ⟨s1, s2⟩ := hSw; first | (go_simp; done) | (go_simp; with_reducible rfl)
          try simp only [Act.put, List.setIfInBounds_toArray, List.set_cons_zero, List.set_cons_succ]
          refine wpAnyH_done (by kernel_rfl) ?_ _
          go_wp2
          go_ret
          exact ⟨g, _, rfl, Ht1.out, Ht2.out⟩
    · go_simp
      have hb := (Below.refl W2.heap.size W2).alloc (Nat.le_refl _) (.cells (zerosA (V + 1)) 3)
      have hn2 := BlkI.made W2 3 (V + 1)
      obtain ⟨W3, hW2⟩ : ∃ W9, W9 = W2.alloc (.cells (zerosA (V + 1)) 3) := ⟨_, rfl⟩
      rw [← hW2] at hb hn2 ⊢
      clear hW2
      have ger := Hb.out.size
      have nlr := Hl.out.lt
      replace HB := hide (HB.out.keep hb)
      replace Hl := hide (Hl.out.keep hb)
      replace Hb := hide (Hb.out.trans (hb.mono Hb.out.size))
      clear hb
      generalize W2.heap.size = gr at hn2 ger nlr ⊢
      have Hr := hide hn2
      clear hn2
      have c0 := HB.out.cell 0
      have c1 := HB.out.cell 1
      simp only [List.getElem?_cons_zero, List.getElem?_cons_succ] at c0 c1
      refine hK.out _ _ ?_ (fun hHeld2 => ?_)
      · (try dsimp only); exact ⟨c0, c1⟩
      clear hK K hHeld c0 c1
      try simp only [Act.put, List.setIfInBounds_toArray, List.set_cons_zero, List.set_cons_succ]
      have hHeld := hHeld2; clear hHeld2
      refine wpAnyH_ready (rs := [4, 6]) (by kernel_rfl) (by simp) ?_
      refine AllReadyH.cons rfl (fun K hK => ?_) (AllReadyH.cons rfl (fun K hK => ?_) AllReadyH.nil)
      · go_simp
        with_reducible refine (clone_ct H.out Hb.out HA.out hn).mono ?_
        rintro e W4 ⟨O, oc, rfl, hb, xs, hown, hxs⟩
        have hcl : Cloned w.heap.size w.heap.size W4 n cs O oc := ⟨xs, own_mono hown Hb.out.size, fun i x hx => by
          obtain ⟨A', n', c', e1, e2⟩ := hxs i x hx
          refine ⟨A', n', c', e1, e2.keep (Hb.out.trans (hb.mono Hb.out.size)), fun b off e hn9 => ?_⟩
          obtain ⟨b', off', e', hlt⟩ := rd_heap e2 hn9 (by decide)
          rw [e] at e'
          injection e' with e'
          injection e' with e' _
          omega⟩
        have HC := hide hcl
        clear hcl hown hxs xs
        replace HB := hide (HB.out.keep hb)
        replace Hl := hide (Hl.out.keep hb)
        replace Hr := hide (Hr.out.keep hb)
        replace Hb := hide (Hb.out.trans (hb.mono Hb.out.size))
        clear hb
        have c0 := HB.out.cell 0
        have c1 := HB.out.cell 1
        simp only [List.getElem?_cons_zero, List.getElem?_cons_succ] at c0 c1
        refine hK.out _ _ ?_ (fun hHeld2 => ?_)
        · (try dsimp only); exact ⟨c0, c1⟩
        clear hK K hHeld c0 c1
        try simp only [Act.put, List.setIfInBounds_toArray, List.set_cons_zero, List.set_cons_succ]
        have hHeld := hHeld2; clear hHeld2
        refine wpAnyH_ready (rs := [6]) (by kernel_rfl) (by simp) ?_
        refine AllReadyH.cons rfl (fun K hK => ?_) AllReadyH.nil
        · go_simp
          have hb := (Below.refl W4.heap.size W4).alloc (Nat.le_refl _) (.cells (zerosA (V + 1)) 3)
          have hn2 := BlkI.made W4 3 (V + 1)
          obtain ⟨W5, hW2⟩ : ∃ W9, W9 = W4.alloc (.cells (zerosA (V + 1)) 3) := ⟨_, rfl⟩
          rw [← hW2] at hb hn2 ⊢
          clear hW2
          have gev := Hb.out.size
          have nlv := Hl.out.lt
          have nrv := Hr.out.lt
          replace HB := hide (HB.out.keep hb)
          replace Hl := hide (Hl.out.keep hb)
          replace Hr := hide (Hr.out.keep hb)
          replace HC := hide (HC.out.keep hb)
          replace Hb := hide (Hb.out.trans (hb.mono Hb.out.size))
          clear hb
          generalize W4.heap.size = gv at hn2 gev nlv nrv ⊢
          have Hv := hide hn2
          clear hn2
          have c0 := HB.out.cell 0
          have c1 := HB.out.cell 1
          simp only [List.getElem?_cons_zero, List.getElem?_cons_succ] at c0 c1
          refine hK.out _ _ ?_ (fun hHeld2 => ?_)
          · (try dsimp only); exact ⟨c0, c1⟩
          clear hK K hHeld c0 c1
          try simp only [Act.put, List.setIfInBounds_toArray, List.set_cons_zero, List.set_cons_succ]
          have hHeld := hHeld2; clear hHeld2
          refine take1 (i := 11) (v := ?_) (some 18) rfl rfl (by kernel_rfl) (by kernel_rfl) (by kernel_rfl) (fun _ _ _ h => h) (Or.inl ⟨by rfl, ?_⟩) (by assumption) ?_
          rotate_left
          · intro w hSw; (try dsimp only at hSw); obtain ⟨s1, s2⟩ := hSw; first | (go_simp; done) | (go_simp; with_reducible rfl)
          try simp only [Act.put, List.setIfInBounds_toArray, List.set_cons_zero, List.set_cons_succ]
          refine wpAnyH_ready (rs := [12]) (by kernel_rfl) (by simp) ?_
          refine AllReadyH.cons rfl (fun K hK => ?_) AllReadyH.nil
          go_simp
          obtain ⟨WF, hWF⟩ : ∃ WF, WF = W5.alloc (.cells #[.int .i64 V, .slice O n oc, .slice none 0 0, .slice (some ⟨gv, 0, none⟩) (V + 1) (V + 1), .slice (some ⟨gl, 0, none⟩) (V + 1) (V + 1), .slice (some ⟨gr, 0, none⟩) (V + 1) (V + 1), .slice none 0 0, .slice none 0 0] 140) := ⟨_, rfl⟩
          obtain ⟨g, hg⟩ : ∃ g, g = W5.heap.size := ⟨_, rfl⟩
          obtain ⟨ht1, ht2⟩ := new_tail Hb.out Hv.out Hl.out Hr.out (by omega) (by omega) (by omega) gev gel ger HC.out Hlen.out hg hWF
          have hbx : Blk 45 WF bB [.int .i64 V, .slice A n c] := by rw [hWF]; exact HB.out.alloc _
          rw [← hWF, ← hg]
          have Ht1 := hide ht1
          have Ht2 := hide ht2
          have c0 := hbx.cell 0
          have c1 := hbx.cell 1
          simp only [List.getElem?_cons_zero, List.getElem?_cons_succ] at c0 c1
          clear hWF hg ht1 ht2 hbx
          refine hK.out _ _ ?_ (fun hHeld2 => ?_)
          · (try dsimp only); exact ⟨c0, c1⟩
          clear hK K hHeld
          try simp only [Act.put, List.setIfInBounds_toArray, List.set_cons_zero, List.set_cons_succ]
          have hHeld := hHeld2; clear hHeld2
          refine take1 (i := 13) (v := ?_) (some 2) rfl rfl (by kernel_rfl) (by kernel_rfl) (by kernel_rfl) (fun _ _ _ h => h) (Or.inl ⟨by rfl, ?_⟩) (by assumption) ?_
          rotate_left
          · intro w hSw; (try dsimp only at hSw); obtain ⟨s1, s2⟩ := hSw; first | (go_simp; done) | (go_simp; with_reducible rfl)
          try simp only [Act.put, List.setIfInBounds_toArray, List.set_cons_zero, List.set_cons_succ]
          refine wpAnyH_done (by kernel_rfl) ?_ _
          go_wp2
          go_ret
          exact ⟨g, _, rfl, Ht1.out, Ht2.out⟩
      · go_simp
        have hb := (Below.refl W3.heap.size W3).alloc (Nat.le_refl _) (.cells (zerosA (V + 1)) 3)
        have hn2 := BlkI.made W3 3 (V + 1)
        obtain ⟨W4, hW2⟩ : ∃ W9, W9 = W3.alloc (.cells (zerosA (V + 1)) 3) := ⟨_, rfl⟩
        rw [← hW2] at hb hn2 ⊢
        clear hW2
        have gev := Hb.out.size
        have nlv := Hl.out.lt
        have nrv := Hr.out.lt
        replace HB := hide (HB.out.keep hb)
        replace Hl := hide (Hl.out.keep hb)
        replace Hr := hide (Hr.out.keep hb)
        replace Hb := hide (Hb.out.trans (hb.mono Hb.out.size))
        clear hb
        generalize W3.heap.size = gv at hn2 gev nlv nrv ⊢
        have Hv := hide hn2
        clear hn2
        have c0 := HB.out.cell 0
        have c1 := HB.out.cell 1
        simp only [List.getElem?_cons_zero, List.getElem?_cons_succ] at c0 c1
        refine hK.out _ _ ?_ (fun hHeld2 => ?_)
        · (try dsimp only); exact ⟨c0, c1⟩
        clear hK K hHeld c0 c1
        try simp only [Act.put, List.setIfInBounds_toArray, List.set_cons_zero, List.set_cons_succ]
        have hHeld := hHeld2; clear hHeld2
        refine wpAnyH_ready (rs := [4]) (by kernel_rfl) (by simp) ?_
        refine AllReadyH.cons rfl (fun K hK => ?_) AllReadyH.nil
        · go_simp
          with_reducible refine (clone_ct H.out Hb.out HA.out hn).mono ?_
          rintro e W5 ⟨O, oc, rfl, hb, xs, hown, hxs⟩
          have hcl : Cloned w.heap.size w.heap.size W5 n cs O oc := ⟨xs, own_mono hown Hb.out.size, fun i x hx => by
            obtain ⟨A', n', c', e1, e2⟩ := hxs i x hx
            refine ⟨A', n', c', e1, e2.keep (Hb.out.trans (hb.mono Hb.out.size)), fun b off e hn9 => ?_⟩
            obtain ⟨b', off', e', hlt⟩ := rd_heap e2 hn9 (by decide)
            rw [e] at e'
            injection e' with e'
            injection e' with e' _
            omega⟩
          have HC := hide hcl
          clear hcl hown hxs xs
          replace HB := hide (HB.out.keep hb)
          replace Hl := hide (Hl.out.keep hb)
          replace Hr := hide (Hr.out.keep hb)
          replace Hv := hide (Hv.out.keep hb)
          replace Hb := hide (Hb.out.trans (hb.mono Hb.out.size))
          clear hb
          have c0 := HB.out.cell 0
          have c1 := HB.out.cell 1
          simp only [List.getElem?_cons_zero, List.getElem?_cons_succ] at c0 c1
          refine hK.out _ _ ?_ (fun hHeld2 => ?_)
          · (try dsimp only); exact ⟨c0, c1⟩
          clear hK K hHeld c0 c1
          try simp only [Act.put, List.setIfInBounds_toArray, List.set_cons_zero, List.set_cons_succ]
          have hHeld := hHeld2; clear hHeld2
          refine take1 (i := 11) (v := ?_) (some 18) rfl rfl (by kernel_rfl) (by kernel_rfl) (by kernel_rfl) (fun _ _ _ h => h) (Or.inl ⟨by rfl, ?_⟩) (by assumption) ?_
          rotate_left
          · intro w hSw; (try dsimp only at hSw); obtain ⟨s1, s2⟩ := hSw; first | (go_simp; done) | (go_simp; with_reducible rfl)
          try simp only [Act.put, List.setIfInBounds_toArray, List.set_cons_zero, List.set_cons_succ]
          refine wpAnyH_ready (rs := [12]) (by kernel_rfl) (by simp) ?_
          refine AllReadyH.cons rfl (fun K hK => ?_) AllReadyH.nil
          go_simp
          obtain ⟨WF, hWF⟩ : ∃ WF, WF = W5.alloc (.cells #[.int .i64 V, .slice O n oc, .slice none 0 0, .slice (some ⟨gv, 0, none⟩) (V + 1) (V + 1), .slice (some ⟨gl, 0, none⟩) (V + 1) (V + 1), .slice (some ⟨gr, 0, none⟩) (V + 1) (V + 1), .slice none 0 0, .slice none 0 0] 140) := ⟨_, rfl⟩
          obtain ⟨g, hg⟩ : ∃ g, g = W5.heap.size := ⟨_, rfl⟩
          obtain ⟨ht1, ht2⟩ := new_tail Hb.out Hv.out Hl.out Hr.out (by omega) (by omega) (by omega) gev gel ger HC.out Hlen.out hg hWF
          have hbx : Blk 45 WF bB [.int .i64 V, .slice A n c] := by rw [hWF]; exact HB.out.alloc _
          rw [← hWF, ← hg]
          have Ht1 := hide ht1
          have Ht2 := hide ht2
          have c0 := hbx.cell 0
          have c1 := hbx.cell 1
          simp only [List.getElem?_cons_zero, List.getElem?_cons_succ] at c0 c1
          clear hWF hg ht1 ht2 hbx
          refine hK.out _ _ ?_ (fun hHeld2 => ?_)
          · (try dsimp only); exact ⟨c0, c1⟩
          clear hK K hHeld
          try simp only [Act.put, List.setIfInBounds_toArray, List.set_cons_zero, List.set_cons_succ]
          have hHeld := hHeld2; clear hHeld2
          refine take1 (i := 13) (v := ?_) (some 2) rfl rfl (by kernel_rfl) (by kernel_rfl) (by kernel_rfl) (fun _ _ _ h => h) (Or.inl ⟨by rfl, ?_⟩) (by assumption) ?_
          rotate_left
          · intro w hSw; (try dsimp only at hSw); obtain ⟨s1, s2⟩ := hSw; first | (go_simp; done) | (go_simp; with_reducible rfl)
          try simp only [Act.put, List.setIfInBounds_toArray, List.set_cons_zero, List.set_cons_succ]
          refine wpAnyH_done (by kernel_rfl) ?_ _
          go_wp2
          go_ret
          exact ⟨g, _, rfl, Ht1.out, Ht2.out⟩
  · go_simp
    have hb := (Below.refl W1.heap.size W1).alloc (Nat.le_refl _) (.cells (zerosA (V + 1)) 3)
    have hn2 := BlkI.made W1 3 (V + 1)
    obtain ⟨W2, hW2⟩ : ∃ W9, W9 = W1.alloc (.cells (zerosA (V + 1)) 3) := ⟨_, rfl⟩
    rw [← hW2] at hb hn2 ⊢
    clear hW2
    have ger := Hb.out.size
    replace HB := hide (HB.out.keep hb)
    replace Hb := hide (Hb.out.trans (hb.mono Hb.out.size))
    clear hb
    generalize W1.heap.size = gr at hn2 ger  ⊢
    have Hr := hide hn2
    clear hn2
    have c0 := HB.out.cell 0
    have c1 := HB.out.cell 1
    simp only [List.getElem?_cons_zero, List.getElem?_cons_succ] at c0 c1
    refine hK.out _ _ ?_ (fun hHeld2 => ?_)
    · (try dsimp only); exact ⟨c0, c1⟩
    clear hK K hHeld c0 c1
    try simp only [Act.put, List.setIfInBounds_toArray, List.set_cons_zero, List.set_cons_succ]
    have hHeld := hHeld2; clear hHeld2
    refine wpAnyH_ready (rs := [4, 6, 8]) (by kernel_rfl) (by simp) ?_
    refine AllReadyH.cons rfl (fun K hK => ?_) (AllReadyH.cons rfl (fun K hK => ?_) (AllReadyH.cons rfl (fun K hK => ?_) AllReadyH.nil))
    · go_simp
      with_reducible refine (clone_ct H.out Hb.out HA.out hn).mono ?_
      rintro e W3 ⟨O, oc, rfl, hb, xs, hown, hxs⟩
      have hcl : Cloned w.heap.size w.heap.size W3 n cs O oc := ⟨xs, own_mono hown Hb.out.size, fun i x hx => by
        obtain ⟨A', n', c', e1, e2⟩ := hxs i x hx
        refine ⟨A', n', c', e1, e2.keep (Hb.out.trans (hb.mono Hb.out.size)), fun b off e hn9 => ?_⟩
        obtain ⟨b', off', e', hlt⟩ := rd_heap e2 hn9 (by decide)
        rw [e] at e'
        injection e' with e'
        injection e' with e' _
        omega⟩
      have HC := hide hcl
      clear hcl hown hxs xs
      replace HB := hide (HB.out.keep hb)
      replace Hr := hide (Hr.out.keep hb)
      replace Hb := hide (Hb.out.trans (hb.mono Hb.out.size))
      clear hb
      have c0 := HB.out.cell 0
      have c1 := HB.out.cell 1
      simp only [List.getElem?_cons_zero, List.getElem?_cons_succ] at c0 c1
      refine hK.out _ _ ?_ (fun hHeld2 => ?_)
      · (try dsimp only); exact ⟨c0, c1⟩
      clear hK K hHeld c0 c1
      try simp only [Act.put, List.setIfInBounds_toArray, List.set_cons_zero, List.set_cons_succ]
      have hHeld := hHeld2; clear hHeld2
      refine wpAnyH_ready (rs := [6, 8]) (by kernel_rfl) (by simp) ?_
      refine AllReadyH.cons rfl (fun K hK => ?_) (AllReadyH.cons rfl (fun K hK => ?_) AllReadyH.nil)
      · go_simp
        have hb := (Below.refl W3.heap.size W3).alloc (Nat.le_refl _) (.cells (zerosA (V + 1)) 3)
        have hn2 := BlkI.made W3 3 (V + 1)
        obtain ⟨W4, hW2⟩ : ∃ W9, W9 = W3.alloc (.cells (zerosA (V + 1)) 3) := ⟨_, rfl⟩
        rw [← hW2] at hb hn2 ⊢
        clear hW2
        have gev := Hb.out.size
        have nrv := Hr.out.lt
        replace HB := hide (HB.out.keep hb)
        replace Hr := hide (Hr.out.keep hb)
        replace HC := hide (HC.out.keep hb)
        replace Hb := hide (Hb.out.trans (hb.mono Hb.out.size))
        clear hb
        generalize W3.heap.size = gv at hn2 gev nrv ⊢
        have Hv := hide hn2
        clear hn2
        have c0 := HB.out.cell 0
        have c1 := HB.out.cell 1
        simp only [List.getElem?_cons_zero, List.getElem?_cons_succ] at c0 c1
        refine hK.out _ _ ?_ (fun hHeld2 => ?_)
        · (try dsimp only); exact ⟨c0, c1⟩
        clear hK K hHeld c0 c1
        try simp only [Act.put, List.setIfInBounds_toArray, List.set_cons_zero, List.set_cons_succ]
        have hHeld := hHeld2; clear hHeld2
        refine wpAnyH_ready (rs := [8]) (by kernel_rfl) (by simp) ?_
        refine AllReadyH.cons rfl (fun K hK => ?_) AllReadyH.nil
        · go_simp
          have hb := (Below.refl W4.heap.size W4).alloc (Nat.le_refl _) (.cells (zerosA (V + 1)) 3)
          have hn2 := BlkI.made W4 3 (V + 1)
          obtain ⟨W5, hW2⟩ : ∃ W9, W9 = W4.alloc (.cells (zerosA (V + 1)) 3) := ⟨_, rfl⟩
          rw [← hW2] at hb hn2 ⊢
          clear hW2
          have gel := Hb.out.size
          have nrl := Hr.out.lt
          have nvl := Hv.out.lt
          replace HB := hide (HB.out.keep hb)
          replace Hr := hide (Hr.out.keep hb)
          replace Hv := hide (Hv.out.keep hb)
          replace HC := hide (HC.out.keep hb)
          replace Hb := hide (Hb.out.trans (hb.mono Hb.out.size))
          clear hb
          generalize W4.heap.size = gl at hn2 gel nrl nvl ⊢
          have Hl := hide hn2
          clear hn2
          have c0 := HB.out.cell 0
          have c1 := HB.out.cell 1
          simp only [List.getElem?_cons_zero, List.getElem?_cons_succ] at c0 c1
          refine hK.out _ _ ?_ (fun hHeld2 => ?_)
          · (try dsimp only); exact ⟨c0, c1⟩
          clear hK K hHeld c0 c1
          try simp only [Act.put, List.setIfInBounds_toArray, List.set_cons_zero, List.set_cons_succ]
          have hHeld := hHeld2; clear hHeld2
          refine take1 (i := 11) (v := ?_) (some 18) rfl rfl (by kernel_rfl) (by kernel_rfl) (by kernel_rfl) (fun _ _ _ h => h) (Or.inl ⟨by rfl, ?_⟩) (by assumption) ?_
          rotate_left
          · intro w hSw; (try dsimp only at hSw); obtain ⟨s1, s2⟩ := hSw; first | (go_simp; done) | (go_simp; with_reducible rfl)
          try simp only [Act.put, List.setIfInBounds_toArray, List.set_cons_zero, List.set_cons_succ]
          refine wpAnyH_ready (rs := [12]) (by kernel_rfl) (by simp) ?_
          refine AllReadyH.cons rfl (fun K hK => ?_) AllReadyH.nil
          go_simp
          obtain ⟨WF, hWF⟩ : ∃ WF, WF = W5.alloc (.cells #[.int .i64 V, .slice O n oc, .slice none 0 0, .slice (some ⟨gv, 0, none⟩) (V + 1) (V + 1), .slice (some ⟨gl, 0, none⟩) (V + 1) (V + 1), .slice (some ⟨gr, 0, none⟩) (V + 1) (V + 1), .slice none 0 0, .slice none 0 0] 140) := ⟨_, rfl⟩
          obtain ⟨g, hg⟩ : ∃ g, g = W5.heap.size := ⟨_, rfl⟩
          obtain ⟨ht1, ht2⟩ := new_tail Hb.out Hv.out Hl.out Hr.out (by omega) (by omega) (by omega) gev gel ger HC.out Hlen.out hg hWF
          have hbx : Blk 45 WF bB [.int .i64 V, .slice A n c] := by rw [hWF]; exact HB.out.alloc _
          rw [← hWF, ← hg]
          have Ht1 := hide ht1
          have Ht2 := hide ht2
          have c0 := hbx.cell 0
          have c1 := hbx.cell 1
          simp only [List.getElem?_cons_zero, List.getElem?_cons_succ] at c0 c1
          clear hWF hg ht1 ht2 hbx
          refine hK.out _ _ ?_ (fun hHeld2 => ?_)
          · (try dsimp only); exact ⟨c0, c1⟩
          clear hK K hHeld
          try simp only [Act.put, List.setIfInBounds_toArray, List.set_cons_zero, List.set_cons_succ]
          have hHeld := hHeld2; clear hHeld2
          refine take1 (i := 13) (v := ?_) (some 2) rfl rfl (by kernel_rfl) (by kernel_rfl) (by kernel_rfl) (fun _ _ _ h => h) (Or.inl ⟨by rfl, ?_⟩) (by assumption) ?_
          rotate_left
          · intro w hSw; (try dsimp only at hSw); obtain ⟨s1, s2⟩ := hSw; first | (go_simp; done) | (go_simp; with_reducible rfl)
          try simp only [Act.put, List.setIfInBounds_toArray, List.set_cons_zero, List.set_cons_succ]
          refine wpAnyH_done (by kernel_rfl) ?_ _
          go_wp2
          go_ret
          exact ⟨g, _, rfl, Ht1.out, Ht2.out⟩
      · go_simp
        have hb := (Below.refl W3.heap.size W3).alloc (Nat.le_refl _) (.cells (zerosA (V + 1)) 3)
        have hn2 := BlkI.made W3 3 (V + 1)
        obtain ⟨W4, hW2⟩ : ∃ W9, W9 = W3.alloc (.cells (zerosA (V + 1)) 3) := ⟨_, rfl⟩
        rw [← hW2] at hb hn2 ⊢
        clear hW2
        have gel := Hb.out.size
        have nrl := Hr.out.lt
        replace HB := hide (HB.out.keep hb)
        replace Hr := hide (Hr.out.keep hb)
        replace HC := hide (HC.out.keep hb)
        replace Hb := hide (Hb.out.trans (hb.mono Hb.out.size))
        clear hb
        generalize W3.heap.size = gl at hn2 gel nrl ⊢
        have Hl := hide hn2
        clear hn2
        have c0 := HB.out.cell 0
        have c1 := HB.out.cell 1
        simp only [List.getElem?_cons_zero, List.getElem?_cons_succ] at c0 c1
        refine hK.out _ _ ?_ (fun hHeld2 => ?_)
        · (try dsimp only); exact ⟨c0, c1⟩
        clear hK K hHeld c0 c1
        try simp only [Act.put, List.setIfInBounds_toArray, List.set_cons_zero, List.set_cons_succ]
        have hHeld := hHeld2; clear hHeld2
        refine wpAnyH_ready (rs := [6]) (by kernel_rfl) (by simp) ?_
        refine AllReadyH.cons rfl (fun K hK => ?_) AllReadyH.nil
        · go_simp
          have hb := (Below.refl W4.heap.size W4).alloc (Nat.le_refl _) (.cells (zerosA (V + 1)) 3)
          have hn2 := BlkI.made W4 3 (V + 1)
          obtain ⟨W5, hW2⟩ : ∃ W9, W9 = W4.alloc (.cells (zerosA (V + 1)) 3) := ⟨_, rfl⟩
          rw [← hW2] at hb hn2 ⊢
          clear hW2
          have gev := Hb.out.size
          have nrv := Hr.out.lt
          have nlv := Hl.out.lt
          replace HB := hide (HB.out.keep hb)
          replace Hr := hide (Hr.out.keep hb)
          replace Hl := hide (Hl.out.keep hb)
          replace HC := hide (HC.out.keep hb)
          replace Hb := hide (Hb.out.trans (hb.mono Hb.out.size))
          clear hb
          generalize W4.heap.size = gv at hn2 gev nrv nlv ⊢
          have Hv := hide hn2
          clear hn2
          have c0 := HB.out.cell 0
          have c1 := HB.out.cell 1
          simp only [List.getElem?_cons_zero, List.getElem?_cons_succ] at c0 c1
          refine hK.out _ _ ?_ (fun hHeld2 => ?_)
          · (try dsimp only); exact ⟨c0, c1⟩
          clear hK K hHeld c0 c1
          try simp only [Act.put, List.setIfInBounds_toArray, List.set_cons_zero, List.set_cons_succ]
          have hHeld := hHeld2; clear hHeld2
          refine take1 (i := 11) (v := ?_) (some 18) rfl rfl (by kernel_rfl) (by kernel_rfl) (by kernel_rfl) (fun _ _ _ h => h) (Or.inl ⟨by rfl, ?_⟩) (by assumption) ?_
          rotate_left
          · intro w hSw; (try dsimp only at hSw); obtain ⟨s1, s2⟩ := hSw; first | (go_simp; done) | (go_simp; with_reducible rfl)
          try simp only [Act.put, List.setIfInBounds_toArray, List.set_cons_zero, List.set_cons_succ]
          refine wpAnyH_ready (rs := [12]) (by kernel_rfl) (by simp) ?_
          refine AllReadyH.cons rfl (fun K hK => ?_) AllReadyH.nil
          go_simp
          obtain ⟨WF, hWF⟩ : ∃ WF, WF = W5.alloc (.cells #[.int .i64 V, .slice O n oc, .slice none 0 0, .slice (some ⟨gv, 0, none⟩) (V + 1) (V + 1), .slice (some ⟨gl, 0, none⟩) (V + 1) (V + 1), .slice (some ⟨gr, 0, none⟩) (V + 1) (V + 1), .slice none 0 0, .slice none 0 0] 140) := ⟨_, rfl⟩
          obtain ⟨g, hg⟩ : ∃ g, g = W5.heap.size := ⟨_, rfl⟩
          obtain ⟨ht1, ht2⟩ := new_tail Hb.out Hv.out Hl.out Hr.out (by omega) (by omega) (by omega) gev gel ger HC.out Hlen.out hg hWF
          have hbx : Blk 45 WF bB [.int .i64 V, .slice A n c] := by rw [hWF]; exact HB.out.alloc _
          rw [← hWF, ← hg]
          have Ht1 := hide ht1
          have Ht2 := hide ht2
          have c0 := hbx.cell 0
          have c1 := hbx.cell 1
          simp only [List.getElem?_cons_zero, List.getElem?_cons_succ] at c0 c1
          clear hWF hg ht1 ht2 hbx
          refine hK.out _ _ ?_ (fun hHeld2 => ?_)
          · (try dsimp only); exact ⟨c0, c1⟩
          clear hK K hHeld
          try simp only [Act.put, List.setIfInBounds_toArray, List.set_cons_zero, List.set_cons_succ]
          have hHeld := hHeld2; clear hHeld2
          refine take1 (i := 13) (v := ?_) (some 2) rfl rfl (by kernel_rfl) (by kernel_rfl) (by kernel_rfl) (fun _ _ _ h => h) (Or.inl ⟨by rfl, ?_⟩) (by assumption) ?_
          rotate_left
          · intro w hSw; (try dsimp only at hSw); obtain ⟨s1, s2⟩ := hSw; first | (go_simp; done) | (go_simp; with_reducible rfl)
          try simp only [Act.put, List.setIfInBounds_toArray, List.set_cons_zero, List.set_cons_succ]
          refine wpAnyH_done (by kernel_rfl) ?_ _
          go_wp2
          go_ret
          exact ⟨g, _, rfl, Ht1.out, Ht2.out⟩
    · go_simp
      have hb := (Below.refl W2.heap.size W2).alloc (Nat.le_refl _) (.cells (zerosA (V + 1)) 3)
      have hn2 := BlkI.made W2 3 (V + 1)
      obtain ⟨W3, hW2⟩ : ∃ W9, W9 = W2.alloc (.cells (zerosA (V + 1)) 3) := ⟨_, rfl⟩
      rw [← hW2] at hb hn2 ⊢
      clear hW2
      have gev := Hb.out.size
      have nrv := Hr.out.lt
      replace HB := hide (HB.out.keep hb)
      replace Hr := hide (Hr.out.keep hb)
      replace Hb := hide (Hb.out.trans (hb.mono Hb.out.size))
      clear hb
      generalize W2.heap.size = gv at hn2 gev nrv ⊢
      have Hv := hide hn2
      clear hn2
      have c0 := HB.out.cell 0
      have c1 := HB.out.cell 1
      simp only [List.getElem?_cons_zero, List.getElem?_cons_succ] at c0 c1
      refine hK.out _ _ ?_ (fun hHeld2 => ?_)
      · (try dsimp only); exact ⟨c0, c1⟩
      clear hK K hHeld c0 c1
      try simp only [Act.put, List.setIfInBounds_toArray, List.set_cons_zero, List.set_cons_succ]
      have hHeld := hHeld2; clear hHeld2
      refine wpAnyH_ready (rs := [4, 8]) (by kernel_rfl) (by simp) ?_
      refine AllReadyH.cons rfl (fun K hK => ?_) (AllReadyH.cons rfl (fun K hK => ?_) AllReadyH.nil)
      · go_simp
        with_reducible refine (clone_ct H.out Hb.out HA.out hn).mono ?_
        rintro e W4 ⟨O, oc, rfl, hb, xs, hown, hxs⟩
        have hcl : Cloned w.heap.size w.heap.size W4 n cs O oc := ⟨xs, own_mono hown Hb.out.size, fun i x hx => by
          obtain ⟨A', n', c', e1, e2⟩ := hxs i x hx
          refine ⟨A', n', c', e1, e2.keep (Hb.out.trans (hb.mono Hb.out.size)), fun b off e hn9 => ?_⟩
          obtain ⟨b', off', e', hlt⟩ := rd_heap e2 hn9 (by decide)
          rw [e] at e'
          injection e' with e'
          injection e' with e' _
          omega⟩
        have HC := hide hcl
        clear hcl hown hxs xs
        replace HB := hide (HB.out.keep hb)
        replace Hr := hide (Hr.out.keep hb)
        replace Hv := hide (Hv.out.keep hb)
        replace Hb := hide (Hb.out.trans (hb.mono Hb.out.size))
        clear hb
        have c0 := HB.out.cell 0
        have c1 := HB.out.cell 1
        simp only [List.getElem?_cons_zero, List.getElem?_cons_succ] at c0 c1
        refine hK.out _ _ ?_ (fun hHeld2 => ?_)
        · (try dsimp only); exact ⟨c0, c1⟩
        clear hK K hHeld c0 c1
        try simp only [Act.put, List.setIfInBounds_toArray, List.set_cons_zero, List.set_cons_succ]
        have hHeld := hHeld2; clear hHeld2
        refine wpAnyH_ready (rs := [8]) (by kernel_rfl) (by simp) ?_
        refine AllReadyH.cons rfl (fun K hK => ?_) AllReadyH.nil
        · go_simp
          have hb := (Below.refl W4.heap.size W4).alloc (Nat.le_refl _) (.cells (zerosA (V + 1)) 3)
          have hn2 := BlkI.made W4 3 (V + 1)
          obtain ⟨W5, hW2⟩ : ∃ W9, W9 = W4.alloc (.cells (zerosA (V + 1)) 3) := ⟨_, rfl⟩
          rw [← hW2] at hb hn2 ⊢
          clear hW2
          have gel := Hb.out.size
          have nrl := Hr.out.lt
          have nvl := Hv.out.lt
          replace HB := hide (HB.out.keep hb)
          replace Hr := hide (Hr.out.keep hb)
          replace Hv := hide (Hv.out.keep hb)
          replace HC := hide (HC.out.keep hb)
          replace Hb := hide (Hb.out.trans (hb.mono Hb.out.size))
          clear hb
          generalize W4.heap.size = gl at hn2 gel nrl nvl ⊢
          have Hl := hide hn2
          clear hn2
          have c0 := HB.out.cell 0
          have c1 := HB.out.cell 1
          simp only [List.getElem?_cons_zero, List.getElem?_cons_succ] at c0 c1
          refine hK.out _ _ ?_ (fun hHeld2 => ?_)
          · (try dsimp only); exact ⟨c0, c1⟩
          clear hK K hHeld c0 c1
          try simp only [Act.put, List.setIfInBounds_toArray, List.set_cons_zero, List.set_cons_succ]
          have hHeld := hHeld2; clear hHeld2
          refine take1 (i := 11) (v := ?_) (some 18) rfl rfl (by kernel_rfl) (by kernel_rfl) (by kernel_rfl) (fun _ _ _ h => h) (Or.inl ⟨by rfl, ?_⟩) (by assumption) ?_
          rotate_left
          · intro w hSw; (try dsimp only at hSw); obtain ⟨s1, s2⟩ := hSw; first | (go_simp; done) | (go_simp; with_reducible rfl)
          try simp only [Act.put, List.setIfInBounds_toArray, List.set_cons_zero, List.set_cons_succ]
          refine wpAnyH_ready (rs := [12]) (by kernel_rfl) (by simp) ?_
          refine AllReadyH.cons rfl (fun K hK => ?_) AllReadyH.nil
          go_simp
          obtain ⟨WF, hWF⟩ : ∃ WF, WF = W5.alloc (.cells #[.int .i64 V, .slice O n oc, .slice none 0 0, .slice (some ⟨gv, 0, none⟩) (V + 1) (V + 1), .slice (some ⟨gl, 0, none⟩) (V + 1) (V + 1), .slice (some ⟨gr, 0, none⟩) (V + 1) (V + 1), .slice none 0 0, .slice none 0 0] 140) := ⟨_, rfl⟩
          obtain ⟨g, hg⟩ : ∃ g, g = W5.heap.size := ⟨_, rfl⟩
          obtain ⟨ht1, ht2⟩ := new_tail Hb.out Hv.out Hl.out Hr.out (by omega) (by omega) (by omega) gev gel ger HC.out Hlen.out hg hWF
          have hbx : Blk 45 WF bB [.int .i64 V, .slice A n c] := by rw [hWF]; exact HB.out.alloc _
          rw [← hWF, ← hg]
          have Ht1 := hide ht1
          have Ht2 := hide ht2
          have c0 := hbx.cell 0
          have c1 := hbx.cell 1
          simp only [List.getElem?_cons_zero, List.getElem?_cons_succ] at c0 c1
          clear hWF hg ht1 ht2 hbx
          refine hK.out _ _ ?_ (fun hHeld2 => ?_)
          · (try dsimp only); exact ⟨c0, c1⟩
          clear hK K hHeld
          try simp only [Act.put, List.setIfInBounds_toArray, List.set_cons_zero, List.set_cons_succ]
          have hHeld := hHeld2; clear hHeld2
          refine take1 (i := 13) (v := ?_) (some 2) rfl rfl (by kernel_rfl) (by kernel_rfl) (by kernel_rfl) (fun _ _ _ h => h) (Or.inl ⟨by rfl, ?_⟩) (by assumption) ?_
          rotate_left
          · intro w hSw; (try dsimp only at hSw); obtain ⟨s1, s2⟩ := hSw; first | (go_simp; done) | (go_simp; with_reducible rfl)
          try simp only [Act.put, List.setIfInBounds_toArray, List.set_cons_zero, List.set_cons_succ]
          refine wpAnyH_done (by kernel_rfl) ?_ _
          go_wp2
          go_ret
          exact ⟨g, _, rfl, Ht1.out, Ht2.out⟩
      · go_simp
        have hb := (Below.refl W3.heap.size W3).alloc (Nat.le_refl _) (.cells (zerosA (V + 1)) 3)
        have hn2 := BlkI.made W3 3 (V + 1)
        obtain ⟨W4, hW2⟩ : ∃ W9, W9 = W3.alloc (.cells (zerosA (V + 1)) 3) := ⟨_, rfl⟩
        rw [← hW2] at hb hn2 ⊢
        clear hW2
        have gel := Hb.out.size
        have nrl := Hr.out.lt
        have nvl := Hv.out.lt
        replace HB := hide (HB.out.keep hb)
        replace Hr := hide (Hr.out.keep hb)
        replace Hv := hide (Hv.out.keep hb)
        replace Hb := hide (Hb.out.trans (hb.mono Hb.out.size))
        clear hb
        generalize W3.heap.size = gl at hn2 gel nrl nvl ⊢
        have Hl := hide hn2
        clear hn2
        have c0 := HB.out.cell 0
        have c1 := HB.out.cell 1
        simp only [List.getElem?_cons_zero, List.getElem?_cons_succ] at c0 c1
        refine hK.out _ _ ?_ (fun hHeld2 => ?_)
        · (try dsimp only); exact ⟨c0, c1⟩
        clear hK K hHeld c0 c1
        try simp only [Act.put, List.setIfInBounds_toArray, List.set_cons_zero, List.set_cons_succ]
        have hHeld := hHeld2; clear hHeld2
        refine wpAnyH_ready (rs := [4]) (by kernel_rfl) (by simp) ?_
        refine AllReadyH.cons rfl (fun K hK => ?_) AllReadyH.nil
        · go_simp
          with_reducible refine (clone_ct H.out Hb.out HA.out hn).mono ?_
          rintro e W5 ⟨O, oc, rfl, hb, xs, hown, hxs⟩
          have hcl : Cloned w.heap.size w.heap.size W5 n cs O oc := ⟨xs, own_mono hown Hb.out.size, fun i x hx => by
            obtain ⟨A', n', c', e1, e2⟩ := hxs i x hx
            refine ⟨A', n', c', e1, e2.keep (Hb.out.trans (hb.mono Hb.out.size)), fun b off e hn9 => ?_⟩
            obtain ⟨b', off', e', hlt⟩ := rd_heap e2 hn9 (by decide)
            rw [e] at e'
            injection e' with e'
            injection e' with e' _
            omega⟩
          have HC := hide hcl
          clear hcl hown hxs xs
          replace HB := hide (HB.out.keep hb)
          replace Hr := hide (Hr.out.keep hb)
          replace Hv := hide (Hv.out.keep hb)
          replace Hl := hide (Hl.out.keep hb)
          replace Hb := hide (Hb.out.trans (hb.mono Hb.out.size))
          clear hb
          have c0 := HB.out.cell 0
          have c1 := HB.out.cell 1
          simp only [List.getElem?_cons_zero, List.getElem?_cons_succ] at c0 c1
          refine hK.out _ _ ?_ (fun hHeld2 => ?_)
          · (try dsimp only); exact ⟨c0, c1⟩
          clear hK K hHeld c0 c1
          try simp only [Act.put, List.setIfInBounds_toArray, List.set_cons_zero, List.set_cons_succ]
          have hHeld := hHeld2; clear hHeld2
          refine take1 (i := 11) (v := ?_) (some 18) rfl rfl (by kernel_rfl) (by kernel_rfl) (by kernel_rfl) (fun _ _ _ h => h) (Or.inl ⟨by rfl, ?_⟩) (by assumption) ?_
          rotate_left
          · intro w hSw; (try dsimp only at hSw); obtain ⟨s1, s2⟩ := hSw; first | (go_simp; done) | (go_simp; with_reducible rfl)
          try simp only [Act.put, List.setIfInBounds_toArray, List.set_cons_zero, List.set_cons_succ]
          refine wpAnyH_ready (rs := [12]) (by kernel_rfl) (by simp) ?_
          refine AllReadyH.cons rfl (fun K hK => ?_) AllReadyH.nil
          go_simp
          obtain ⟨WF, hWF⟩ : ∃ WF, WF = W5.alloc (.cells #[.int .i64 V, .slice O n oc, .slice none 0 0, .slice (some ⟨gv, 0, none⟩) (V + 1) (V + 1), .slice (some ⟨gl, 0, none⟩) (V + 1) (V + 1), .slice (some ⟨gr, 0, none⟩) (V + 1) (V + 1), .slice none 0 0, .slice none 0 0] 140) := ⟨_, rfl⟩
          obtain ⟨g, hg⟩ : ∃ g, g = W5.heap.size := ⟨_, rfl⟩
          obtain ⟨ht1, ht2⟩ := new_tail Hb.out Hv.out Hl.out Hr.out (by omega) (by omega) (by omega) gev gel ger HC.out Hlen.out hg hWF
          have hbx : Blk 45 WF bB [.int .i64 V, .slice A n c] := by rw [hWF]; exact HB.out.alloc _
          rw [← hWF, ← hg]
          have Ht1 := hide ht1
          have Ht2 := hide ht2
          have c0 := hbx.cell 0
          have c1 := hbx.cell 1
          simp only [List.getElem?_cons_zero, List.getElem?_cons_succ] at c0 c1
          clear hWF hg ht1 ht2 hbx
          refine hK.out _ _ ?_ (fun hHeld2 => ?_)
          · (try dsimp only); exact ⟨c0, c1⟩
          clear hK K hHeld
          try simp only [Act.put, List.setIfInBounds_toArray, List.set_cons_zero, List.set_cons_succ]
          have hHeld := hHeld2; clear hHeld2
          refine take1 (i := 13) (v := ?_) (some 2) rfl rfl (by kernel_rfl) (by kernel_rfl) (by kernel_rfl) (fun _ _ _ h => h) (Or.inl ⟨by rfl, ?_⟩) (by assumption) ?_
          rotate_left
          · intro w hSw; (try dsimp only at hSw); obtain ⟨s1, s2⟩ := hSw; first | (go_simp; done) | (go_simp; with_reducible rfl)
          try simp only [Act.put, List.setIfInBounds_toArray, List.set_cons_zero, List.set_cons_succ]
          refine wpAnyH_done (by kernel_rfl) ?_ _
          go_wp2
          go_ret
          exact ⟨g, _, rfl, Ht1.out, Ht2.out⟩
    · go_simp
      have hb := (Below.refl W2.heap.size W2).alloc (Nat.le_refl _) (.cells (zerosA (V + 1)) 3)
      have hn2 := BlkI.made W2 3 (V + 1)
      obtain ⟨W3, hW2⟩ : ∃ W9, W9 = W2.alloc (.cells (zerosA (V + 1)) 3) := ⟨_, rfl⟩
      rw [← hW2] at hb hn2 ⊢
      clear hW2
      have gel := Hb.out.size
      have nrl := Hr.out.lt
      replace HB := hide (HB.out.keep hb)
      replace Hr := hide (Hr.out.keep hb)
      replace Hb := hide (Hb.out.trans (hb.mono Hb.out.size))
      clear hb
      generalize W2.heap.size = gl at hn2 gel nrl ⊢
      have Hl := hide hn2
      clear hn2
      have c0 := HB.out.cell 0
      have c1 := HB.out.cell 1
      simp only [List.getElem?_cons_zero, List.getElem?_cons_succ] at c0 c1
      refine hK.out _ _ ?_ (fun hHeld2 => ?_)
      · (try dsimp only); exact ⟨c0, c1⟩
      clear hK K hHeld c0 c1
      try simp only [Act.put, List.setIfInBounds_toArray, List.set_cons_zero, List.set_cons_succ]
      have hHeld := hHeld2; clear hHeld2
      refine wpAnyH_ready (rs := [4, 6]) (by kernel_rfl) (by simp) ?_
      refine AllReadyH.cons rfl (fun K hK => ?_) (AllReadyH.cons rfl (fun K hK => ?_) AllReadyH.nil)
      · go_simp
        with_reducible refine (clone_ct H.out Hb.out HA.out hn).mono ?_
        rintro e W4 ⟨O, oc, rfl, hb, xs, hown, hxs⟩
        have hcl : Cloned w.heap.size w.heap.size W4 n cs O oc := ⟨xs, own_mono hown Hb.out.size, fun i x hx => by
          obtain ⟨A', n', c', e1, e2⟩ := hxs i x hx
          refine ⟨A', n', c', e1, e2.keep (Hb.out.trans (hb.mono Hb.out.size)), fun b off e hn9 => ?_⟩
          obtain ⟨b', off', e', hlt⟩ := rd_heap e2 hn9 (by decide)
          rw [e] at e'
          injection e' with e'
          injection e' with e' _
          omega⟩
        have HC := hide hcl
        clear hcl hown hxs xs
        replace HB := hide (HB.out.keep hb)
        replace Hr := hide (Hr.out.keep hb)
        replace Hl := hide (Hl.out.keep hb)
        replace Hb := hide (Hb.out.trans (hb.mono Hb.out.size))
        clear hb
        have c0 := HB.out.cell 0
        have c1 := HB.out.cell 1
        simp only [List.getElem?_cons_zero, List.getElem?_cons_succ] at c0 c1
        refine hK.out _ _ ?_ (fun hHeld2 => ?_)
        · (try dsimp only); exact ⟨c0, c1⟩
        clear hK K hHeld c0 c1
        try simp only [Act.put, List.setIfInBounds_toArray, List.set_cons_zero, List.set_cons_succ]
        have hHeld := hHeld2; clear hHeld2
        refine wpAnyH_ready (rs := [6]) (by kernel_rfl) (by simp) ?_
        refine AllReadyH.cons rfl (fun K hK => ?_) AllReadyH.nil
        · go_simp
          have hb := (Below.refl W4.heap.size W4).alloc (Nat.le_refl _) (.cells (zerosA (V + 1)) 3)
          have hn2 := BlkI.made W4 3 (V + 1)
          obtain ⟨W5, hW2⟩ : ∃ W9, W9 = W4.alloc (.cells (zerosA (V + 1)) 3) := ⟨_, rfl⟩
          rw [← hW2] at hb hn2 ⊢
          clear hW2
          have gev := Hb.out.size
          have nrv := Hr.out.lt
          have nlv := Hl.out.lt
          replace HB := hide (HB.out.keep hb)
          replace Hr := hide (Hr.out.keep hb)
          replace Hl := hide (Hl.out.keep hb)
          replace HC := hide (HC.out.keep hb)
          replace Hb := hide (Hb.out.trans (hb.mono Hb.out.size))
          clear hb
          generalize W4.heap.size = gv at hn2 gev nrv nlv ⊢
          have Hv := hide hn2
          clear hn2
          have c0 := HB.out.cell 0
          have c1 := HB.out.cell 1
          simp only [List.getElem?_cons_zero, List.getElem?_cons_succ] at c0 c1
          refine hK.out _ _ ?_ (fun hHeld2 => ?_)
          · (try dsimp only); exact ⟨c0, c1⟩
          clear hK K hHeld c0 c1
          try simp only [Act.put, List.setIfInBounds_toArray, List.set_cons_zero, List.set_cons_succ]
          have hHeld := hHeld2; clear hHeld2
          refine take1 (i := 11) (v := ?_) (some 18) rfl rfl (by kernel_rfl) (by kernel_rfl) (by kernel_rfl) (fun _ _ _ h => h) (Or.inl ⟨by rfl, ?_⟩) (by assumption) ?_
          rotate_left
          · intro w hSw; (try dsimp only at hSw); obtain ⟨s1, s2⟩ := hSw; first | (go_simp; done) | (go_simp; with_reducible rfl)
          try simp only [Act.put, List.setIfInBounds_toArray, List.set_cons_zero, List.set_cons_succ]
          refine wpAnyH_ready (rs := [12]) (by kernel_rfl) (by simp) ?_
          refine AllReadyH.cons rfl (fun K hK => ?_) AllReadyH.nil
          go_simp
          obtain ⟨WF, hWF⟩ : ∃ WF, WF = W5.alloc (.cells #[.int .i64 V, .slice O n oc, .slice none 0 0, .slice (some ⟨gv, 0, none⟩) (V + 1) (V + 1), .slice (some ⟨gl, 0, none⟩) (V + 1) (V + 1), .slice (some ⟨gr, 0, none⟩) (V + 1) (V + 1), .slice none 0 0, .slice none 0 0] 140) := ⟨_, rfl⟩
          obtain ⟨g, hg⟩ : ∃ g, g = W5.heap.size := ⟨_, rfl⟩
          obtain ⟨ht1, ht2⟩ := new_tail Hb.out Hv.out Hl.out Hr.out (by omega) (by omega) (by omega) gev gel ger HC.out Hlen.out hg hWF
          have hbx : Blk 45 WF bB [.int .i64 V, .slice A n c] := by rw [hWF]; exact HB.out.alloc _
          rw [← hWF, ← hg]
          have Ht1 := hide ht1
          have Ht2 := hide ht2
          have c0 := hbx.cell 0
          have c1 := hbx.cell 1
          simp only [List.getElem?_cons_zero, List.getElem?_cons_succ] at c0 c1
          clear hWF hg ht1 ht2 hbx
          refine hK.out _ _ ?_ (fun hHeld2 => ?_)
          · (try dsimp only); exact ⟨c0, c1⟩
          clear hK K hHeld
          try simp only [Act.put, List.setIfInBounds_toArray, List.set_cons_zero, List.set_cons_succ]
          have hHeld := hHeld2; clear hHeld2
          refine take1 (i := 13) (v := ?_) (some 2) rfl rfl (by kernel_rfl) (by kernel_rfl) (by kernel_rfl) (fun _ _ _ h => h) (Or.inl ⟨by rfl, ?_⟩) (by assumption) ?_
          rotate_left
          · intro w hSw; (try dsimp only at hSw); obtain ⟨s1, s2⟩ := hSw; first | (go_simp; done) | (go_simp; with_reducible rfl)
          try simp only [Act.put, List.setIfInBounds_toArray, List.set_cons_zero, List.set_cons_succ]
          refine wpAnyH_done (by kernel_rfl) ?_ _
          go_wp2
          go_ret
          exact ⟨g, _, rfl, Ht1.out, Ht2.out⟩
      · go_simp
        have hb := (Below.refl W3.heap.size W3).alloc (Nat.le_refl _) (.cells (zerosA (V + 1)) 3)
        have hn2 := BlkI.made W3 3 (V + 1)
        obtain ⟨W4, hW2⟩ : ∃ W9, W9 = W3.alloc (.cells (zerosA (V + 1)) 3) := ⟨_, rfl⟩
        rw [← hW2] at hb hn2 ⊢
        clear hW2
        have gev := Hb.out.size
        have nrv := Hr.out.lt
        have nlv := Hl.out.lt
        replace HB := hide (HB.out.keep hb)
        replace Hr := hide (Hr.out.keep hb)
        replace Hl := hide (Hl.out.keep hb)
        replace Hb := hide (Hb.out.trans (hb.mono Hb.out.size))
        clear hb
        generalize W3.heap.size = gv at hn2 gev nrv nlv ⊢
        have Hv := hide hn2
        clear hn2
        have c0 := HB.out.cell 0
        have c1 := HB.out.cell 1
        simp only [List.getElem?_cons_zero, List.getElem?_cons_succ] at c0 c1
        refine hK.out _ _ ?_ (fun hHeld2 => ?_)
        · (try dsimp only); exact ⟨c0, c1⟩
        clear hK K hHeld c0 c1
        try simp only [Act.put, List.setIfInBounds_toArray, List.set_cons_zero, List.set_cons_succ]
        have hHeld := hHeld2; clear hHeld2
        refine wpAnyH_ready (rs := [4]) (by kernel_rfl) (by simp) ?_
        refine AllReadyH.cons rfl (fun K hK => ?_) AllReadyH.nil
        · go_simp
          with_reducible refine (clone_ct H.out Hb.out HA.out hn).mono ?_
          rintro e W5 ⟨O, oc, rfl, hb, xs, hown, hxs⟩
          have hcl : Cloned w.heap.size w.heap.size W5 n cs O oc := ⟨xs, own_mono hown Hb.out.size, fun i x hx => by
            obtain ⟨A', n', c', e1, e2⟩ := hxs i x hx
            refine ⟨A', n', c', e1, e2.keep (Hb.out.trans (hb.mono Hb.out.size)), fun b off e hn9 => ?_⟩
            obtain ⟨b', off', e', hlt⟩ := rd_heap e2 hn9 (by decide)
            rw [e] at e'
            injection e' with e'
            injection e' with e' _
            omega⟩
          have HC := hide hcl
          clear hcl hown hxs xs
          replace HB := hide (HB.out.keep hb)
          replace Hr := hide (Hr.out.keep hb)
          replace Hl := hide (Hl.out.keep hb)
          replace Hv := hide (Hv.out.keep hb)
          replace Hb := hide (Hb.out.trans (hb.mono Hb.out.size))
          clear hb
          have c0 := HB.out.cell 0
          have c1 := HB.out.cell 1
          simp only [List.getElem?_cons_zero, List.getElem?_cons_succ] at c0 c1
          refine hK.out _ _ ?_ (fun hHeld2 => ?_)
          · (try dsimp only); exact ⟨c0, c1⟩
          clear hK K hHeld c0 c1
          try simp only [Act.put, List.setIfInBounds_toArray, List.set_cons_zero, List.set_cons_succ]
          have hHeld := hHeld2; clear hHeld2
          refine take1 (i := 11) (v := ?_) (some 18) rfl rfl (by kernel_rfl) (by kernel_rfl) (by kernel_rfl) (fun _ _ _ h => h) (Or.inl ⟨by rfl, ?_⟩) (by assumption) ?_
          rotate_left
          · intro w hSw; (try dsimp only at hSw); obtain ⟨s1, s2⟩ := hSw; first | (go_simp; done) | (go_simp; with_reducible rfl)
          try simp only [Act.put, List.setIfInBounds_toArray, List.set_cons_zero, List.set_cons_succ]
          refine wpAnyH_ready (rs := [12]) (by kernel_rfl) (by simp) ?_
          refine AllReadyH.cons rfl (fun K hK => ?_) AllReadyH.nil
          go_simp
          obtain ⟨WF, hWF⟩ : ∃ WF, WF = W5.alloc (.cells #[.int .i64 V, .slice O n oc, .slice none 0 0, .slice (some ⟨gv, 0, none⟩) (V + 1) (V + 1), .slice (some ⟨gl, 0, none⟩) (V + 1) (V + 1), .slice (some ⟨gr, 0, none⟩) (V + 1) (V + 1), .slice none 0 0, .slice none 0 0] 140) := ⟨_, rfl⟩
          obtain ⟨g, hg⟩ : ∃ g, g = W5.heap.size := ⟨_, rfl⟩
          obtain ⟨ht1, ht2⟩ := new_tail Hb.out Hv.out Hl.out Hr.out (by omega) (by omega) (by omega) gev gel ger HC.out Hlen.out hg hWF
          have hbx : Blk 45 WF bB [.int .i64 V, .slice A n c] := by rw [hWF]; exact HB.out.alloc _
          rw [← hWF, ← hg]
          have Ht1 := hide ht1
          have Ht2 := hide ht2
          have c0 := hbx.cell 0
          have c1 := hbx.cell 1
          simp only [List.getElem?_cons_zero, List.getElem?_cons_succ] at c0 c1
          clear hWF hg ht1 ht2 hbx
          refine hK.out _ _ ?_ (fun hHeld2 => ?_)
          · (try dsimp only); exact ⟨c0, c1⟩
          clear hK K hHeld
          try simp only [Act.put, List.setIfInBounds_toArray, List.set_cons_zero, List.set_cons_succ]
          have hHeld := hHeld2; clear hHeld2
          refine take1 (i := 13) (v := ?_) (some 2) rfl rfl (by kernel_rfl) (by kernel_rfl) (by kernel_rfl) (fun _ _ _ h => h) (Or.inl ⟨by rfl, ?_⟩) (by assumption) ?_
          rotate_left
          · intro w hSw; (try dsimp only at hSw); obtain ⟨s1, s2⟩ := hSw; first | (go_simp; done) | (go_simp; with_reducible rfl)
          try simp only [Act.put, List.setIfInBounds_toArray, List.set_cons_zero, List.set_cons_succ]
          refine wpAnyH_done (by kernel_rfl) ?_ _
          go_wp2
          go_ret
          exact ⟨g, _, rfl, Ht1.out, Ht2.out⟩
end Go.Proofs.YtemiecammmbjdaaGreat
