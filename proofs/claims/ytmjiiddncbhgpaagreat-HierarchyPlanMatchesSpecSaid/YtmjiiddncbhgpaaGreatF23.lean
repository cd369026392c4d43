/- The law HierarchyPlanMatchesSpec of the package hierarchy holds, without a condition., part 23: Hg Hh Hn. -/
import Derived.Test.YtmjiiddncbhgpaaGreatF1
import Derived.Test.YtmjiiddncbhgpaaGreatF2
import Derived.Test.YtmjiiddncbhgpaaGreatF3
import Derived.Test.YtmjiiddncbhgpaaGreatF4
import Derived.Test.YtmjiiddncbhgpaaGreatF5
import Derived.Test.YtmjiiddncbhgpaaGreatF6
import Derived.Test.YtmjiiddncbhgpaaGreatF7
import Derived.Test.YtmjiiddncbhgpaaGreatF8
import Derived.Test.YtmjiiddncbhgpaaGreatF9
import Derived.Test.YtmjiiddncbhgpaaGreatF10
import Derived.Test.YtmjiiddncbhgpaaGreatF11
import Derived.Test.YtmjiiddncbhgpaaGreatF12
import Derived.Test.YtmjiiddncbhgpaaGreatF22
import Derived.BigQuiet
import Derived.BigRegionIn
import Derived.Deep.AppendLies
import Derived.Deep.DeepCutAuto
import Derived.Deep.Draws
import Derived.Deep.Fields
import Derived.Deep.LoopGhost
import Derived.Deep.QuietTactic
import Derived.Deep.RegionHeld3
import Derived.Deep.Slices
import Derived.DeepKeys4
import Derived.Laws.AppendOwnNone
import Derived.Laws.BitsAllLaws
import Derived.Laws.OwnMore
import Derived.Lib.Hide
import Derived.Lib.SlicesCompact
import Derived.LoopIn
import Derived.LoopNIn
import Derived.Maps.AppendAt
import Derived.Maps.OwnIn
import Derived.Maps.OwnOps
import Derived.Maps.OwnSet
import Derived.OrdersHeld
import Derived.OrdersIn
import Derived.OwnWalkIn
import Derived.RangeFuncBound
import Derived.RangeFuncCalls
import Derived.RangeFuncKeeps
import Derived.RangeFuncLeaves
import Derived.RangeFuncNested
import Derived.Shelf.Abstract
import Derived.Shelf.RegionOpen
import Derived.Sort.CutIn
import Derived.StillTail
import Derived.StillTailTactics
import Derived.TacticsInMore
import Derived.Test.YtmjiiddncbhgpaaGreatProg
import Derived.WalkKit
namespace Go.Proofs.YtmjiiddncbhgpaaGreat
set_option linter.unusedVariables false
set_option linter.unusedSimpArgs false
open Go.RowKit Go.Shelf Go.Maps
attribute [local go_sem] Oper.semAt_some
/-- a change that steps bring about -/
abbrev Cn (aft : Nat → Nat → Nat → Prop) (G : Chn → Prop) (lim nS t i : Nat) (xs : List Int) := { c : Chn // c.t = t ∧ c.i = i ∧ c.j < nS ∧ c.n ≤ lim ∧ SpR aft G xs i c.n c.j }
def encCn {aft : Nat → Nat → Nat → Prop} {G : Chn → Prop} {lim nS t i : Nat} {xs : List Int} (x : Cn aft G lim nS t i xs) : Array Value := #[chV x.1]
/-- what a round keeps: cells that are no changes -/
def KpC (A B : World) : Prop := A.heap.size ≤ B.heap.size ∧ ∀ (b : Nat) (cs : Array Value) (t : TypeId) (m : Nat × Nat), A.heap[b]? = some (Obj.cells cs t m) → t ≠ 176 → t ≠ 172 → B.heap[b]? = A.heap[b]?
theorem KpC.refl (A : World) : KpC A A := ⟨Nat.le_refl _, fun _ _ _ _ _ _ _ => rfl⟩
theorem KpC.trans {A B C : World} (h : KpC A B) (k : KpC B C) : KpC A C :=
  ⟨Nat.le_trans h.1 k.1, fun b cs t m e h1 h2 => (k.2 b cs t m ((h.2 b cs t m e h1 h2).trans e) h1 h2).trans (h.2 b cs t m e h1 h2)⟩
theorem KpC.below {A B : World} (h : Below A.heap.size A B) : KpC A B := ⟨h.size, fun b cs t m e _ _ => h.block b (Array.getElem?_eq_some_iff.1 e).1⟩
theorem KpC.obj {n₀ : World} (W : World) (l : Nat) (o o' : Obj) (hl : n₀.heap.size ≤ l) (h : W.heap[l]? = some o) (hc : o.isCells = false) (hw : o.isWalk = false) : KpC W (W.putObj l o') := by
  refine ⟨by simp [World.putObj], fun b cs t m e _ _ => ?_⟩
  have hne : l ≠ b := fun e2 => by
    subst e2
    rw [h] at e
    injection e with e
    subst e
    simp [Obj.isCells] at hc
  simp [World.putObj, Array.getElem?_setIfInBounds, hne]
theorem KpC.blk {A B : World} {t : TypeId} {g : Nat} {cs : List Value} (h : KpC A B) (k : Blk t A g cs) (h1 : t ≠ 176) (h2 : t ≠ 172) : Blk t B g cs := (h.2 g _ t _ k h1 h2).trans k
theorem KpC.spots {A B : World} {Y : Option Addr} {n c : Nat} {l : List Spot} (h : KpC A B) (k : Rd Enc.spot A Y n c l) (ht : TyS A Y) : Rd Enc.spot B Y n c l :=
  ⟨k.len, k.cap, k.small, k.nil, fun hn => by
    obtain ⟨b, off, e, hc⟩ := k.at_ hn
    obtain ⟨cs, m, hb⟩ := ht b (by rw [e]; rfl)
    have e2 := h.2 b cs _ m hb (by decide) (by decide)
    refine ⟨b, off, e, fun j x hj => ?_⟩
    obtain ⟨vs, h1, h2⟩ := hc j x hj
    refine ⟨vs, h1, fun i v hv => ?_⟩
    rw [← h2 i v hv]
    unfold World.cell?
    simp only [e2]⟩
theorem abides_below {β : Type} {B : Nat} {J : β → World → Prop} (hJ : AbidesFrom B J) {s : β} {W W' : World} (h : J s W) (hb : Below W.heap.size W W') : J s W' :=
  hJ s W W' none h ⟨hb.os, hb.tape, hb.output, hb.size, fun i hi _ => hb.block i hi⟩ (fun r e => by cases e)
def chOf (lim t i : Nat) (p : Spot) : Chn := ⟨t, i, p.1, ((lim : Int) - p.2).toNat⟩
set_option maxRecDepth 100000 in
set_option maxHeartbeats 12800000 in
theorem changes1_in (n : Nat) (hn : 1 ≤ n) (l0 : Nat) (X1 X2 X3 X4 : Nat) (w0 W : World) (Rb g s0 gl : Nat) (ms : List Mk) (SA : Option Addr) (sn sc : Nat) (st : List Nat) (am rm bm : Nat) (v0 v1 v2 v3 v4 v5 v6 : Value) (lim : Nat) (h : RfS w0 Rb g s0 gl ms SA sn sc st am rm bm v0 v1 v2 v3 v4 v5 v6 lim) (B cr cb : Nat) (R : Chn → Option Nat) (rows : KP → Option RowC) (bk : KP → List Chn) (hk : KnS B w0 rm bm cr cb R rows bk)
    (hin : ∀ c, (R c).isSome = true → c.i < st.length ∧ c.j < st.length ∧ c.n ≤ lim) (hst : st.length ≤ 64) (hlim : lim ≤ 8) (X : Option Addr) (nX cX : Nat) (xs : List Int) (hx : Rd Enc.int w0 X nX cX xs) (hnX : nX ≤ 1000) (hxr : ∀ x ∈ xs, -1000 ≤ x ∧ x < 1000) (t i r : Nat) (ht : t ≤ 100) (hi : i < st.length) (hfull : ∀ c q, R c = some q → q < r → c ∈ bk (c.t, c.i))
    (PA : Option Addr) (pn pc : Nat) (h1 : Blk 101 w0 X1 [.pointer (some ⟨Rb, 0, none⟩)]) (h2 : Blk 116 w0 X2 [.int .i64 t, .slice PA pn pc, .slice X nX cX]) (h3 : Blk 3 w0 X3 [.int .i64 i]) (h4 : Blk 3 w0 X4 [.int .i64 r])
    (J Jx : List (Cn (aftW ms st) (Ere R r) lim st.length t i xs) → World → Prop) (hb : Below w0.heap.size w0 W) (hJ : AbidesFrom W.heap.size J) (hJx : AbidesFrom W.heap.size Jx)
    (hY : ∀ pre x W1, J pre W1 → pre.length < 577 → YieldAt Fence.wide (n - 1) Tryz.prog l0 (encCn x) W1 fun e W' => (e = .returned (.bool true) ∧ J (pre ++ [x]) W' ∧ KpC W1 W') ∨ (e = .returned (.bool false) ∧ Jx (pre ++ [x]) W')) (hJ0 : J [] W) :
    CallsIn Fence.wide n Tryz.prog 142 #[.func (.yield l0) #[] #[], .pointer (some ⟨X1, 0, none⟩), .pointer (some ⟨X2, 0, none⟩), .pointer (some ⟨X3, 0, none⟩), .pointer (some ⟨X4, 0, none⟩)] W fun e W' => (∃ v, e = .returned v) ∧
      ((∃ ys : List (Cn (aftW ms st) (Ere R r) lim st.length t i xs), (∀ c : Chn, c.t = t → c.i = i → c.n ≤ lim → SpR (aftW ms st) (Ere R r) xs i c.n c.j → c ∈ ys.map (·.1)) ∧ J ys W') ∨ (∃ pre, True ∧ Jx pre W')) := by
  have H := hide h
  have Hk := hide hk
  have Hin := hide hin
  have Hfull := hide hfull
  have HJ := hide hJ
  have HJx := hide hJx
  have HY := hide hY
  have Hx := hide hx
  have Hb := hide hb
  have b1 := (h1.keep hb).cell 0
  have b2 := (h2.keep hb).cell 2
  have b3 := (h3.keep hb).cell 0
  have b4 := (h4.keep hb).cell 0
  simp only [List.getElem?_cons_zero, List.getElem?_cons_succ] at b1 b2 b3 b4
  have hsp := spread_ct W Rb g s0 gl ms SA sn sc st am rm bm v0 v1 v2 v3 v4 v5 v6 lim (h.keep hb) B cr cb R rows bk (hk.keep hb) hin hst hlim X nX cX xs (hx.keep hb) hnX hxr i r hi hfull
  have H1 := hide h1
  have H2 := hide h2
  have H3 := hide h3
  have H4 := hide h4
  have Hsp := hide hsp
  have HJ0 := hide hJ0
  clear h hk hin hfull hJ hJx hY hx hb h1 h2 h3 h4 hsp hJ0
  refine callsIn_of_wp Tryz.func142 rfl trivial ?_ rfl
  simp only [Tryz.ntmps142, List.size_toArray, List.length_cons, List.length_nil, Nat.reduceAdd, Nat.reduceSub, Array.replicate_succ, Array.replicate_zero, List.push_toArray, List.append_toArray, List.nil_append, List.cons_append]
  gi_wp2
  refine ⟨trivial, callsIn_wide.2 (Hsp.out.mono ?_)⟩
  rintro e w5 ⟨hb5, A, m, c, l, rfl, hrd, hins, hbd, hty⟩
  have hJ5 := abides_below HJ.out HJ0.out hb5
  have hlen := hrd.len
  have hmlow := hrd.low
  have hl576 : l.length ≤ 576 := few_spots hins.1 (fun y hy => ⟨Nat.lt_of_lt_of_le (hbd y hy).1 hst, ((hins.2 y).1 hy).1, by have := (hbd y hy).2; omega⟩)
  have HJ5 := hide hJ5
  have Hb5 := hide hb5
  have Hrd := hide hrd
  have Hins := hide hins
  have Hbd := hide hbd
  have Hty := hide hty
  clear hJ5 hb5 hrd hins hbd hty b1 b2 b3 b4
  gi_wp2
  gi_loopw [15] (fun o wr => ∃ (k : Nat) (pre : List (Cn (aftW ms st) (Ere R r) lim st.length t i xs)), k ≤ m ∧ o = .int .i64 k ∧ pre.map (·.1) = (l.take k).map (chOf lim t i) ∧ J pre wr ∧ KpC w5 wr) (fun o _ => m - (intOf o).toNat)
  case atStart => exact ⟨0, [], by omega, rfl, rfl, HJ5.out, KpC.refl _⟩
  case round =>
    obtain ⟨k, pre, hkm, rfl, hpre, hJs, hK⟩ := hrel
    have Hpre := hide hpre
    have HJs := hide hJs
    have HK := hide hK
    clear hpre hJs hK
    by_cases hlt : k < m
    rotate_left
    · obtain rfl : k = m := by omega
      gi_wp2
      go_end0
      refine ⟨⟨_, rfl⟩, .inl ⟨pre, fun x e1 e2 e3 e4 => ?_, HJs.out⟩⟩
      rw [Hpre.out, List.take_of_length_le (by omega)]
      refine List.mem_map.2 ⟨(x.j, (lim : Int) - x.n), (Hins.out.2 _).2 ⟨by simp only; omega, x.n, rfl, e4⟩, ?_⟩
      obtain ⟨x1, x2, x3, x4⟩ := x
      simp only at e1 e2 e3 ⊢
      subst e1 e2
      unfold chOf
      simp only [Chn.mk.injEq, true_and]
      omega
    · have hki : (k : Int) < (m : Int) := by omega
      obtain ⟨lb, lo, p, eA, hpk, hpo, p0, p1⟩ := (HK.out.spots Hrd.out Hty.out).spot (k := k) hlt
      subst eA
      have hpm := List.mem_of_getElem? hpk
      obtain ⟨hps, hpl⟩ := Hbd.out p hpm
      obtain ⟨hp0, nn, hpn, hsp⟩ := (Hins.out.2 p).1 hpm
      have hnn : ((lim : Int) - p.2).toNat = nn := by omega
      have Hpk := hide hpk
      have Hsp2 := hide hsp
      have Hpn := hide hpn
      have Hnn := hide hnn
      clear hpk hsp hpm hpn hnn
      gi_upto_region 3 with (fail)
      have c1 := HK.out.blk ((H1.out.keep Hb.out).keep Hb5.out) (by decide) (by decide)
      have c2 := HK.out.blk ((H2.out.keep Hb.out).keep Hb5.out) (by decide) (by decide)
      have c3 := HK.out.blk ((H3.out.keep Hb.out).keep Hb5.out) (by decide) (by decide)
      have cR := HK.out.blk ((H.out.blk.keep Hb.out).keep Hb5.out) (by decide) (by decide)
      have hba := (Below.refl wr.heap.size wr).alloc (Nat.le_refl _) (.cells #[.int .i64 p.1, .int .i64 p.2] 110)
      have hBp := Blk.new wr 110 (spC p)
      change Blk 110 (wr.alloc (.cells #[.int .i64 p.1, .int .i64 p.2] 110)) wr.heap.size (spC p) at hBp
      obtain ⟨w7, hw7⟩ : ∃ Y, Y = wr.alloc (.cells #[.int .i64 p.1, .int .i64 p.2] 110) := ⟨_, rfl⟩
      rw [← hw7] at hBp hba ⊢
      obtain ⟨Bp, hBpe⟩ : ∃ z, z = wr.heap.size := ⟨_, rfl⟩
      rw [← hBpe] at hBp ⊢
      have hb7 : Below wr.heap.size wr w7.drew := hba.trans ((Below.refl _ _).drew)
      have hdr : Below w7.heap.size w7 w7.drew := (Below.refl _ _).drew
      obtain ⟨V, hV⟩ : ∃ Y, Y = w7.drew := ⟨_, rfl⟩
      rw [← hV] at hb7 hdr
      have HJV := hide (abides_below HJ.out HJs.out hb7)
      have C1 := hide (c1.keep hb7)
      have C2 := hide (c2.keep hb7)
      have C3 := hide (c3.keep hb7)
      have CR := hide (cR.keep hb7)
      have CP := hide (hBp.keep hdr)
      have HKV := hide (HK.out.trans (KpC.below hb7))
      have hHeld : (fun w' : World => w'.cell? ⟨X2, 0, none⟩ = some (.int .i64 t) ∧ w'.cell? ⟨X3, 0, none⟩ = some (.int .i64 i) ∧ w'.cell? ⟨Bp, 0, none⟩ = some (.int .i64 p.1) ∧ w'.cell? ⟨Bp, 1, none⟩ = some (.int .i64 p.2) ∧ w'.cell? ⟨X1, 0, none⟩ = some (.pointer (some ⟨Rb, 0, none⟩)) ∧ w'.cell? ⟨Rb, 10, none⟩ = some (.int .i64 lim)) V :=
        ⟨C2.out.cell 0, C3.out.cell 0, CP.out.cell 0, CP.out.cell 1, C1.out.cell 0, CR.out.cell 10⟩
      have hwr : IntKind.i64.wrap ((lim : Int) - p.2) = (lim : Int) - p.2 := IntWalk.i64_in _ (by omega)
      clear c1 c2 c3 cR hba hBp hw7 hBpe hb7 hdr p0 p1
      refine wpIn_region_heldF 14 (S := fun w' : World => w'.cell? ⟨X2, 0, none⟩ = some (.int .i64 t) ∧ w'.cell? ⟨X3, 0, none⟩ = some (.int .i64 i) ∧ w'.cell? ⟨Bp, 0, none⟩ = some (.int .i64 p.1) ∧ w'.cell? ⟨Bp, 1, none⟩ = some (.int .i64 p.2) ∧ w'.cell? ⟨X1, 0, none⟩ = some (.pointer (some ⟨Rb, 0, none⟩)) ∧ w'.cell? ⟨Rb, 10, none⟩ = some (.int .i64 lim)) (by kernel_rfl) ?_
      rw [← hV]
      clear hV
      refine HeldIn.take (i := 0) (v := ?_) [0, 14, 15] (some 19) (by kernel_rfl) (by decide) (by decide) (by decide) (by kernel_rfl) rfl rfl rfl (by kernel_rfl) (by kernel_rfl) (by kernel_rfl) (fun _ _ _ h => h) (Or.inl ⟨by rfl, ?_⟩) (fun _ => rfl) (by assumption) ?_
      rotate_left
      · intro w hSw; (try dsimp only at hSw); obtain ⟨s1, s2, s3, s4, s5, s6⟩ := hSw; first | (go_simp; done) | (go_simp; with_reducible rfl)
      try simp only [Act.put, List.setIfInBounds_toArray, List.set_cons_zero, List.set_cons_succ]
      refine HeldIn.take (i := 1) (v := ?_) [1, 2, 13, 14, 15] (some 20) (by kernel_rfl) (by decide) (by decide) (by decide) (by kernel_rfl) rfl rfl rfl (by kernel_rfl) (by kernel_rfl) (by kernel_rfl) (fun _ _ _ h => h) (Or.inl ⟨by rfl, ?_⟩) (fun _ => rfl) (by assumption) ?_
      rotate_left
      · intro w hSw; (try dsimp only at hSw); obtain ⟨s1, s2, s3, s4, s5, s6⟩ := hSw; first | (go_simp; done) | (go_simp; with_reducible rfl)
      try simp only [Act.put, List.setIfInBounds_toArray, List.set_cons_zero, List.set_cons_succ]
      refine HeldIn.take (i := 2) (v := ?_) [2, 13, 14, 15] (some 21) (by kernel_rfl) (by decide) (by decide) (by decide) (by kernel_rfl) rfl rfl rfl (by kernel_rfl) (by kernel_rfl) (by kernel_rfl) (fun _ _ _ h => h) (Or.inl ⟨by rfl, ?_⟩) (fun _ => rfl) (by assumption) ?_
      rotate_left
      · intro w hSw; (try dsimp only at hSw); obtain ⟨s1, s2, s3, s4, s5, s6⟩ := hSw; first | (go_simp; done) | (go_simp; with_reducible rfl)
      try simp only [Act.put, List.setIfInBounds_toArray, List.set_cons_zero, List.set_cons_succ]
      refine HeldIn.take (i := 3) (v := ?_) [3, 13, 14, 15] (some 22) (by kernel_rfl) (by decide) (by decide) (by decide) (by kernel_rfl) rfl rfl rfl (by kernel_rfl) (by kernel_rfl) (by kernel_rfl) (fun _ _ _ h => h) (Or.inl ⟨by rfl, ?_⟩) (fun _ => rfl) (by assumption) ?_
      rotate_left
      · intro w hSw; (try dsimp only at hSw); obtain ⟨s1, s2, s3, s4, s5, s6⟩ := hSw; first | (go_simp; done) | (go_simp; with_reducible rfl)
      try simp only [Act.put, List.setIfInBounds_toArray, List.set_cons_zero, List.set_cons_succ]
      refine HeldIn.take (i := 4) (v := ?_) [4, 5, 13, 14, 15] (some 23) (by kernel_rfl) (by decide) (by decide) (by decide) (by kernel_rfl) rfl rfl rfl (by kernel_rfl) (by kernel_rfl) (by kernel_rfl) (fun _ _ _ h => h) (Or.inl ⟨by rfl, ?_⟩) (fun _ => rfl) (by assumption) ?_
      rotate_left
      · intro w hSw; (try dsimp only at hSw); obtain ⟨s1, s2, s3, s4, s5, s6⟩ := hSw; first | (go_simp; done) | (go_simp; with_reducible rfl)
      try simp only [Act.put, List.setIfInBounds_toArray, List.set_cons_zero, List.set_cons_succ]
      refine HeldIn.take (i := 5) (v := ?_) [5, 13, 14, 15] (some 24) (by kernel_rfl) (by decide) (by decide) (by decide) (by kernel_rfl) rfl rfl rfl (by kernel_rfl) (by kernel_rfl) (by kernel_rfl) (fun _ _ _ h => h) (Or.inl ⟨by rfl, ?_⟩) (fun _ => rfl) (by assumption) ?_
      rotate_left
      · intro w hSw; (try dsimp only at hSw); obtain ⟨s1, s2, s3, s4, s5, s6⟩ := hSw; first | (go_simp; done) | (go_simp; with_reducible rfl)
      try simp only [Act.put, List.setIfInBounds_toArray, List.set_cons_zero, List.set_cons_succ]
      refine HeldIn.take (i := 6) (v := ?_) [6, 7, 8, 9, 12, 13, 14, 15] (some 25) (by kernel_rfl) (by decide) (by decide) (by decide) (by kernel_rfl) rfl rfl rfl (by kernel_rfl) (by kernel_rfl) (by kernel_rfl) (fun _ _ _ h => h) (Or.inl ⟨by rfl, ?_⟩) (fun _ => rfl) (by assumption) ?_
      rotate_left
      · intro w hSw; (try dsimp only at hSw); obtain ⟨s1, s2, s3, s4, s5, s6⟩ := hSw; first | (go_simp; done) | (go_simp; with_reducible rfl)
      try simp only [Act.put, List.setIfInBounds_toArray, List.set_cons_zero, List.set_cons_succ]
      refine HeldIn.take (i := 7) (v := ?_) [7, 8, 9, 12, 13, 14, 15] (some 26) (by kernel_rfl) (by decide) (by decide) (by decide) (by kernel_rfl) rfl rfl rfl (by kernel_rfl) (by kernel_rfl) (by kernel_rfl) (fun _ _ _ h => h) (Or.inl ⟨by rfl, ?_⟩) (fun _ => rfl) (by assumption) ?_
      rotate_left
      · intro w hSw; (try dsimp only at hSw); obtain ⟨s1, s2, s3, s4, s5, s6⟩ := hSw; first | (go_simp; done) | (go_simp; with_reducible rfl)
      try simp only [Act.put, List.setIfInBounds_toArray, List.set_cons_zero, List.set_cons_succ]
      refine HeldIn.take (i := 8) (v := ?_) [8, 9, 12, 13, 14, 15] (some 27) (by kernel_rfl) (by decide) (by decide) (by decide) (by kernel_rfl) rfl rfl rfl (by kernel_rfl) (by kernel_rfl) (by kernel_rfl) (fun _ _ _ h => h) (Or.inl ⟨by rfl, ?_⟩) (fun _ => rfl) (by assumption) ?_
      rotate_left
      · intro w hSw; (try dsimp only at hSw); obtain ⟨s1, s2, s3, s4, s5, s6⟩ := hSw; first | (go_simp; done) | (go_simp; with_reducible rfl)
      try simp only [Act.put, List.setIfInBounds_toArray, List.set_cons_zero, List.set_cons_succ]
      refine HeldIn.take (i := 9) (v := ?_) [9, 12, 13, 14, 15] (some 28) (by kernel_rfl) (by decide) (by decide) (by decide) (by kernel_rfl) rfl rfl rfl (by kernel_rfl) (by kernel_rfl) (by kernel_rfl) (fun _ _ _ h => h) (Or.inl ⟨by rfl, ?_⟩) (fun _ => rfl) (by assumption) ?_
      rotate_left
      · intro w hSw; (try dsimp only at hSw); obtain ⟨s1, s2, s3, s4, s5, s6⟩ := hSw; first | (go_simp; done) | (go_simp; with_reducible rfl)
      try simp only [Act.put, List.setIfInBounds_toArray, List.set_cons_zero, List.set_cons_succ]
      refine HeldIn.take (i := 10) (v := ?_) [10, 11, 12, 13, 14, 15] (some 29) (by kernel_rfl) (by decide) (by decide) (by decide) (by kernel_rfl) rfl rfl rfl (by kernel_rfl) (by kernel_rfl) (by kernel_rfl) (fun _ _ _ h => h) (Or.inl ⟨by rfl, ?_⟩) (fun _ => rfl) (by assumption) ?_
      rotate_left
      · intro w hSw; (try dsimp only at hSw); obtain ⟨s1, s2, s3, s4, s5, s6⟩ := hSw; first | (go_simp; done) | (go_simp; with_reducible rfl)
      try simp only [Act.put, List.setIfInBounds_toArray, List.set_cons_zero, List.set_cons_succ]
      refine HeldIn.take (i := 11) (v := ?_) [11, 12, 13, 14, 15] (some 30) (by kernel_rfl) (by decide) (by decide) (by decide) (by kernel_rfl) rfl rfl rfl (by kernel_rfl) (by kernel_rfl) (by kernel_rfl) (fun _ _ _ h => h) (Or.inl ⟨by rfl, ?_⟩) (fun _ => rfl) (by assumption) ?_
      rotate_left
      · intro w hSw; (try dsimp only at hSw); obtain ⟨s1, s2, s3, s4, s5, s6⟩ := hSw; first | (go_simp; done) | (go_simp; with_reducible rfl)
      try simp only [Act.put, List.setIfInBounds_toArray, List.set_cons_zero, List.set_cons_succ]
      refine HeldIn.take (i := 12) (v := ?_) [12, 13, 14, 15] (some 31) (by kernel_rfl) (by decide) (by decide) (by decide) (by kernel_rfl) rfl rfl rfl (by kernel_rfl) (by kernel_rfl) (by kernel_rfl) (fun _ _ _ h => h) (Or.inl ⟨by rfl, ?_⟩) (fun _ => rfl) (by assumption) ?_
      rotate_left
      · intro w hSw; (try dsimp only at hSw); obtain ⟨s1, s2, s3, s4, s5, s6⟩ := hSw; first | (go_simp; done) | (go_simp; with_reducible rfl)
      try simp only [Act.put, List.setIfInBounds_toArray, List.set_cons_zero, List.set_cons_succ]
      refine HeldIn.take (i := 13) (v := ?_) [13, 14, 15] (some 32) (by kernel_rfl) (by decide) (by decide) (by decide) (by kernel_rfl) rfl rfl rfl (by kernel_rfl) (by kernel_rfl) (by kernel_rfl) (fun _ _ _ h => h) (Or.inl ⟨by rfl, ?_⟩) (fun _ => rfl) (by assumption) ?_
      rotate_left
      · intro w hSw; (try dsimp only at hSw); obtain ⟨s1, s2, s3, s4, s5, s6⟩ := hSw; first | (go_simp; done) | (go_simp; with_reducible rfl)
      try simp only [Act.put, List.setIfInBounds_toArray, List.set_cons_zero, List.set_cons_succ]
      obtain ⟨x, hxv⟩ : ∃ x : Cn (aftW ms st) (Ere R r) lim st.length t i xs, x.1 = chOf lim t i p := ⟨⟨chOf lim t i p, rfl, rfl, hps, by unfold chOf; simp only; omega, by unfold chOf; simp only; rw [Hnn.out]; exact Hsp2.out⟩, rfl⟩
      have hpl2 : pre.length < 577 := by
        have := congrArg List.length Hpre.out
        simp at this
        omega
      obtain ⟨fn, tmps, assign, body, hy, hR⟩ := HY.out pre x V HJV.out hpl2
      unfold encCn chV at hy
      rw [hxv] at hy
      unfold chOf at hy
      simp only at hy
      rw [show ((((lim : Int) - p.2).toNat : Nat) : Int) = (lim : Int) - p.2 by omega] at hy
      have HR := hide hR
      clear hR
      refine HeldIn.one (i := 14) (by kernel_rfl) rfl (by kernel_rfl) (by rfl) (fun K hK => ?_)
      have HK2 := hide hK
      clear hK
      unfold Oper.wpIn
      refine ⟨fun _ _ => trivial, ?_⟩
      rw [show Fence.wide.round = none from rfl, Oper.semAt_none]
      go_simp
      refine HR.out.mono ?_
      rintro e W3 (⟨rfl, hJ3, hk3⟩ | ⟨rfl, hJx3⟩)
      · have HJ3 := hide hJ3
        have Hk3 := hide (HKV.out.trans hk3)
        clear hJ3 hk3
        refine HK2.out _ _ ?_
        try simp only [Act.put, List.setIfInBounds_toArray, List.set_cons_zero, List.set_cons_succ]
        refine HeldIn.one (i := 15) (by kernel_rfl) rfl (by kernel_rfl) (by rfl) (fun K2 hK2 => ?_)
        have HK3 := hide hK2
        clear hK2
        unfold Oper.wpIn
        refine ⟨fun _ _ => trivial, ?_⟩
        rw [show Fence.wide.round = none from rfl, Oper.semAt_none]
        go_simp
        refine HK3.out _ _ (HeldIn.done (by kernel_rfl) ?_ _)
        try simp only [Act.put, List.setIfInBounds_toArray, List.set_cons_zero, List.set_cons_succ]
        gi_wp2
        go_roundw
        case rel => exact ⟨k + 1, pre ++ [x], by omega, by go_num, by rw [List.map_append, Hpre.out, List.take_add_one, Hpk.out]; simp [hxv], HJ3.out, Hk3.out⟩
        case measure => simp [intOf]; omega
      · have HJ3 := hide hJx3
        clear hJx3
        refine HK2.out _ _ ?_
        try simp only [Act.put, List.setIfInBounds_toArray, List.set_cons_zero, List.set_cons_succ]
        refine HeldIn.one (i := 15) (by kernel_rfl) rfl (by kernel_rfl) (by rfl) (fun K2 hK2 => ?_)
        have HK3 := hide hK2
        clear hK2
        unfold Oper.wpIn
        refine ⟨fun _ _ => trivial, ?_⟩
        rw [show Fence.wide.round = none from rfl, Oper.semAt_none]
        go_simp
        refine HK3.out _ _ (HeldIn.done (by kernel_rfl) ?_ _)
        try simp only [Act.put, List.setIfInBounds_toArray, List.set_cons_zero, List.set_cons_succ]
        gi_wp2
        refine bodyPost_ret (results_none rfl _ _ _) rfl ?_
        exact ⟨⟨_, rfl⟩, .inr ⟨pre ++ [x], by first | exact HJ3.out | exact ⟨trivial, HJ3.out⟩⟩⟩
/-- the maker's value: all changes of the method from the state, or the first of them -/
theorem changes_stops (n : Nat) (hn : 1 ≤ n) (X1 X2 X3 X4 : Nat) (w : World) (Rb g s0 gl : Nat) (ms : List Mk) (SA : Option Addr) (sn sc : Nat) (st : List Nat) (am rm bm : Nat) (v0 v1 v2 v3 v4 v5 v6 : Value) (lim : Nat) (h : RfS w Rb g s0 gl ms SA sn sc st am rm bm v0 v1 v2 v3 v4 v5 v6 lim) (B cr cb : Nat) (R : Chn → Option Nat) (rows : KP → Option RowC) (bk : KP → List Chn) (hk : KnS B w rm bm cr cb R rows bk)
    (hin : ∀ c, (R c).isSome = true → c.i < st.length ∧ c.j < st.length ∧ c.n ≤ lim) (hst : st.length ≤ 64) (hlim : lim ≤ 8) (X : Option Addr) (nX cX : Nat) (xs : List Int) (hx : Rd Enc.int w X nX cX xs) (hnX : nX ≤ 1000) (hxr : ∀ x ∈ xs, -1000 ≤ x ∧ x < 1000) (t i r : Nat) (ht : t ≤ 100) (hi : i < st.length) (hfull : ∀ c q, R c = some q → q < r → c ∈ bk (c.t, c.i))
    (PA : Option Addr) (pn pc : Nat) (h1 : Blk 101 w X1 [.pointer (some ⟨Rb, 0, none⟩)]) (h2 : Blk 116 w X2 [.int .i64 t, .slice PA pn pc, .slice X nX cX]) (h3 : Blk 3 w X3 [.int .i64 i]) (h4 : Blk 3 w X4 [.int .i64 r]) :
    SeqStopsK Fence.wide n Tryz.prog 142 #[.pointer (some ⟨X1, 0, none⟩), .pointer (some ⟨X2, 0, none⟩), .pointer (some ⟨X3, 0, none⟩), .pointer (some ⟨X4, 0, none⟩)] (encCn (aft := aftW ms st) (G := Ere R r) (lim := lim) (nS := st.length) (t := t) (i := i) (xs := xs)) KpC
      (fun ys => ∀ c : Chn, c.t = t → c.i = i → c.n ≤ lim → SpR (aftW ms st) (Ere R r) xs i c.n c.j → c ∈ ys.map (·.1)) (fun _ => True) 577 w := fun l J Jx W hW hJ hJx hY h0 =>
  changes1_in n hn l X1 X2 X3 X4 w W Rb g s0 gl ms SA sn sc st am rm bm v0 v1 v2 v3 v4 v5 v6 lim h B cr cb R rows bk hk hin hst hlim X nX cX xs hx hnX hxr t i r ht hi hfull PA pn pc h1 h2 h3 h4 J Jx hW hJ hJx hY h0
set_option maxHeartbeats 1600000 in
/-- the maker: its values boxed -/
theorem changes_ct (Rb t i r : Nat) (PA : Option Addr) (pn pc : Nat) (X : Option Addr) (nX cX : Nat) (w : World) :
    Calls Tryz.prog 110 #[.pointer (some ⟨Rb, 0, none⟩), .agg #[.int .i64 t, .slice PA pn pc, .slice X nX cX], .int .i64 i, .int .i64 r] w fun e w' => e = .returned (.func (.func 142) #[] #[.pointer (some ⟨w.heap.size, 0, none⟩), .pointer (some ⟨w.heap.size + 1, 0, none⟩), .pointer (some ⟨w.heap.size + 1 + 1, 0, none⟩), .pointer (some ⟨w.heap.size + 1 + 1 + 1, 0, none⟩)]) ∧
      w' = (((w.alloc (.cells #[.pointer (some ⟨Rb, 0, none⟩)] 101)).alloc (.cells #[.int .i64 t, .slice PA pn pc, .slice X nX cX] 116)).alloc (.cells #[.int .i64 i] 3)).alloc (.cells #[.int .i64 r] 3) := by
  go_enter Tryz.func110, Tryz.ntmps110
  go_wp2
  go_ret
  exact ⟨rfl, rfl⟩
end Go.Proofs.YtmjiiddncbhgpaaGreat
namespace Go.Proofs.YtmjiiddncbhgpaaGreat
set_option linter.unusedVariables false
set_option linter.unusedSimpArgs false
open Go.RowKit Go.Shelf Go.Maps
theorem ixF_snoc : ∀ (l : List Nat) (x s : Nat), x ∉ l → ixF (l ++ [x]) s = if s = x then some l.length else ixF l s
  | [], x, s, _ => by
    unfold ixF
    by_cases e : x = s
    · subst e; simp
    · have e2 : ¬ s = x := fun h => e h.symm
      simp [e, e2, ixF]
  | y :: l, x, s, h => by
    have h1 : x ≠ y := fun e => h (by rw [e]; exact List.mem_cons_self)
    have h2 : x ∉ l := fun e => h (List.mem_cons_of_mem _ e)
    rw [List.cons_append]
    unfold ixF
    rw [ixF_snoc l x s h2]
    by_cases e : y = s
    · subst e
      have e2 : ¬ y = x := fun h => h1 h.symm
      simp [e2]
    · rw [if_neg e, if_neg e]
      by_cases e2 : s = x
      · simp [e2]
      · simp [e2]
theorem not_take {st : List Nat} (hn : st.Nodup) {k s : Nat} (h : st[k]? = some s) : s ∉ st.take k := fun hm => by
  obtain ⟨q, hq, e⟩ := List.getElem_of_mem hm
  have hq2 : q < k ∧ q < st.length := by rw [List.length_take] at hq; omega
  rw [List.getElem_take] at e
  have h1 : st[q]? = some s := by rw [List.getElem?_eq_getElem hq2.2, e]
  have h2 := (List.getElem?_inj hq2.2 hn).1 (h1.trans h.symm)
  omega
set_option maxRecDepth 100000 in
set_option maxHeartbeats 6400000 in
theorem newRefiner_ct (v0 v1 v2 v3 v4 v5 v6 : Value) (g s0 gl : Nat) (ms : List Mk) (SA : Option Addr) (sn sc : Nat) (st : List Nat) (lim : Nat) (w : World) (hw : WordsR w g s0 gl ms) (hst : Rd Enc.word w SA sn sc st) (hon : st.Nodup) (hfe : st.length ≤ 2000) (hal : ∀ s ∈ st, ∀ x ∈ stepsW 0 ms s, x.2.2 ∈ st) :
    Calls Tryz.prog 63 #[.agg #[v0, v1, v2, v3, v4, v5, v6], .pointer (some ⟨g, 0, none⟩), .slice SA sn sc, .int .i64 lim] w (fun e w' => Below w.heap.size w w' ∧ ∃ Rb am rm bm, e = .returned (.pointer (some ⟨Rb, 0, none⟩)) ∧ (w.heap.size ≤ am ∧ am < rm ∧ rm < bm ∧ bm < Rb) ∧ RfS w' Rb g s0 gl ms SA sn sc st am rm bm v0 v1 v2 v3 v4 v5 v6 lim ∧ KnS w.heap.size w' rm bm 0 0 (fun _ => none) (fun _ => none) (fun _ => [])) := by
  have hsl := hst.len
  have hcap := hst.low
  have hmm := @run_makeMap Tryz.prog
  have Hw := hide hw
  have Hst := hide hst
  have Hon := hide hon
  have Hfe := hide hfe
  have Hal := hide hal
  clear hw hst hon hfe hal
  go_enter Tryz.func63, Tryz.ntmps63
  go_upto_region 2 with (fail)
  have nR := Blk.new (((((w.alloc (.cells #[v0, v1, v2, v3, v4, v5, v6] 50))).alloc (.map #[] 0)).alloc (.map #[] 0)).alloc (.map #[] 0)) 107 [v0, v1, v2, v3, v4, v5, v6, .pointer (some ⟨g, 0, none⟩), .slice SA sn sc, .map (some (w.heap.size + 1)), .int .i64 lim, .map (some (w.heap.size + 1 + 1)), .map (some (w.heap.size + 1 + 1 + 1))]
  have m1 := (((MapV.made (κ := Nat) (w.alloc (.cells #[v0, v1, v2, v3, v4, v5, v6] 50)) Tryz.prog 78 encW).alloc (.map #[] 0)).alloc (.map #[] 0)).alloc (.cells #[v0, v1, v2, v3, v4, v5, v6, .pointer (some ⟨g, 0, none⟩), .slice SA sn sc, .map (some (w.heap.size + 1)), .int .i64 lim, .map (some (w.heap.size + 1 + 1)), .map (some (w.heap.size + 1 + 1 + 1))] 107)
  have m2 := ((MapV.made (κ := Chn) (((w.alloc (.cells #[v0, v1, v2, v3, v4, v5, v6] 50))).alloc (.map #[] 0)) Tryz.prog 176 chV).alloc (.map #[] 0)).alloc (.cells #[v0, v1, v2, v3, v4, v5, v6, .pointer (some ⟨g, 0, none⟩), .slice SA sn sc, .map (some (w.heap.size + 1)), .int .i64 lim, .map (some (w.heap.size + 1 + 1)), .map (some (w.heap.size + 1 + 1 + 1))] 107)
  have m3 := (MapV.made (κ := KP) ((((w.alloc (.cells #[v0, v1, v2, v3, v4, v5, v6] 50))).alloc (.map #[] 0)).alloc (.map #[] 0)) Tryz.prog 177 kpV).alloc (.cells #[v0, v1, v2, v3, v4, v5, v6, .pointer (some ⟨g, 0, none⟩), .slice SA sn sc, .map (some (w.heap.size + 1)), .int .i64 lim, .map (some (w.heap.size + 1 + 1)), .map (some (w.heap.size + 1 + 1 + 1))] 107)
  have hbz : Below w.heap.size w ((((((w.alloc (.cells #[v0, v1, v2, v3, v4, v5, v6] 50))).alloc (.map #[] 0)).alloc (.map #[] 0)).alloc (.map #[] 0)).alloc (.cells #[v0, v1, v2, v3, v4, v5, v6, .pointer (some ⟨g, 0, none⟩), .slice SA sn sc, .map (some (w.heap.size + 1)), .int .i64 lim, .map (some (w.heap.size + 1 + 1)), .map (some (w.heap.size + 1 + 1 + 1))] 107)) := (((((Below.refl _ w).alloc (Nat.le_refl _) _).alloc (by simp only [World.size_alloc]; omega) _).alloc (by simp only [World.size_alloc]; omega) _).alloc (by simp only [World.size_alloc]; omega) _).alloc (by simp only [World.size_alloc]; omega) _
  change Blk 107 ((((((w.alloc (.cells #[v0, v1, v2, v3, v4, v5, v6] 50))).alloc (.map #[] 0)).alloc (.map #[] 0)).alloc (.map #[] 0)).alloc (.cells #[v0, v1, v2, v3, v4, v5, v6, .pointer (some ⟨g, 0, none⟩), .slice SA sn sc, .map (some (w.heap.size + 1)), .int .i64 lim, .map (some (w.heap.size + 1 + 1)), .map (some (w.heap.size + 1 + 1 + 1))] 107)) _ _ at nR
  simp only [World.size_alloc] at nR m1 m2 m3
  obtain ⟨Z, hZ⟩ : ∃ z, z = w.heap.size := ⟨_, rfl⟩
  obtain ⟨w5, hw5⟩ : ∃ Y, Y = (((((w.alloc (.cells #[v0, v1, v2, v3, v4, v5, v6] 50))).alloc (.map #[] 0)).alloc (.map #[] 0)).alloc (.map #[] 0)).alloc (.cells #[v0, v1, v2, v3, v4, v5, v6, .pointer (some ⟨g, 0, none⟩), .slice SA sn sc, .map (some (w.heap.size + 1)), .int .i64 lim, .map (some (w.heap.size + 1 + 1)), .map (some (w.heap.size + 1 + 1 + 1))] 107) := ⟨_, rfl⟩
  rw [← hw5] at nR m1 m2 m3 hbz ⊢
  rw [← hZ] at nR m1 m2 m3 ⊢
  have NR := hide nR
  have M1 := hide m1
  have M2 := hide m2
  have M3 := hide m3
  have Hbz := hide hbz
  have HZ := hide hZ
  clear hw5 nR m1 m2 m3 hbz hZ
  go_wp2_with fail
  go_loopw [23] (fun o wr => ∃ k : Nat, k ≤ sn ∧ o = .int .i64 k ∧ Below w.heap.size w wr ∧ Blk 107 wr (Z + 1 + 1 + 1 + 1) [v0, v1, v2, v3, v4, v5, v6, .pointer (some ⟨g, 0, none⟩), .slice SA sn sc, .map (some (Z + 1)), .int .i64 lim, .map (some (Z + 1 + 1)), .map (some (Z + 1 + 1 + 1))] ∧ MapV Tryz.prog 78 encW wr (Z + 1) k (fun s => (ixF (st.take k) s).map fun q => Value.int .i64 (q : Int)) ∧ MapV Tryz.prog 176 chV wr (Z + 1 + 1) 0 (fun _ => none) ∧ MapV Tryz.prog 177 kpV wr (Z + 1 + 1 + 1) 0 (fun _ => none)) (fun o _ => sn - (intOf o).toNat)
  case atStart => exact ⟨0, by omega, rfl, Hbz.out, NR.out, M1.out.ext (fun k => by simp [ixF]), M2.out, M3.out⟩
  case round =>
    obtain ⟨k, hkn, rfl, hb, hR, hm1, hm2, hm3⟩ := hrel
    have Hb := hide hb
    have HR := hide hR
    have HM1 := hide hm1
    have HM2 := hide hm2
    have HM3 := hide hm3
    clear hb hR hm1 hm2 hm3
    by_cases hlt : k < sn
    rotate_left
    · obtain rfl : k = sn := by omega
      go_wp2_with fail
      go_ret
      refine ⟨Hb.out, Z + 1 + 1 + 1 + 1, Z + 1, Z + 1 + 1, Z + 1 + 1 + 1, rfl, ⟨by have := HZ.out; omega, by omega, by omega, by omega⟩, ⟨HR.out, Hw.out.keep Hb.out, Hst.out.keep Hb.out, ?_, Hon.out, Hfe.out, Hal.out⟩, ⟨HM2.out.ext (fun x => rfl), ⟨HM3.out.ext (fun x => rfl), fun _ _ => rfl, fun _ _ e => (by cases e), fun _ _ _ _ _ e => (by cases e)⟩, fun _ _ _ e => by cases e⟩⟩
      have h1 := HM1.out
      rw [List.take_of_length_le (by omega)] at h1
      rw [hsl]
      exact h1
    · have hki : (k : Int) < (sn : Int) := by omega
      obtain ⟨sb, so, s, eA, hs, hs32, hcS⟩ := (Hst.out.keep Hb.out).word (k := k) hlt
      subst eA
      have Hs := hide hs
      clear hs
      go_upto_region 5 with (fail)
      have r9 := HR.out.cell 9
      simp only [List.getElem?_cons_zero, List.getElem?_cons_succ] at r9
      have hni : s ∉ st.take k := not_take Hon.out Hs.out
      have hmV := HM1.out
      obtain ⟨w6, hput, hm6, hg6, hz6⟩ := hmV.put encW_inj (int_keyed Tryz.underlying78) (T := 103) (E := 3) Tryz.underlying103 (by have := Hfe.out; omega) (key := s) (keyW Tryz.underlying78 hs32) (.int .i64 k)
      have hno : ixF (st.take k) s = none := by
        rcases hq : ixF (st.take k) s with _ | q
        · rfl
        · exact absurd (List.mem_of_getElem? (ixF_some _ _ _ hq)) hni
      simp only [hno, Option.map_none, Option.isSome_none, Bool.false_eq_true, if_false] at hm6
      unfold encW at hput
      have hR6 := HR.out.grown hg6 (fun e => by injection e with e; omega)
      have hc6 : Chg (fun b => b = Z + 1) wr w6 := (Chg.of_grown hg6).mono fun b e => by injection e with e; exact e.symm
      have q9 := hR6.cell 9
      simp only [List.getElem?_cons_zero, List.getElem?_cons_succ] at q9
      have HR6 := hide hR6
      have Hm6 := hide hm6
      have Hc6 := hide hc6
      clear hR6 hm6 hc6 hg6 hz6 hmV hni hno
      go_wp2_with fail
      go_roundw
      case rel =>
        refine ⟨k + 1, by omega, by go_num, Hb.out.trans (Hc6.out.below (fun b e => by have := HZ.out; omega) Hb.out.size), HR6.out, Hm6.out.ext (fun y => ?_), HM2.out.chg Hc6.out (by omega), HM3.out.chg Hc6.out (by omega)⟩
        rw [List.take_add_one, Hs.out]
        simp only [Option.toList_some]
        have hni2 : s ∉ st.take k := not_take Hon.out Hs.out
        rw [ixF_snoc _ _ _ hni2]
        unfold putV
        by_cases e : y = s
        · simp [e]
          omega
        · simp [e]
      case measure => simp [intOf]; omega
end Go.Proofs.YtmjiiddncbhgpaaGreat
namespace Go.Proofs.YtmjiiddncbhgpaaGreat
set_option linter.unusedVariables false
set_option linter.unusedSimpArgs false
open Go.RowKit Go.Shelf Go.Maps
/-- a row of changes of the call's own -/
def RowCh (B : Nat) (w : World) (A : Option Addr) (n c : Nat) (xs : List Chn) : Prop := ∃ vs, OwnE Enc.chn 176 B (fun _ => True) w A n c vs xs
section
variable {B : Nat} {w w' : World} {A : Option Addr} {n c : Nat} {xs : List Chn}
theorem RowCh.nil (B : Nat) (w : World) : RowCh B w none 0 0 [] := ⟨_, OwnE.nil _ _ _ _ _⟩
theorem RowCh.len (h : RowCh B w A n c xs) : xs.length = n := let ⟨_, k⟩ := h; k.len
theorem RowCh.rd (h : RowCh B w A n c xs) : Rd Enc.chn w A n c xs := let ⟨_, k⟩ := h; k.rd
theorem RowCh.chg {M : Nat → Prop} (h : RowCh B w A n c xs) (hc : Chg M w w') (hA : ∀ r, blkA A = some r → ¬ M r) : RowCh B w' A n c xs := let ⟨_, k⟩ := h; ⟨_, k.chg hc (fun _ _ => trivial) hA⟩
theorem RowCh.keep (h : RowCh B w A n c xs) (hb : Below w.heap.size w w') : RowCh B w' A n c xs := let ⟨_, k⟩ := h; ⟨_, k.keep hb⟩
theorem RowCh.base (h : RowCh B w A n c xs) {r : Nat} (hr : blkA A = some r) : B ≤ r ∧ r < w.heap.size := let ⟨_, k⟩ := h; k.base hr
theorem RowCh.cells (h : RowCh B w A n c xs) {r : Nat} (hr : blkA A = some r) : ∃ cs m, w.heap[r]? = some (.cells cs 176 m) := by
  obtain ⟨vs, h⟩ := h
  rcases h.own.2 with ⟨e, _⟩ | ⟨q, cap, cur, e, _, hc, _⟩
  · injection e with e1 e2 e3
    subst e1
    cases hr
  · injection e with e1 e2 e3
    subst e1
    obtain rfl : q = r := by simpa [blkA] using hr
    exact ⟨_, _, hc⟩
theorem RowCh.neT {t : TypeId} {g : Nat} {cs : List Value} (h : RowCh B w A n c xs) (k : Blk t w g cs) (ht : 176 ≠ t) {r : Nat} (hr : blkA A = some r) : r ≠ g := fun e => by
  subst e
  obtain ⟨cs', m, hc⟩ := h.cells hr
  unfold Blk at k
  rw [hc] at k
  injection k with k
  injection k with _ k _
  exact ht k
end
/-- one change more, in a round of a range over a function -/
theorem wpListIn_pushCh {F : Fence} {nF : Nat} {w : World} {ops : Array Oper} {rest : List Oper} {o : Oper} {a : Act} {Q : Exit → Act → World → Prop} (hgd : o.guard = none) (s x : Operand)
    (ho : o.op = .call { callee := .builtin .append, args := #[s, x], argTypes := #[172, 172] })
    {B : Nat} {A : Option Addr} {n c : Nat} {xs : List Chn} (hs : a.eval s = .slice A n c) (hown : RowCh B w A n c xs) (y : Chn) (hy : ChOk y) (hx : a.eval x = .slice (some ⟨w.heap.size, 0, none⟩) 1 1) (hn : n ≤ 1000000) (hbase : B ≤ w.heap.size)
    (h : ∀ O oc w', RowCh B w' O (n + 1) oc (xs ++ [y]) → Chg (fun b => blkA A = some b) w w' → (blkA O = blkA A ∨ blkA O = some (w.heap.size + 1)) → wpListIn F nF Tryz.prog ops Q rest (a.put o.dst (.slice O (n + 1) oc)) w') :
    wpListIn F nF Tryz.prog ops Q (o :: rest) a (w.alloc (.cells #[.int .i64 y.t, .int .i64 y.i, .int .i64 y.j, .int .i64 y.n] 176)) := by
  obtain ⟨i1, hi1, hy0, hy1, hy2⟩ := info_parts chInfo
  obtain ⟨vs, hown⟩ := hown
  exact wpListIn_pushE hgd s x 172 ho B 176 i1 (.agg #[.int .i64 0, .int .i64 0, .int .i64 0, .int .i64 0]) 32 Tryz.underlying172 hi1 hy0 hy1 hy2 rfl (by decide) hs hown (fun _ _ => trivial) (chC y) y (by intro u hu; simp only [chC, List.mem_cons, List.not_mem_nil, or_false] at hu; rcases hu with rfl | rfl | rfl | rfl <;> rfl) hx (firm_chn hy) (by omega) (by omega) hbase
    fun O oc w' hown' hch hat => h O oc w' ⟨_, hown'.less fun _ _ _ => .inl trivial⟩ ((Chg.of_below ((Below.refl w.heap.size w).alloc (Nat.le_refl _) _) _).trans (Chg.of_grown hch)) hat
theorem ByS.pushE {B bb cnt cnt' : Nat} {w w2 w3 : World} {rows : KP → Option RowC} {bk : KP → List Chn} (h : ByS B w bb cnt rows bk) (t : KP) {y : Chn} {O : Option Addr} {oc : Nat} {vs : List Value}
    (hown : OwnE Enc.chn 176 B (fun _ => True) w2 O ((rowAtC rows t).n + 1) oc vs (bk t ++ [y])) (hch : Chg (fun b => b = bb ∨ blkA (rowAtC rows t).A = some b) w w2) (hat : blkA O = blkA (rowAtC rows t).A ∨ ∃ r, blkA O = some r ∧ w.heap.size ≤ r)
    (hmap3 : MapV Tryz.prog 177 kpV w3 bb cnt' (putV (fun t => (rows t).map RowC.v) t (.slice O ((rowAtC rows t).n + 1) oc))) (hg3 : w2.grownBy w3 (some bb)) :
    ByS B w3 bb cnt' (updK rows t (some ⟨O, (rowAtC rows t).n + 1, oc⟩)) (updK bk t (bk t ++ [y])) ∧ Chg (ByM bb rows) w w3 ∧ (∀ b, ByM bb (updK rows t (some ⟨O, (rowAtC rows t).n + 1, oc⟩)) b → ByM bb rows b ∨ w.heap.size ≤ b) := by
  have hA : ∀ g, blkA (rowAtC rows t).A = some g → ∃ r, rows t = some r ∧ blkA r.A = some g := fun g hg => by
    unfold rowAtC at hg
    cases hr : rows t with
    | none => rw [hr] at hg; cases hg
    | some r => rw [hr] at hg; exact ⟨r, rfl, hg⟩
  have hbbn : ¬ blkA (rowAtC rows t).A = some bb := fun e => by
    obtain ⟨r, hr, e2⟩ := hA bb e
    exact h.nbb hr e2
  have hch3 : Chg (fun b => b = bb) w2 w3 := (Chg.of_grown hg3).mono fun b e => (by injection e with e; exact e.symm)
  have hbbl := h.map.lt
  have hOb : ∀ g, blkA O = some g → g ≠ bb := fun g hg => by
    rcases hat with e | ⟨r, e, hle⟩
    · rw [e] at hg
      rintro rfl
      exact hbbn hg
    · rw [e] at hg
      injection hg with hg
      omega
  have hrowlt : ∀ t' r' g, rows t' = some r' → blkA r'.A = some g → g < w.heap.size := fun t' r' g hr' hg => by
    obtain ⟨vs', ho'⟩ := h.row t' r' hr'
    exact (ho'.base hg).2
  refine ⟨⟨hmap3.ext fun x => ?_, fun x hx => ?_, fun x r hr => ?_, fun x x' r r' g hr hr' hne hg => ?_⟩, ?_, fun b hb => ?_⟩
  · unfold putV updK
    split <;> rfl
  · unfold updK at hx ⊢
    split at hx
    · cases hx
    · rename_i e
      rw [if_neg e]
      exact h.none x hx
  · by_cases hxt : x = t
    · subst hxt
      rw [updK_same] at hr ⊢
      injection hr with hr
      subst hr
      exact ⟨vs, hown.chg hch3 (fun _ _ => trivial) (fun g hg e => hOb g hg e)⟩
    · rw [updK_other _ _ hxt] at hr ⊢
      obtain ⟨vs', ho'⟩ := h.row x r hr
      refine ⟨vs', (ho'.chg hch (fun _ _ => trivial) (fun g hg e => ?_)).chg hch3 (fun _ _ => trivial) (fun g hg e => h.nbb hr (by rw [hg, e]))⟩
      rcases e with e | e
      · exact h.nbb hr (by rw [hg, e])
      obtain ⟨r0, hr0, e2⟩ := hA g e
      exact h.apart t x r0 r g hr0 hr (fun e3 => hxt e3.symm) e2 hg
  · have fresh : ∀ g, blkA O = some g → (∃ r0, rows t = some r0 ∧ blkA r0.A = some g) ∨ w.heap.size ≤ g := fun g hg => by
      rcases hat with e | ⟨r, e, hle⟩
      · rw [e] at hg
        exact .inl (hA g hg)
      · rw [e] at hg
        injection hg with hg
        exact .inr (by omega)
    by_cases hxt : x = t
    · subst hxt
      have hx' : x' ≠ x := fun e => hne e.symm
      rw [updK_same] at hr
      rw [updK_other _ _ hx'] at hr'
      injection hr with hr
      subst hr
      intro e
      rcases fresh g hg with ⟨r0, hr0, e2⟩ | hle
      · exact h.apart x x' r0 r' g hr0 hr' hne e2 e
      · have := hrowlt x' r' g hr' e
        omega
    · rw [updK_other _ _ hxt] at hr
      by_cases hx't : x' = t
      · subst hx't
        rw [updK_same] at hr'
        injection hr' with hr'
        subst hr'
        intro e
        rcases fresh g e with ⟨r0, hr0, e2⟩ | hle
        · exact h.apart x' x r0 r g hr0 hr (fun e3 => hxt e3.symm) e2 hg
        · have := hrowlt x r g hr hg
          omega
      · rw [updK_other _ _ hx't] at hr'
        exact h.apart x x' r r' g hr hr' hne hg
  · refine (hch.mono fun b e => ?_).trans (hch3.mono fun b e => .inl e)
    rcases e with e | e
    · exact .inl e
    obtain ⟨r0, hr0, e2⟩ := hA b e
    exact .inr ⟨t, r0, hr0, e2⟩
  · rcases hb with e | ⟨x, r, hr, e⟩
    · exact .inl (.inl e)
    · by_cases hxt : x = t
      · subst hxt
        rw [updK_same] at hr
        injection hr with hr
        subst hr
        rcases hat with e3 | ⟨r2, e3, hle⟩
        · simp only at e
          rw [e3] at e
          obtain ⟨r0, hr0, e2⟩ := hA b e
          exact .inl (.inr ⟨x, r0, hr0, e2⟩)
        · simp only at e
          rw [e3] at e
          injection e with e
          exact .inr (by omega)
      · rw [updK_other _ _ hxt] at hr
        exact .inl (.inr ⟨x, r, hr, e⟩)
/-- one element more in a region that draws, the literal made ahead -/
theorem step_pushG {α : Type} {E : Enc α} {P : Program} {w : World} {ops : Array Oper} {o : Oper} {a : Act} {K : Act → World → Prop} {Q : Exit → Act → World → Prop} {X : Prop} (hgd : o.guard = none) (s x : Operand) (t : TypeId)
    (ho : o.op = .call { callee := .builtin .append, args := #[s, x], argTypes := #[t, t] })
    (base : Nat) (e : TypeId) (i : TypeInfo) (z : Value) (bytes : Nat) (ht : P.underlying t = some (.slice e)) (hi : P.info? e = some i) (hz : i.zero = some z)
    (hsize : i.size = E.size) (hby : i.bytes = bytes) (hzs : z.cells.size = E.size) (hsz : 0 < E.size)
    {A : Option Addr} {n c : Nat} {M : Nat → Prop} {vs : List Value} {xs : List α} (hs : a.eval s = .slice A n c) (hown : OwnE E e base M w A n c vs xs) (hA : ∀ r, blkA A = some r → M r)
    (L : Nat) (us : List Value) (y : α) (hL : Blk e w L us) (h1 : ∀ u ∈ us, u.oneCell' = true) (hx : a.eval x = .slice (some ⟨L, 0, none⟩) 1 1) (hf : Firm E M w us y)
    (h63 : n + 1 ≤ 1000000000000) (hbytes : (n + 1) * bytes ≤ 140737488355328) (hbase : base ≤ w.heap.size)
    (h : ∀ O oc w', OwnE E e base (fun b => M b ∨ w.heap.size ≤ b) w' O (n + 1) oc (vs ++ us) (xs ++ [y]) → Chg (fun b => blkA A = some b) w w' → (blkA O = blkA A ∨ blkA O = some w.heap.size) → K (a.put o.dst (.slice O (n + 1) oc)) w') :
    if Region.wanted o (yielded ops a.tmps) = true then Oper.wp P o a w K Q else X := by
  have hus : us.length = E.size := E.len hf.ok
  have hw : Region.wanted o (yielded ops a.tmps) = true := by simp [Region.wanted, hgd]
  rw [if_pos hw]
  obtain ⟨g, cap', w', hr, h2, h3, h4, h5⟩ := run_append_lies (P := P) (w := w) t o.type base e i z E.size bytes ht hi hz hsize hby hzs hsz _ n vs hown.own ⟨L, 0, none⟩ 1 1 us (by omega) (by
    intro j u hj
    rw [add_plain, Nat.zero_add]
    have := hL.cell j
    rw [hj] at this
    exact this) h1 (by omega) (by unfold maxLen; omega) hbytes hbase w.heap.size (by simp)
  unfold Oper.wp execOp
  simp only [ho, resolve, invoke, builtin, Sem.run_bind, Sem.run_pure, Result.andThen_ok, List.map_toArray, List.map_cons, List.map_nil, hs, hx, hr]
  have hg : w.grownBy w' (blkA A) := by rw [← own_blkA A n c]; exact h3
  have hch : Chg (fun b => blkA A = some b) w w' := Chg.of_grown hg
  refine h (some ⟨g, 0, none⟩) cap' w' ⟨h2, by rw [List.length_append, hown.len]; rfl, fun j u hj => ?_⟩ hch ?_
  · rcases Nat.lt_or_ge j n with hjn | hjn
    · rw [List.getElem?_append_left (by rw [hown.len]; exact hjn)] at hj
      obtain ⟨us', e1, e2⟩ := hown.elem j u hj
      refine ⟨us', fun k v hk => ?_, e2.chg (hch.mono hA)⟩
      have := e1 k v hk
      rw [List.getElem?_append_left (List.getElem?_eq_some_iff.1 this).1]
      exact this
    · rw [List.getElem?_append_right (by rw [hown.len]; exact hjn), hown.len] at hj
      have hjn2 : j = n := by
        have := (List.getElem?_eq_some_iff.1 hj).1
        simp at this
        omega
      subst hjn2
      simp at hj
      subst hj
      refine ⟨us, fun k v hk => ?_, hf.chg (hch.mono hA)⟩
      rw [List.getElem?_append_right (by rw [hown.vlen]; omega), hown.vlen, Nat.add_sub_cancel_left]
      exact hk
  · rw [own_blkA] at h4
    rcases h4 with h4 | h4
    · exact .inl h4.symm
    · exact .inr (by rw [h4]; rfl)
/-! ### What is kept -/
theorem KpC.of_chg {A B : World} {M : Nat → Prop} (h : Chg M A B) (hM : ∀ b, M b → ∀ cs t m, A.heap[b]? = some (Obj.cells cs t m) → t = 176 ∨ t = 172) : KpC A B :=
  ⟨h.size, fun b cs t m e h1 h2 => h.block b (Array.getElem?_eq_some_iff.1 e).1 fun hb => by
    rcases hM b hb cs t m e with e2 | e2
    · exact h1 e2
    · exact h2 e2⟩
theorem KpC.turn {A B : World} {row : Option Nat} {L : Nat} (hg : A.grownBy B row) (hr : ∀ r, row = some r → L ≤ r ∧ ∃ o : Obj, A.heap[r]? = some o ∧ o.isCells = false) : KpC A B :=
  KpC.of_chg (Chg.of_grown hg) fun b hb cs t m e => by
    obtain ⟨_, o, ho, hc⟩ := hr b hb
    rw [e] at ho
    cases ho
    cases hc
/-- what stands in memory: the refiner, its map of states, what is known; the marks of the ranges that are over -/
structure ClB (w0 : World) (Rb am rm bm : Nat) (vs : List Value) (st : List Nat) (cr cb : Nat) (R : Chn → Option Nat) (rows : KP → Option RowC) (bk : KP → List Chn) (Ds : List Nat) (W : World) : Prop where
  low : Below w0.heap.size w0 W
  rf : Blk 107 W Rb vs
  atm : MapV Tryz.prog 78 encW W am st.length (fun s => (ixF st s).map fun k => Value.int .i64 (k : Int))
  kn : KnS w0.heap.size W rm bm cr cb R rows bk
  lo : w0.heap.size ≤ am ∧ am < rm ∧ rm < bm ∧ bm < Rb
  mks : ∀ D ∈ Ds, w0.heap.size ≤ D ∧ W.heap[D]? = some (.deferred (some []))
  nd : Ds.Nodup
/-- the fresh changes of a round: their box, their row -/
structure FrS (B : Nat) (bm : Nat) (rows : KP → Option RowC) (Fb : Nat) (A : Option Addr) (n c : Nat) (fr : List Chn) (W : World) : Prop where
  fb : Blk 172 W Fb [.slice A n c]
  row : RowCh B W A n c fr
  ap : ∀ g, blkA A = some g → ¬ ByM bm rows g
  lo : B ≤ Fb
section
variable {w0 : World} {Rb am rm bm : Nat} {vs : List Value} {st : List Nat} {cr cb : Nat} {R : Chn → Option Nat} {rows : KP → Option RowC} {bk : KP → List Chn} {Ds : List Nat} {W W' : World} {Fb : Nat} {A : Option Addr} {n c : Nat} {fr : List Chn}
theorem ByS.mcells {B bb cnt : Nat} (h : ByS B W bb cnt rows bk) {b : Nat} (hb : ByM bb rows b) : b = bb ∨ ∃ cs m, W.heap[b]? = some (.cells cs 176 m) := by
  rcases hb with e | ⟨t, r, hr, e⟩
  · exact .inl e
  · obtain ⟨us, ho⟩ := h.row t r hr
    exact .inr (RowCh.cells (A := r.A) (n := r.n) (c := r.c) ⟨us, ho⟩ e)
theorem ByS.base {B bb cnt : Nat} (h : ByS B W bb cnt rows bk) {b : Nat} (hb : ByM bb rows b) : b = bb ∨ B ≤ b := by
  rcases hb with e | ⟨t, r, hr, e⟩
  · exact .inl e
  · obtain ⟨us, ho⟩ := h.row t r hr
    exact .inr (ho.base e).1
theorem KnS.chg {B : Nat} {M : Nat → Prop} (h : KnS B W rm bm cr cb R rows bk) (hc : Chg M W W') (n1 : ¬ M rm) (n2 : ∀ b, ByM bm rows b → ¬ M b) : KnS B W' rm bm cr cb R rows bk := ⟨h.rnd.chg hc n1, h.by_.chg hc n2, h.own⟩
theorem ClB.chg {M : Nat → Prop} (h : ClB w0 Rb am rm bm vs st cr cb R rows bk Ds W) (hc : Chg M W W') (hM : ∀ i, M i → w0.heap.size ≤ i) (n1 : ¬ M Rb) (n2 : ¬ M am) (n3 : ¬ M rm) (n4 : ∀ b, ByM bm rows b → ¬ M b) (n5 : ∀ D ∈ Ds, ¬ M D) : ClB w0 Rb am rm bm vs st cr cb R rows bk Ds W' :=
  ⟨h.low.trans (hc.below hM h.low.size), hc.blk h.rf n1, h.atm.chg hc n2, h.kn.chg hc n3 n4, h.lo, fun D hD => ⟨(h.mks D hD).1, (hc.block D (Array.getElem?_eq_some_iff.1 (h.mks D hD).2).1 (n5 D hD)).trans (h.mks D hD).2⟩, h.nd⟩
theorem ClB.keep (h : ClB w0 Rb am rm bm vs st cr cb R rows bk Ds W) (hb : Below W.heap.size W W') : ClB w0 Rb am rm bm vs st cr cb R rows bk Ds W' :=
  h.chg (M := fun _ => False) (Chg.of_below hb _) (fun _ e => e.elim) id id id (fun _ _ => id) (fun _ _ => id)
theorem FrS.chg {M : Nat → Prop} {B : Nat} (h : FrS B bm rows Fb A n c fr W) (hc : Chg M W W') (n1 : ¬ M Fb) (n2 : ∀ g, blkA A = some g → ¬ M g) : FrS B bm rows Fb A n c fr W' :=
  ⟨hc.blk h.fb n1, h.row.chg hc n2, h.ap, h.lo⟩
theorem FrS.keep {B : Nat} (h : FrS B bm rows Fb A n c fr W) (hb : Below W.heap.size W W') : FrS B bm rows Fb A n c fr W' := h.chg (M := fun _ => False) (Chg.of_below hb _) id (fun _ _ => id)
theorem cells_ne {b g : Nat} {cs : Array Value} {t t' : TypeId} {m : Nat × Nat} {xs : List Value} (h : W.heap[b]? = some (.cells cs t m)) (k : Blk t' W g xs) (ht : t ≠ t') : b ≠ g := fun e => by
  subst e
  unfold Blk at k
  rw [h] at k
  injection k with k
  injection k with _ k _
  exact ht k
theorem mark_ne {D g : Nat} (h : W.heap[D]? = some (.deferred (some []))) (hg : ∃ cs t m, W.heap[g]? = some (.cells cs t m)) : D ≠ g := fun e => by
  subst e
  obtain ⟨cs, t, m, hc⟩ := hg
  rw [h] at hc
  cases hc
theorem mark_nm {D g : Nat} (h : W.heap[D]? = some (.deferred (some []))) (hg : ∃ es k, W.heap[g]? = some (.map es k)) : D ≠ g := fun e => by
  subst e
  obtain ⟨es, k, hc⟩ := hg
  rw [h] at hc
  cases hc
theorem ClB.nfb {B : Nat} (h : ClB w0 Rb am rm bm vs st cr cb R rows bk Ds W) (f : FrS B bm rows Fb A n c fr W) : ¬ ByM bm rows Fb := fun hb => by
  rcases h.kn.by_.mcells hb with e | ⟨cs, m, hc⟩
  · exact h.kn.by_.map.ne f.fb e.symm
  · exact cells_ne hc f.fb (by decide) rfl
/-- a turn of a block that is no cells and lies behind -/
theorem ClB.turn {row : Option Nat} {L : Nat} (h : ClB w0 Rb am rm bm vs st cr cb R rows bk Ds W) (hg : W.grownBy W' row) (hr : ∀ r, row = some r → L ≤ r ∧ ∃ o : Obj, W.heap[r]? = some o ∧ o.isCells = false) (hL : Rb < L) (hD : ∀ D ∈ Ds, D < L) : ClB w0 Rb am rm bm vs st cr cb R rows bk Ds W' := by
  obtain ⟨l1, l2, l3, l4⟩ := h.lo
  refine h.chg (Chg.of_grown hg) (fun i e => by have := (hr i e).1; omega) (fun e => by have := (hr _ e).1; omega) (fun e => by have := (hr _ e).1; omega) (fun e => by have := (hr _ e).1; omega) (fun b hb e => ?_) (fun D hD2 e => by have := (hr _ e).1; have := hD D hD2; omega)
  rcases h.kn.by_.mcells hb with e2 | ⟨cs, m, hc⟩
  · subst e2
    have := (hr _ e).1
    omega
  · obtain ⟨_, o, ho, hco⟩ := hr b e
    rw [hc] at ho
    cases ho
    cases hco
theorem FrS.turn {row : Option Nat} {L B : Nat} (h : FrS B bm rows Fb A n c fr W) (hg : W.grownBy W' row) (hr : ∀ r, row = some r → L ≤ r ∧ ∃ o : Obj, W.heap[r]? = some o ∧ o.isCells = false) : FrS B bm rows Fb A n c fr W' :=
  h.chg (Chg.of_grown hg) (fun e => turn_ne hr h.fb.cells e.symm) fun g hgA e => by
    obtain ⟨cs, m, hc⟩ := h.row.cells hgA
    exact turn_ne hr ⟨_, _, _, hc⟩ e.symm
set_option maxRecDepth 100000 in
/-- a change is known from now on -/
theorem ClB.know (h : ClB w0 Rb am rm bm vs st cr cb R rows bk Ds W) (y : Chn) (r : Nat) (hy : R y = none) (hok : ChOk y) (hcr : cr < 1000000000000) :
    ∃ W1, (Instr.mapUpdate 104 (.map (some rm)) (chV y) (.int .i64 r)).run Tryz.prog W = .ok () W1 ∧ ClB w0 Rb am rm bm vs st (cr + 1) cb (putR R r y) rows bk Ds W1 ∧ W.grownBy W1 (some rm) ∧ KpC W W1 := by
  obtain ⟨kl, hkl⟩ := chKey hok
  obtain ⟨W1, hput, hmap, hg, hz⟩ := h.kn.rnd.put chV_inj lawCh (T := 104) (E := 3) Tryz.underlying104 hcr (key := y) hkl (.int .i64 r)
  have hc : Chg (fun b => b = rm) W W1 := (Chg.of_grown hg).mono fun b e => by injection e with e; exact e.symm
  obtain ⟨l1, l2, l3, l4⟩ := h.lo
  obtain ⟨es, k, hm⟩ := h.kn.rnd.isMap
  have nby : ∀ b, ByM bm rows b → b ≠ rm := fun b hb e => by
    subst e
    rcases h.kn.by_.mcells hb with e2 | ⟨cs, m, hcl⟩
    · omega
    · rw [hm] at hcl
      cases hcl
  refine ⟨W1, hput, ⟨h.low.trans (hc.below (fun i e => by omega) h.low.size), hc.blk h.rf (fun e => by omega), h.atm.chg hc (fun e => by omega), ⟨?_, h.kn.by_.chg hc nby, fun t i x hx => ?_⟩, h.lo, fun D hD => ⟨(h.mks D hD).1, ?_⟩, h.nd⟩, hg, ?_⟩
  · refine MapV.ext (M := putV (fun c => (R c).map fun q => Value.int .i64 (q : Int)) y (.int .i64 r)) (by simpa [hy] using hmap) fun x => ?_
    unfold putV putR
    split <;> rfl
  · obtain ⟨e1, e2, e3⟩ := h.kn.own t i x hx
    refine ⟨e1, e2, ?_⟩
    unfold putR
    split
    · rfl
    · exact e3
  · have hD2 := (h.mks D hD).2
    exact (hc.block D (Array.getElem?_eq_some_iff.1 hD2).1 (fun e => mark_nm hD2 ⟨es, k, hm⟩ e)).trans hD2
  · exact KpC.of_chg hc fun b e cs t m hcl => by subst e; rw [hm] at hcl; cases hcl
theorem FrS.know {B : Nat} (h : FrS B bm rows Fb A n c fr W) (hg : W.grownBy W' (some rm)) (hm : ∃ es k, W.heap[rm]? = some (.map es k)) : FrS B bm rows Fb A n c fr W' := by
  obtain ⟨es, k, hm⟩ := hm
  refine h.chg (Chg.of_grown hg) (fun e => ?_) (fun g hgA e => ?_)
  · injection e with e
    subst e
    obtain ⟨ds, e1, m, hc⟩ := h.fb.cells
    rw [hm] at hc
    cases hc
  · injection e with e
    subst e
    obtain ⟨cs, m, hc⟩ := h.row.cells hgA
    rw [hm] at hc
    cases hc
/-- the fresh changes' row has grown, then its box takes it -/
theorem FrS.grow {O : Option Addr} {oc : Nat} {y : Chn} {w2 : World} (h : ClB w0 Rb am rm bm vs st cr cb R rows bk Ds W) (f : FrS w0.heap.size bm rows Fb A n c fr W) (hrow : RowCh w0.heap.size w2 O (n + 1) oc (fr ++ [y])) (hch : Chg (fun b => blkA A = some b) W w2) (hat : blkA O = blkA A ∨ ∃ r, blkA O = some r ∧ W.heap.size ≤ r) :
    ClB w0 Rb am rm bm vs st cr cb R rows bk Ds (w2.setCell ⟨Fb, 0, none⟩ (.slice O (n + 1) oc)) ∧ FrS w0.heap.size bm rows Fb O (n + 1) oc (fr ++ [y]) (w2.setCell ⟨Fb, 0, none⟩ (.slice O (n + 1) oc)) ∧ KpC W (w2.setCell ⟨Fb, 0, none⟩ (.slice O (n + 1) oc)) ∧ Chg (fun b => blkA A = some b ∨ b = Fb) W (w2.setCell ⟨Fb, 0, none⟩ (.slice O (n + 1) oc)) := by
  have hset := Chg.set w2 Fb 0 (.slice O (n + 1) oc)
  have hcc : Chg (fun b => blkA A = some b ∨ b = Fb) W (w2.setCell ⟨Fb, 0, none⟩ (.slice O (n + 1) oc)) := (hch.mono fun b e => .inl e).trans (hset.mono fun b e => .inr e)
  obtain ⟨l1, l2, l3, l4⟩ := h.lo
  have hAF : ∀ g, blkA A = some g → g ≠ Fb := fun g hg => f.row.neT f.fb (by decide) hg
  have hmapA : ∀ g, blkA A = some g → ∀ b, (∃ es k, W.heap[b]? = some (.map es k)) → b ≠ g := fun g hg b ⟨es, k, hm⟩ e => by
    subst e
    obtain ⟨cs, m, hc⟩ := f.row.cells hg
    rw [hm] at hc
    cases hc
  refine ⟨h.chg hcc (fun i e => ?_) (fun e => ?_) (fun e => ?_) (fun e => ?_) (fun b hb e => ?_) (fun D hD e => ?_), ⟨?_, hrow.chg hset (fun r hr e => ?_), fun g hg hb => ?_, f.lo⟩, ?_, hcc⟩
  · rcases e with e | e
    · exact (f.row.base e).1
    · have := f.lo
      omega
  · rcases e with e | e
    · exact f.row.neT h.rf (by decide) e rfl
    · exact blkT_neH h.rf f.fb (by decide) e
  · rcases e with e | e
    · exact hmapA _ e am h.atm.isMap rfl
    · exact h.atm.ne f.fb e
  · rcases e with e | e
    · exact hmapA _ e rm h.kn.rnd.isMap rfl
    · exact h.kn.rnd.ne f.fb e
  · rcases e with e | e
    · exact f.ap b e hb
    · exact h.nfb f (e ▸ hb)
  · have hD2 := (h.mks D hD).2
    rcases e with e | e
    · obtain ⟨cs, m, hc⟩ := f.row.cells e
      exact mark_ne hD2 ⟨_, _, _, hc⟩ rfl
    · exact mark_ne hD2 f.fb.cells e
  · have := (hch.blk f.fb (fun e => hAF _ e rfl)).set 0 (.slice O (n + 1) oc)
    simpa using this
  · rcases hat with e2 | ⟨q, e2, hle⟩
    · rw [e2] at hr
      exact hAF r hr e
    · rw [e2] at hr
      injection hr with hr
      have := f.fb.lt
      omega
  · rcases hat with e2 | ⟨q, e2, hle⟩
    · rw [e2] at hg
      exact f.ap g hg hb
    · rw [e2] at hg
      injection hg with hg
      rcases hb with e3 | ⟨t, r, hr, e3⟩
      · have := h.kn.by_.map.lt
        omega
      · obtain ⟨us, ho⟩ := h.kn.by_.row t r hr
        have := (ho.base e3).2
        omega
  · refine KpC.of_chg hcc fun b e cs t m hcl => ?_
    rcases e with e | e
    · obtain ⟨cs', m', hc⟩ := f.row.cells e
      rw [hc] at hcl
      cases hcl
      exact .inl rfl
    · subst e
      have := f.fb
      unfold Blk at this
      rw [this] at hcl
      cases hcl
      exact .inr rfl
/-- a fresh change goes over to the map of rows -/
theorem ClB.push {w2 w3 : World} {cb' : Nat} (h : ClB w0 Rb am rm bm vs st cr cb R rows bk Ds W) (f : FrS w0.heap.size bm rows Fb A n c fr W) (y : Chn) (hyk : (R y).isSome = true) {O : Option Addr} {oc : Nat} {us : List Value}
    (hown : OwnE Enc.chn 176 w0.heap.size (fun _ => True) w2 O ((rowAtC rows (y.t, y.i)).n + 1) oc us (bk (y.t, y.i) ++ [y])) (hch : Chg (fun b => b = bm ∨ blkA (rowAtC rows (y.t, y.i)).A = some b) W w2) (hat : blkA O = blkA (rowAtC rows (y.t, y.i)).A ∨ ∃ r, blkA O = some r ∧ W.heap.size ≤ r)
    (hmap3 : MapV Tryz.prog 177 kpV w3 bm cb' (putV (fun t => (rows t).map RowC.v) (y.t, y.i) (.slice O ((rowAtC rows (y.t, y.i)).n + 1) oc))) (hg3 : w2.grownBy w3 (some bm)) :
    ClB w0 Rb am rm bm vs st cr cb' R (updK rows (y.t, y.i) (some ⟨O, (rowAtC rows (y.t, y.i)).n + 1, oc⟩)) (updK bk (y.t, y.i) (bk (y.t, y.i) ++ [y])) Ds w3 ∧ FrS w0.heap.size bm (updK rows (y.t, y.i) (some ⟨O, (rowAtC rows (y.t, y.i)).n + 1, oc⟩)) Fb A n c fr w3 ∧ KpC W w3 := by
  obtain ⟨hby, hc3, hM3⟩ := h.kn.by_.pushE (y.t, y.i) (y := y) hown hch hat hmap3 hg3
  obtain ⟨l1, l2, l3, l4⟩ := h.lo
  obtain ⟨es1, q1, hmA⟩ := h.atm.isMap
  obtain ⟨es2, q2, hmR⟩ := h.kn.rnd.isMap
  have hlow : Below w0.heap.size W w3 := hc3.below (fun i hi => by
    rcases h.kn.by_.base hi with e | e <;> omega) h.low.size
  refine ⟨⟨h.low.trans hlow, hc3.blk h.rf (fun e => ?_), h.atm.chg hc3 (fun e => ?_), ⟨h.kn.rnd.chg hc3 (fun e => ?_), hby, fun t i x hx => ?_⟩, h.lo, fun D hD => ⟨(h.mks D hD).1, ?_⟩, h.nd⟩, ⟨hc3.blk f.fb (h.nfb f), f.row.chg hc3 (fun r hr => f.ap r hr), fun g hg hb => ?_, f.lo⟩, ?_⟩
  · rcases h.kn.by_.mcells e with e2 | ⟨cs, m, hcl⟩
    · omega
    · exact cells_ne hcl h.rf (by decide) rfl
  · rcases h.kn.by_.mcells e with e2 | ⟨cs, m, hcl⟩
    · omega
    · rw [hmA] at hcl
      cases hcl
  · rcases h.kn.by_.mcells e with e2 | ⟨cs, m, hcl⟩
    · omega
    · rw [hmR] at hcl
      cases hcl
  · by_cases e : (t, i) = (y.t, y.i)
    · rw [e, updK_same] at hx
      injection e with e1 e2
      subst e1 e2
      rcases List.mem_append.1 hx with hx | hx
      · exact h.kn.own _ _ x hx
      · rw [List.mem_singleton] at hx
        subst hx
        exact ⟨rfl, rfl, hyk⟩
    · rw [updK_other _ _ e] at hx
      exact h.kn.own _ _ x hx
  · have hD2 := (h.mks D hD).2
    refine (hc3.block D (Array.getElem?_eq_some_iff.1 hD2).1 (fun e => ?_)).trans hD2
    rcases h.kn.by_.mcells e with e2 | ⟨cs, m, hcl⟩
    · exact mark_nm hD2 h.kn.by_.map.isMap e2
    · exact mark_ne hD2 ⟨_, _, _, hcl⟩ rfl
  · rcases hM3 g hb with e | e
    · exact f.ap g hg e
    · have := (f.row.base hg).2
      omega
  · refine KpC.of_chg hc3 fun b e cs t m hcl => ?_
    rcases h.kn.by_.mcells e with e2 | ⟨cs', m', hc⟩
    · subst e2
      obtain ⟨es, k, hm⟩ := h.kn.by_.map.isMap
      rw [hm] at hcl
      cases hcl
    · rw [hc] at hcl
      cases hcl
      exact .inl rfl
end
/-! ### What is found so far, in plain Lean -/
/-- within round r, before the fresh changes go over: methods ahead of a are done, of method a the states ahead of b -/
structure RdI (ms : List Mk) (st : List Nat) (hm : List Hm) (lim r k0 a b cr cb : Nat) (R : Chn → Option Nat) (bk : KP → List Chn) (kn fr : List Chn) : Prop where
  inr : InR (aftW ms st) (canS st) hm lim st.length R r a b
  kno : Kn st.length lim R r kn fr
  cnt : kn.length = k0 + fr.length
  crl : cr ≤ kn.length
  cbl : cb ≤ k0
  blen : ∀ t, (bk t).length ≤ k0
  full : ∀ c q, R c = some q → q < r → c ∈ bk (c.t, c.i)
section
variable {ms : List Mk} {st : List Nat} {hm : List Hm} {lim r k0 a b cr cb : Nat} {R : Chn → Option Nat} {bk : KP → List Chn} {kn fr : List Chn}
theorem RdI.few (h : RdI ms st hm lim r k0 a b cr cb R bk kn fr) (hst : st.length ≤ 64) (hlim : lim ≤ 8) : kn.length ≤ 589824 := few_chn hst hlim h.kno.once h.kno.bound
theorem RdI.hin (h : RdI ms st hm lim r k0 a b cr cb R bk kn fr) (c : Chn) (hc : (R c).isSome = true) : ChIn st.length lim c := h.kno.bound c ((h.kno.all c).2 hc)
theorem RdI.put (h : RdI ms st hm lim r k0 a b cr cb R bk kn fr) {m : Hm} (hma : hm[a]? = some m) (ht : 0 ≤ m.task) (ht2 : m.task < 16) (hb : canS st m b) (hbs : b < st.length) {y : Chn} (e1 : y.t = m.task.toNat) (e2 : y.i = b) (hj : y.j < st.length) (hn : y.n ≤ lim) (hs : SpR (aftW ms st) (Ere R r) m.steps b y.n y.j) (hc : R y = none) : RdI ms st hm lim r k0 a b (cr + 1) cb (putR R r y) bk (kn ++ [y]) (fr ++ [y]) := by
  obtain ⟨t, i, j, n⟩ := y
  simp only at e1 e2 hj hn hs hc ⊢
  subst e1 e2
  refine ⟨h.inr.put hma ht hb hn hs hc, h.kno.put hc ⟨by simp only; omega, hbs, hj, hn⟩, ?_, ?_, h.cbl, h.blen, fun c q hq hqr => ?_⟩
  · have := h.cnt
    simp only [List.length_append, List.length_singleton]
    omega
  · have := h.crl
    simp only [List.length_append, List.length_singleton]
    omega
  · unfold putR at hq
    split at hq
    · injection hq with hq
      omega
    · exact h.full c q hq hqr
theorem RdI.step (h : RdI ms st hm lim r k0 a b cr cb R bk kn fr) {m : Hm} (hma : hm[a]? = some m) (hd : canS st m b → ∀ n j, n ≤ lim → SpR (aftW ms st) (Ere R r) m.steps b n j → (R ⟨m.task.toNat, b, j, n⟩).isSome = true) : RdI ms st hm lim r k0 a (b + 1) cr cb R bk kn fr :=
  ⟨h.inr.step hma hd, h.kno, h.cnt, h.crl, h.cbl, h.blen, h.full⟩
theorem canS_lt {m : Hm} {i : Nat} (h : canS st m i) : i < st.length := let ⟨_, h1, _⟩ := h; (List.getElem?_eq_some_iff.1 h1).1
theorem RdI.next (h : RdI ms st hm lim r k0 a st.length cr cb R bk kn fr) : RdI ms st hm lim r k0 (a + 1) 0 cr cb R bk kn fr :=
  ⟨h.inr.next (fun _ _ => canS_lt), h.kno, h.cnt, h.crl, h.cbl, h.blen, h.full⟩
/-- while the fresh changes go over to the map of rows -/
structure GoI (r k0 q cb : Nat) (R : Chn → Option Nat) (bk : KP → List Chn) (fr : List Chn) : Prop where
  full : ∀ c p, R c = some p → p < r → c ∈ bk (c.t, c.i)
  new : ∀ c ∈ fr.take q, c ∈ bk (c.t, c.i)
  cbl : cb ≤ k0 + q
  blen : ∀ t, (bk t).length ≤ k0 + q
theorem RdI.go (h : RdI ms st hm lim r k0 a b cr cb R bk kn fr) : GoI r k0 0 cb R bk fr := ⟨h.full, (fun c hc => by simp at hc), by have := h.cbl; omega, fun t => by have := h.blen t; omega⟩
theorem GoI.push {q cb' : Nat} {y : Chn} (h : GoI r k0 q cb R bk fr) (hy : fr[q]? = some y) (hcb : cb' ≤ cb + 1) : GoI r k0 (q + 1) cb' R (updK bk (y.t, y.i) (bk (y.t, y.i) ++ [y])) fr := by
  have key : ∀ (c : Chn), c ∈ bk (c.t, c.i) → c ∈ updK bk (y.t, y.i) (bk (y.t, y.i) ++ [y]) (c.t, c.i) := fun c hc => by
    by_cases e : (c.t, c.i) = (y.t, y.i)
    · rw [e, updK_same, ← e]
      exact List.mem_append_left _ hc
    · rw [updK_other _ _ e]
      exact hc
  refine ⟨fun c p h1 h2 => key c (h.full c p h1 h2), fun c hc => ?_, by have := h.cbl; omega, fun t => ?_⟩
  · rcases (take_one hy c).1 hc with hc | rfl
    · exact key c (h.new c hc)
    · rw [updK_same]
      exact List.mem_append_right _ List.mem_cons_self
  · by_cases e : t = (y.t, y.i)
    · subst e
      rw [updK_same]
      have := h.blen (y.t, y.i)
      simp only [List.length_append, List.length_singleton]
      omega
    · rw [updK_other _ _ e]
      have := h.blen t
      omega
/-- the round is over -/
theorem GoI.all {q cb' : Nat} {bk' : KP → List Chn} (g : GoI r k0 q cb R bk fr) (h : RdI ms st hm lim r k0 a b cr cb' R bk' kn fr) (hq : fr.length ≤ q) (c : Chn) (p : Nat) (hp : R c = some p) : c ∈ bk (c.t, c.i) := by
  have h1 := (h.inr.sound c p hp).2.1
  rcases Nat.lt_or_ge p r with h2 | h2
  · exact g.full c p hp h2
  · obtain rfl : p = r := by omega
    exact g.new c (by rw [List.take_of_length_le hq]; exact (h.kno.fresh c).2 hp)
theorem GoI.next {q cr0 cb0 : Nat} {bk0 : KP → List Chn} (g : GoI r k0 q cb R bk fr) (h : RdI ms st hm lim r k0 hm.length 0 cr cb0 R bk0 kn fr) (hq : q = fr.length) : RdI ms st hm lim (r + 1) kn.length 0 0 cr cb R bk kn [] := by
  subst hq
  have hc := h.cnt
  exact ⟨h.inr.over, h.kno.next (fun c p hp => (h.inr.sound c p hp).2.1), by simp, h.crl, by have := g.cbl; omega, fun t => by have := g.blen t; omega, fun c p hp _ => g.all h (Nat.le_refl _) c p hp⟩
end
theorem keepsFrom_chg {W W' : World} {B : Nat} {M : Nat → Prop} (h : Chg M W W') (hM : ∀ b, M b → ∃ cs t m, W.heap[b]? = some (.cells cs t m)) : KeepsFrom B W W' :=
  ⟨h.size, fun k o hB hk hc => (h.block k (Array.getElem?_eq_some_iff.1 hk).1 (fun hm => by
    obtain ⟨cs, t, m, e⟩ := hM k hm
    rw [hk] at e
    cases e
    cases hc)).trans hk⟩
/-! ### The range over the changes of a method from a state -/
/-- the change in its box -/
def ChBoxC (a : Act) {aft : Nat → Nat → Nat → Prop} {G : Chn → Prop} {lim nS t i : Nat} {xs : List Int} (x : Cn aft G lim nS t i xs) (a' : Act) (W : World) : Prop :=
  ∃ Bx, Blk 176 W Bx (chC x.1) ∧ a' = { tmps := (a.tmps.setIfInBounds 50 (chV x.1)).setIfInBounds 9 (.pointer (some ⟨Bx, 0, none⟩)), defers := [] }
theorem ChBoxC.own {a : Act} {aft : Nat → Nat → Nat → Prop} {G : Chn → Prop} {lim nS t i : Nat} {xs : List Int} {B : Nat} (x : Cn aft G lim nS t i xs) (a' : Act) : OwnFrom B (fun (_ : Unit) W => ChBoxC a x a' W) := by
  rintro _ X Y row ⟨Bx, h1, h2⟩ hg hr
  exact ⟨Bx, h1.grown hg (turn_ne hr h1.cells), h2⟩
theorem range_changesC {aft : Nat → Nat → Nat → Prop} {G : Chn → Prop} {lim nS t i : Nat} {xs : List Int} {n : Nat} {g : Operand} {ps : Array Tmp} {assign body : Code} {Q : Exit → Act → World → Prop} {a : Act} {w : World} (h1 : 1 ≤ n) {gf : Nat} {lb : Array Value} (hg : a.eval g = .func (.func gf) #[] lb) (eg : ∀ args w, (callFunc gf args).run Tryz.prog w = .ok (.enter gf args) w)
    {Kp : World → World → Prop} {S Sp : List (Cn aft G lim nS t i xs) → Prop} {N : Nat} {w0 : World} (hseq : SeqStopsK Fence.wide (n - 1) Tryz.prog gf lb encCn Kp S Sp N w0) (hKt : ∀ {A B C : World}, Kp A B → Kp B C → Kp A C) (hKb : ∀ (W : World) (l : Nat) (o o' : Obj), w.heap.size ≤ l → W.heap[l]? = some o → o.isCells = false → o.isWalk = false → Kp W (W.putObj l o')) (hb0 : Below w0.heap.size w0 w) (hps : ∀ x : Cn aft G lim nS t i xs, (encCn x).size = ps.size)
    (I : List (Cn aft G lim nS t i xs) → World → Prop) (Ix : Code → List (Cn aft G lim nS t i xs) → World → Prop) (hI : OwnFrom w.heap.size I) (hIx : ∀ c, OwnFrom w.heap.size (Ix c)) (h0 : I [] w)
    (hassign : ∀ (l : Nat) (pre : List (Cn aft G lim nS t i xs)) (x : Cn aft G lim nS t i xs) (W : World) (K : Act → World → Prop), I pre W → (∀ a' W', KeepsFrom w.heap.size W W' → Kp W W' → I pre W' → ChBoxC a x a' W' → K a' W') →
      assign.wpIn (Fence.wide.inRound l) (n - 1 - 1) Tryz.prog (Exit.then K (fun _ _ _ => False)) { tmps := (ps.zip (encCn x)).foldl (fun t (p, v) => t.setIfInBounds p v) a.tmps, defers := [] } W)
    (hbody : ∀ (l : Nat) (pre : List (Cn aft G lim nS t i xs)) (x : Cn aft G lim nS t i xs) (a' : Act) (W : World), w.heap.size ≤ l → (∃ r, W.heap[l]? = some (.loop r)) → I pre W → ChBoxC a x a' W → pre.length < N → body.wpIn (Fence.wide.inRound l) (n - 1 - 1) Tryz.prog (ownPostG w.heap.size Kp I Ix (pre ++ [x]) W) a' W)
    (hdone : ∀ (D : Nat) (ys : List (Cn aft G lim nS t i xs)) (W : World), w.heap.size ≤ D → S ys → I ys W → W.heap[D]? = some (.deferred (some [])) → Q .normal { a with defers := { target := .collected D, args := #[] } :: a.defers } W)
    (hstop : ∀ (D : Nat) (c : Code) (pre : List (Cn aft G lim nS t i xs)) (W : World), w.heap.size ≤ D → Sp pre → Ix c pre W → W.heap[D]? = some (.deferred (some [])) → c.wpIn Fence.wide n Tryz.prog Q { a with defers := { target := .collected D, args := #[] } :: a.defers } W) :
    (Code.rangeFunc g ps assign body).wpIn Fence.wide n Tryz.prog Q a w :=
  wpIn_rangeFunc_ownH rfl h1 hg trivial eg hseq hKt hKb hb0 hps I Ix hI hIx h0 (ChBoxC a) (fun x a' => ChBoxC.own x a') hassign hbody hdone hstop
/-- between two changes -/
def CJ (w0 : World) (Rb am rm bm : Nat) (vs : List Value) (ms : List Mk) (st : List Nat) (hm : List Hm) (lim : Nat) (r k0 ai b cb : Nat) (R0 : Chn → Option Nat) (rows : KP → Option RowC) (bk : KP → List Chn) (Fb : Nat) (Ds : List Nat) (WL : World) {t : Nat} {xs : List Int} (pre : List (Cn (aftW ms st) (Ere R0 r) lim st.length t b xs)) (W : World) : Prop :=
  ∃ (R : Chn → Option Nat) (cr : Nat) (kn fr : List Chn) (A : Option Addr) (n c : Nat), ClB w0 Rb am rm bm vs st cr cb R rows bk Ds W ∧ FrS w0.heap.size bm rows Fb A n c fr W ∧ RdI ms st hm lim r k0 ai b cr cb R bk kn fr ∧ (∀ x, Ere R r x ↔ Ere R0 r x) ∧ (∀ x ∈ pre, (R x.1).isSome = true) ∧ KpC WL W ∧ (∀ D ∈ Ds, D < WL.heap.size) ∧ Rb < WL.heap.size
section
variable {w0 : World} {Rb am rm bm : Nat} {vs : List Value} {ms : List Mk} {st : List Nat} {hm : List Hm} {lim : Nat} {r k0 ai b cb : Nat} {R0 : Chn → Option Nat} {rows : KP → Option RowC} {bk : KP → List Chn} {Fb : Nat} {Ds : List Nat} {WL : World} {t : Nat} {xs : List Int}
theorem CJ.own : OwnFrom WL.heap.size (CJ w0 Rb am rm bm vs ms st hm lim r k0 ai b cb R0 rows bk Fb Ds WL (t := t) (xs := xs)) := by
  rintro pre X Y row ⟨R, cr, kn, fr, A, n, c, h1, h2, h3, h4, h5, h6, h7, h8⟩ hg hr
  exact ⟨R, cr, kn, fr, A, n, c, h1.turn hg hr h8 h7, h2.turn hg hr, h3, h4, h5, h6.trans (KpC.turn hg hr), h7, h8⟩
theorem CJ.keep {pre : List (Cn (aftW ms st) (Ere R0 r) lim st.length t b xs)} {W W' : World} (h : CJ w0 Rb am rm bm vs ms st hm lim r k0 ai b cb R0 rows bk Fb Ds WL pre W) (hb : Below W.heap.size W W') : CJ w0 Rb am rm bm vs ms st hm lim r k0 ai b cb R0 rows bk Fb Ds WL pre W' := by
  obtain ⟨R, cr, kn, fr, A, n, c, h1, h2, h3, h4, h5, h6, h7, h8⟩ := h
  exact ⟨R, cr, kn, fr, A, n, c, h1.keep hb, h2.keep hb, h3, h4, h5, h6.trans (KpC.below hb), h7, h8⟩
end
end Go.Proofs.YtmjiiddncbhgpaaGreat
