/- The walk of the reference's folding of a table of values. -/
import Derived.Test.YtgenpcokpodhkaaRef6e
import Derived.Test.YtgenpcokpodhkaaStore14
namespace Go.Proofs.Ytgenpcokpodhkaa
set_option linter.unusedVariables false
set_option linter.unusedSimpArgs false
open Go.RowKit Go.Maps

def FoldP (w0 w : World) (L R : Int) (r : List BN × Nat × List Part) (e : Ending) (w' : World) : Prop :=
  ∃ (A : Option Addr) (c : Nat) (K : Option Addr) (ck : Nat), e = .returned (.tuple #[.agg #[.int .i64 L, .slice A r.1.length c, .int .i64 R], .int .i64 (r.2.1 : Nat), .slice K r.2.2.length ck]) ∧ FoldS w0 w' r.1 A c r.2.2 K ck ∧ FrT w w'

/-- the boxes of a folding: d, and the result -/
structure FBox (w0 w wr : World) (L R : Int) (A : Option Addr) (n c : Nat) : Prop where
  par : Blk 30 wr w.heap.size [.int .i64 L, .slice A n c, .int .i64 R]
  res : Blk 30 wr (w.heap.size + 1) [.int .i64 0, .slice none 0 0, .int .i64 0]
theorem FBox.start (w0 w : World) (L R : Int) (A : Option Addr) (n c : Nat) : FBox w0 w ((w.alloc (.cells #[.int .i64 L, .slice A n c, .int .i64 R] 30)).alloc (.cells #[.int .i64 0, .slice none 0 0, .int .i64 0] 30)) L R A n c :=
  ⟨(Blk.new w _ [.int .i64 L, .slice A n c, .int .i64 R]).alloc _, by have := Blk.new (w.alloc (.cells #[.int .i64 L, .slice A n c, .int .i64 R] 30)) 30 [.int .i64 0, .slice none 0 0, .int .i64 0]; simpa using this⟩
section
variable {w0 w wr wr' : World} {L R : Int} {A : Option Addr} {n c : Nat}
theorem FBox.frt (h : FBox w0 w wr L R A n c) (k : FrT wr wr') : FBox w0 w wr' L R A n c := ⟨h.par.frt k (by decide) (by decide), h.res.frt k (by decide) (by decide)⟩
theorem FBox.qt (h : FBox w0 w wr L R A n c) (k : Qt wr wr') : FBox w0 w wr' L R A n c := h.frt (FrT.of_below (k.below _))
theorem FBox.facts (h : FBox w0 w wr L R A n c) : wr.cell? ⟨w.heap.size, 0, none⟩ = some (.int .i64 L) ∧ wr.cell? ⟨w.heap.size, 1, none⟩ = some (.slice A n c) ∧ wr.cell? ⟨w.heap.size, 2, none⟩ = some (.int .i64 R) ∧
    wr.cell? ⟨w.heap.size + 1, 0, none⟩ = some (.int .i64 0) ∧ wr.cell? ⟨w.heap.size + 1, 1, none⟩ = some (.slice none 0 0) ∧ wr.cell? ⟨w.heap.size + 1, 2, none⟩ = some (.int .i64 0) ∧ w.heap.size < wr.heap.size ∧ w.heap.size + 1 < wr.heap.size :=
  ⟨h.par.cell 0, h.par.cell 1, h.par.cell 2, h.res.cell 0, h.res.cell 1, h.res.cell 2, h.par.lt, h.res.lt⟩
theorem FBox.frozen (h : FBox w0 w wr L R A n c) : wr.frozen? ⟨w.heap.size + 1, 0, none⟩ = false ∧ wr.frozen? ⟨w.heap.size + 1, 1, none⟩ = false ∧ wr.frozen? ⟨w.heap.size + 1, 2, none⟩ = false ∧ wr.frozen? ⟨w.heap.size, 0, none⟩ = false ∧ wr.frozen? ⟨w.heap.size, 1, none⟩ = false ∧ wr.frozen? ⟨w.heap.size, 2, none⟩ = false :=
  ⟨h.res.frozen 0, h.res.frozen 1, h.res.frozen 2, h.par.frozen 0, h.par.frozen 1, h.par.frozen 2⟩
theorem FrT.set {a b : World} (h : FrT a b) {g : Nat} (hg : a.heap.size ≤ g) (i : Nat) (u : Value) : FrT a (b.setCell ⟨g, i, none⟩ u) :=
  ⟨Nat.le_trans h.size (only_set b g i u).size, fun j cs t m hj h1 h2 => by
    have hjl : j < a.heap.size := by
      rcases Nat.lt_or_ge j a.heap.size with hl | hl
      · exact hl
      · rw [Array.getElem?_eq_none hl] at hj
        cases hj
    exact ((only_set b g i u).block j (Nat.lt_of_lt_of_le hjl h.size) (fun e => by injection e with e; omega)).trans (h.blk j cs t m hj h1 h2)⟩
theorem FBox.done (h : FBox w0 w wr L R A n c) {out : List BN} {A' K : Option Addr} {c' ck : Nat} {known : List Part} (hf : FoldS w0 wr out A' c' known K ck) (hr : FrT w wr) (hb : w0.heap.size ≤ w.heap.size) (v0 v1 v2 : Value) :
    FoldS w0 (((wr.setCell ⟨w.heap.size + 1, 0, none⟩ v0).setCell ⟨w.heap.size + 1, 1, none⟩ v1).setCell ⟨w.heap.size + 1, 2, none⟩ v2) out A' c' known K ck ∧ FrT w (((wr.setCell ⟨w.heap.size + 1, 0, none⟩ v0).setCell ⟨w.heap.size + 1, 1, none⟩ v1).setCell ⟨w.heap.size + 1, 2, none⟩ v2) :=
  ⟨((hf.set h.res (by decide) (by decide) (by omega) 0 v0).set (h.res.set 0 v0) (by decide) (by decide) (by omega) 1 v1).set ((h.res.set 0 v0).set 1 v1) (by decide) (by decide) (by omega) 2 v2,
    ((hr.set (by omega) 0 v0).set (by omega) 1 v1).set (by omega) 2 v2⟩
theorem FBox.put (h : FBox w0 w wr L R A n c) {out : List BN} {A' K : Option Addr} {n' c' ck : Nat} {known : List Part} (hf : FoldS w0 wr out A' c' known K ck) (hr : FrT w wr) (hb : w0.heap.size ≤ w.heap.size) :
    FBox w0 w (((wr.setCell ⟨w.heap.size, 0, none⟩ (.int .i64 L)).setCell ⟨w.heap.size, 1, none⟩ (.slice A' n' c')).setCell ⟨w.heap.size, 2, none⟩ (.int .i64 R)) L R A' n' c' ∧
    FoldS w0 (((wr.setCell ⟨w.heap.size, 0, none⟩ (.int .i64 L)).setCell ⟨w.heap.size, 1, none⟩ (.slice A' n' c')).setCell ⟨w.heap.size, 2, none⟩ (.int .i64 R)) out A' c' known K ck ∧
    FrT w (((wr.setCell ⟨w.heap.size, 0, none⟩ (.int .i64 L)).setCell ⟨w.heap.size, 1, none⟩ (.slice A' n' c')).setCell ⟨w.heap.size, 2, none⟩ (.int .i64 R)) := by
  have b0 := h.par.set 0 (.int .i64 L)
  have b1 := b0.set 1 (.slice A' n' c')
  have b2 := b1.set 2 (.int .i64 R)
  exact ⟨⟨b2, ((h.res.far (by simp) _).far (by simp) _).far (by simp) _⟩,
    ((hf.set h.par (by decide) (by decide) hb 0 _).set b0 (by decide) (by decide) hb 1 _).set b1 (by decide) (by decide) hb 2 _,
    ((hr.set (Nat.le_refl _) 0 _).set (Nat.le_refl _) 1 _).set (Nat.le_refl _) 2 _⟩
/-- a store into the field of the nodes -/
theorem FBox.put1 (h : FBox w0 w wr L R A n c) {out : List BN} {A' K : Option Addr} {n' c' ck : Nat} {known : List Part} (hf : FoldS w0 wr out A' c' known K ck) (hr : FrT w wr) (hb : w0.heap.size ≤ w.heap.size) :
    FBox w0 w (wr.setCell ⟨w.heap.size, 1, none⟩ (.slice A' n' c')) L R A' n' c' ∧ FoldS w0 (wr.setCell ⟨w.heap.size, 1, none⟩ (.slice A' n' c')) out A' c' known K ck ∧ FrT w (wr.setCell ⟨w.heap.size, 1, none⟩ (.slice A' n' c')) :=
  ⟨⟨h.par.set 1 (.slice A' n' c'), h.res.far (by simp) _⟩, hf.set h.par (by decide) (by decide) hb 1 _, hr.set (Nat.le_refl _) 1 _⟩
end

set_option maxHeartbeats 3200000 in
set_option maxRecDepth 100000 in
theorem folded_ct (w0 : World) (L R : Int) : ∀ (d lv : Nat) (vals : List Bool) (V : Option Addr) (nv cv : Nat) (out : List BN) (known : List Part) (A : Option Addr) (c : Nat) (K : Option Addr) (ck : Nat) (w : World),
    FoldS w0 w out A c known K ck → Rd Enc.bool w0 V nv cv vals → nv = 2 ^ d → lv + d ≤ 60 → FOk out known → out.length + 2 ^ d ≤ 1000000 → known.length + 2 ^ d ≤ 1000000 →
    Calls Try.prog 62 #[.agg #[.int .i64 L, .slice A out.length c, .int .i64 R], .int .i64 lv, .slice V nv cv, .slice K known.length ck] w (FoldP w0 w L R (fold (d + 1) out lv vals known)) := by
  intro d
  induction d with
  | zero =>
    intro lv vals V nv cv out known A c K ck w h hv hnv hl hok ho hk
    obtain rfl : nv = 1 := by simpa using hnv
    obtain ⟨b, off, x, rfl, hx, hcx⟩ := hv.bool (k := 0) (by omega)
    have hcap := hv.cap
    have hcsm := hv.small
    have hfold : fold (0 + 1) out lv vals known = (out, if x = true then 1 else 0, known) := by
      unfold fold
      rw [if_pos hv.len]
      cases vals with
      | nil => simp at hx
      | cons y l => simp at hx; subst hx; rfl
    rw [hfold]
    have hst := FBox.start w0 w L R A out.length c
    have hb0 := below_two w (.cells #[.int .i64 L, .slice A out.length c, .int .i64 R] 30) (.cells #[.int .i64 0, .slice none 0 0, .int .i64 0] 30)
    have hbase := h.below.size
    have hc2 := ((hv.keep h.below).keep hb0).bool (k := 0) (by omega)
    obtain ⟨b', off', x', e, hx', hcx'⟩ := hc2
    injection e with e
    injection e with e1 e2
    subst e1 e2
    obtain rfl := Option.some.inj (hx.symm.trans hx')
    rw [Nat.add_zero] at hcx'
    obtain ⟨p0, p1, p2, q0, q1, q2, l1, l2⟩ := hst.facts
    obtain ⟨f0, f1, f2, f3, f4, f5⟩ := hst.frozen
    have Hst := hide hst
    have Hf := hide (h.keep hb0)
    have Hb0 := hide hb0
    have H0 := hide h
    clear hst h hb0 hv hx hcx hx' hfold hok
    go_enter Try.func62, Try.ntmps62
    cases x
    · go_wp2_with fail
      refine bodyPost_ret (v := .tuple #[.agg #[.int .i64 L, .slice A out.length c, .int .i64 R], .int .i64 0, .slice K known.length ck]) (by simp [results, Try.results62, go_sem, q0, q1, q2]) rfl ?_
      exact ⟨A, c, K, ck, rfl, H0.out.keep (below_two _ _ _), FrT.of_below (below_two _ _ _)⟩
    · go_wp2_with fail
      refine bodyPost_ret (v := .tuple #[.agg #[.int .i64 L, .slice A out.length c, .int .i64 R], .int .i64 1, .slice K known.length ck]) (by simp [results, Try.results62, go_sem, q0, q1, q2]) rfl ?_
      exact ⟨A, c, K, ck, rfl, H0.out.keep (below_two _ _ _), FrT.of_below (below_two _ _ _)⟩
  | succ d ih =>
    intro lv vals V nv cv out known A c K ck w h hv hnv hl hok ho hk
    have hres := fold_res d
    have hpw : 2 ^ (d + 1) = 2 ^ d + 2 ^ d := by rw [Nat.pow_succ]; omega
    have hp1 : 1 ≤ 2 ^ d := Nat.one_le_two_pow
    generalize hP : 2 ^ d = P at *
    rw [hpw] at hnv ho hk
    have hqd : (nv : Int).tdiv 2 = (P : Int) := by rw [Int.tdiv_eq_ediv_of_nonneg (by omega)]; omega
    have hPn : P ≤ nv := by omega
    have hnP : nv - P = P := by omega
    have Hnv := hide hnv
    have hcap := hv.cap
    have hcsm := hv.small
    have hlen := hv.len
    have hne1 : ((nv : Int) == 1) = false := by rw [beq_eq_false_iff_ne]; omega
    have hst := FBox.start w0 w L R A out.length c
    have hb0 := below_two w (.cells #[.int .i64 L, .slice A out.length c, .int .i64 R] 30) (.cells #[.int .i64 0, .slice none 0 0, .int .i64 0] 30)
    have hbase := h.below.size
    have hv1 := (hv.upto (k := P) (by omega))
    have hv2 := (hv.from_ (k := P) (by omega))
    obtain ⟨b, off, rfl, _⟩ := hv.at_ (by omega)
    rw [if_neg (by omega), hnP, Option.map_some, add_plain, show P * Enc.bool.size = P from Nat.mul_one P] at hv2
    obtain ⟨p0, p1, p2, q0, q1, q2, l1, l2⟩ := hst.facts
    obtain ⟨f0, f1, f2, f3, f4, f5⟩ := hst.frozen
    have Hst := hide hst
    have Hf := hide (h.keep hb0)
    have Hb0 := hide hb0
    have Ih := hide ih
    have HR := hide hres
    have Hv1 := hide hv1
    have Hv2 := hide hv2
    have Hok := hide hok
    have Hv := hide hv
    have HPd := hide hP
    have HPd := hide hP
    clear hst h hb0 hv hv1 hv2 hok ih hP hpw hnv hres
    go_enter Try.func62, Try.ntmps62
    go_wp2
    generalize hVd : (w.alloc (.cells #[.int .i64 L, .slice A out.length c, .int .i64 R] 30)).alloc (.cells #[.int .i64 0, .slice none 0 0, .int .i64 0] 30) = VV at *
    clear hVd p0 p1 p2 q0 q1 q2 l1 l2 f0 f1 f2 f3 f4 f5
    have hcb : ∀ W, Qt VV W → Calls Try.prog 71 #[.slice (some ⟨b, off, none⟩) P cv, .slice (some ⟨b, off + P, none⟩) P (cv - P)] W (Quiet W (.bool (boolsB (vals.take P) (vals.drop P)))) := fun W hW =>
      Bools_ct _ _ _ _ _ _ _ _ W (Hv1.out.keep ((Hf.out.keep (hW.below _)).below)) (Hv2.out.keep ((Hf.out.keep (hW.below _)).below))
    have Hcb := hide hcb
    clear hcb
    go_quiet ((go_at_call 71; exact quiet_call (Hcb.out _ ⟨_, rfl⟩)))
    have hfold : fold (d + 1 + 1) out lv vals known = if vals.take P = vals.drop P then fold (d + 1) out (lv + 1) (vals.take P) known
        else match findPart known lv vals with
          | some k => (out, k, known)
          | none =>
            let a := fold (d + 1) out (lv + 1) (vals.take P) known
            let b := fold (d + 1) a.1 (lv + 1) (vals.drop P) a.2.2
            (b.1 ++ [(lv, a.2.1, b.2.1)], b.1.length + 2, b.2.2 ++ [(lv, vals, b.1.length + 2)]) := by
      rw [fold, if_neg (by omega), show vals.length / 2 = P from by omega]
      rfl
    have hq : Qt VV (VV.drewN nq) := ⟨_, rfl⟩
    generalize VV.drewN nq = VQ at *
    by_cases heq : vals.take P = vals.drop P
    · rw [if_pos heq] at hfold
      have hbq : boolsB (vals.take P) (vals.drop P) = true := by simp [boolsB, heq]
      have Hfold := hide hfold
      have hst2 := Hst.out.qt hq
      obtain ⟨p0, p1, p2, q0, q1, q2, l1, l2⟩ := hst2.facts
      clear hfold heq
      rw [hbq]
      have Hst2 := hide hst2
      have hf2 := Hf.out.keep (hq.below _)
      have Hf2 := hide hf2
      obtain ⟨f0, f1, f2, f3, f4, f5⟩ := hst2.frozen
      have hvq := hq.below VV.heap.size
      have HVq := hide hvq
      clear hf2 hst2 hbq hvq
      go_wp2_with fail
      have hcall := fun W (hW : Qt VQ W) => Ih.out (lv + 1) (vals.take P) _ P cv out known A c K ck W (Hf2.out.keep (hW.below _)) Hv1.out rfl (by omega) Hok.out (by omega) (by omega)
      generalize fold (d + 1) out (lv + 1) (vals.take P) known = res at hcall Hfold
      obtain ⟨out2, k2, known2⟩ := res
      have Hcall := hide hcall
      clear hcall
      have hl1 : IntKind.i64.wrap ((lv : Int) + 1) = ((lv + 1 : Nat) : Int) := by rw [IntWalk.i64_in _ (by omega)]; rfl
      have hP1 : (P : Int) ≤ (cv : Int) := by omega
      have hP2 : (0 : Int) ≤ (P : Int) := by omega
      have hP3 : IntKind.i64.wrap (P : Int) = (P : Int) := by rw [IntWalk.i64_in _ (by omega)]
      go_region_with
        (first
         | (go_at_call 62
            refine (Hcall.out _ ⟨_, rfl⟩).mono ?_
            rintro e w2 ⟨A2, c2, K2, ck2, rfl, hs2, hr2⟩
            have Hs2 := hide hs2
            have Hr2 := hide ((((FrT.of_below Hb0.out).trans (FrT.of_below HVq.out)).trans (FrT.of_below (below_drewN (Below.refl _ _) _))).trans hr2)
            have hst3 := (Hst2.out.qt (⟨_, rfl⟩ : Qt VQ (VQ.drewN _))).frt hr2
            obtain ⟨p0, p1, p2, q0, q1, q2, l1, l2⟩ := hst3.facts
            obtain ⟨f0, f1, f2, f3, f4, f5⟩ := hst3.frozen
            have Hst3 := hide hst3
            clear hs2 hr2 hst3)
         | fail)
      go_wp2
      refine bodyPost_ret (v := .tuple #[.agg #[.int .i64 L, .slice A2 out2.length c2, .int .i64 R], .int .i64 (k2 : Nat), .slice K2 known2.length ck2]) (by simp [results, Try.results62, go_sem, q0, q1, q2]) rfl ?_
      obtain ⟨g1, g2⟩ := Hst3.out.done Hs2.out Hr2.out hbase (.int .i64 L) (.slice A2 out2.length c2) (.int .i64 R)
      rw [Hfold.out]
      exact ⟨A2, c2, K2, ck2, rfl, g1, g2⟩
    · rw [if_neg heq] at hfold
      have hbq : boolsB (vals.take P) (vals.drop P) = false := by simp [boolsB, heq]
      have Hfold := hide hfold
      have Hst2 := hide (Hst.out.qt hq)
      have Hf2 := hide (Hf.out.keep (hq.below _))
      have Hvq := hide (hq.below VV.heap.size)
      clear hfold heq hq
      rw [hbq]
      clear hbq
      go_wp2
      go_loopw [12] (fun i wr => ∃ k : Nat, k ≤ known.length ∧ i = .int .i64 k ∧ Qt VQ wr ∧ findPart known lv vals = findPart (known.drop k) lv vals) (fun i _ => known.length - (intOf i).toNat)
      case atStart => exact ⟨0, by omega, rfl, Qt.refl _, by simp⟩
      case round =>
        obtain ⟨k, hkl, rfl, hqr, hrel⟩ := hrel
        by_cases hlt : k < known.length
        · obtain ⟨l, hl1, hl2, hl3⟩ := (Hf2.out.keep (hqr.below _)).kn
          obtain ⟨r, rfl, hrl, hck, hckm⟩ := own_slice hl2 (by omega)
          have hlx : l[k]? = some (l[k]'(by rw [← hl1] at hlt; simpa using hlt)) := List.getElem?_eq_getElem _
          generalize l[k]'(by rw [← hl1] at hlt; simpa using hlt) = x at hlx
          obtain ⟨⟨plv, pvals, pk⟩, sA, sn, sc⟩ := x
          have hkx : known[k]? = some (plv, pvals, pk) := by rw [← hl1, List.getElem?_map, hlx]; rfl
          obtain ⟨g0, g1, g2⟩ := partsC_get l hlx
          have hcell := fun j u hj => hl2.cells (g := r) rfl j u hj
          have hne : ¬ r = w.heap.size + 1 := fun e => by
            obtain ⟨_, cs', m', hc⟩ := own_block hl2 (r := r) rfl
            have h1 := (Hst2.out.qt hqr).res
            unfold Blk at h1
            rw [e, h1] at hc
            injection hc with hc
            injection hc with _ hc _
            exact absurd hc (by decide)
          simp only [add_plain, Nat.zero_add] at hcell
          have c0 := hcell _ _ g0
          have c1 := hcell _ _ g1
          have c2 := hcell _ _ g2
          simp only at c0 c1 c2
          have hrd := hl3 _ (List.mem_of_getElem? hlx)
          simp only at hrd
          obtain ⟨hpl, hpk⟩ := Hok.out.2 _ (List.mem_of_getElem? hkx)
          simp only at hpl hpk
          rw [drop_cons hkx, findPart] at hrel
          simp only at hrel
          have Hrd := hide hrd
          have Hqr := hide hqr
          clear hl1 hl2 hl3 hlx g0 g1 g2 hcell hrd hqr hkx
          by_cases hlv : plv = lv
          · subst hlv
            have hbc : Calls Try.prog 71 #[.slice sA sn sc, .slice (some ⟨b, off, none⟩) nv cv] wr (Quiet wr (.bool (boolsB pvals vals))) :=
              Bools_ct _ _ _ _ _ _ _ _ wr (Hrd.out.keep (Hf2.out.keep (Hqr.out.below _)).below) (Hv.out.keep (Hf2.out.keep (Hqr.out.below _)).below)
            have Hbc := hide hbc
            have hbeq : ((plv : Int) == (plv : Int)) = true := by simp
            clear hbc
            by_cases hve : pvals = vals
            · have hbt : boolsB pvals vals = true := by simp [boolsB, hve]
              rw [if_pos ⟨rfl, hve⟩] at hrel
              have Hrel := hide hrel
              have Hbt := hide hbt
              clear hrel hve hbt
              go_wp2_with fail
              refine Hbc.out.mono ?_
              rintro e w2 ⟨rfl, hq2⟩
              rw [Hbt.out]
              have Hq2 := hide (Hqr.out.trans hq2)
              have hc2 := ((hq2.below wr.heap.size).cell (World.block_lt_of_cell? wr _ c2)).trans c2
              have hst3 := Hst2.out.qt Hq2.out
              obtain ⟨p0, p1, p2, q0, q1, q2, l1, l2⟩ := hst3.facts
              obtain ⟨f0, f1, f2, f3, f4, f5⟩ := hst3.frozen
              have Hst3 := hide hst3
              clear hq2 hst3 c0 c1 c2
              go_wp2
              go_region
              go_wp2
              refine bodyPost_ret (v := .tuple #[.agg #[.int .i64 L, .slice A out.length c, .int .i64 R], .int .i64 (pk : Nat), .slice (some ⟨r, 0, none⟩) known.length ck]) (by simp [results, Try.results62, go_sem, q0, q1, q2]) rfl ?_
              have hfr := ((FrT.of_below Hb0.out).trans (FrT.of_below Hvq.out)).trans (FrT.of_below (Hq2.out.below _))
              obtain ⟨g1, g2⟩ := Hst3.out.done (Hf2.out.keep (Hq2.out.below _)) hfr hbase (.int .i64 L) (.slice A out.length c) (.int .i64 R)
              have hfin := Hfold.out
              rw [Hrel.out] at hfin
              simp only at hfin
              rw [hfin]
              exact ⟨A, c, _, ck, rfl, g1.keep (Below.refl _ _).drew, g2.trans (FrT.of_below (Below.refl _ _).drew)⟩
            · have hbt : boolsB pvals vals = false := by simp [boolsB, hve]
              rw [if_neg (fun h => hve h.2)] at hrel
              have Hrel := hide hrel
              have Hbt := hide hbt
              clear hrel hve hbt
              go_wp2_with fail
              refine Hbc.out.mono ?_
              rintro e w2 ⟨rfl, hq2⟩
              rw [Hbt.out]
              have Hq2 := hide (Hqr.out.trans hq2)
              clear hq2
              go_wp2
              go_roundw
              case rel => exact ⟨k + 1, by omega, by go_num, Hq2.out, Hrel.out⟩
              case measure => simp [intOf]; omega
          · have hbeq : ((plv : Int) == (lv : Int)) = false := by rw [beq_eq_false_iff_ne]; omega
            rw [if_neg (fun h => hlv h.1)] at hrel
            have Hrel := hide hrel
            clear hrel hlv
            go_wp2
            go_roundw
            case rel => exact ⟨k + 1, by omega, by go_num, Hqr.out, Hrel.out⟩
            case measure => simp [intOf]; omega
        · have hnone : findPart known lv vals = none := by rw [hrel, List.drop_of_length_le (by omega)]; rfl
          have hfold2 := Hfold.out
          rw [hnone] at hfold2
          simp only at hfold2
          have ho1 := fold_res d (lv + 1) out (vals.take P) known
          have hst3 := Hst2.out.qt hqr
          obtain ⟨p0, p1, p2, q0, q1, q2, l1, l2⟩ := hst3.facts
          obtain ⟨f0, f1, f2, f3, f4, f5⟩ := hst3.frozen
          have hcall := fun W (hW : Qt wr W) => Ih.out (lv + 1) (vals.take P) _ P cv out known A c K ck W (Hf2.out.keep ((hqr.trans hW).below _)) Hv1.out rfl (by omega) Hok.out (by omega) (by omega)
          have hr1 := HR.out (lv + 1) out (vals.take P) known (by rw [List.length_take]; omega) (by omega) Hok.out
          generalize fold (d + 1) out (lv + 1) (vals.take P) known = res at hcall hfold2 hr1
          obtain ⟨out2, k2, known2⟩ := res
          obtain ⟨r1, r2, r3, r4⟩ := hr1
          simp only at r1 r2 r3 r4 hfold2
          have Hok2 := hide r1
          have Hcall := hide hcall
          have Hfold2 := hide hfold2
          have Hst3 := hide hst3
          have Hqr := hide (Hvq.out.trans ((hqr.below VQ.heap.size).mono Hvq.out.size))
          clear hcall hfold2 hst3 hqr hrel hnone r1 ho1
          have hl1 : IntKind.i64.wrap ((lv : Int) + 1) = ((lv + 1 : Nat) : Int) := by rw [IntWalk.i64_in _ (by omega)]; rfl
          have hP1 : (P : Int) ≤ (cv : Int) := by omega
          have hP2 : (0 : Int) ≤ (P : Int) := by omega
          have hP3 : IntKind.i64.wrap (P : Int) = (P : Int) := by rw [IntWalk.i64_in _ (by omega)]
          obtain ⟨WR, hWR⟩ : ∃ W, W = wr := ⟨_, rfl⟩
          subst hWR
          go_wp2_with fail
          go_region_with
            (first
             | (go_at_call 62
                refine (Hcall.out _ ⟨_, rfl⟩).mono ?_
                rintro e w2 ⟨A2, c2, K2, ck2, rfl, hs2, hr2⟩
                have Hs2 := hide hs2
                have Hr2 := hide ((((FrT.of_below Hb0.out).trans (FrT.of_below Hqr.out)).trans (FrT.of_below (below_drewN (Below.refl _ _) _))).trans hr2)
                have hst4 := (Hst3.out.qt (⟨_, rfl⟩ : Qt WR (WR.drewN _))).frt hr2
                obtain ⟨p0, p1, p2, q0, q1, q2, l1, l2⟩ := hst4.facts
                obtain ⟨f0, f1, f2, f3, f4, f5⟩ := hst4.frozen
                have Hst4 := hide hst4
                clear hs2 hr2 hst4)
             | fail)
          obtain ⟨WA, hWA⟩ : ∃ W, W = (((w2.setCell ⟨w.heap.size, 0, none⟩ (.int .i64 L)).setCell ⟨w.heap.size, 1, none⟩ (.slice A2 out2.length c2)).setCell ⟨w.heap.size, 2, none⟩ (.int .i64 R)) := ⟨_, rfl⟩
          have hput := Hst4.out.put (n' := out2.length) (c' := c2) (A' := A2) Hs2.out Hr2.out hbase
          try simp only at hput ⊢
          rw [← hWA] at hput ⊢
          obtain ⟨hb3, hs3, hr3⟩ := hput
          clear p0 p1 p2 q0 q1 q2 l1 l2 f0 f1 f2 f3 f4 f5 hWA
          obtain ⟨p0, p1, p2, q0, q1, q2, l1, l2⟩ := hb3.facts
          obtain ⟨f0, f1, f2, f3, f4, f5⟩ := hb3.frozen
          have hfold2 := Hfold2.out
          have hcall := fun W (hW : Qt WA W) => Ih.out (lv + 1) (vals.drop P) _ P (cv - P) out2 known2 A2 c2 K2 ck2 W (hs3.keep (hW.below _)) Hv2.out rfl (by omega) Hok2.out (by have := HPd.out; omega) (by have := HPd.out; omega)
          have hr1 := HR.out (lv + 1) out2 (vals.drop P) known2 (by rw [List.length_drop]; omega) (by omega) Hok2.out
          generalize fold (d + 1) out2 (lv + 1) (vals.drop P) known2 = res at hcall hfold2 hr1
          obtain ⟨out3, k3, known3⟩ := res
          obtain ⟨r1, r5, r6, r7⟩ := hr1
          simp only at r1 r5 r6 r7 hfold2
          have Hok3 := hide r1
          have Hcall2 := hide hcall
          have Hfold3 := hide hfold2
          have Hb3 := hide hb3
          have Hr3 := hide hr3
          clear hcall hfold2 hb3 hr3 hs3 r1 Hfold2 Hs2 Hr2 Hst4 Hcall
          have hcv : ¬ cv = P := by omega
          have hq1 : (P : Int) ≤ (nv : Int) := by omega
          have hq2 : (nv : Int) ≤ (cv : Int) := by omega
          go_wp2_with fail
          go_region_with
            (first
             | (go_at_call 62
                refine (Hcall2.out _ ⟨_, rfl⟩).mono ?_
                rintro e w3 ⟨A3, c3, K3, ck3, rfl, hs2, hr2⟩
                have Hs2 := hide hs2
                have Hr2 := hide ((Hr3.out.trans (FrT.of_below (below_drewN (Below.refl _ _) _))).trans hr2)
                have hst4 := (Hb3.out.qt (⟨_, rfl⟩ : Qt WA (WA.drewN _))).frt hr2
                obtain ⟨p0, p1, p2, q0, q1, q2, l1, l2⟩ := hst4.facts
                obtain ⟨f0, f1, f2, f3, f4, f5⟩ := hst4.frozen
                have Hst4 := hide hst4
                clear hs2 hr2 hst4)
             | fail)
          obtain ⟨WB, hWB⟩ : ∃ W, W = (((w3.setCell ⟨w.heap.size, 0, none⟩ (.int .i64 L)).setCell ⟨w.heap.size, 1, none⟩ (.slice A3 out3.length c3)).setCell ⟨w.heap.size, 2, none⟩ (.int .i64 R)) := ⟨_, rfl⟩
          have hput := Hst4.out.put (n' := out3.length) (c' := c3) (A' := A3) Hs2.out Hr2.out hbase
          try simp only at hput ⊢
          rw [← hWB] at hput ⊢
          obtain ⟨hb4, hs4, hr4⟩ := hput
          clear p0 p1 p2 q0 q1 q2 l1 l2 f0 f1 f2 f3 f4 f5 hWB
          obtain ⟨p0, p1, p2, q0, q1, q2, l1, l2⟩ := hb4.facts
          obtain ⟨f0, f1, f2, f3, f4, f5⟩ := hb4.frozen
          have Hb4 := hide hb4
          have Hs4 := hide hs4
          have Hr4 := hide hr4
          clear hb4 hs4 hr4 Hs2 Hr2 Hst4 Hcall2
          obtain ⟨i0, hi0, hz0, hz1, hz2⟩ := info_parts (show (Try.prog.info? 69).map (fun i => (i.zero, i.size, i.bytes)) = some (some (.agg #[.int .i64 0, .int .i64 0, .int .i64 0]), 3, 24) by kernel_rfl)
          have hw0 : w0.heap.size ≤ WB.heap.size := by omega
          have ho3 : out3.length + 1 ≤ 1000000 := by have := HPd.out; omega
          have hk3 : known3.length + 1 ≤ 1000000 := by have := HPd.out; omega
          go_wp2_with
            (at_builtin
             refine wpList_pushG rfl _ _ 28 rfl w0.heap.size 69 i0 (.agg #[.int .i64 0, .int .i64 0, .int .i64 0]) 3 24 Try.underlying28 hi0 hz0 hz1 hz2 rfl (by decide) _ _ _ rfl Hs4.out.own [.int .i64 (lv : Nat), .int .i64 (k2 : Nat), .int .i64 (k3 : Nat)] rfl (by intro u hu; simp at hu; rcases hu with rfl | rfl | rfl <;> rfl) rfl (by omega) (by omega) hw0 ?_
             intro O1 oc1 w4 hown1 hg1
             clear p0 p1 p2 q0 q1 q2 l1 l2 f0 f1 f2 f3 f4 f5
             obtain ⟨hs5, hr5⟩ := Hs4.out.pushN (n := (lv, k2, k3)) hg1 hown1
             have hb5 := Hb4.out.frt hr5
             obtain ⟨p0, p1, p2, q0, q1, q2, l1, l2⟩ := hb5.facts
             obtain ⟨f0, f1, f2, f3, f4, f5⟩ := hb5.frozen
             have Hb5 := hide hb5
             have Hs5 := hide hs5
             have Hr5 := hide (Hr4.out.trans hr5)
             clear hown1 hg1 hs5 hr5 hb5)
          obtain ⟨WC, hWC⟩ : ∃ W, W = w4.setCell ⟨w.heap.size, 1, none⟩ (.slice O1 (out3.length + 1) oc1) := ⟨_, rfl⟩
          have hput := Hb5.out.put1 (n' := out3.length + 1) (c' := oc1) (A' := O1) Hs5.out Hr5.out hbase
          rw [← hWC] at hput ⊢
          obtain ⟨hb6, hs6, hr6⟩ := hput
          clear p0 p1 p2 q0 q1 q2 l1 l2 f0 f1 f2 f3 f4 f5 hWC
          obtain ⟨p0, p1, p2, q0, q1, q2, l1, l2⟩ := hb6.facts
          obtain ⟨f0, f1, f2, f3, f4, f5⟩ := hb6.frozen
          obtain ⟨l, e1, e2, e3⟩ := hs6.kn
          obtain ⟨i1, hi1, hz3, hz4, hz5⟩ := info_parts (show (Try.prog.info? 98).map (fun i => (i.zero, i.size, i.bytes)) = some (some (.agg #[.int .i64 0, .slice none 0 0, .int .i64 0]), 3, 40) by kernel_rfl)
          have hml : known3.length + 1 ≤ maxLen := by unfold maxLen; omega
          have hby : (known3.length + 1) * 40 ≤ 140737488355328 := by omega
          have hone : ∀ u ∈ [Value.int .i64 (lv : Nat), .slice (some ⟨b, off, none⟩) nv cv, .int .i64 ((out3.length : Int) + 1 + 1)], u.oneCell' = true := by
            intro u hu
            simp at hu
            rcases hu with rfl | rfl | rfl <;> rfl
          have hnews : ∀ j u, [Value.int .i64 (lv : Nat), .slice (some ⟨b, off, none⟩) nv cv, .int .i64 ((out3.length : Int) + 1 + 1)][j]? = some u → (WC.alloc (.cells #[Value.int .i64 (lv : Nat), .slice (some ⟨b, off, none⟩) nv cv, .int .i64 ((out3.length : Int) + 1 + 1)] 98)).drew.cell? ((⟨WC.heap.size, 0, none⟩ : Addr).add j) = some u := by
            intro j u hj
            rw [add_plain, Nat.zero_add]
            exact (((Blk.new WC 98 [Value.int .i64 (lv : Nat), .slice (some ⟨b, off, none⟩) nv cv, .int .i64 ((out3.length : Int) + 1 + 1)]).qt (Qt.refl _).drew).cell j).trans hj
          have hwc0 : w0.heap.size ≤ WC.heap.size := by have := hs6.below.size; exact this
          have Hone := hide hone
          have Hnews := hide hnews
          have Hb6 := hide hb6
          have Hs6 := hide hs6
          have Hr6 := hide hr6
          have E1 := hide e1
          have E2 := hide e2
          have E3 := hide e3
          clear hb6 hs6 hr6 e1 e2 e3 hone hnews Hb5 Hs5 Hr5 Hb4 Hs4 Hr4 Hb3 Hr3
          go_region_law (refine step_append_lies _ rfl _ _ 89 rfl w0.heap.size 98 i1 (.agg #[.int .i64 0, .slice none 0 0, .int .i64 0]) 3 40 Try.underlying89 hi1 hz3 hz4 hz5 rfl (by decide) (.slice K3 known3.length ck3) known3.length (partsC l) (by simp [Act.eval]) (E2.out.alloc _).drew ⟨WC.heap.size, 0, none⟩ 1 1 [.int .i64 (lv : Nat), .slice (some ⟨b, off, none⟩) nv cv, .int .i64 ((out3.length : Int) + 1 + 1)] (by simp [Act.eval]) rfl Hnews.out Hone.out (by omega) hml hby (by simp; omega) _ rfl ?_; intro gr cap w5 hown5 hgr5 hat5 hlt5; have hst7 := Hb6.out.frt ((FrT.of_below ((Below.refl WC.heap.size WC).alloc (Nat.le_refl _) (.cells #[Value.int .i64 (lv : Nat), .slice (some ⟨b, off, none⟩) nv cv, .int .i64 ((out3.length : Int) + 1 + 1)] 98)).drew).trans (FrT.of_grown hgr5 (E2.out.alloc _).drew (.inr rfl))); obtain ⟨r0, r1, r2, s0, s1, s2, m1, m2⟩ := hst7.facts; obtain ⟨g0, g1, g2, g3, g4, g5⟩ := hst7.frozen; have Hb7 := hide hst7; have Hown5 := hide hown5; have Hgr5 := hide hgr5; clear hst7 hown5 hgr5 hat5)
          all_goals
            have hgr := only_trans (only_qt ((Qt.refl (WC.alloc (.cells #[Value.int .i64 (lv : Nat), .slice (some ⟨b, off, none⟩) nv cv, .int .i64 ((out3.length : Int) + 1 + 1)] 98))).drew) (Value.slice K3 known3.length ck3).ownBlock) Hgr5.out
            obtain ⟨hs7, hr7⟩ := Hs6.out.pushK E1.out E2.out E3.out (p := (lv, vals, out3.length + 2)) (s := (some ⟨b, off, none⟩, nv, cv)) Hv.out hgr Hown5.out
            have hfin := Hb7.out.done hs7 (Hr6.out.trans hr7) hbase (.int .i64 L) (.slice O1 (out3.length + 1) oc1) (.int .i64 R)
            have Hfin := hide hfin
            clear hs7 hr7 hfin hgr
            go_wp2
            refine bodyPost_ret (v := .tuple #[.agg #[.int .i64 L, .slice O1 (out3.length + 1) oc1, .int .i64 R], .int .i64 ((out3.length : Int) + 1 + 1), .slice (some ⟨gr, 0, none⟩) (known3.length + 1) cap]) (by simp [results, Try.results62, go_sem, s0, s1, s2]) rfl ?_
            rw [Hfold3.out]
            refine ⟨O1, oc1, some ⟨gr, 0, none⟩, cap, ?_, Hfin.out.1, Hfin.out.2⟩
            simp only [List.length_append, List.length_singleton, List.length_cons, List.length_nil, Int.natCast_add, Int.natCast_succ]
            try rfl
end Go.Proofs.Ytgenpcokpodhkaa
