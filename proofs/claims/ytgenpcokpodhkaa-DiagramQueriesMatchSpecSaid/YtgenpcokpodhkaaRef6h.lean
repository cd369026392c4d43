/- Contracts of the reference's diagramLevel, completed and DiagramFault. -/
import Derived.Test.YtgenpcokpodhkaaRef6g
namespace Go.Proofs.Ytgenpcokpodhkaa
set_option linter.unusedVariables false
set_option linter.unusedSimpArgs false
open Go.RowKit Go.Maps

set_option maxHeartbeats 800000 in
theorem diagramLevel_ct (A : Option Addr) (n c : Nat) (ns : List DI) (L r k : Int) (w : World) (h : Rd Enc.node w A n c ns) (hk : k < (n : Int) + 2) (hk0 : 0 ≤ k) :
    Calls Try.prog 44 #[.agg #[.int .i64 L, .slice A n c, .int .i64 r], .int .i64 k] w (Gives w (.int .i64 (lvlI L ns k))) := by
  have hcap := h.cap
  have hsm := h.small
  have hbl : Below w.heap.size w (w.alloc (.cells #[.int .i64 L, .slice A n c, .int .i64 r] 30)) := (Below.refl _ _).alloc (Nat.le_refl _) _
  have Hbl := hide hbl
  by_cases h2 : k < 2
  · have Hl := hide (lvlI_small L ns h2)
    clear h hbl
    go_enter Try.func44, Try.ntmps44
    go_wp2
    go_ret
    exact ⟨by rw [Hl.out]; rfl, Hbl.out⟩
  · obtain ⟨j, rfl⟩ : ∃ j : Nat, k = (j : Int) + 2 := ⟨(k - 2).toNat, by omega⟩
    obtain ⟨b, off, x, rfl, hx, hc0, hc1, hc2, hxb, hbw⟩ := (h.keep hbl).node (show j < n by omega)
    have Hl := hide (lvlI_node L hx)
    clear h hbl hx
    go_enter Try.func44, Try.ntmps44
    go_wp2
    go_ret
    exact ⟨by rw [Hl.out]; rfl, Hbl.out⟩

/-- all blocks but rows of t are as they were -/
structure FrO (t : TypeId) (w w' : World) : Prop where
  size : w.heap.size ≤ w'.heap.size
  blk : ∀ (i : Nat) (cs : Array Value) (u : TypeId) (m : Nat × Nat), w.heap[i]? = some (Obj.cells cs u m) → u ≠ t → w'.heap[i]? = w.heap[i]?
theorem FrO.refl (t : TypeId) (w : World) : FrO t w w := ⟨Nat.le_refl _, fun _ _ _ _ _ _ => rfl⟩
theorem FrO.trans {t : TypeId} {a b c : World} (h : FrO t a b) (k : FrO t b c) : FrO t a c :=
  ⟨Nat.le_trans h.size k.size, fun i cs u m hi h1 => by
    have e := h.blk i cs u m hi h1
    exact (k.blk i cs u m (e.trans hi) h1).trans e⟩
theorem FrO.of_below {t : TypeId} {a b : World} (h : Below a.heap.size a b) : FrO t a b :=
  ⟨h.size, fun i cs u m hi _ => h.block i (by
    rcases Nat.lt_or_ge i a.heap.size with hl | hl
    · exact hl
    · rw [Array.getElem?_eq_none hl] at hi
      cases hi)⟩
theorem FrO.of_grown {a b : World} {B : Nat} {t : TypeId} {size n : Nat} {v : Value} {xs : List Value} (h : a.grownBy b v.ownBlock) (ho : a.ownsRow B t size v n xs) : FrO t a b :=
  ⟨h.size, fun i cs t' m hi h1 => h.block i (by
    rcases Nat.lt_or_ge i a.heap.size with hl | hl
    · exact hl
    · rw [Array.getElem?_eq_none hl] at hi
      cases hi) (fun e => by
    obtain ⟨_, cs', m', hc⟩ := own_block ho e.symm
    rw [hi] at hc
    injection hc with hc
    injection hc with _ hc _
    exact h1 hc)⟩
theorem Blk.fro {u t : TypeId} {w w' : World} {g : Nat} {cs : List Value} (h : Blk u w g cs) (k : FrO t w w') (h1 : u ≠ t) : Blk u w' g cs := (k.blk g _ _ _ h h1).trans h

theorem comp_mem {L : Nat} {ns : List BN} (ok : OkD L ns) : ∀ (f k : Nat) (done : List Nat) (j : Nat), k < f → j ∈ comp ns f k done → j ∈ done ∨ j ≤ k := by
  intro f
  induction f with
  | zero => intro k done j hk; omega
  | succ f ih =>
    intro k done j hk hj
    unfold comp at hj
    split at hj
    · exact .inl hj
    · rename_i hno
      cases hn : ns[k - 2]? with
      | none => rw [hn] at hj; exact .inl hj
      | some n =>
        obtain ⟨v, l, h⟩ := n
        rw [hn] at hj
        simp only at hj
        obtain ⟨_, h1, h2, _⟩ := ok.node _ v l h hn
        rcases List.mem_append.1 hj with hj | hj
        · rcases ih h _ j (by omega) hj with hj | hj
          · rcases ih l _ j (by omega) hj with hj | hj
            · exact .inl hj
            · exact .inr (by omega)
          · exact .inr (by omega)
        · simp at hj
          exact .inr (by omega)
theorem comp_nodup {L : Nat} {ns : List BN} (ok : OkD L ns) : ∀ (f k : Nat) (done : List Nat), k < f → k < ns.length + 2 → done.Nodup → (∀ j ∈ done, j < ns.length + 2) → (comp ns f k done).Nodup ∧ ∀ j ∈ comp ns f k done, j < ns.length + 2 := by
  intro f
  induction f with
  | zero => intro k done hk; omega
  | succ f ih =>
    intro k done hk hkl hd hb
    unfold comp
    split
    · exact ⟨hd, hb⟩
    · rename_i hno
      cases hn : ns[k - 2]? with
      | none => exact ⟨hd, hb⟩
      | some n =>
        obtain ⟨v, l, h⟩ := n
        simp only
        obtain ⟨_, h1, h2, _⟩ := ok.node _ v l h hn
        obtain ⟨a1, a2⟩ := ih l done (by omega) (by omega) hd hb
        obtain ⟨b1, b2⟩ := ih h _ (by omega) (by omega) a1 a2
        refine ⟨?_, fun j hj => ?_⟩
        · rw [List.nodup_append]
          refine ⟨b1, by simp, fun a ha b hb' e => ?_⟩
          simp at hb'
          subst e hb'
          rcases comp_mem ok f h _ a (by omega) ha with ha | ha
          · rcases comp_mem ok f l _ a (by omega) ha with ha | ha
            · exact hno (.inr ha)
            · omega
          · omega
        · rcases List.mem_append.1 hj with hj | hj
          · exact b2 j hj
          · simp at hj
            omega
theorem nodup_len {l : List Nat} {n : Nat} (h : l.Nodup) (hb : ∀ j ∈ l, j < n) : l.length ≤ n := by
  have := List.Nodup.length_le_of_subset (l₂ := List.range n) h (fun j hj => List.mem_range.2 (hb j hj))
  simpa using this

/-- what completed returns -/
def CompP (w0 w : World) (l : List Nat) (e : Ending) (w' : World) : Prop :=
  ∃ A c, e = .returned (.slice A l.length c) ∧ w'.ownsRow w0.heap.size 3 1 (.slice A l.length c) l.length ((l.map Int.ofNat).map (Value.int .i64)) ∧ Below w0.heap.size w0 w' ∧ FrO 3 w w'

set_option maxHeartbeats 3200000 in
set_option maxRecDepth 100000 in
theorem completed_ct (w0 : World) (L n c r : Nat) (A : Option Addr) (ds : List BN) (ok : OkD L ds) (hfew : ds.length ≤ 300) (h : Rd Enc.node w0 A n c (ds.map castN)) : ∀ (f k : Nat) (done : List Nat) (B : Option Addr) (cc : Nat) (w : World),
    k < f → k < ds.length + 2 → done.Nodup → (∀ j ∈ done, j < ds.length + 2) → w.ownsRow w0.heap.size 3 1 (.slice B done.length cc) done.length ((done.map Int.ofNat).map (Value.int .i64)) → Below w0.heap.size w0 w →
    Calls Try.prog 45 #[.agg #[.int .i64 L, .slice A n c, .int .i64 r], .int .i64 k, .slice B done.length cc] w (CompP w0 w (comp ds f k done)) := by
  have hl := h.len
  rw [List.length_map] at hl
  have hcap := h.cap
  have hcs := h.small
  have Hrd := hide h
  clear h
  intro f
  induction f with
  | zero => intro k done B cc w hk; omega
  | succ f ih =>
    intro k done B cc w hk hkl hnd hbd hown hb
    have hb0 := Blk.new w 30 [.int .i64 L, .slice A n c, .int .i64 r]
    have hbl0 : Below w.heap.size w (w.alloc (.cells #[.int .i64 L, .slice A n c, .int .i64 r] 30)) := (Below.refl _ _).alloc (Nat.le_refl _) _
    have hdl := nodup_len hnd hbd
    have hsz := hb.size
    have hown1 := own_keep hown hbl0
    have hb1 := hb.trans (hbl0.mono hb.size)
    have hfin : comp ds (f + 1) k done = done → ∀ W, Below w.heap.size w W → CompP w0 w (comp ds (f + 1) k done) (.returned (.slice B done.length cc)) W := fun e W hW => by
      rw [e]
      exact ⟨B, cc, rfl, own_keep hown hW, hb.trans (hW.mono hb.size), FrO.of_below hW⟩
    have Hbl0 := hide hbl0
    have Hown := hide hown1
    have Hb := hide hb1
    have Hb0 := hide hb0
    have Ih := hide ih
    have Hfin := hide hfin
    have Hnd := hide hnd
    have Hbd := hide hbd
    clear hb0 hbl0 hown hb hown1 hb1 ih hfin hnd hbd
    by_cases hk2 : k < 2
    · have hc : comp ds (f + 1) k done = done := by unfold comp; rw [if_pos (.inl hk2)]
      have Hc := hide hc
      clear hc
      go_enter Try.func45, Try.ntmps45
      go_wp2_with fail
      go_ret
      exact Hfin.out Hc.out _ Hbl0.out
    · obtain ⟨j, rfl⟩ : ∃ j, k = j + 2 := ⟨k - 2, by omega⟩
      have hcast : ((j + 2 : Nat) : Int) = (j : Int) + 2 := rfl
      rw [hcast]
      have hjn : j < n := by omega
      have hhas : hasB (done.map Int.ofNat) ((j : Int) + 2) = decide (j + 2 ∈ done) := by
        rw [Bool.eq_iff_iff, hasB_iff, decide_eq_true_eq, List.mem_map]
        constructor
        · rintro ⟨a, ha, e⟩
          obtain rfl : a = j + 2 := by have : (a : Int) = (j : Int) + 2 := e; omega
          exact ha
        · intro ha
          exact ⟨j + 2, ha, rfl⟩
      have hrdd : Rd Enc.int (w.alloc (.cells #[.int .i64 L, .slice A n c, .int .i64 r] 30)) B done.length cc (done.map Int.ofNat) := own_rd Hown.out (by simp) (fun x hx => by
        obtain ⟨a, ha, rfl⟩ := List.mem_map.1 hx
        have := Hbd.out a ha
        simp only [Int.ofNat_eq_natCast]
        omega)
      have hct := Has_ct _ _ _ _ ((j : Int) + 2) _ hrdd
      rw [hhas] at hct
      have Hct := hide hct
      clear hct hrdd hhas
      by_cases hin : j + 2 ∈ done
      · have hc : comp ds (f + 1) (j + 2) done = done := by unfold comp; rw [if_pos (.inr hin)]
        rw [decide_eq_true hin] at Hct
        have Hc := hide hc
        clear hc hin
        go_enter Try.func45, Try.ntmps45
        go_wp2_with fail
        refine Hct.out.mono ?_
        rintro e w1 ⟨rfl, rfl⟩
        go_wp2_with fail
        go_ret
        exact Hfin.out Hc.out _ Hbl0.out
      · rw [decide_eq_false hin] at Hct
        obtain ⟨V, hV⟩ : ∃ V, V = w.alloc (.cells #[.int .i64 L, .slice A n c, .int .i64 r] 30) := ⟨_, rfl⟩
        go_enter Try.func45, Try.ntmps45
        go_wp2_with fail
        rw [← hV] at Hct Hown Hb0 Hbl0 Hb ⊢
        clear hV
        refine Hct.out.mono ?_
        rintro e w1 ⟨rfl, rfl⟩
        obtain ⟨b, off, x, rfl, hx, hc0, hc1, hc2, hxb, hbr⟩ := Hrd.out.node hjn
        rw [List.getElem?_map] at hx
        cases hd : ds[j]? with
        | none => rw [hd] at hx; cases hx
        | some nd =>
          obtain ⟨v, l, h'⟩ := nd
          rw [hd] at hx
          obtain rfl : x = castN (v, l, h') := (Option.some.inj hx).symm
          simp only [castN] at hc0 hc1 hc2
          obtain ⟨q1, q2, q3, _⟩ := ok.node j v l h' hd
          have hcells : ∀ W, Below w0.heap.size w0 W → W.cell? ⟨b, off + j * 3 + 1, none⟩ = some (.int .i64 (l : Int)) ∧ W.cell? ⟨b, off + j * 3 + 2, none⟩ = some (.int .i64 (h' : Int)) ∧ b < W.heap.size := fun W hW =>
            ⟨(hW.cell (p := ⟨b, off + j * 3 + 1, none⟩) hbr).trans hc1, (hW.cell (p := ⟨b, off + j * 3 + 2, none⟩) hbr).trans hc2, Nat.lt_of_lt_of_le hbr hW.size⟩
          obtain ⟨u1, u2, u3⟩ := hcells V Hb.out
          have Hcells := hide hcells
          clear hcells hc0 hc1 hc2 hbr
          have hcomp : comp ds (f + 1) (j + 2) done = comp ds f h' (comp ds f l done) ++ [j + 2] := by
            rw [comp, if_neg (by simp [hin]), Nat.add_sub_cancel, hd]
          have Hcomp := hide hcomp
          have f0 := Hb0.out.cell 0
          have f1 := Hb0.out.cell 1
          have f2 := Hb0.out.cell 2
          have f3 := Hb0.out.lt
          simp only [List.getElem?_cons_zero, List.getElem?_cons_succ] at f0 f1 f2
          have hn1 := comp_nodup ok f l done (by omega) (by omega) Hnd.out Hbd.out
          have hc1' := fun W (hW : Qt V W) => Ih.out l done B cc W (by omega) (by omega) Hnd.out Hbd.out (own_keep Hown.out (hW.below _)) (Hb.out.trans (hW.below _))
          have hcall2 := fun B2 cc2 W => Ih.out h' (comp ds f l done) B2 cc2 W (by omega) (by omega) hn1.1 hn1.2
          have hn2 := comp_nodup ok f h' (comp ds f l done) (by omega) (by omega) hn1.1 hn1.2
          generalize comp ds f l done = done1 at hc1' hcall2 hn1 hn2 Hcomp
          generalize comp ds f h' done1 = done2 at hcall2 hn2 Hcomp
          have Hc1 := hide hc1'
          have Hc2 := hide hcall2
          have Hn2 := hide hn2
          have hln2 := nodup_len hn2.1 hn2.2
          have hln1 := nodup_len hn1.1 hn1.2
          clear hx hd hxb hcomp hin hn1 hc1' hcall2 hn2
          have hwr : IntKind.i64.wrap ((j : Int) + 2 - 2) = (j : Int) := by rw [IntWalk.i64_in _ (by omega)]; omega
          have hwr2 : IntKind.i64.wrap (j : Int) = (j : Int) := by rw [IntWalk.i64_in _ (by omega)]
          have hjn0 : (0 : Int) ≤ (j : Int) := by omega
          have hjn2 : (j : Int) < (n : Int) := by omega
          have hjn3 : (n : Int) ≤ (c : Int) := by omega
          go_wp2_with fail
          go_region_held3 (fun w' => w'.cell? ⟨w.heap.size, 0, none⟩ = some (.int .i64 (L : Int)) ∧ w'.cell? ⟨w.heap.size, 1, none⟩ = some (.slice (some ⟨b, off, none⟩) n c) ∧ w'.cell? ⟨w.heap.size, 2, none⟩ = some (.int .i64 (r : Int)) ∧ w'.cell? ⟨b, off + j * 3 + 1, none⟩ = some (.int .i64 (l : Int))) (first | go_keep)
            (first
             | (go_at_call 45
                refine (Hc1.out _ (Qt.refl _).drew).mono ?_
                rintro e w2 ⟨B2, cc2, rfl, hown2, hb2, hfr2⟩
                have hfr := (FrO.of_below (t := 3) (Below.refl V.heap.size V).drew).trans hfr2
                have hbx2 := Hb0.out.fro hfr (by decide)
                obtain ⟨g1, g2, g3⟩ := Hcells.out w2 hb2
                have e0 := hbx2.cell 0
                have e1 := hbx2.cell 1
                have e2 := hbx2.cell 2
                have e3 := hbx2.lt
                simp only [List.getElem?_cons_zero, List.getElem?_cons_succ] at e0 e1 e2
                have Hfr2 := hide ((FrO.of_below Hbl0.out).trans hfr)
                have Hown2 := hide hown2
                have Hb2 := hide hb2
                have Hbx2 := hide hbx2
                clear hfr hfr2 hown2 hb2 hbx2))
          clear u1 u2 u3 f0 f1 f2 f3
          have hc2' := fun W (hW : Qt w2 W) => Hc2.out B2 cc2 W (own_keep Hown2.out (hW.below _)) (Hb2.out.trans ((hW.below w2.heap.size).mono Hb2.out.size))
          have Hc3 := hide hc2'
          clear hc2' Hc1
          go_wp2_with fail
          go_region_held3 (fun w' => w'.cell? ⟨w.heap.size, 0, none⟩ = some (.int .i64 (L : Int)) ∧ w'.cell? ⟨w.heap.size, 1, none⟩ = some (.slice (some ⟨b, off, none⟩) n c) ∧ w'.cell? ⟨w.heap.size, 2, none⟩ = some (.int .i64 (r : Int)) ∧ w'.cell? ⟨b, off + j * 3 + 2, none⟩ = some (.int .i64 (h' : Int))) (first | go_keep)
            (first
             | (go_at_call 45
                refine (Hc3.out _ (Qt.refl _).drew).mono ?_
                rintro e w3 ⟨B3, cc3, rfl, hown3, hb3, hfr3⟩
                have hfr := (FrO.of_below (t := 3) (Below.refl w2.heap.size w2).drew).trans hfr3
                have hbx3 := Hbx2.out.fro hfr (by decide)
                obtain ⟨k1, k2, k3⟩ := Hcells.out w3 hb3
                have d0 := hbx3.cell 0
                have d1 := hbx3.cell 1
                have d2 := hbx3.cell 2
                have d3 := hbx3.lt
                simp only [List.getElem?_cons_zero, List.getElem?_cons_succ] at d0 d1 d2
                have Hfr3 := hide (Hfr2.out.trans hfr)
                have Hown3 := hide hown3
                have Hb3 := hide hb3
                have hsz3 := hb3.size
                clear hfr hfr3 hown3 hb3 hbx3))
          obtain ⟨i0, hi0, hz0, hz1, hz2⟩ := info_parts intInfo
          go_wp2_with
            (at_builtin
             refine wpList_pushG rfl _ _ 48 rfl w0.heap.size 3 i0 (.int .i64 0) 1 8 Try.underlying48 hi0 hz0 hz1 hz2 rfl (by decide) _ _ _ rfl Hown3.out [.int .i64 ((j : Int) + 2)] rfl (by intro u hu; simp at hu; subst hu; rfl) rfl (by omega) (by omega) hsz3 ?_
             intro O1 oc1 w4 hown4 hg4)
          go_ret
          have hba : Below w3.heap.size w3 (w3.alloc (.cells #[.int .i64 ((j : Int) + 2)] 3)) := (Below.refl _ _).alloc (Nat.le_refl _) _
          rw [Hcomp.out]
          refine ⟨O1, oc1, ?_, ?_, ?_, ?_⟩
          · rw [List.length_append]; rfl
          · rw [List.length_append, List.map_append, List.map_append]
            exact hown4
          · exact (Hb3.out.trans (hba.mono Hb3.out.size)).grown hg4 (by simp only [World.size_alloc]; omega) (fun q hq => own_base Hown3.out hq)
          · exact (Hfr3.out.trans (FrO.of_below hba)).trans (FrO.of_grown hg4 (Hown3.out.alloc _))
end Go.Proofs.Ytgenpcokpodhkaa
