/- A new solver. -/
import Derived.Test.YtnfeknfakkdbhaaRs13
namespace Go.Proofs.Ytnfeknfakkdbhaa
set_option linter.unusedVariables false
set_option linter.unusedSimpArgs false
open Go.RowKit

def NewP (w : World) (V : Nat) (cs : List (List Int)) (e : Ending) (w' : World) : Prop :=
  ∃ (g : Nat) (a : SA), e = .returned (.pointer (some ⟨g, 0, none⟩)) ∧ Below w.heap.size w w' ∧ Sv w.heap.size w' g a V cs [] (List.replicate (V + 1) 0) (List.replicate (V + 1) 0) (List.replicate (V + 1) 0) [] []
theorem own_mono {w : World} {B B' : Nat} {e : TypeId} {size n : Nat} {v : Value} {xs : List Value} (h : w.ownsRow B e size v n xs) (hB : B' ≤ B) : w.ownsRow B' e size v n xs := by
  refine ⟨h.1, ?_⟩
  rcases h.2 with h3 | ⟨r, cap, cur, e1, hr, hc, rest⟩
  · exact .inl h3
  · exact .inr ⟨r, cap, cur, e1, by omega, hc, rest⟩
/-- what the copy of the clauses has laid -/
def Cloned (B H : Nat) (w : World) (n : Nat) (cs : List (List Int)) (O : Option Addr) (oc : Nat) : Prop :=
  ∃ xs : List Value, w.ownsRow B 22 1 (.slice O n oc) n xs ∧
    ∀ (i : Nat) (x : List Int), cs[i]? = some x → ∃ A' n' c', xs[i]? = some (Value.slice A' n' c') ∧ Rd Enc.int w A' n' c' x ∧ ∀ b off, A' = some ⟨b, off, none⟩ → 0 < n' → b < H
theorem Cloned.keep {B H : Nat} {w w' : World} {n : Nat} {cs : List (List Int)} {O : Option Addr} {oc : Nat} (h : Cloned B H w n cs O oc) (hb : Below w.heap.size w w') : Cloned B H w' n cs O oc := by
  obtain ⟨xs, h1, h2⟩ := h
  refine ⟨xs, own_keep h1 hb, fun i x hx => ?_⟩
  obtain ⟨A', n', c', e1, e2, e3⟩ := h2 i x hx
  exact ⟨A', n', c', e1, e2.keep hb, e3⟩
theorem new_tail {w W : World} {V n gv gl gr : Nat} {cs : List (List Int)} {O : Option Addr} {oc : Nat} (hb : Below w.heap.size w W) (hv : BlkI 3 W gv (List.replicate (V + 1) 0)) (hl : BlkI 3 W gl (List.replicate (V + 1) 0)) (hr : BlkI 3 W gr (List.replicate (V + 1) 0))
    (d1 : gv ≠ gl) (d2 : gv ≠ gr) (d3 : gl ≠ gr) (g1 : w.heap.size ≤ gv) (g2 : w.heap.size ≤ gl) (g3 : w.heap.size ≤ gr) (hc : Cloned w.heap.size w.heap.size W n cs O oc) (hn : cs.length = n) {w' : World} {g : Nat}
    (hg : g = W.heap.size) (hw : w' = W.alloc (.cells #[.int .i64 V, .slice O n oc, .slice none 0 0, .slice (some ⟨gv, 0, none⟩) (V + 1) (V + 1), .slice (some ⟨gl, 0, none⟩) (V + 1) (V + 1), .slice (some ⟨gr, 0, none⟩) (V + 1) (V + 1), .slice none 0 0, .slice none 0 0] 96)) :
    Below w.heap.size w w' ∧ Sv w.heap.size w' g ⟨gv, gl, gr, O, oc, none, 0, none, 0, none, 0⟩ V cs [] (List.replicate (V + 1) 0) (List.replicate (V + 1) 0) (List.replicate (V + 1) 0) [] [] := by
  subst hg hn
  have hbx := Blk.new W 96 [.int .i64 V, .slice O cs.length oc, .slice none 0 0, .slice (some ⟨gv, 0, none⟩) (V + 1) (V + 1), .slice (some ⟨gl, 0, none⟩) (V + 1) (V + 1), .slice (some ⟨gr, 0, none⟩) (V + 1) (V + 1), .slice none 0 0, .slice none 0 0]
  have hk : Below W.heap.size W w' := by rw [hw]; exact (Below.refl _ _).alloc (Nat.le_refl _) _
  have hbx : Blk 96 w' W.heap.size [.int .i64 V, .slice O cs.length oc, .slice none 0 0, .slice (some ⟨gv, 0, none⟩) (V + 1) (V + 1), .slice (some ⟨gl, 0, none⟩) (V + 1) (V + 1), .slice (some ⟨gr, 0, none⟩) (V + 1) (V + 1), .slice none 0 0, .slice none 0 0] := by rw [hw]; exact hbx
  clear hw
  obtain ⟨xs, hown, hxs⟩ := hc
  have lv := hv.lt
  have ll := hl.lt
  have lr := hr.lt
  have hO : ∀ r, blkO O = some r → w.heap.size ≤ r ∧ r < W.heap.size ∧ r ≠ gv ∧ r ≠ gl ∧ r ≠ gr := fun r hr' => by
    have h1 := own_base hown (by rw [own_blkO]; exact hr')
    have h2 := (own_block hown (r := r) (by rw [own_blkO]; exact hr')).1
    have nb : ∀ {q : Nat} {ys : List Int}, BlkI 3 W q ys → r ≠ q := fun hq e => own_ne hown (cs := _) hq (by decide) (by rw [own_blkO, hr', e])
    exact ⟨h1, h2, nb hv, nb hl, nb hr⟩
  have hs := hb.size
  have hge : ∀ i r, ro W.heap.size ⟨gv, gl, gr, O, oc, none, 0, none, 0, none, 0⟩ i = some r → w.heap.size ≤ r := fun i r hi => by
    match i, hi with
    | 0, hi => injection hi with hi; omega
    | 1, hi => injection hi with hi; exact hi ▸ g1
    | 2, hi => injection hi with hi; exact hi ▸ g2
    | 3, hi => injection hi with hi; exact hi ▸ g3
    | 4, hi => cases hi
    | 5, hi => cases hi
    | 6, hi => exact (hO r hi).1
    | 7, hi => cases hi
  have val : ∀ i r, ro W.heap.size ⟨gv, gl, gr, O, oc, none, 0, none, 0, none, 0⟩ i = some r → (i = 0 ∧ r = W.heap.size) ∨ (i = 1 ∧ r = gv) ∨ (i = 2 ∧ r = gl) ∨ (i = 3 ∧ r = gr) ∨ (i = 6 ∧ blkO O = some r) := fun i r hi => by
    match i, hi with
    | 0, hi => injection hi with hi; exact .inl ⟨rfl, hi.symm⟩
    | 1, hi => injection hi with hi; exact .inr (.inl ⟨rfl, hi.symm⟩)
    | 2, hi => injection hi with hi; exact .inr (.inr (.inl ⟨rfl, hi.symm⟩))
    | 3, hi => injection hi with hi; exact .inr (.inr (.inr (.inl ⟨rfl, hi.symm⟩)))
    | 4, hi => cases hi
    | 5, hi => cases hi
    | 6, hi => exact .inr (.inr (.inr (.inr ⟨rfl, hi⟩)))
    | 7, hi => cases hi
  have hap : ∀ i j r, ro W.heap.size ⟨gv, gl, gr, O, oc, none, 0, none, 0, none, 0⟩ i = some r → ro W.heap.size ⟨gv, gl, gr, O, oc, none, 0, none, 0, none, 0⟩ j = some r → i = j := fun i j r hi hj => by
    rcases val i r hi with ⟨e1, e2⟩ | ⟨e1, e2⟩ | ⟨e1, e2⟩ | ⟨e1, e2⟩ | ⟨e1, e2⟩ <;> rcases val j r hj with ⟨e3, e4⟩ | ⟨e3, e4⟩ | ⟨e3, e4⟩ | ⟨e3, e4⟩ | ⟨e3, e4⟩ <;>
      first | omega | (have := hO r e2; omega) | (have := hO r e4; omega)
  refine ⟨hb.trans (hk.mono hs), hge, hap, hbx, hv.keep hk, by simp, hl.keep hk, by simp, hr.keep hk, by simp, World.ownsRow_nil _ _ _ _, World.ownsRow_nil _ _ _ _, ⟨xs, own_keep hown hk, rfl, fun i x hx => ?_⟩, ⟨[], World.ownsRow_nil _ _ _ _, rfl, fun i x hx => by simp at hx⟩⟩
  obtain ⟨A', n', c', e1, e2, e3⟩ := hxs i x hx
  refine ⟨A', n', c', e1, e2.keep hk, fun b off e hn hm => ?_⟩
  obtain ⟨j, hj⟩ := hm
  have h1 := hge j b hj
  have h2 := e3 b off e hn
  omega
set_option maxRecDepth 100000 in
set_option maxHeartbeats 16000000 in
theorem newSolver_ct {w : World} {A : Option Addr} {n c V : Nat} {cs : List (List Int)} (h : Rd (Enc.sl Enc.int) w A n c cs) (hA : ∀ ad, A = some ad → ∃ b off, ad = ⟨b, off, none⟩) (hn : n ≤ 1000000) (hV : V ≤ 1000) :
    Calls Try.prog 68 #[.agg #[.int .i64 V, .slice A n c]] w (NewP w V cs) := by
  obtain ⟨i0, hi0, hz0, hz1, hz2⟩ := info_parts Try.intInfo
  have hmk := fun w => run_make_ints (P := Try.prog) 22 3 i0 Try.underlying22 hi0 hz0 hz1 hz2 (V + 1) (by omega) w
  simp only [Int.natCast_add, Int.natCast_one] at hmk
  have Hlen := hide h.len
  have H := hide h
  have HA := hide hA
  clear h hA
  go_enter Try.func68, Try.ntmps68
  go_upto_region 2 with (fail)
  have hB0 := Blk.new w 51 [.int .i64 V, .slice A n c]
  have hb0 := ((Below.refl w.heap.size w).alloc (Nat.le_refl _) (.cells #[.int .i64 V, .slice A n c] 51)).drew
  obtain ⟨W0, hW0⟩ : ∃ W0, W0 = w.alloc (.cells #[.int .i64 V, .slice A n c] 51) := ⟨_, rfl⟩
  rw [← hW0] at hB0 hb0 ⊢
  clear hW0
  have Hb := hide hb0
  clear hb0
  obtain ⟨bB, hbB⟩ : ∃ b, b = w.heap.size := ⟨_, rfl⟩
  rw [← hbB] at hB0 ⊢
  clear hbB
  have c0 := hB0.cell 0
  have c1 := hB0.cell 1
  simp only [List.getElem?_cons_zero, List.getElem?_cons_succ] at c0 c1
  have HB := hide (hB0.keep (Below.refl W0.heap.size W0).drew)
  clear hB0
  refine wp_region_held_drew (S := (fun w' => w'.cell? ⟨bB, 0, none⟩ = some (.int .i64 V) ∧ w'.cell? ⟨bB, 1, none⟩ = some (.slice A n c))) (by kernel_rfl) ?_ (fun hHeld => ?_)
  · (try dsimp only); exact ⟨c0, c1⟩
  refine take1 (i := 0) (v := ?_) (some 7) rfl rfl (by kernel_rfl) (by kernel_rfl) (by kernel_rfl) (fun _ _ _ h => h) (Or.inl ⟨by rfl, ?_⟩) (by assumption) ?_
  rotate_left
  · intro w hSw; (try dsimp only at hSw); obtain ⟨s1, s2⟩ := hSw; first | (go_simp; done) | (go_simp; with_reducible rfl)
  try simp only [Act.put, List.setIfInBounds_toArray, List.set_cons_zero, List.set_cons_succ]
  refine take1 (i := 1) (v := ?_) (some 8) rfl rfl (by kernel_rfl) (by kernel_rfl) (by kernel_rfl) (fun _ _ _ h => h) (Or.inl ⟨by rfl, ?_⟩) (by assumption) ?_
  rotate_left
  · intro w hSw; (try dsimp only at hSw); obtain ⟨s1, s2⟩ := hSw; first | (go_simp; done) | (go_simp; with_reducible rfl)
  try simp only [Act.put, List.setIfInBounds_toArray, List.set_cons_zero, List.set_cons_succ]
  refine take1 (i := 2) (v := ?_) (some 9) rfl rfl (by kernel_rfl) (by kernel_rfl) (by kernel_rfl) (fun _ _ _ h => h) (Or.inl ⟨by rfl, ?_⟩) (by assumption) ?_
  rotate_left
  · intro w hSw; (try dsimp only at hSw); obtain ⟨s1, s2⟩ := hSw; first | (go_simp; done) | (go_simp; with_reducible rfl)
  try simp only [Act.put, List.setIfInBounds_toArray, List.set_cons_zero, List.set_cons_succ]
  refine take1 (i := 3) (v := ?_) (some 10) rfl rfl (by kernel_rfl) (by kernel_rfl) (by kernel_rfl) (fun _ _ _ h => h) (Or.inl ⟨by rfl, ?_⟩) (by assumption) ?_
  rotate_left
  · intro w hSw; (try dsimp only at hSw); obtain ⟨s1, s2⟩ := hSw; first | (go_simp; done) | (go_simp; with_reducible rfl)
  try simp only [Act.put, List.setIfInBounds_toArray, List.set_cons_zero, List.set_cons_succ]
  refine take1 (i := 5) (v := ?_) (some 12) rfl rfl (by kernel_rfl) (by kernel_rfl) (by kernel_rfl) (fun _ _ _ h => h) (Or.inl ⟨by rfl, ?_⟩) (by assumption) ?_
  rotate_left
  · intro w hSw; (try dsimp only at hSw); obtain ⟨s1, s2⟩ := hSw; first | (go_simp; done) | (go_simp; with_reducible rfl)
  try simp only [Act.put, List.setIfInBounds_toArray, List.set_cons_zero, List.set_cons_succ]
  refine take1 (i := 7) (v := ?_) (some 14) rfl rfl (by kernel_rfl) (by kernel_rfl) (by kernel_rfl) (fun _ _ _ h => h) (Or.inl ⟨by rfl, ?_⟩) (by assumption) ?_
  rotate_left
  · intro w hSw; (try dsimp only at hSw); obtain ⟨s1, s2⟩ := hSw; first | (go_simp; done) | (go_simp; with_reducible rfl)
  try simp only [Act.put, List.setIfInBounds_toArray, List.set_cons_zero, List.set_cons_succ]
  refine take1 (i := 9) (v := ?_) (some 16) rfl rfl (by kernel_rfl) (by kernel_rfl) (by kernel_rfl) (fun _ _ _ h => h) (Or.inl ⟨by rfl, ?_⟩) (by assumption) ?_
  rotate_left
  · intro w hSw; (try dsimp only at hSw); obtain ⟨s1, s2⟩ := hSw; first | (go_simp; done) | (go_simp; with_reducible rfl)
  try simp only [Act.put, List.setIfInBounds_toArray, List.set_cons_zero, List.set_cons_succ]
  obtain ⟨W1, hW1⟩ : ∃ W1, W1 = W0.drew := ⟨_, rfl⟩
  rw [← hW1] at HB Hb hHeld ⊢
  clear hW1 c0 c1
  refine wpAnyH_ready (rs := [4, 6, 8, 10]) (by kernel_rfl) (by simp) ?_
  refine AllReadyH.cons rfl (fun K hK => ?_) (AllReadyH.cons rfl (fun K hK => ?_) (AllReadyH.cons rfl (fun K hK => ?_) (AllReadyH.cons rfl (fun K hK => ?_) AllReadyH.nil)))
  · go_simp
    with_reducible refine (clone_ct H.out Hb.out HA.out hn).mono ?_
    rintro e W2 ⟨O, oc, rfl, hb, xs, hown, hxs⟩
    have hcl : Cloned w.heap.size w.heap.size W2 n cs O oc := ⟨xs, own_mono hown Hb.out.size, fun i x hx => by
      obtain ⟨A', n', c', e1, e2⟩ := hxs i x hx
      refine ⟨A', n', c', e1, e2.keep (Hb.out.trans (hb.mono Hb.out.size)), fun b off e hn9 => ?_⟩
      obtain ⟨b', off', e', hlt⟩ := rd_heap e2 hn9 (by decide)
      rw [e] at e'
      injection e' with e'
      injection e' with e' _
      omega⟩
    have HC := hide hcl
    clear hcl hown hxs xs
    replace HB := hide (HB.out.keep hb)
    replace Hb := hide (Hb.out.trans (hb.mono Hb.out.size))
    clear hb
    have c0 := HB.out.cell 0
    have c1 := HB.out.cell 1
    simp only [List.getElem?_cons_zero, List.getElem?_cons_succ] at c0 c1
    refine hK.out _ _ ?_ (fun hHeld2 => ?_)
    · (try dsimp only); exact ⟨c0, c1⟩
    clear hK K hHeld c0 c1
    try simp only [Act.put, List.setIfInBounds_toArray, List.set_cons_zero, List.set_cons_succ]
    have hHeld := hHeld2; clear hHeld2
    refine wpAnyH_ready (rs := [6, 8, 10]) (by kernel_rfl) (by simp) ?_
    refine AllReadyH.cons rfl (fun K hK => ?_) (AllReadyH.cons rfl (fun K hK => ?_) (AllReadyH.cons rfl (fun K hK => ?_) AllReadyH.nil))
    · go_simp
      have hb := (Below.refl W2.heap.size W2).alloc (Nat.le_refl _) (.cells (zerosA (V + 1)) 3)
      have hn2 := BlkI.made W2 3 (V + 1)
      obtain ⟨W3, hW2⟩ : ∃ W9, W9 = W2.alloc (.cells (zerosA (V + 1)) 3) := ⟨_, rfl⟩
      rw [← hW2] at hb hn2 ⊢
      clear hW2
      have gev := Hb.out.size
      replace HB := hide (HB.out.keep hb)
      replace HC := hide (HC.out.keep hb)
      replace Hb := hide (Hb.out.trans (hb.mono Hb.out.size))
      clear hb
      generalize W2.heap.size = gv at hn2 gev  ⊢
      have Hv := hide hn2
      clear hn2
      have c0 := HB.out.cell 0
      have c1 := HB.out.cell 1
      simp only [List.getElem?_cons_zero, List.getElem?_cons_succ] at c0 c1
      refine hK.out _ _ ?_ (fun hHeld2 => ?_)
      · (try dsimp only); exact ⟨c0, c1⟩
      clear hK K hHeld c0 c1
      try simp only [Act.put, List.setIfInBounds_toArray, List.set_cons_zero, List.set_cons_succ]
      have hHeld := hHeld2; clear hHeld2
      refine wpAnyH_ready (rs := [8, 10]) (by kernel_rfl) (by simp) ?_
      refine AllReadyH.cons rfl (fun K hK => ?_) (AllReadyH.cons rfl (fun K hK => ?_) AllReadyH.nil)
      · go_simp
        have hb := (Below.refl W3.heap.size W3).alloc (Nat.le_refl _) (.cells (zerosA (V + 1)) 3)
        have hn2 := BlkI.made W3 3 (V + 1)
        obtain ⟨W4, hW2⟩ : ∃ W9, W9 = W3.alloc (.cells (zerosA (V + 1)) 3) := ⟨_, rfl⟩
        rw [← hW2] at hb hn2 ⊢
        clear hW2
        have gel := Hb.out.size
        have nvl := Hv.out.lt
        replace HB := hide (HB.out.keep hb)
        replace Hv := hide (Hv.out.keep hb)
        replace HC := hide (HC.out.keep hb)
        replace Hb := hide (Hb.out.trans (hb.mono Hb.out.size))
        clear hb
        generalize W3.heap.size = gl at hn2 gel nvl ⊢
        have Hl := hide hn2
        clear hn2
        have c0 := HB.out.cell 0
        have c1 := HB.out.cell 1
        simp only [List.getElem?_cons_zero, List.getElem?_cons_succ] at c0 c1
        refine hK.out _ _ ?_ (fun hHeld2 => ?_)
        · (try dsimp only); exact ⟨c0, c1⟩
        clear hK K hHeld c0 c1
        try simp only [Act.put, List.setIfInBounds_toArray, List.set_cons_zero, List.set_cons_succ]
        have hHeld := hHeld2; clear hHeld2
        refine wpAnyH_ready (rs := [10]) (by kernel_rfl) (by simp) ?_
        refine AllReadyH.cons rfl (fun K hK => ?_) AllReadyH.nil
        · go_simp
          have hb := (Below.refl W4.heap.size W4).alloc (Nat.le_refl _) (.cells (zerosA (V + 1)) 3)
          have hn2 := BlkI.made W4 3 (V + 1)
          obtain ⟨W5, hW2⟩ : ∃ W9, W9 = W4.alloc (.cells (zerosA (V + 1)) 3) := ⟨_, rfl⟩
          rw [← hW2] at hb hn2 ⊢
          clear hW2
          have ger := Hb.out.size
          have nvr := Hv.out.lt
          have nlr := Hl.out.lt
          replace HB := hide (HB.out.keep hb)
          replace Hv := hide (Hv.out.keep hb)
          replace Hl := hide (Hl.out.keep hb)
          replace HC := hide (HC.out.keep hb)
          replace Hb := hide (Hb.out.trans (hb.mono Hb.out.size))
          clear hb
          generalize W4.heap.size = gr at hn2 ger nvr nlr ⊢
          have Hr := hide hn2
          clear hn2
          have c0 := HB.out.cell 0
          have c1 := HB.out.cell 1
          simp only [List.getElem?_cons_zero, List.getElem?_cons_succ] at c0 c1
          refine hK.out _ _ ?_ (fun hHeld2 => ?_)
          · (try dsimp only); exact ⟨c0, c1⟩
          clear hK K hHeld c0 c1
          try simp only [Act.put, List.setIfInBounds_toArray, List.set_cons_zero, List.set_cons_succ]
          have hHeld := hHeld2; clear hHeld2
          refine take1 (i := 11) (v := ?_) (some 18) rfl rfl (by kernel_rfl) (by kernel_rfl) (by kernel_rfl) (fun _ _ _ h => h) (Or.inl ⟨by rfl, ?_⟩) (by assumption) ?_
          rotate_left
          · intro w hSw; (try dsimp only at hSw); obtain ⟨s1, s2⟩ := hSw; first | (go_simp; done) | (go_simp; with_reducible rfl)
          try simp only [Act.put, List.setIfInBounds_toArray, List.set_cons_zero, List.set_cons_succ]
          refine wpAnyH_ready (rs := [12]) (by kernel_rfl) (by simp) ?_
          refine AllReadyH.cons rfl (fun K hK => ?_) AllReadyH.nil
          go_simp
          obtain ⟨WF, hWF⟩ : ∃ WF, WF = W5.alloc (.cells #[.int .i64 V, .slice O n oc, .slice none 0 0, .slice (some ⟨gv, 0, none⟩) (V + 1) (V + 1), .slice (some ⟨gl, 0, none⟩) (V + 1) (V + 1), .slice (some ⟨gr, 0, none⟩) (V + 1) (V + 1), .slice none 0 0, .slice none 0 0] 96) := ⟨_, rfl⟩
          obtain ⟨g, hg⟩ : ∃ g, g = W5.heap.size := ⟨_, rfl⟩
          obtain ⟨ht1, ht2⟩ := new_tail Hb.out Hv.out Hl.out Hr.out (by omega) (by omega) (by omega) gev gel ger HC.out Hlen.out hg hWF
          have hbx : Blk 51 WF bB [.int .i64 V, .slice A n c] := by rw [hWF]; exact HB.out.alloc _
          rw [← hWF, ← hg]
          have Ht1 := hide ht1
          have Ht2 := hide ht2
          have c0 := hbx.cell 0
          have c1 := hbx.cell 1
          simp only [List.getElem?_cons_zero, List.getElem?_cons_succ] at c0 c1
          clear hWF hg ht1 ht2 hbx
          refine hK.out _ _ ?_ (fun hHeld2 => ?_)
          · (try dsimp only); exact ⟨c0, c1⟩
          clear hK K hHeld
          try simp only [Act.put, List.setIfInBounds_toArray, List.set_cons_zero, List.set_cons_succ]
          have hHeld := hHeld2; clear hHeld2
          refine take1 (i := 13) (v := ?_) (some 2) rfl rfl (by kernel_rfl) (by kernel_rfl) (by kernel_rfl) (fun _ _ _ h => h) (Or.inl ⟨by rfl, ?_⟩) (by assumption) ?_
          rotate_left
          · intro w hSw; (try dsimp only at hSw); obtain ⟨s1, s2⟩ := hSw; first | (go_simp; done) | (go_simp; with_reducible rfl)
          try simp only [Act.put, List.setIfInBounds_toArray, List.set_cons_zero, List.set_cons_succ]
          refine wpAnyH_done (by kernel_rfl) ?_ _
          go_wp2
          go_ret
          exact ⟨g, _, rfl, Ht1.out, Ht2.out⟩
      · go_simp
        have hb := (Below.refl W3.heap.size W3).alloc (Nat.le_refl _) (.cells (zerosA (V + 1)) 3)
        have hn2 := BlkI.made W3 3 (V + 1)
        obtain ⟨W4, hW2⟩ : ∃ W9, W9 = W3.alloc (.cells (zerosA (V + 1)) 3) := ⟨_, rfl⟩
        rw [← hW2] at hb hn2 ⊢
        clear hW2
        have ger := Hb.out.size
        have nvr := Hv.out.lt
        replace HB := hide (HB.out.keep hb)
        replace Hv := hide (Hv.out.keep hb)
        replace HC := hide (HC.out.keep hb)
        replace Hb := hide (Hb.out.trans (hb.mono Hb.out.size))
        clear hb
        generalize W3.heap.size = gr at hn2 ger nvr ⊢
        have Hr := hide hn2
        clear hn2
        have c0 := HB.out.cell 0
        have c1 := HB.out.cell 1
        simp only [List.getElem?_cons_zero, List.getElem?_cons_succ] at c0 c1
        refine hK.out _ _ ?_ (fun hHeld2 => ?_)
        · (try dsimp only); exact ⟨c0, c1⟩
        clear hK K hHeld c0 c1
        try simp only [Act.put, List.setIfInBounds_toArray, List.set_cons_zero, List.set_cons_succ]
        have hHeld := hHeld2; clear hHeld2
        refine wpAnyH_ready (rs := [8]) (by kernel_rfl) (by simp) ?_
        refine AllReadyH.cons rfl (fun K hK => ?_) AllReadyH.nil
        · go_simp
          have hb := (Below.refl W4.heap.size W4).alloc (Nat.le_refl _) (.cells (zerosA (V + 1)) 3)
          have hn2 := BlkI.made W4 3 (V + 1)
          obtain ⟨W5, hW2⟩ : ∃ W9, W9 = W4.alloc (.cells (zerosA (V + 1)) 3) := ⟨_, rfl⟩
          rw [← hW2] at hb hn2 ⊢
          clear hW2
          have gel := Hb.out.size
          have nvl := Hv.out.lt
          have nrl := Hr.out.lt
          replace HB := hide (HB.out.keep hb)
          replace Hv := hide (Hv.out.keep hb)
          replace Hr := hide (Hr.out.keep hb)
          replace HC := hide (HC.out.keep hb)
          replace Hb := hide (Hb.out.trans (hb.mono Hb.out.size))
          clear hb
          generalize W4.heap.size = gl at hn2 gel nvl nrl ⊢
          have Hl := hide hn2
          clear hn2
          have c0 := HB.out.cell 0
          have c1 := HB.out.cell 1
          simp only [List.getElem?_cons_zero, List.getElem?_cons_succ] at c0 c1
          refine hK.out _ _ ?_ (fun hHeld2 => ?_)
          · (try dsimp only); exact ⟨c0, c1⟩
          clear hK K hHeld c0 c1
          try simp only [Act.put, List.setIfInBounds_toArray, List.set_cons_zero, List.set_cons_succ]
          have hHeld := hHeld2; clear hHeld2
          refine take1 (i := 11) (v := ?_) (some 18) rfl rfl (by kernel_rfl) (by kernel_rfl) (by kernel_rfl) (fun _ _ _ h => h) (Or.inl ⟨by rfl, ?_⟩) (by assumption) ?_
          rotate_left
          · intro w hSw; (try dsimp only at hSw); obtain ⟨s1, s2⟩ := hSw; first | (go_simp; done) | (go_simp; with_reducible rfl)
          try simp only [Act.put, List.setIfInBounds_toArray, List.set_cons_zero, List.set_cons_succ]
          refine wpAnyH_ready (rs := [12]) (by kernel_rfl) (by simp) ?_
          refine AllReadyH.cons rfl (fun K hK => ?_) AllReadyH.nil
          go_simp
          obtain ⟨WF, hWF⟩ : ∃ WF, WF = W5.alloc (.cells #[.int .i64 V, .slice O n oc, .slice none 0 0, .slice (some ⟨gv, 0, none⟩) (V + 1) (V + 1), .slice (some ⟨gl, 0, none⟩) (V + 1) (V + 1), .slice (some ⟨gr, 0, none⟩) (V + 1) (V + 1), .slice none 0 0, .slice none 0 0] 96) := ⟨_, rfl⟩
          obtain ⟨g, hg⟩ : ∃ g, g = W5.heap.size := ⟨_, rfl⟩
          obtain ⟨ht1, ht2⟩ := new_tail Hb.out Hv.out Hl.out Hr.out (by omega) (by omega) (by omega) gev gel ger HC.out Hlen.out hg hWF
          have hbx : Blk 51 WF bB [.int .i64 V, .slice A n c] := by rw [hWF]; exact HB.out.alloc _
          rw [← hWF, ← hg]
          have Ht1 := hide ht1
          have Ht2 := hide ht2
          have c0 := hbx.cell 0
          have c1 := hbx.cell 1
          simp only [List.getElem?_cons_zero, List.getElem?_cons_succ] at c0 c1
          clear hWF hg ht1 ht2 hbx
          refine hK.out _ _ ?_ (fun hHeld2 => ?_)
          · (try dsimp only); exact ⟨c0, c1⟩
          clear hK K hHeld
          try simp only [Act.put, List.setIfInBounds_toArray, List.set_cons_zero, List.set_cons_succ]
          have hHeld := hHeld2; clear hHeld2
          refine take1 (i := 13) (v := ?_) (some 2) rfl rfl (by kernel_rfl) (by kernel_rfl) (by kernel_rfl) (fun _ _ _ h => h) (Or.inl ⟨by rfl, ?_⟩) (by assumption) ?_
          rotate_left
          · intro w hSw; (try dsimp only at hSw); obtain ⟨s1, s2⟩ := hSw; first | (go_simp; done) | (go_simp; with_reducible rfl)
          try simp only [Act.put, List.setIfInBounds_toArray, List.set_cons_zero, List.set_cons_succ]
          refine wpAnyH_done (by kernel_rfl) ?_ _
          go_wp2
          go_ret
          exact ⟨g, _, rfl, Ht1.out, Ht2.out⟩
    · go_simp
      have hb := (Below.refl W2.heap.size W2).alloc (Nat.le_refl _) (.cells (zerosA (V + 1)) 3)
      have hn2 := BlkI.made W2 3 (V + 1)
      obtain ⟨W3, hW2⟩ : ∃ W9, W9 = W2.alloc (.cells (zerosA (V + 1)) 3) := ⟨_, rfl⟩
      rw [← hW2] at hb hn2 ⊢
      clear hW2
      have gel := Hb.out.size
      replace HB := hide (HB.out.keep hb)
      replace HC := hide (HC.out.keep hb)
      replace Hb := hide (Hb.out.trans (hb.mono Hb.out.size))
      clear hb
      generalize W2.heap.size = gl at hn2 gel  ⊢
      have Hl := hide hn2
      clear hn2
      have c0 := HB.out.cell 0
      have c1 := HB.out.cell 1
      simp only [List.getElem?_cons_zero, List.getElem?_cons_succ] at c0 c1
      refine hK.out _ _ ?_ (fun hHeld2 => ?_)
      · (try dsimp only); exact ⟨c0, c1⟩
      clear hK K hHeld c0 c1
      try simp only [Act.put, List.setIfInBounds_toArray, List.set_cons_zero, List.set_cons_succ]
      have hHeld := hHeld2; clear hHeld2
      refine wpAnyH_ready (rs := [6, 10]) (by kernel_rfl) (by simp) ?_
      refine AllReadyH.cons rfl (fun K hK => ?_) (AllReadyH.cons rfl (fun K hK => ?_) AllReadyH.nil)
      · go_simp
        have hb := (Below.refl W3.heap.size W3).alloc (Nat.le_refl _) (.cells (zerosA (V + 1)) 3)
        have hn2 := BlkI.made W3 3 (V + 1)
        obtain ⟨W4, hW2⟩ : ∃ W9, W9 = W3.alloc (.cells (zerosA (V + 1)) 3) := ⟨_, rfl⟩
        rw [← hW2] at hb hn2 ⊢
        clear hW2
        have gev := Hb.out.size
        have nlv := Hl.out.lt
        replace HB := hide (HB.out.keep hb)
        replace Hl := hide (Hl.out.keep hb)
        replace HC := hide (HC.out.keep hb)
        replace Hb := hide (Hb.out.trans (hb.mono Hb.out.size))
        clear hb
        generalize W3.heap.size = gv at hn2 gev nlv ⊢
        have Hv := hide hn2
        clear hn2
        have c0 := HB.out.cell 0
        have c1 := HB.out.cell 1
        simp only [List.getElem?_cons_zero, List.getElem?_cons_succ] at c0 c1
        refine hK.out _ _ ?_ (fun hHeld2 => ?_)
        · (try dsimp only); exact ⟨c0, c1⟩
        clear hK K hHeld c0 c1
        try simp only [Act.put, List.setIfInBounds_toArray, List.set_cons_zero, List.set_cons_succ]
        have hHeld := hHeld2; clear hHeld2
        refine wpAnyH_ready (rs := [10]) (by kernel_rfl) (by simp) ?_
        refine AllReadyH.cons rfl (fun K hK => ?_) AllReadyH.nil
        · go_simp
          have hb := (Below.refl W4.heap.size W4).alloc (Nat.le_refl _) (.cells (zerosA (V + 1)) 3)
          have hn2 := BlkI.made W4 3 (V + 1)
          obtain ⟨W5, hW2⟩ : ∃ W9, W9 = W4.alloc (.cells (zerosA (V + 1)) 3) := ⟨_, rfl⟩
          rw [← hW2] at hb hn2 ⊢
          clear hW2
          have ger := Hb.out.size
          have nlr := Hl.out.lt
          have nvr := Hv.out.lt
          replace HB := hide (HB.out.keep hb)
          replace Hl := hide (Hl.out.keep hb)
          replace Hv := hide (Hv.out.keep hb)
          replace HC := hide (HC.out.keep hb)
          replace Hb := hide (Hb.out.trans (hb.mono Hb.out.size))
          clear hb
          generalize W4.heap.size = gr at hn2 ger nlr nvr ⊢
          have Hr := hide hn2
          clear hn2
          have c0 := HB.out.cell 0
          have c1 := HB.out.cell 1
          simp only [List.getElem?_cons_zero, List.getElem?_cons_succ] at c0 c1
          refine hK.out _ _ ?_ (fun hHeld2 => ?_)
          · (try dsimp only); exact ⟨c0, c1⟩
          clear hK K hHeld c0 c1
          try simp only [Act.put, List.setIfInBounds_toArray, List.set_cons_zero, List.set_cons_succ]
          have hHeld := hHeld2; clear hHeld2
          refine take1 (i := 11) (v := ?_) (some 18) rfl rfl (by kernel_rfl) (by kernel_rfl) (by kernel_rfl) (fun _ _ _ h => h) (Or.inl ⟨by rfl, ?_⟩) (by assumption) ?_
          rotate_left
          · intro w hSw; (try dsimp only at hSw); obtain ⟨s1, s2⟩ := hSw; first | (go_simp; done) | (go_simp; with_reducible rfl)
          try simp only [Act.put, List.setIfInBounds_toArray, List.set_cons_zero, List.set_cons_succ]
          refine wpAnyH_ready (rs := [12]) (by kernel_rfl) (by simp) ?_
          refine AllReadyH.cons rfl (fun K hK => ?_) AllReadyH.nil
          go_simp
          obtain ⟨WF, hWF⟩ : ∃ WF, WF = W5.alloc (.cells #[.int .i64 V, .slice O n oc, .slice none 0 0, .slice (some ⟨gv, 0, none⟩) (V + 1) (V + 1), .slice (some ⟨gl, 0, none⟩) (V + 1) (V + 1), .slice (some ⟨gr, 0, none⟩) (V + 1) (V + 1), .slice none 0 0, .slice none 0 0] 96) := ⟨_, rfl⟩
          obtain ⟨g, hg⟩ : ∃ g, g = W5.heap.size := ⟨_, rfl⟩
          obtain ⟨ht1, ht2⟩ := new_tail Hb.out Hv.out Hl.out Hr.out (by omega) (by omega) (by omega) gev gel ger HC.out Hlen.out hg hWF
          have hbx : Blk 51 WF bB [.int .i64 V, .slice A n c] := by rw [hWF]; exact HB.out.alloc _
          rw [← hWF, ← hg]
          have Ht1 := hide ht1
          have Ht2 := hide ht2
          have c0 := hbx.cell 0
          have c1 := hbx.cell 1
          simp only [List.getElem?_cons_zero, List.getElem?_cons_succ] at c0 c1
          clear hWF hg ht1 ht2 hbx
          refine hK.out _ _ ?_ (fun hHeld2 => ?_)
          · (try dsimp only); exact ⟨c0, c1⟩
          clear hK K hHeld
          try simp only [Act.put, List.setIfInBounds_toArray, List.set_cons_zero, List.set_cons_succ]
          have hHeld := hHeld2; clear hHeld2
          refine take1 (i := 13) (v := ?_) (some 2) rfl rfl (by kernel_rfl) (by kernel_rfl) (by kernel_rfl) (fun _ _ _ h => h) (Or.inl ⟨by rfl, ?_⟩) (by assumption) ?_
          rotate_left
          · intro w hSw; (try dsimp only at hSw); obtain ⟨s1, s2⟩ := hSw; first | (go_simp; done) | (go_simp; with_reducible rfl)
          try simp only [Act.put, List.setIfInBounds_toArray, List.set_cons_zero, List.set_cons_succ]
          refine wpAnyH_done (by kernel_rfl) ?_ _
          go_wp2
          go_ret
          exact ⟨g, _, rfl, Ht1.out, Ht2.out⟩
      · go_simp
        have hb := (Below.refl W3.heap.size W3).alloc (Nat.le_refl _) (.cells (zerosA (V + 1)) 3)
        have hn2 := BlkI.made W3 3 (V + 1)
        obtain ⟨W4, hW2⟩ : ∃ W9, W9 = W3.alloc (.cells (zerosA (V + 1)) 3) := ⟨_, rfl⟩
        rw [← hW2] at hb hn2 ⊢
        clear hW2
        have ger := Hb.out.size
        have nlr := Hl.out.lt
        replace HB := hide (HB.out.keep hb)
        replace Hl := hide (Hl.out.keep hb)
        replace HC := hide (HC.out.keep hb)
        replace Hb := hide (Hb.out.trans (hb.mono Hb.out.size))
        clear hb
        generalize W3.heap.size = gr at hn2 ger nlr ⊢
        have Hr := hide hn2
        clear hn2
        have c0 := HB.out.cell 0
        have c1 := HB.out.cell 1
        simp only [List.getElem?_cons_zero, List.getElem?_cons_succ] at c0 c1
        refine hK.out _ _ ?_ (fun hHeld2 => ?_)
        · (try dsimp only); exact ⟨c0, c1⟩
        clear hK K hHeld c0 c1
        try simp only [Act.put, List.setIfInBounds_toArray, List.set_cons_zero, List.set_cons_succ]
        have hHeld := hHeld2; clear hHeld2
        refine wpAnyH_ready (rs := [6]) (by kernel_rfl) (by simp) ?_
        refine AllReadyH.cons rfl (fun K hK => ?_) AllReadyH.nil
        · go_simp
          have hb := (Below.refl W4.heap.size W4).alloc (Nat.le_refl _) (.cells (zerosA (V + 1)) 3)
          have hn2 := BlkI.made W4 3 (V + 1)
          obtain ⟨W5, hW2⟩ : ∃ W9, W9 = W4.alloc (.cells (zerosA (V + 1)) 3) := ⟨_, rfl⟩
          rw [← hW2] at hb hn2 ⊢
          clear hW2
          have gev := Hb.out.size
          have nlv := Hl.out.lt
          have nrv := Hr.out.lt
          replace HB := hide (HB.out.keep hb)
          replace Hl := hide (Hl.out.keep hb)
          replace Hr := hide (Hr.out.keep hb)
          replace HC := hide (HC.out.keep hb)
          replace Hb := hide (Hb.out.trans (hb.mono Hb.out.size))
          clear hb
          generalize W4.heap.size = gv at hn2 gev nlv nrv ⊢
          have Hv := hide hn2
          clear hn2
          have c0 := HB.out.cell 0
          have c1 := HB.out.cell 1
          simp only [List.getElem?_cons_zero, List.getElem?_cons_succ] at c0 c1
          refine hK.out _ _ ?_ (fun hHeld2 => ?_)
          · (try dsimp only); exact ⟨c0, c1⟩
          clear hK K hHeld c0 c1
          try simp only [Act.put, List.setIfInBounds_toArray, List.set_cons_zero, List.set_cons_succ]
          have hHeld := hHeld2; clear hHeld2
          refine take1 (i := 11) (v := ?_) (some 18) rfl rfl (by kernel_rfl) (by kernel_rfl) (by kernel_rfl) (fun _ _ _ h => h) (Or.inl ⟨by rfl, ?_⟩) (by assumption) ?_
          rotate_left
          · intro w hSw; (try dsimp only at hSw); obtain ⟨s1, s2⟩ := hSw; first | (go_simp; done) | (go_simp; with_reducible rfl)
          try simp only [Act.put, List.setIfInBounds_toArray, List.set_cons_zero, List.set_cons_succ]
          refine wpAnyH_ready (rs := [12]) (by kernel_rfl) (by simp) ?_
          refine AllReadyH.cons rfl (fun K hK => ?_) AllReadyH.nil
          go_simp
          obtain ⟨WF, hWF⟩ : ∃ WF, WF = W5.alloc (.cells #[.int .i64 V, .slice O n oc, .slice none 0 0, .slice (some ⟨gv, 0, none⟩) (V + 1) (V + 1), .slice (some ⟨gl, 0, none⟩) (V + 1) (V + 1), .slice (some ⟨gr, 0, none⟩) (V + 1) (V + 1), .slice none 0 0, .slice none 0 0] 96) := ⟨_, rfl⟩
          obtain ⟨g, hg⟩ : ∃ g, g = W5.heap.size := ⟨_, rfl⟩
          obtain ⟨ht1, ht2⟩ := new_tail Hb.out Hv.out Hl.out Hr.out (by omega) (by omega) (by omega) gev gel ger HC.out Hlen.out hg hWF
          have hbx : Blk 51 WF bB [.int .i64 V, .slice A n c] := by rw [hWF]; exact HB.out.alloc _
          rw [← hWF, ← hg]
          have Ht1 := hide ht1
          have Ht2 := hide ht2
          have c0 := hbx.cell 0
          have c1 := hbx.cell 1
          simp only [List.getElem?_cons_zero, List.getElem?_cons_succ] at c0 c1
          clear hWF hg ht1 ht2 hbx
          refine hK.out _ _ ?_ (fun hHeld2 => ?_)
          · (try dsimp only); exact ⟨c0, c1⟩
          clear hK K hHeld
          try simp only [Act.put, List.setIfInBounds_toArray, List.set_cons_zero, List.set_cons_succ]
          have hHeld := hHeld2; clear hHeld2
          refine take1 (i := 13) (v := ?_) (some 2) rfl rfl (by kernel_rfl) (by kernel_rfl) (by kernel_rfl) (fun _ _ _ h => h) (Or.inl ⟨by rfl, ?_⟩) (by assumption) ?_
          rotate_left
          · intro w hSw; (try dsimp only at hSw); obtain ⟨s1, s2⟩ := hSw; first | (go_simp; done) | (go_simp; with_reducible rfl)
          try simp only [Act.put, List.setIfInBounds_toArray, List.set_cons_zero, List.set_cons_succ]
          refine wpAnyH_done (by kernel_rfl) ?_ _
          go_wp2
          go_ret
          exact ⟨g, _, rfl, Ht1.out, Ht2.out⟩
    · go_simp
      have hb := (Below.refl W2.heap.size W2).alloc (Nat.le_refl _) (.cells (zerosA (V + 1)) 3)
      have hn2 := BlkI.made W2 3 (V + 1)
      obtain ⟨W3, hW2⟩ : ∃ W9, W9 = W2.alloc (.cells (zerosA (V + 1)) 3) := ⟨_, rfl⟩
      rw [← hW2] at hb hn2 ⊢
      clear hW2
      have ger := Hb.out.size
      replace HB := hide (HB.out.keep hb)
      replace HC := hide (HC.out.keep hb)
      replace Hb := hide (Hb.out.trans (hb.mono Hb.out.size))
      clear hb
      generalize W2.heap.size = gr at hn2 ger  ⊢
      have Hr := hide hn2
      clear hn2
      have c0 := HB.out.cell 0
      have c1 := HB.out.cell 1
      simp only [List.getElem?_cons_zero, List.getElem?_cons_succ] at c0 c1
      refine hK.out _ _ ?_ (fun hHeld2 => ?_)
      · (try dsimp only); exact ⟨c0, c1⟩
      clear hK K hHeld c0 c1
      try simp only [Act.put, List.setIfInBounds_toArray, List.set_cons_zero, List.set_cons_succ]
      have hHeld := hHeld2; clear hHeld2
      refine wpAnyH_ready (rs := [6, 8]) (by kernel_rfl) (by simp) ?_
      refine AllReadyH.cons rfl (fun K hK => ?_) (AllReadyH.cons rfl (fun K hK => ?_) AllReadyH.nil)
      · go_simp
        have hb := (Below.refl W3.heap.size W3).alloc (Nat.le_refl _) (.cells (zerosA (V + 1)) 3)
        have hn2 := BlkI.made W3 3 (V + 1)
        obtain ⟨W4, hW2⟩ : ∃ W9, W9 = W3.alloc (.cells (zerosA (V + 1)) 3) := ⟨_, rfl⟩
        rw [← hW2] at hb hn2 ⊢
        clear hW2
        have gev := Hb.out.size
        have nrv := Hr.out.lt
        replace HB := hide (HB.out.keep hb)
        replace Hr := hide (Hr.out.keep hb)
        replace HC := hide (HC.out.keep hb)
        replace Hb := hide (Hb.out.trans (hb.mono Hb.out.size))
        clear hb
        generalize W3.heap.size = gv at hn2 gev nrv ⊢
        have Hv := hide hn2
        clear hn2
        have c0 := HB.out.cell 0
        have c1 := HB.out.cell 1
        simp only [List.getElem?_cons_zero, List.getElem?_cons_succ] at c0 c1
        refine hK.out _ _ ?_ (fun hHeld2 => ?_)
        · (try dsimp only); exact ⟨c0, c1⟩
        clear hK K hHeld c0 c1
        try simp only [Act.put, List.setIfInBounds_toArray, List.set_cons_zero, List.set_cons_succ]
        have hHeld := hHeld2; clear hHeld2
        refine wpAnyH_ready (rs := [8]) (by kernel_rfl) (by simp) ?_
        refine AllReadyH.cons rfl (fun K hK => ?_) AllReadyH.nil
        · go_simp
          have hb := (Below.refl W4.heap.size W4).alloc (Nat.le_refl _) (.cells (zerosA (V + 1)) 3)
          have hn2 := BlkI.made W4 3 (V + 1)
          obtain ⟨W5, hW2⟩ : ∃ W9, W9 = W4.alloc (.cells (zerosA (V + 1)) 3) := ⟨_, rfl⟩
          rw [← hW2] at hb hn2 ⊢
          clear hW2
          have gel := Hb.out.size
          have nrl := Hr.out.lt
          have nvl := Hv.out.lt
          replace HB := hide (HB.out.keep hb)
          replace Hr := hide (Hr.out.keep hb)
          replace Hv := hide (Hv.out.keep hb)
          replace HC := hide (HC.out.keep hb)
          replace Hb := hide (Hb.out.trans (hb.mono Hb.out.size))
          clear hb
          generalize W4.heap.size = gl at hn2 gel nrl nvl ⊢
          have Hl := hide hn2
          clear hn2
          have c0 := HB.out.cell 0
          have c1 := HB.out.cell 1
          simp only [List.getElem?_cons_zero, List.getElem?_cons_succ] at c0 c1
          refine hK.out _ _ ?_ (fun hHeld2 => ?_)
          · (try dsimp only); exact ⟨c0, c1⟩
          clear hK K hHeld c0 c1
          try simp only [Act.put, List.setIfInBounds_toArray, List.set_cons_zero, List.set_cons_succ]
          have hHeld := hHeld2; clear hHeld2
          refine take1 (i := 11) (v := ?_) (some 18) rfl rfl (by kernel_rfl) (by kernel_rfl) (by kernel_rfl) (fun _ _ _ h => h) (Or.inl ⟨by rfl, ?_⟩) (by assumption) ?_
          rotate_left
          · intro w hSw; (try dsimp only at hSw); obtain ⟨s1, s2⟩ := hSw; first | (go_simp; done) | (go_simp; with_reducible rfl)
          try simp only [Act.put, List.setIfInBounds_toArray, List.set_cons_zero, List.set_cons_succ]
          refine wpAnyH_ready (rs := [12]) (by kernel_rfl) (by simp) ?_
          refine AllReadyH.cons rfl (fun K hK => ?_) AllReadyH.nil
          go_simp
          obtain ⟨WF, hWF⟩ : ∃ WF, WF = W5.alloc (.cells #[.int .i64 V, .slice O n oc, .slice none 0 0, .slice (some ⟨gv, 0, none⟩) (V + 1) (V + 1), .slice (some ⟨gl, 0, none⟩) (V + 1) (V + 1), .slice (some ⟨gr, 0, none⟩) (V + 1) (V + 1), .slice none 0 0, .slice none 0 0] 96) := ⟨_, rfl⟩
          obtain ⟨g, hg⟩ : ∃ g, g = W5.heap.size := ⟨_, rfl⟩
          obtain ⟨ht1, ht2⟩ := new_tail Hb.out Hv.out Hl.out Hr.out (by omega) (by omega) (by omega) gev gel ger HC.out Hlen.out hg hWF
          have hbx : Blk 51 WF bB [.int .i64 V, .slice A n c] := by rw [hWF]; exact HB.out.alloc _
          rw [← hWF, ← hg]
          have Ht1 := hide ht1
          have Ht2 := hide ht2
          have c0 := hbx.cell 0
          have c1 := hbx.cell 1
          simp only [List.getElem?_cons_zero, List.getElem?_cons_succ] at c0 c1
          clear hWF hg ht1 ht2 hbx
          refine hK.out _ _ ?_ (fun hHeld2 => ?_)
          · (try dsimp only); exact ⟨c0, c1⟩
          clear hK K hHeld
          try simp only [Act.put, List.setIfInBounds_toArray, List.set_cons_zero, List.set_cons_succ]
          have hHeld := hHeld2; clear hHeld2
          refine take1 (i := 13) (v := ?_) (some 2) rfl rfl (by kernel_rfl) (by kernel_rfl) (by kernel_rfl) (fun _ _ _ h => h) (Or.inl ⟨by rfl, ?_⟩) (by assumption) ?_
          rotate_left
          · intro w hSw; (try dsimp only at hSw); obtain ⟨s1, s2⟩ := hSw; first | (go_simp; done) | (go_simp; with_reducible rfl)
          try simp only [Act.put, List.setIfInBounds_toArray, List.set_cons_zero, List.set_cons_succ]
          refine wpAnyH_done (by kernel_rfl) ?_ _
          go_wp2
          go_ret
          exact ⟨g, _, rfl, Ht1.out, Ht2.out⟩
      · go_simp
        have hb := (Below.refl W3.heap.size W3).alloc (Nat.le_refl _) (.cells (zerosA (V + 1)) 3)
        have hn2 := BlkI.made W3 3 (V + 1)
        obtain ⟨W4, hW2⟩ : ∃ W9, W9 = W3.alloc (.cells (zerosA (V + 1)) 3) := ⟨_, rfl⟩
        rw [← hW2] at hb hn2 ⊢
        clear hW2
        have gel := Hb.out.size
        have nrl := Hr.out.lt
        replace HB := hide (HB.out.keep hb)
        replace Hr := hide (Hr.out.keep hb)
        replace HC := hide (HC.out.keep hb)
        replace Hb := hide (Hb.out.trans (hb.mono Hb.out.size))
        clear hb
        generalize W3.heap.size = gl at hn2 gel nrl ⊢
        have Hl := hide hn2
        clear hn2
        have c0 := HB.out.cell 0
        have c1 := HB.out.cell 1
        simp only [List.getElem?_cons_zero, List.getElem?_cons_succ] at c0 c1
        refine hK.out _ _ ?_ (fun hHeld2 => ?_)
        · (try dsimp only); exact ⟨c0, c1⟩
        clear hK K hHeld c0 c1
        try simp only [Act.put, List.setIfInBounds_toArray, List.set_cons_zero, List.set_cons_succ]
        have hHeld := hHeld2; clear hHeld2
        refine wpAnyH_ready (rs := [6]) (by kernel_rfl) (by simp) ?_
        refine AllReadyH.cons rfl (fun K hK => ?_) AllReadyH.nil
        · go_simp
          have hb := (Below.refl W4.heap.size W4).alloc (Nat.le_refl _) (.cells (zerosA (V + 1)) 3)
          have hn2 := BlkI.made W4 3 (V + 1)
          obtain ⟨W5, hW2⟩ : ∃ W9, W9 = W4.alloc (.cells (zerosA (V + 1)) 3) := ⟨_, rfl⟩
          rw [← hW2] at hb hn2 ⊢
          clear hW2
          have gev := Hb.out.size
          have nrv := Hr.out.lt
          have nlv := Hl.out.lt
          replace HB := hide (HB.out.keep hb)
          replace Hr := hide (Hr.out.keep hb)
          replace Hl := hide (Hl.out.keep hb)
          replace HC := hide (HC.out.keep hb)
          replace Hb := hide (Hb.out.trans (hb.mono Hb.out.size))
          clear hb
          generalize W4.heap.size = gv at hn2 gev nrv nlv ⊢
          have Hv := hide hn2
          clear hn2
          have c0 := HB.out.cell 0
          have c1 := HB.out.cell 1
          simp only [List.getElem?_cons_zero, List.getElem?_cons_succ] at c0 c1
          refine hK.out _ _ ?_ (fun hHeld2 => ?_)
          · (try dsimp only); exact ⟨c0, c1⟩
          clear hK K hHeld c0 c1
          try simp only [Act.put, List.setIfInBounds_toArray, List.set_cons_zero, List.set_cons_succ]
          have hHeld := hHeld2; clear hHeld2
          refine take1 (i := 11) (v := ?_) (some 18) rfl rfl (by kernel_rfl) (by kernel_rfl) (by kernel_rfl) (fun _ _ _ h => h) (Or.inl ⟨by rfl, ?_⟩) (by assumption) ?_
          rotate_left
          · intro w hSw; (try dsimp only at hSw); obtain ⟨s1, s2⟩ := hSw; first | (go_simp; done) | (go_simp; with_reducible rfl)
          try simp only [Act.put, List.setIfInBounds_toArray, List.set_cons_zero, List.set_cons_succ]
          refine wpAnyH_ready (rs := [12]) (by kernel_rfl) (by simp) ?_
          refine AllReadyH.cons rfl (fun K hK => ?_) AllReadyH.nil
          go_simp
          obtain ⟨WF, hWF⟩ : ∃ WF, WF = W5.alloc (.cells #[.int .i64 V, .slice O n oc, .slice none 0 0, .slice (some ⟨gv, 0, none⟩) (V + 1) (V + 1), .slice (some ⟨gl, 0, none⟩) (V + 1) (V + 1), .slice (some ⟨gr, 0, none⟩) (V + 1) (V + 1), .slice none 0 0, .slice none 0 0] 96) := ⟨_, rfl⟩
          obtain ⟨g, hg⟩ : ∃ g, g = W5.heap.size := ⟨_, rfl⟩
          obtain ⟨ht1, ht2⟩ := new_tail Hb.out Hv.out Hl.out Hr.out (by omega) (by omega) (by omega) gev gel ger HC.out Hlen.out hg hWF
          have hbx : Blk 51 WF bB [.int .i64 V, .slice A n c] := by rw [hWF]; exact HB.out.alloc _
          rw [← hWF, ← hg]
          have Ht1 := hide ht1
          have Ht2 := hide ht2
          have c0 := hbx.cell 0
          have c1 := hbx.cell 1
          simp only [List.getElem?_cons_zero, List.getElem?_cons_succ] at c0 c1
          clear hWF hg ht1 ht2 hbx
          refine hK.out _ _ ?_ (fun hHeld2 => ?_)
          · (try dsimp only); exact ⟨c0, c1⟩
          clear hK K hHeld
          try simp only [Act.put, List.setIfInBounds_toArray, List.set_cons_zero, List.set_cons_succ]
          have hHeld := hHeld2; clear hHeld2
          refine take1 (i := 13) (v := ?_) (some 2) rfl rfl (by kernel_rfl) (by kernel_rfl) (by kernel_rfl) (fun _ _ _ h => h) (Or.inl ⟨by rfl, ?_⟩) (by assumption) ?_
          rotate_left
          · intro w hSw; (try dsimp only at hSw); obtain ⟨s1, s2⟩ := hSw; first | (go_simp; done) | (go_simp; with_reducible rfl)
          try simp only [Act.put, List.setIfInBounds_toArray, List.set_cons_zero, List.set_cons_succ]
          refine wpAnyH_done (by kernel_rfl) ?_ _
          go_wp2
          go_ret
          exact ⟨g, _, rfl, Ht1.out, Ht2.out⟩
  · go_simp
    have hb := (Below.refl W1.heap.size W1).alloc (Nat.le_refl _) (.cells (zerosA (V + 1)) 3)
    have hn2 := BlkI.made W1 3 (V + 1)
    obtain ⟨W2, hW2⟩ : ∃ W9, W9 = W1.alloc (.cells (zerosA (V + 1)) 3) := ⟨_, rfl⟩
    rw [← hW2] at hb hn2 ⊢
    clear hW2
    have gev := Hb.out.size
    replace HB := hide (HB.out.keep hb)
    replace Hb := hide (Hb.out.trans (hb.mono Hb.out.size))
    clear hb
    generalize W1.heap.size = gv at hn2 gev  ⊢
    have Hv := hide hn2
    clear hn2
    have c0 := HB.out.cell 0
    have c1 := HB.out.cell 1
    simp only [List.getElem?_cons_zero, List.getElem?_cons_succ] at c0 c1
    refine hK.out _ _ ?_ (fun hHeld2 => ?_)
    · (try dsimp only); exact ⟨c0, c1⟩
    clear hK K hHeld c0 c1
    try simp only [Act.put, List.setIfInBounds_toArray, List.set_cons_zero, List.set_cons_succ]
    have hHeld := hHeld2; clear hHeld2
    refine wpAnyH_ready (rs := [4, 8, 10]) (by kernel_rfl) (by simp) ?_
    refine AllReadyH.cons rfl (fun K hK => ?_) (AllReadyH.cons rfl (fun K hK => ?_) (AllReadyH.cons rfl (fun K hK => ?_) AllReadyH.nil))
    · go_simp
      with_reducible refine (clone_ct H.out Hb.out HA.out hn).mono ?_
      rintro e W3 ⟨O, oc, rfl, hb, xs, hown, hxs⟩
      have hcl : Cloned w.heap.size w.heap.size W3 n cs O oc := ⟨xs, own_mono hown Hb.out.size, fun i x hx => by
        obtain ⟨A', n', c', e1, e2⟩ := hxs i x hx
        refine ⟨A', n', c', e1, e2.keep (Hb.out.trans (hb.mono Hb.out.size)), fun b off e hn9 => ?_⟩
        obtain ⟨b', off', e', hlt⟩ := rd_heap e2 hn9 (by decide)
        rw [e] at e'
        injection e' with e'
        injection e' with e' _
        omega⟩
      have HC := hide hcl
      clear hcl hown hxs xs
      replace HB := hide (HB.out.keep hb)
      replace Hv := hide (Hv.out.keep hb)
      replace Hb := hide (Hb.out.trans (hb.mono Hb.out.size))
      clear hb
      have c0 := HB.out.cell 0
      have c1 := HB.out.cell 1
      simp only [List.getElem?_cons_zero, List.getElem?_cons_succ] at c0 c1
      refine hK.out _ _ ?_ (fun hHeld2 => ?_)
      · (try dsimp only); exact ⟨c0, c1⟩
      clear hK K hHeld c0 c1
      try simp only [Act.put, List.setIfInBounds_toArray, List.set_cons_zero, List.set_cons_succ]
      have hHeld := hHeld2; clear hHeld2
      refine wpAnyH_ready (rs := [8, 10]) (by kernel_rfl) (by simp) ?_
      refine AllReadyH.cons rfl (fun K hK => ?_) (AllReadyH.cons rfl (fun K hK => ?_) AllReadyH.nil)
      · go_simp
        have hb := (Below.refl W3.heap.size W3).alloc (Nat.le_refl _) (.cells (zerosA (V + 1)) 3)
        have hn2 := BlkI.made W3 3 (V + 1)
        obtain ⟨W4, hW2⟩ : ∃ W9, W9 = W3.alloc (.cells (zerosA (V + 1)) 3) := ⟨_, rfl⟩
        rw [← hW2] at hb hn2 ⊢
        clear hW2
        have gel := Hb.out.size
        have nvl := Hv.out.lt
        replace HB := hide (HB.out.keep hb)
        replace Hv := hide (Hv.out.keep hb)
        replace HC := hide (HC.out.keep hb)
        replace Hb := hide (Hb.out.trans (hb.mono Hb.out.size))
        clear hb
        generalize W3.heap.size = gl at hn2 gel nvl ⊢
        have Hl := hide hn2
        clear hn2
        have c0 := HB.out.cell 0
        have c1 := HB.out.cell 1
        simp only [List.getElem?_cons_zero, List.getElem?_cons_succ] at c0 c1
        refine hK.out _ _ ?_ (fun hHeld2 => ?_)
        · (try dsimp only); exact ⟨c0, c1⟩
        clear hK K hHeld c0 c1
        try simp only [Act.put, List.setIfInBounds_toArray, List.set_cons_zero, List.set_cons_succ]
        have hHeld := hHeld2; clear hHeld2
        refine wpAnyH_ready (rs := [10]) (by kernel_rfl) (by simp) ?_
        refine AllReadyH.cons rfl (fun K hK => ?_) AllReadyH.nil
        · go_simp
          have hb := (Below.refl W4.heap.size W4).alloc (Nat.le_refl _) (.cells (zerosA (V + 1)) 3)
          have hn2 := BlkI.made W4 3 (V + 1)
          obtain ⟨W5, hW2⟩ : ∃ W9, W9 = W4.alloc (.cells (zerosA (V + 1)) 3) := ⟨_, rfl⟩
          rw [← hW2] at hb hn2 ⊢
          clear hW2
          have ger := Hb.out.size
          have nvr := Hv.out.lt
          have nlr := Hl.out.lt
          replace HB := hide (HB.out.keep hb)
          replace Hv := hide (Hv.out.keep hb)
          replace Hl := hide (Hl.out.keep hb)
          replace HC := hide (HC.out.keep hb)
          replace Hb := hide (Hb.out.trans (hb.mono Hb.out.size))
          clear hb
          generalize W4.heap.size = gr at hn2 ger nvr nlr ⊢
          have Hr := hide hn2
          clear hn2
          have c0 := HB.out.cell 0
          have c1 := HB.out.cell 1
          simp only [List.getElem?_cons_zero, List.getElem?_cons_succ] at c0 c1
          refine hK.out _ _ ?_ (fun hHeld2 => ?_)
          · (try dsimp only); exact ⟨c0, c1⟩
          clear hK K hHeld c0 c1
          try simp only [Act.put, List.setIfInBounds_toArray, List.set_cons_zero, List.set_cons_succ]
          have hHeld := hHeld2; clear hHeld2
          refine take1 (i := 11) (v := ?_) (some 18) rfl rfl (by kernel_rfl) (by kernel_rfl) (by kernel_rfl) (fun _ _ _ h => h) (Or.inl ⟨by rfl, ?_⟩) (by assumption) ?_
          rotate_left
          · intro w hSw; (try dsimp only at hSw); obtain ⟨s1, s2⟩ := hSw; first | (go_simp; done) | (go_simp; with_reducible rfl)
          try simp only [Act.put, List.setIfInBounds_toArray, List.set_cons_zero, List.set_cons_succ]
          refine wpAnyH_ready (rs := [12]) (by kernel_rfl) (by simp) ?_
          refine AllReadyH.cons rfl (fun K hK => ?_) AllReadyH.nil
          go_simp
          obtain ⟨WF, hWF⟩ : ∃ WF, WF = W5.alloc (.cells #[.int .i64 V, .slice O n oc, .slice none 0 0, .slice (some ⟨gv, 0, none⟩) (V + 1) (V + 1), .slice (some ⟨gl, 0, none⟩) (V + 1) (V + 1), .slice (some ⟨gr, 0, none⟩) (V + 1) (V + 1), .slice none 0 0, .slice none 0 0] 96) := ⟨_, rfl⟩
          obtain ⟨g, hg⟩ : ∃ g, g = W5.heap.size := ⟨_, rfl⟩
          obtain ⟨ht1, ht2⟩ := new_tail Hb.out Hv.out Hl.out Hr.out (by omega) (by omega) (by omega) gev gel ger HC.out Hlen.out hg hWF
          have hbx : Blk 51 WF bB [.int .i64 V, .slice A n c] := by rw [hWF]; exact HB.out.alloc _
          rw [← hWF, ← hg]
          have Ht1 := hide ht1
          have Ht2 := hide ht2
          have c0 := hbx.cell 0
          have c1 := hbx.cell 1
          simp only [List.getElem?_cons_zero, List.getElem?_cons_succ] at c0 c1
          clear hWF hg ht1 ht2 hbx
          refine hK.out _ _ ?_ (fun hHeld2 => ?_)
          · (try dsimp only); exact ⟨c0, c1⟩
          clear hK K hHeld
          try simp only [Act.put, List.setIfInBounds_toArray, List.set_cons_zero, List.set_cons_succ]
          have hHeld := hHeld2; clear hHeld2
          refine take1 (i := 13) (v := ?_) (some 2) rfl rfl (by kernel_rfl) (by kernel_rfl) (by kernel_rfl) (fun _ _ _ h => h) (Or.inl ⟨by rfl, ?_⟩) (by assumption) ?_
          rotate_left
          · intro w hSw; (try dsimp only at hSw); obtain ⟨s1, s2⟩ := hSw; first | (go_simp; done) | (go_simp; with_reducible rfl)
          try simp only [Act.put, List.setIfInBounds_toArray, List.set_cons_zero, List.set_cons_succ]
          refine wpAnyH_done (by kernel_rfl) ?_ _
          go_wp2
          go_ret
          exact ⟨g, _, rfl, Ht1.out, Ht2.out⟩
      · go_simp
        have hb := (Below.refl W3.heap.size W3).alloc (Nat.le_refl _) (.cells (zerosA (V + 1)) 3)
        have hn2 := BlkI.made W3 3 (V + 1)
        obtain ⟨W4, hW2⟩ : ∃ W9, W9 = W3.alloc (.cells (zerosA (V + 1)) 3) := ⟨_, rfl⟩
        rw [← hW2] at hb hn2 ⊢
        clear hW2
        have ger := Hb.out.size
        have nvr := Hv.out.lt
        replace HB := hide (HB.out.keep hb)
        replace Hv := hide (Hv.out.keep hb)
        replace HC := hide (HC.out.keep hb)
        replace Hb := hide (Hb.out.trans (hb.mono Hb.out.size))
        clear hb
        generalize W3.heap.size = gr at hn2 ger nvr ⊢
        have Hr := hide hn2
        clear hn2
        have c0 := HB.out.cell 0
        have c1 := HB.out.cell 1
        simp only [List.getElem?_cons_zero, List.getElem?_cons_succ] at c0 c1
        refine hK.out _ _ ?_ (fun hHeld2 => ?_)
        · (try dsimp only); exact ⟨c0, c1⟩
        clear hK K hHeld c0 c1
        try simp only [Act.put, List.setIfInBounds_toArray, List.set_cons_zero, List.set_cons_succ]
        have hHeld := hHeld2; clear hHeld2
        refine wpAnyH_ready (rs := [8]) (by kernel_rfl) (by simp) ?_
        refine AllReadyH.cons rfl (fun K hK => ?_) AllReadyH.nil
        · go_simp
          have hb := (Below.refl W4.heap.size W4).alloc (Nat.le_refl _) (.cells (zerosA (V + 1)) 3)
          have hn2 := BlkI.made W4 3 (V + 1)
          obtain ⟨W5, hW2⟩ : ∃ W9, W9 = W4.alloc (.cells (zerosA (V + 1)) 3) := ⟨_, rfl⟩
          rw [← hW2] at hb hn2 ⊢
          clear hW2
          have gel := Hb.out.size
          have nvl := Hv.out.lt
          have nrl := Hr.out.lt
          replace HB := hide (HB.out.keep hb)
          replace Hv := hide (Hv.out.keep hb)
          replace Hr := hide (Hr.out.keep hb)
          replace HC := hide (HC.out.keep hb)
          replace Hb := hide (Hb.out.trans (hb.mono Hb.out.size))
          clear hb
          generalize W4.heap.size = gl at hn2 gel nvl nrl ⊢
          have Hl := hide hn2
          clear hn2
          have c0 := HB.out.cell 0
          have c1 := HB.out.cell 1
          simp only [List.getElem?_cons_zero, List.getElem?_cons_succ] at c0 c1
          refine hK.out _ _ ?_ (fun hHeld2 => ?_)
          · (try dsimp only); exact ⟨c0, c1⟩
          clear hK K hHeld c0 c1
          try simp only [Act.put, List.setIfInBounds_toArray, List.set_cons_zero, List.set_cons_succ]
          have hHeld := hHeld2; clear hHeld2
          refine take1 (i := 11) (v := ?_) (some 18) rfl rfl (by kernel_rfl) (by kernel_rfl) (by kernel_rfl) (fun _ _ _ h => h) (Or.inl ⟨by rfl, ?_⟩) (by assumption) ?_
          rotate_left
          · intro w hSw; (try dsimp only at hSw); obtain ⟨s1, s2⟩ := hSw; first | (go_simp; done) | (go_simp; with_reducible rfl)
          try simp only [Act.put, List.setIfInBounds_toArray, List.set_cons_zero, List.set_cons_succ]
          refine wpAnyH_ready (rs := [12]) (by kernel_rfl) (by simp) ?_
          refine AllReadyH.cons rfl (fun K hK => ?_) AllReadyH.nil
          go_simp
          obtain ⟨WF, hWF⟩ : ∃ WF, WF = W5.alloc (.cells #[.int .i64 V, .slice O n oc, .slice none 0 0, .slice (some ⟨gv, 0, none⟩) (V + 1) (V + 1), .slice (some ⟨gl, 0, none⟩) (V + 1) (V + 1), .slice (some ⟨gr, 0, none⟩) (V + 1) (V + 1), .slice none 0 0, .slice none 0 0] 96) := ⟨_, rfl⟩
          obtain ⟨g, hg⟩ : ∃ g, g = W5.heap.size := ⟨_, rfl⟩
          obtain ⟨ht1, ht2⟩ := new_tail Hb.out Hv.out Hl.out Hr.out (by omega) (by omega) (by omega) gev gel ger HC.out Hlen.out hg hWF
          have hbx : Blk 51 WF bB [.int .i64 V, .slice A n c] := by rw [hWF]; exact HB.out.alloc _
          rw [← hWF, ← hg]
          have Ht1 := hide ht1
          have Ht2 := hide ht2
          have c0 := hbx.cell 0
          have c1 := hbx.cell 1
          simp only [List.getElem?_cons_zero, List.getElem?_cons_succ] at c0 c1
          clear hWF hg ht1 ht2 hbx
          refine hK.out _ _ ?_ (fun hHeld2 => ?_)
          · (try dsimp only); exact ⟨c0, c1⟩
          clear hK K hHeld
          try simp only [Act.put, List.setIfInBounds_toArray, List.set_cons_zero, List.set_cons_succ]
          have hHeld := hHeld2; clear hHeld2
          refine take1 (i := 13) (v := ?_) (some 2) rfl rfl (by kernel_rfl) (by kernel_rfl) (by kernel_rfl) (fun _ _ _ h => h) (Or.inl ⟨by rfl, ?_⟩) (by assumption) ?_
          rotate_left
          · intro w hSw; (try dsimp only at hSw); obtain ⟨s1, s2⟩ := hSw; first | (go_simp; done) | (go_simp; with_reducible rfl)
          try simp only [Act.put, List.setIfInBounds_toArray, List.set_cons_zero, List.set_cons_succ]
          refine wpAnyH_done (by kernel_rfl) ?_ _
          go_wp2
          go_ret
          exact ⟨g, _, rfl, Ht1.out, Ht2.out⟩
    · go_simp
      have hb := (Below.refl W2.heap.size W2).alloc (Nat.le_refl _) (.cells (zerosA (V + 1)) 3)
      have hn2 := BlkI.made W2 3 (V + 1)
      obtain ⟨W3, hW2⟩ : ∃ W9, W9 = W2.alloc (.cells (zerosA (V + 1)) 3) := ⟨_, rfl⟩
      rw [← hW2] at hb hn2 ⊢
      clear hW2
      have gel := Hb.out.size
      have nvl := Hv.out.lt
      replace HB := hide (HB.out.keep hb)
      replace Hv := hide (Hv.out.keep hb)
      replace Hb := hide (Hb.out.trans (hb.mono Hb.out.size))
      clear hb
      generalize W2.heap.size = gl at hn2 gel nvl ⊢
      have Hl := hide hn2
      clear hn2
      have c0 := HB.out.cell 0
      have c1 := HB.out.cell 1
      simp only [List.getElem?_cons_zero, List.getElem?_cons_succ] at c0 c1
      refine hK.out _ _ ?_ (fun hHeld2 => ?_)
      · (try dsimp only); exact ⟨c0, c1⟩
      clear hK K hHeld c0 c1
      try simp only [Act.put, List.setIfInBounds_toArray, List.set_cons_zero, List.set_cons_succ]
      have hHeld := hHeld2; clear hHeld2
      refine wpAnyH_ready (rs := [4, 10]) (by kernel_rfl) (by simp) ?_
      refine AllReadyH.cons rfl (fun K hK => ?_) (AllReadyH.cons rfl (fun K hK => ?_) AllReadyH.nil)
      · go_simp
        with_reducible refine (clone_ct H.out Hb.out HA.out hn).mono ?_
        rintro e W4 ⟨O, oc, rfl, hb, xs, hown, hxs⟩
        have hcl : Cloned w.heap.size w.heap.size W4 n cs O oc := ⟨xs, own_mono hown Hb.out.size, fun i x hx => by
          obtain ⟨A', n', c', e1, e2⟩ := hxs i x hx
          refine ⟨A', n', c', e1, e2.keep (Hb.out.trans (hb.mono Hb.out.size)), fun b off e hn9 => ?_⟩
          obtain ⟨b', off', e', hlt⟩ := rd_heap e2 hn9 (by decide)
          rw [e] at e'
          injection e' with e'
          injection e' with e' _
          omega⟩
        have HC := hide hcl
        clear hcl hown hxs xs
        replace HB := hide (HB.out.keep hb)
        replace Hv := hide (Hv.out.keep hb)
        replace Hl := hide (Hl.out.keep hb)
        replace Hb := hide (Hb.out.trans (hb.mono Hb.out.size))
        clear hb
        have c0 := HB.out.cell 0
        have c1 := HB.out.cell 1
        simp only [List.getElem?_cons_zero, List.getElem?_cons_succ] at c0 c1
        refine hK.out _ _ ?_ (fun hHeld2 => ?_)
        · (try dsimp only); exact ⟨c0, c1⟩
        clear hK K hHeld c0 c1
        try simp only [Act.put, List.setIfInBounds_toArray, List.set_cons_zero, List.set_cons_succ]
        have hHeld := hHeld2; clear hHeld2
        refine wpAnyH_ready (rs := [10]) (by kernel_rfl) (by simp) ?_
        refine AllReadyH.cons rfl (fun K hK => ?_) AllReadyH.nil
        · go_simp
          have hb := (Below.refl W4.heap.size W4).alloc (Nat.le_refl _) (.cells (zerosA (V + 1)) 3)
          have hn2 := BlkI.made W4 3 (V + 1)
          obtain ⟨W5, hW2⟩ : ∃ W9, W9 = W4.alloc (.cells (zerosA (V + 1)) 3) := ⟨_, rfl⟩
          rw [← hW2] at hb hn2 ⊢
          clear hW2
          have ger := Hb.out.size
          have nvr := Hv.out.lt
          have nlr := Hl.out.lt
          replace HB := hide (HB.out.keep hb)
          replace Hv := hide (Hv.out.keep hb)
          replace Hl := hide (Hl.out.keep hb)
          replace HC := hide (HC.out.keep hb)
          replace Hb := hide (Hb.out.trans (hb.mono Hb.out.size))
          clear hb
          generalize W4.heap.size = gr at hn2 ger nvr nlr ⊢
          have Hr := hide hn2
          clear hn2
          have c0 := HB.out.cell 0
          have c1 := HB.out.cell 1
          simp only [List.getElem?_cons_zero, List.getElem?_cons_succ] at c0 c1
          refine hK.out _ _ ?_ (fun hHeld2 => ?_)
          · (try dsimp only); exact ⟨c0, c1⟩
          clear hK K hHeld c0 c1
          try simp only [Act.put, List.setIfInBounds_toArray, List.set_cons_zero, List.set_cons_succ]
          have hHeld := hHeld2; clear hHeld2
          refine take1 (i := 11) (v := ?_) (some 18) rfl rfl (by kernel_rfl) (by kernel_rfl) (by kernel_rfl) (fun _ _ _ h => h) (Or.inl ⟨by rfl, ?_⟩) (by assumption) ?_
          rotate_left
          · intro w hSw; (try dsimp only at hSw); obtain ⟨s1, s2⟩ := hSw; first | (go_simp; done) | (go_simp; with_reducible rfl)
          try simp only [Act.put, List.setIfInBounds_toArray, List.set_cons_zero, List.set_cons_succ]
          refine wpAnyH_ready (rs := [12]) (by kernel_rfl) (by simp) ?_
          refine AllReadyH.cons rfl (fun K hK => ?_) AllReadyH.nil
          go_simp
          obtain ⟨WF, hWF⟩ : ∃ WF, WF = W5.alloc (.cells #[.int .i64 V, .slice O n oc, .slice none 0 0, .slice (some ⟨gv, 0, none⟩) (V + 1) (V + 1), .slice (some ⟨gl, 0, none⟩) (V + 1) (V + 1), .slice (some ⟨gr, 0, none⟩) (V + 1) (V + 1), .slice none 0 0, .slice none 0 0] 96) := ⟨_, rfl⟩
          obtain ⟨g, hg⟩ : ∃ g, g = W5.heap.size := ⟨_, rfl⟩
          obtain ⟨ht1, ht2⟩ := new_tail Hb.out Hv.out Hl.out Hr.out (by omega) (by omega) (by omega) gev gel ger HC.out Hlen.out hg hWF
          have hbx : Blk 51 WF bB [.int .i64 V, .slice A n c] := by rw [hWF]; exact HB.out.alloc _
          rw [← hWF, ← hg]
          have Ht1 := hide ht1
          have Ht2 := hide ht2
          have c0 := hbx.cell 0
          have c1 := hbx.cell 1
          simp only [List.getElem?_cons_zero, List.getElem?_cons_succ] at c0 c1
          clear hWF hg ht1 ht2 hbx
          refine hK.out _ _ ?_ (fun hHeld2 => ?_)
          · (try dsimp only); exact ⟨c0, c1⟩
          clear hK K hHeld
          try simp only [Act.put, List.setIfInBounds_toArray, List.set_cons_zero, List.set_cons_succ]
          have hHeld := hHeld2; clear hHeld2
          refine take1 (i := 13) (v := ?_) (some 2) rfl rfl (by kernel_rfl) (by kernel_rfl) (by kernel_rfl) (fun _ _ _ h => h) (Or.inl ⟨by rfl, ?_⟩) (by assumption) ?_
          rotate_left
          · intro w hSw; (try dsimp only at hSw); obtain ⟨s1, s2⟩ := hSw; first | (go_simp; done) | (go_simp; with_reducible rfl)
          try simp only [Act.put, List.setIfInBounds_toArray, List.set_cons_zero, List.set_cons_succ]
          refine wpAnyH_done (by kernel_rfl) ?_ _
          go_wp2
          go_ret
          exact ⟨g, _, rfl, Ht1.out, Ht2.out⟩
      · go_simp
        have hb := (Below.refl W3.heap.size W3).alloc (Nat.le_refl _) (.cells (zerosA (V + 1)) 3)
        have hn2 := BlkI.made W3 3 (V + 1)
        obtain ⟨W4, hW2⟩ : ∃ W9, W9 = W3.alloc (.cells (zerosA (V + 1)) 3) := ⟨_, rfl⟩
        rw [← hW2] at hb hn2 ⊢
        clear hW2
        have ger := Hb.out.size
        have nvr := Hv.out.lt
        have nlr := Hl.out.lt
        replace HB := hide (HB.out.keep hb)
        replace Hv := hide (Hv.out.keep hb)
        replace Hl := hide (Hl.out.keep hb)
        replace Hb := hide (Hb.out.trans (hb.mono Hb.out.size))
        clear hb
        generalize W3.heap.size = gr at hn2 ger nvr nlr ⊢
        have Hr := hide hn2
        clear hn2
        have c0 := HB.out.cell 0
        have c1 := HB.out.cell 1
        simp only [List.getElem?_cons_zero, List.getElem?_cons_succ] at c0 c1
        refine hK.out _ _ ?_ (fun hHeld2 => ?_)
        · (try dsimp only); exact ⟨c0, c1⟩
        clear hK K hHeld c0 c1
        try simp only [Act.put, List.setIfInBounds_toArray, List.set_cons_zero, List.set_cons_succ]
        have hHeld := hHeld2; clear hHeld2
        refine wpAnyH_ready (rs := [4]) (by kernel_rfl) (by simp) ?_
        refine AllReadyH.cons rfl (fun K hK => ?_) AllReadyH.nil
        · go_simp
          with_reducible refine (clone_ct H.out Hb.out HA.out hn).mono ?_
          rintro e W5 ⟨O, oc, rfl, hb, xs, hown, hxs⟩
          have hcl : Cloned w.heap.size w.heap.size W5 n cs O oc := ⟨xs, own_mono hown Hb.out.size, fun i x hx => by
            obtain ⟨A', n', c', e1, e2⟩ := hxs i x hx
            refine ⟨A', n', c', e1, e2.keep (Hb.out.trans (hb.mono Hb.out.size)), fun b off e hn9 => ?_⟩
            obtain ⟨b', off', e', hlt⟩ := rd_heap e2 hn9 (by decide)
            rw [e] at e'
            injection e' with e'
            injection e' with e' _
            omega⟩
          have HC := hide hcl
          clear hcl hown hxs xs
          replace HB := hide (HB.out.keep hb)
          replace Hv := hide (Hv.out.keep hb)
          replace Hl := hide (Hl.out.keep hb)
          replace Hr := hide (Hr.out.keep hb)
          replace Hb := hide (Hb.out.trans (hb.mono Hb.out.size))
          clear hb
          have c0 := HB.out.cell 0
          have c1 := HB.out.cell 1
          simp only [List.getElem?_cons_zero, List.getElem?_cons_succ] at c0 c1
          refine hK.out _ _ ?_ (fun hHeld2 => ?_)
          · (try dsimp only); exact ⟨c0, c1⟩
          clear hK K hHeld c0 c1
          try simp only [Act.put, List.setIfInBounds_toArray, List.set_cons_zero, List.set_cons_succ]
          have hHeld := hHeld2; clear hHeld2
          refine take1 (i := 11) (v := ?_) (some 18) rfl rfl (by kernel_rfl) (by kernel_rfl) (by kernel_rfl) (fun _ _ _ h => h) (Or.inl ⟨by rfl, ?_⟩) (by assumption) ?_
          rotate_left
          · intro w hSw; (try dsimp only at hSw); obtain ⟨s1, s2⟩ := hSw; first | (go_simp; done) | (go_simp; with_reducible rfl)
          try simp only [Act.put, List.setIfInBounds_toArray, List.set_cons_zero, List.set_cons_succ]
          refine wpAnyH_ready (rs := [12]) (by kernel_rfl) (by simp) ?_
          refine AllReadyH.cons rfl (fun K hK => ?_) AllReadyH.nil
          go_simp
          obtain ⟨WF, hWF⟩ : ∃ WF, WF = W5.alloc (.cells #[.int .i64 V, .slice O n oc, .slice none 0 0, .slice (some ⟨gv, 0, none⟩) (V + 1) (V + 1), .slice (some ⟨gl, 0, none⟩) (V + 1) (V + 1), .slice (some ⟨gr, 0, none⟩) (V + 1) (V + 1), .slice none 0 0, .slice none 0 0] 96) := ⟨_, rfl⟩
          obtain ⟨g, hg⟩ : ∃ g, g = W5.heap.size := ⟨_, rfl⟩
          obtain ⟨ht1, ht2⟩ := new_tail Hb.out Hv.out Hl.out Hr.out (by omega) (by omega) (by omega) gev gel ger HC.out Hlen.out hg hWF
          have hbx : Blk 51 WF bB [.int .i64 V, .slice A n c] := by rw [hWF]; exact HB.out.alloc _
          rw [← hWF, ← hg]
          have Ht1 := hide ht1
          have Ht2 := hide ht2
          have c0 := hbx.cell 0
          have c1 := hbx.cell 1
          simp only [List.getElem?_cons_zero, List.getElem?_cons_succ] at c0 c1
          clear hWF hg ht1 ht2 hbx
          refine hK.out _ _ ?_ (fun hHeld2 => ?_)
          · (try dsimp only); exact ⟨c0, c1⟩
          clear hK K hHeld
          try simp only [Act.put, List.setIfInBounds_toArray, List.set_cons_zero, List.set_cons_succ]
          have hHeld := hHeld2; clear hHeld2
          refine take1 (i := 13) (v := ?_) (some 2) rfl rfl (by kernel_rfl) (by kernel_rfl) (by kernel_rfl) (fun _ _ _ h => h) (Or.inl ⟨by rfl, ?_⟩) (by assumption) ?_
          rotate_left
          · intro w hSw; (try dsimp only at hSw); obtain ⟨s1, s2⟩ := hSw; first | (go_simp; done) | (go_simp; with_reducible rfl)
          try simp only [Act.put, List.setIfInBounds_toArray, List.set_cons_zero, List.set_cons_succ]
          refine wpAnyH_done (by kernel_rfl) ?_ _
          go_wp2
          go_ret
          exact ⟨g, _, rfl, Ht1.out, Ht2.out⟩
    · go_simp
      have hb := (Below.refl W2.heap.size W2).alloc (Nat.le_refl _) (.cells (zerosA (V + 1)) 3)
      have hn2 := BlkI.made W2 3 (V + 1)
      obtain ⟨W3, hW2⟩ : ∃ W9, W9 = W2.alloc (.cells (zerosA (V + 1)) 3) := ⟨_, rfl⟩
      rw [← hW2] at hb hn2 ⊢
      clear hW2
      have ger := Hb.out.size
      have nvr := Hv.out.lt
      replace HB := hide (HB.out.keep hb)
      replace Hv := hide (Hv.out.keep hb)
      replace Hb := hide (Hb.out.trans (hb.mono Hb.out.size))
      clear hb
      generalize W2.heap.size = gr at hn2 ger nvr ⊢
      have Hr := hide hn2
      clear hn2
      have c0 := HB.out.cell 0
      have c1 := HB.out.cell 1
      simp only [List.getElem?_cons_zero, List.getElem?_cons_succ] at c0 c1
      refine hK.out _ _ ?_ (fun hHeld2 => ?_)
      · (try dsimp only); exact ⟨c0, c1⟩
      clear hK K hHeld c0 c1
      try simp only [Act.put, List.setIfInBounds_toArray, List.set_cons_zero, List.set_cons_succ]
      have hHeld := hHeld2; clear hHeld2
      refine wpAnyH_ready (rs := [4, 8]) (by kernel_rfl) (by simp) ?_
      refine AllReadyH.cons rfl (fun K hK => ?_) (AllReadyH.cons rfl (fun K hK => ?_) AllReadyH.nil)
      · go_simp
        with_reducible refine (clone_ct H.out Hb.out HA.out hn).mono ?_
        rintro e W4 ⟨O, oc, rfl, hb, xs, hown, hxs⟩
        have hcl : Cloned w.heap.size w.heap.size W4 n cs O oc := ⟨xs, own_mono hown Hb.out.size, fun i x hx => by
          obtain ⟨A', n', c', e1, e2⟩ := hxs i x hx
          refine ⟨A', n', c', e1, e2.keep (Hb.out.trans (hb.mono Hb.out.size)), fun b off e hn9 => ?_⟩
          obtain ⟨b', off', e', hlt⟩ := rd_heap e2 hn9 (by decide)
          rw [e] at e'
          injection e' with e'
          injection e' with e' _
          omega⟩
        have HC := hide hcl
        clear hcl hown hxs xs
        replace HB := hide (HB.out.keep hb)
        replace Hv := hide (Hv.out.keep hb)
        replace Hr := hide (Hr.out.keep hb)
        replace Hb := hide (Hb.out.trans (hb.mono Hb.out.size))
        clear hb
        have c0 := HB.out.cell 0
        have c1 := HB.out.cell 1
        simp only [List.getElem?_cons_zero, List.getElem?_cons_succ] at c0 c1
        refine hK.out _ _ ?_ (fun hHeld2 => ?_)
        · (try dsimp only); exact ⟨c0, c1⟩
        clear hK K hHeld c0 c1
        try simp only [Act.put, List.setIfInBounds_toArray, List.set_cons_zero, List.set_cons_succ]
        have hHeld := hHeld2; clear hHeld2
        refine wpAnyH_ready (rs := [8]) (by kernel_rfl) (by simp) ?_
        refine AllReadyH.cons rfl (fun K hK => ?_) AllReadyH.nil
        · go_simp
          have hb := (Below.refl W4.heap.size W4).alloc (Nat.le_refl _) (.cells (zerosA (V + 1)) 3)
          have hn2 := BlkI.made W4 3 (V + 1)
          obtain ⟨W5, hW2⟩ : ∃ W9, W9 = W4.alloc (.cells (zerosA (V + 1)) 3) := ⟨_, rfl⟩
          rw [← hW2] at hb hn2 ⊢
          clear hW2
          have gel := Hb.out.size
          have nvl := Hv.out.lt
          have nrl := Hr.out.lt
          replace HB := hide (HB.out.keep hb)
          replace Hv := hide (Hv.out.keep hb)
          replace Hr := hide (Hr.out.keep hb)
          replace HC := hide (HC.out.keep hb)
          replace Hb := hide (Hb.out.trans (hb.mono Hb.out.size))
          clear hb
          generalize W4.heap.size = gl at hn2 gel nvl nrl ⊢
          have Hl := hide hn2
          clear hn2
          have c0 := HB.out.cell 0
          have c1 := HB.out.cell 1
          simp only [List.getElem?_cons_zero, List.getElem?_cons_succ] at c0 c1
          refine hK.out _ _ ?_ (fun hHeld2 => ?_)
          · (try dsimp only); exact ⟨c0, c1⟩
          clear hK K hHeld c0 c1
          try simp only [Act.put, List.setIfInBounds_toArray, List.set_cons_zero, List.set_cons_succ]
          have hHeld := hHeld2; clear hHeld2
          refine take1 (i := 11) (v := ?_) (some 18) rfl rfl (by kernel_rfl) (by kernel_rfl) (by kernel_rfl) (fun _ _ _ h => h) (Or.inl ⟨by rfl, ?_⟩) (by assumption) ?_
          rotate_left
          · intro w hSw; (try dsimp only at hSw); obtain ⟨s1, s2⟩ := hSw; first | (go_simp; done) | (go_simp; with_reducible rfl)
          try simp only [Act.put, List.setIfInBounds_toArray, List.set_cons_zero, List.set_cons_succ]
          refine wpAnyH_ready (rs := [12]) (by kernel_rfl) (by simp) ?_
          refine AllReadyH.cons rfl (fun K hK => ?_) AllReadyH.nil
          go_simp
          obtain ⟨WF, hWF⟩ : ∃ WF, WF = W5.alloc (.cells #[.int .i64 V, .slice O n oc, .slice none 0 0, .slice (some ⟨gv, 0, none⟩) (V + 1) (V + 1), .slice (some ⟨gl, 0, none⟩) (V + 1) (V + 1), .slice (some ⟨gr, 0, none⟩) (V + 1) (V + 1), .slice none 0 0, .slice none 0 0] 96) := ⟨_, rfl⟩
          obtain ⟨g, hg⟩ : ∃ g, g = W5.heap.size := ⟨_, rfl⟩
          obtain ⟨ht1, ht2⟩ := new_tail Hb.out Hv.out Hl.out Hr.out (by omega) (by omega) (by omega) gev gel ger HC.out Hlen.out hg hWF
          have hbx : Blk 51 WF bB [.int .i64 V, .slice A n c] := by rw [hWF]; exact HB.out.alloc _
          rw [← hWF, ← hg]
          have Ht1 := hide ht1
          have Ht2 := hide ht2
          have c0 := hbx.cell 0
          have c1 := hbx.cell 1
          simp only [List.getElem?_cons_zero, List.getElem?_cons_succ] at c0 c1
          clear hWF hg ht1 ht2 hbx
          refine hK.out _ _ ?_ (fun hHeld2 => ?_)
          · (try dsimp only); exact ⟨c0, c1⟩
          clear hK K hHeld
          try simp only [Act.put, List.setIfInBounds_toArray, List.set_cons_zero, List.set_cons_succ]
          have hHeld := hHeld2; clear hHeld2
          refine take1 (i := 13) (v := ?_) (some 2) rfl rfl (by kernel_rfl) (by kernel_rfl) (by kernel_rfl) (fun _ _ _ h => h) (Or.inl ⟨by rfl, ?_⟩) (by assumption) ?_
          rotate_left
          · intro w hSw; (try dsimp only at hSw); obtain ⟨s1, s2⟩ := hSw; first | (go_simp; done) | (go_simp; with_reducible rfl)
          try simp only [Act.put, List.setIfInBounds_toArray, List.set_cons_zero, List.set_cons_succ]
          refine wpAnyH_done (by kernel_rfl) ?_ _
          go_wp2
          go_ret
          exact ⟨g, _, rfl, Ht1.out, Ht2.out⟩
      · go_simp
        have hb := (Below.refl W3.heap.size W3).alloc (Nat.le_refl _) (.cells (zerosA (V + 1)) 3)
        have hn2 := BlkI.made W3 3 (V + 1)
        obtain ⟨W4, hW2⟩ : ∃ W9, W9 = W3.alloc (.cells (zerosA (V + 1)) 3) := ⟨_, rfl⟩
        rw [← hW2] at hb hn2 ⊢
        clear hW2
        have gel := Hb.out.size
        have nvl := Hv.out.lt
        have nrl := Hr.out.lt
        replace HB := hide (HB.out.keep hb)
        replace Hv := hide (Hv.out.keep hb)
        replace Hr := hide (Hr.out.keep hb)
        replace Hb := hide (Hb.out.trans (hb.mono Hb.out.size))
        clear hb
        generalize W3.heap.size = gl at hn2 gel nvl nrl ⊢
        have Hl := hide hn2
        clear hn2
        have c0 := HB.out.cell 0
        have c1 := HB.out.cell 1
        simp only [List.getElem?_cons_zero, List.getElem?_cons_succ] at c0 c1
        refine hK.out _ _ ?_ (fun hHeld2 => ?_)
        · (try dsimp only); exact ⟨c0, c1⟩
        clear hK K hHeld c0 c1
        try simp only [Act.put, List.setIfInBounds_toArray, List.set_cons_zero, List.set_cons_succ]
        have hHeld := hHeld2; clear hHeld2
        refine wpAnyH_ready (rs := [4]) (by kernel_rfl) (by simp) ?_
        refine AllReadyH.cons rfl (fun K hK => ?_) AllReadyH.nil
        · go_simp
          with_reducible refine (clone_ct H.out Hb.out HA.out hn).mono ?_
          rintro e W5 ⟨O, oc, rfl, hb, xs, hown, hxs⟩
          have hcl : Cloned w.heap.size w.heap.size W5 n cs O oc := ⟨xs, own_mono hown Hb.out.size, fun i x hx => by
            obtain ⟨A', n', c', e1, e2⟩ := hxs i x hx
            refine ⟨A', n', c', e1, e2.keep (Hb.out.trans (hb.mono Hb.out.size)), fun b off e hn9 => ?_⟩
            obtain ⟨b', off', e', hlt⟩ := rd_heap e2 hn9 (by decide)
            rw [e] at e'
            injection e' with e'
            injection e' with e' _
            omega⟩
          have HC := hide hcl
          clear hcl hown hxs xs
          replace HB := hide (HB.out.keep hb)
          replace Hv := hide (Hv.out.keep hb)
          replace Hr := hide (Hr.out.keep hb)
          replace Hl := hide (Hl.out.keep hb)
          replace Hb := hide (Hb.out.trans (hb.mono Hb.out.size))
          clear hb
          have c0 := HB.out.cell 0
          have c1 := HB.out.cell 1
          simp only [List.getElem?_cons_zero, List.getElem?_cons_succ] at c0 c1
          refine hK.out _ _ ?_ (fun hHeld2 => ?_)
          · (try dsimp only); exact ⟨c0, c1⟩
          clear hK K hHeld c0 c1
          try simp only [Act.put, List.setIfInBounds_toArray, List.set_cons_zero, List.set_cons_succ]
          have hHeld := hHeld2; clear hHeld2
          refine take1 (i := 11) (v := ?_) (some 18) rfl rfl (by kernel_rfl) (by kernel_rfl) (by kernel_rfl) (fun _ _ _ h => h) (Or.inl ⟨by rfl, ?_⟩) (by assumption) ?_
          rotate_left
          · intro w hSw; (try dsimp only at hSw); obtain ⟨s1, s2⟩ := hSw; first | (go_simp; done) | (go_simp; with_reducible rfl)
          try simp only [Act.put, List.setIfInBounds_toArray, List.set_cons_zero, List.set_cons_succ]
          refine wpAnyH_ready (rs := [12]) (by kernel_rfl) (by simp) ?_
          refine AllReadyH.cons rfl (fun K hK => ?_) AllReadyH.nil
          go_simp
          obtain ⟨WF, hWF⟩ : ∃ WF, WF = W5.alloc (.cells #[.int .i64 V, .slice O n oc, .slice none 0 0, .slice (some ⟨gv, 0, none⟩) (V + 1) (V + 1), .slice (some ⟨gl, 0, none⟩) (V + 1) (V + 1), .slice (some ⟨gr, 0, none⟩) (V + 1) (V + 1), .slice none 0 0, .slice none 0 0] 96) := ⟨_, rfl⟩
          obtain ⟨g, hg⟩ : ∃ g, g = W5.heap.size := ⟨_, rfl⟩
          obtain ⟨ht1, ht2⟩ := new_tail Hb.out Hv.out Hl.out Hr.out (by omega) (by omega) (by omega) gev gel ger HC.out Hlen.out hg hWF
          have hbx : Blk 51 WF bB [.int .i64 V, .slice A n c] := by rw [hWF]; exact HB.out.alloc _
          rw [← hWF, ← hg]
          have Ht1 := hide ht1
          have Ht2 := hide ht2
          have c0 := hbx.cell 0
          have c1 := hbx.cell 1
          simp only [List.getElem?_cons_zero, List.getElem?_cons_succ] at c0 c1
          clear hWF hg ht1 ht2 hbx
          refine hK.out _ _ ?_ (fun hHeld2 => ?_)
          · (try dsimp only); exact ⟨c0, c1⟩
          clear hK K hHeld
          try simp only [Act.put, List.setIfInBounds_toArray, List.set_cons_zero, List.set_cons_succ]
          have hHeld := hHeld2; clear hHeld2
          refine take1 (i := 13) (v := ?_) (some 2) rfl rfl (by kernel_rfl) (by kernel_rfl) (by kernel_rfl) (fun _ _ _ h => h) (Or.inl ⟨by rfl, ?_⟩) (by assumption) ?_
          rotate_left
          · intro w hSw; (try dsimp only at hSw); obtain ⟨s1, s2⟩ := hSw; first | (go_simp; done) | (go_simp; with_reducible rfl)
          try simp only [Act.put, List.setIfInBounds_toArray, List.set_cons_zero, List.set_cons_succ]
          refine wpAnyH_done (by kernel_rfl) ?_ _
          go_wp2
          go_ret
          exact ⟨g, _, rfl, Ht1.out, Ht2.out⟩
  · go_simp
    have hb := (Below.refl W1.heap.size W1).alloc (Nat.le_refl _) (.cells (zerosA (V + 1)) 3)
    have hn2 := BlkI.made W1 3 (V + 1)
    obtain ⟨W2, hW2⟩ : ∃ W9, W9 = W1.alloc (.cells (zerosA (V + 1)) 3) := ⟨_, rfl⟩
    rw [← hW2] at hb hn2 ⊢
    clear hW2
    have gel := Hb.out.size
    replace HB := hide (HB.out.keep hb)
    replace Hb := hide (Hb.out.trans (hb.mono Hb.out.size))
    clear hb
    generalize W1.heap.size = gl at hn2 gel  ⊢
    have Hl := hide hn2
    clear hn2
    have c0 := HB.out.cell 0
    have c1 := HB.out.cell 1
    simp only [List.getElem?_cons_zero, List.getElem?_cons_succ] at c0 c1
    refine hK.out _ _ ?_ (fun hHeld2 => ?_)
    · (try dsimp only); exact ⟨c0, c1⟩
    clear hK K hHeld c0 c1
    try simp only [Act.put, List.setIfInBounds_toArray, List.set_cons_zero, List.set_cons_succ]
    have hHeld := hHeld2; clear hHeld2
    refine wpAnyH_ready (rs := [4, 6, 10]) (by kernel_rfl) (by simp) ?_
    refine AllReadyH.cons rfl (fun K hK => ?_) (AllReadyH.cons rfl (fun K hK => ?_) (AllReadyH.cons rfl (fun K hK => ?_) AllReadyH.nil))
    · go_simp
      with_reducible refine (clone_ct H.out Hb.out HA.out hn).mono ?_
      rintro e W3 ⟨O, oc, rfl, hb, xs, hown, hxs⟩
      have hcl : Cloned w.heap.size w.heap.size W3 n cs O oc := ⟨xs, own_mono hown Hb.out.size, fun i x hx => by
        obtain ⟨A', n', c', e1, e2⟩ := hxs i x hx
        refine ⟨A', n', c', e1, e2.keep (Hb.out.trans (hb.mono Hb.out.size)), fun b off e hn9 => ?_⟩
        obtain ⟨b', off', e', hlt⟩ := rd_heap e2 hn9 (by decide)
        rw [e] at e'
        injection e' with e'
        injection e' with e' _
        omega⟩
      have HC := hide hcl
      clear hcl hown hxs xs
      replace HB := hide (HB.out.keep hb)
      replace Hl := hide (Hl.out.keep hb)
      replace Hb := hide (Hb.out.trans (hb.mono Hb.out.size))
      clear hb
      have c0 := HB.out.cell 0
      have c1 := HB.out.cell 1
      simp only [List.getElem?_cons_zero, List.getElem?_cons_succ] at c0 c1
      refine hK.out _ _ ?_ (fun hHeld2 => ?_)
      · (try dsimp only); exact ⟨c0, c1⟩
      clear hK K hHeld c0 c1
      try simp only [Act.put, List.setIfInBounds_toArray, List.set_cons_zero, List.set_cons_succ]
      have hHeld := hHeld2; clear hHeld2
      refine wpAnyH_ready (rs := [6, 10]) (by kernel_rfl) (by simp) ?_
      refine AllReadyH.cons rfl (fun K hK => ?_) (AllReadyH.cons rfl (fun K hK => ?_) AllReadyH.nil)
      · go_simp
        have hb := (Below.refl W3.heap.size W3).alloc (Nat.le_refl _) (.cells (zerosA (V + 1)) 3)
        have hn2 := BlkI.made W3 3 (V + 1)
        obtain ⟨W4, hW2⟩ : ∃ W9, W9 = W3.alloc (.cells (zerosA (V + 1)) 3) := ⟨_, rfl⟩
        rw [← hW2] at hb hn2 ⊢
        clear hW2
        have gev := Hb.out.size
        have nlv := Hl.out.lt
        replace HB := hide (HB.out.keep hb)
        replace Hl := hide (Hl.out.keep hb)
        replace HC := hide (HC.out.keep hb)
        replace Hb := hide (Hb.out.trans (hb.mono Hb.out.size))
        clear hb
        generalize W3.heap.size = gv at hn2 gev nlv ⊢
        have Hv := hide hn2
        clear hn2
        have c0 := HB.out.cell 0
        have c1 := HB.out.cell 1
        simp only [List.getElem?_cons_zero, List.getElem?_cons_succ] at c0 c1
        refine hK.out _ _ ?_ (fun hHeld2 => ?_)
        · (try dsimp only); exact ⟨c0, c1⟩
        clear hK K hHeld c0 c1
        try simp only [Act.put, List.setIfInBounds_toArray, List.set_cons_zero, List.set_cons_succ]
        have hHeld := hHeld2; clear hHeld2
        refine wpAnyH_ready (rs := [10]) (by kernel_rfl) (by simp) ?_
        refine AllReadyH.cons rfl (fun K hK => ?_) AllReadyH.nil
        · go_simp
          have hb := (Below.refl W4.heap.size W4).alloc (Nat.le_refl _) (.cells (zerosA (V + 1)) 3)
          have hn2 := BlkI.made W4 3 (V + 1)
          obtain ⟨W5, hW2⟩ : ∃ W9, W9 = W4.alloc (.cells (zerosA (V + 1)) 3) := ⟨_, rfl⟩
          rw [← hW2] at hb hn2 ⊢
          clear hW2
          have ger := Hb.out.size
          have nlr := Hl.out.lt
          have nvr := Hv.out.lt
          replace HB := hide (HB.out.keep hb)
          replace Hl := hide (Hl.out.keep hb)
          replace Hv := hide (Hv.out.keep hb)
          replace HC := hide (HC.out.keep hb)
          replace Hb := hide (Hb.out.trans (hb.mono Hb.out.size))
          clear hb
          generalize W4.heap.size = gr at hn2 ger nlr nvr ⊢
          have Hr := hide hn2
          clear hn2
          have c0 := HB.out.cell 0
          have c1 := HB.out.cell 1
          simp only [List.getElem?_cons_zero, List.getElem?_cons_succ] at c0 c1
          refine hK.out _ _ ?_ (fun hHeld2 => ?_)
          · (try dsimp only); exact ⟨c0, c1⟩
          clear hK K hHeld c0 c1
          try simp only [Act.put, List.setIfInBounds_toArray, List.set_cons_zero, List.set_cons_succ]
          have hHeld := hHeld2; clear hHeld2
          refine take1 (i := 11) (v := ?_) (some 18) rfl rfl (by kernel_rfl) (by kernel_rfl) (by kernel_rfl) (fun _ _ _ h => h) (Or.inl ⟨by rfl, ?_⟩) (by assumption) ?_
          rotate_left
          · intro w hSw; (try dsimp only at hSw); obtain ⟨s1, s2⟩ := hSw; first | (go_simp; done) | (go_simp; with_reducible rfl)
          try simp only [Act.put, List.setIfInBounds_toArray, List.set_cons_zero, List.set_cons_succ]
          refine wpAnyH_ready (rs := [12]) (by kernel_rfl) (by simp) ?_
          refine AllReadyH.cons rfl (fun K hK => ?_) AllReadyH.nil
          go_simp
          obtain ⟨WF, hWF⟩ : ∃ WF, WF = W5.alloc (.cells #[.int .i64 V, .slice O n oc, .slice none 0 0, .slice (some ⟨gv, 0, none⟩) (V + 1) (V + 1), .slice (some ⟨gl, 0, none⟩) (V + 1) (V + 1), .slice (some ⟨gr, 0, none⟩) (V + 1) (V + 1), .slice none 0 0, .slice none 0 0] 96) := ⟨_, rfl⟩
          obtain ⟨g, hg⟩ : ∃ g, g = W5.heap.size := ⟨_, rfl⟩
          obtain ⟨ht1, ht2⟩ := new_tail Hb.out Hv.out Hl.out Hr.out (by omega) (by omega) (by omega) gev gel ger HC.out Hlen.out hg hWF
          have hbx : Blk 51 WF bB [.int .i64 V, .slice A n c] := by rw [hWF]; exact HB.out.alloc _
          rw [← hWF, ← hg]
          have Ht1 := hide ht1
          have Ht2 := hide ht2
          have c0 := hbx.cell 0
          have c1 := hbx.cell 1
          simp only [List.getElem?_cons_zero, List.getElem?_cons_succ] at c0 c1
          clear hWF hg ht1 ht2 hbx
          refine hK.out _ _ ?_ (fun hHeld2 => ?_)
          · (try dsimp only); exact ⟨c0, c1⟩
          clear hK K hHeld
          try simp only [Act.put, List.setIfInBounds_toArray, List.set_cons_zero, List.set_cons_succ]
          have hHeld := hHeld2; clear hHeld2
          refine take1 (i := 13) (v := ?_) (some 2) rfl rfl (by kernel_rfl) (by kernel_rfl) (by kernel_rfl) (fun _ _ _ h => h) (Or.inl ⟨by rfl, ?_⟩) (by assumption) ?_
          rotate_left
          · intro w hSw; (try dsimp only at hSw); obtain ⟨s1, s2⟩ := hSw; first | (go_simp; done) | (go_simp; with_reducible rfl)
          try simp only [Act.put, List.setIfInBounds_toArray, List.set_cons_zero, List.set_cons_succ]
          refine wpAnyH_done (by kernel_rfl) ?_ _
          go_wp2
          go_ret
          exact ⟨g, _, rfl, Ht1.out, Ht2.out⟩
      · go_simp
        have hb := (Below.refl W3.heap.size W3).alloc (Nat.le_refl _) (.cells (zerosA (V + 1)) 3)
        have hn2 := BlkI.made W3 3 (V + 1)
        obtain ⟨W4, hW2⟩ : ∃ W9, W9 = W3.alloc (.cells (zerosA (V + 1)) 3) := ⟨_, rfl⟩
        rw [← hW2] at hb hn2 ⊢
        clear hW2
        have ger := Hb.out.size
        have nlr := Hl.out.lt
        replace HB := hide (HB.out.keep hb)
        replace Hl := hide (Hl.out.keep hb)
        replace HC := hide (HC.out.keep hb)
        replace Hb := hide (Hb.out.trans (hb.mono Hb.out.size))
        clear hb
        generalize W3.heap.size = gr at hn2 ger nlr ⊢
        have Hr := hide hn2
        clear hn2
        have c0 := HB.out.cell 0
        have c1 := HB.out.cell 1
        simp only [List.getElem?_cons_zero, List.getElem?_cons_succ] at c0 c1
        refine hK.out _ _ ?_ (fun hHeld2 => ?_)
        · (try dsimp only); exact ⟨c0, c1⟩
        clear hK K hHeld c0 c1
        try simp only [Act.put, List.setIfInBounds_toArray, List.set_cons_zero, List.set_cons_succ]
        have hHeld := hHeld2; clear hHeld2
        refine wpAnyH_ready (rs := [6]) (by kernel_rfl) (by simp) ?_
        refine AllReadyH.cons rfl (fun K hK => ?_) AllReadyH.nil
        · go_simp
          have hb := (Below.refl W4.heap.size W4).alloc (Nat.le_refl _) (.cells (zerosA (V + 1)) 3)
          have hn2 := BlkI.made W4 3 (V + 1)
          obtain ⟨W5, hW2⟩ : ∃ W9, W9 = W4.alloc (.cells (zerosA (V + 1)) 3) := ⟨_, rfl⟩
          rw [← hW2] at hb hn2 ⊢
          clear hW2
          have gev := Hb.out.size
          have nlv := Hl.out.lt
          have nrv := Hr.out.lt
          replace HB := hide (HB.out.keep hb)
          replace Hl := hide (Hl.out.keep hb)
          replace Hr := hide (Hr.out.keep hb)
          replace HC := hide (HC.out.keep hb)
          replace Hb := hide (Hb.out.trans (hb.mono Hb.out.size))
          clear hb
          generalize W4.heap.size = gv at hn2 gev nlv nrv ⊢
          have Hv := hide hn2
          clear hn2
          have c0 := HB.out.cell 0
          have c1 := HB.out.cell 1
          simp only [List.getElem?_cons_zero, List.getElem?_cons_succ] at c0 c1
          refine hK.out _ _ ?_ (fun hHeld2 => ?_)
          · (try dsimp only); exact ⟨c0, c1⟩
          clear hK K hHeld c0 c1
          try simp only [Act.put, List.setIfInBounds_toArray, List.set_cons_zero, List.set_cons_succ]
          have hHeld := hHeld2; clear hHeld2
          refine take1 (i := 11) (v := ?_) (some 18) rfl rfl (by kernel_rfl) (by kernel_rfl) (by kernel_rfl) (fun _ _ _ h => h) (Or.inl ⟨by rfl, ?_⟩) (by assumption) ?_
          rotate_left
          · intro w hSw; (try dsimp only at hSw); obtain ⟨s1, s2⟩ := hSw; first | (go_simp; done) | (go_simp; with_reducible rfl)
          try simp only [Act.put, List.setIfInBounds_toArray, List.set_cons_zero, List.set_cons_succ]
          refine wpAnyH_ready (rs := [12]) (by kernel_rfl) (by simp) ?_
          refine AllReadyH.cons rfl (fun K hK => ?_) AllReadyH.nil
          go_simp
          obtain ⟨WF, hWF⟩ : ∃ WF, WF = W5.alloc (.cells #[.int .i64 V, .slice O n oc, .slice none 0 0, .slice (some ⟨gv, 0, none⟩) (V + 1) (V + 1), .slice (some ⟨gl, 0, none⟩) (V + 1) (V + 1), .slice (some ⟨gr, 0, none⟩) (V + 1) (V + 1), .slice none 0 0, .slice none 0 0] 96) := ⟨_, rfl⟩
          obtain ⟨g, hg⟩ : ∃ g, g = W5.heap.size := ⟨_, rfl⟩
          obtain ⟨ht1, ht2⟩ := new_tail Hb.out Hv.out Hl.out Hr.out (by omega) (by omega) (by omega) gev gel ger HC.out Hlen.out hg hWF
          have hbx : Blk 51 WF bB [.int .i64 V, .slice A n c] := by rw [hWF]; exact HB.out.alloc _
          rw [← hWF, ← hg]
          have Ht1 := hide ht1
          have Ht2 := hide ht2
          have c0 := hbx.cell 0
          have c1 := hbx.cell 1
          simp only [List.getElem?_cons_zero, List.getElem?_cons_succ] at c0 c1
          clear hWF hg ht1 ht2 hbx
          refine hK.out _ _ ?_ (fun hHeld2 => ?_)
          · (try dsimp only); exact ⟨c0, c1⟩
          clear hK K hHeld
          try simp only [Act.put, List.setIfInBounds_toArray, List.set_cons_zero, List.set_cons_succ]
          have hHeld := hHeld2; clear hHeld2
          refine take1 (i := 13) (v := ?_) (some 2) rfl rfl (by kernel_rfl) (by kernel_rfl) (by kernel_rfl) (fun _ _ _ h => h) (Or.inl ⟨by rfl, ?_⟩) (by assumption) ?_
          rotate_left
          · intro w hSw; (try dsimp only at hSw); obtain ⟨s1, s2⟩ := hSw; first | (go_simp; done) | (go_simp; with_reducible rfl)
          try simp only [Act.put, List.setIfInBounds_toArray, List.set_cons_zero, List.set_cons_succ]
          refine wpAnyH_done (by kernel_rfl) ?_ _
          go_wp2
          go_ret
          exact ⟨g, _, rfl, Ht1.out, Ht2.out⟩
    · go_simp
      have hb := (Below.refl W2.heap.size W2).alloc (Nat.le_refl _) (.cells (zerosA (V + 1)) 3)
      have hn2 := BlkI.made W2 3 (V + 1)
      obtain ⟨W3, hW2⟩ : ∃ W9, W9 = W2.alloc (.cells (zerosA (V + 1)) 3) := ⟨_, rfl⟩
      rw [← hW2] at hb hn2 ⊢
      clear hW2
      have gev := Hb.out.size
      have nlv := Hl.out.lt
      replace HB := hide (HB.out.keep hb)
      replace Hl := hide (Hl.out.keep hb)
      replace Hb := hide (Hb.out.trans (hb.mono Hb.out.size))
      clear hb
      generalize W2.heap.size = gv at hn2 gev nlv ⊢
      have Hv := hide hn2
      clear hn2
      have c0 := HB.out.cell 0
      have c1 := HB.out.cell 1
      simp only [List.getElem?_cons_zero, List.getElem?_cons_succ] at c0 c1
      refine hK.out _ _ ?_ (fun hHeld2 => ?_)
      · (try dsimp only); exact ⟨c0, c1⟩
      clear hK K hHeld c0 c1
      try simp only [Act.put, List.setIfInBounds_toArray, List.set_cons_zero, List.set_cons_succ]
      have hHeld := hHeld2; clear hHeld2
      refine wpAnyH_ready (rs := [4, 10]) (by kernel_rfl) (by simp) ?_
      refine AllReadyH.cons rfl (fun K hK => ?_) (AllReadyH.cons rfl (fun K hK => ?_) AllReadyH.nil)
      · go_simp
        with_reducible refine (clone_ct H.out Hb.out HA.out hn).mono ?_
        rintro e W4 ⟨O, oc, rfl, hb, xs, hown, hxs⟩
        have hcl : Cloned w.heap.size w.heap.size W4 n cs O oc := ⟨xs, own_mono hown Hb.out.size, fun i x hx => by
          obtain ⟨A', n', c', e1, e2⟩ := hxs i x hx
          refine ⟨A', n', c', e1, e2.keep (Hb.out.trans (hb.mono Hb.out.size)), fun b off e hn9 => ?_⟩
          obtain ⟨b', off', e', hlt⟩ := rd_heap e2 hn9 (by decide)
          rw [e] at e'
          injection e' with e'
          injection e' with e' _
          omega⟩
        have HC := hide hcl
        clear hcl hown hxs xs
        replace HB := hide (HB.out.keep hb)
        replace Hl := hide (Hl.out.keep hb)
        replace Hv := hide (Hv.out.keep hb)
        replace Hb := hide (Hb.out.trans (hb.mono Hb.out.size))
        clear hb
        have c0 := HB.out.cell 0
        have c1 := HB.out.cell 1
        simp only [List.getElem?_cons_zero, List.getElem?_cons_succ] at c0 c1
        refine hK.out _ _ ?_ (fun hHeld2 => ?_)
        · (try dsimp only); exact ⟨c0, c1⟩
        clear hK K hHeld c0 c1
        try simp only [Act.put, List.setIfInBounds_toArray, List.set_cons_zero, List.set_cons_succ]
        have hHeld := hHeld2; clear hHeld2
        refine wpAnyH_ready (rs := [10]) (by kernel_rfl) (by simp) ?_
        refine AllReadyH.cons rfl (fun K hK => ?_) AllReadyH.nil
        · go_simp
          have hb := (Below.refl W4.heap.size W4).alloc (Nat.le_refl _) (.cells (zerosA (V + 1)) 3)
          have hn2 := BlkI.made W4 3 (V + 1)
          obtain ⟨W5, hW2⟩ : ∃ W9, W9 = W4.alloc (.cells (zerosA (V + 1)) 3) := ⟨_, rfl⟩
          rw [← hW2] at hb hn2 ⊢
          clear hW2
          have ger := Hb.out.size
          have nlr := Hl.out.lt
          have nvr := Hv.out.lt
          replace HB := hide (HB.out.keep hb)
          replace Hl := hide (Hl.out.keep hb)
          replace Hv := hide (Hv.out.keep hb)
          replace HC := hide (HC.out.keep hb)
          replace Hb := hide (Hb.out.trans (hb.mono Hb.out.size))
          clear hb
          generalize W4.heap.size = gr at hn2 ger nlr nvr ⊢
          have Hr := hide hn2
          clear hn2
          have c0 := HB.out.cell 0
          have c1 := HB.out.cell 1
          simp only [List.getElem?_cons_zero, List.getElem?_cons_succ] at c0 c1
          refine hK.out _ _ ?_ (fun hHeld2 => ?_)
          · (try dsimp only); exact ⟨c0, c1⟩
          clear hK K hHeld c0 c1
          try simp only [Act.put, List.setIfInBounds_toArray, List.set_cons_zero, List.set_cons_succ]
          have hHeld := hHeld2; clear hHeld2
          refine take1 (i := 11) (v := ?_) (some 18) rfl rfl (by kernel_rfl) (by kernel_rfl) (by kernel_rfl) (fun _ _ _ h => h) (Or.inl ⟨by rfl, ?_⟩) (by assumption) ?_
          rotate_left
          · intro w hSw; (try dsimp only at hSw); obtain ⟨s1, s2⟩ := hSw; first | (go_simp; done) | (go_simp; with_reducible rfl)
          try simp only [Act.put, List.setIfInBounds_toArray, List.set_cons_zero, List.set_cons_succ]
          refine wpAnyH_ready (rs := [12]) (by kernel_rfl) (by simp) ?_
          refine AllReadyH.cons rfl (fun K hK => ?_) AllReadyH.nil
          go_simp
          obtain ⟨WF, hWF⟩ : ∃ WF, WF = W5.alloc (.cells #[.int .i64 V, .slice O n oc, .slice none 0 0, .slice (some ⟨gv, 0, none⟩) (V + 1) (V + 1), .slice (some ⟨gl, 0, none⟩) (V + 1) (V + 1), .slice (some ⟨gr, 0, none⟩) (V + 1) (V + 1), .slice none 0 0, .slice none 0 0] 96) := ⟨_, rfl⟩
          obtain ⟨g, hg⟩ : ∃ g, g = W5.heap.size := ⟨_, rfl⟩
          obtain ⟨ht1, ht2⟩ := new_tail Hb.out Hv.out Hl.out Hr.out (by omega) (by omega) (by omega) gev gel ger HC.out Hlen.out hg hWF
          have hbx : Blk 51 WF bB [.int .i64 V, .slice A n c] := by rw [hWF]; exact HB.out.alloc _
          rw [← hWF, ← hg]
          have Ht1 := hide ht1
          have Ht2 := hide ht2
          have c0 := hbx.cell 0
          have c1 := hbx.cell 1
          simp only [List.getElem?_cons_zero, List.getElem?_cons_succ] at c0 c1
          clear hWF hg ht1 ht2 hbx
          refine hK.out _ _ ?_ (fun hHeld2 => ?_)
          · (try dsimp only); exact ⟨c0, c1⟩
          clear hK K hHeld
          try simp only [Act.put, List.setIfInBounds_toArray, List.set_cons_zero, List.set_cons_succ]
          have hHeld := hHeld2; clear hHeld2
          refine take1 (i := 13) (v := ?_) (some 2) rfl rfl (by kernel_rfl) (by kernel_rfl) (by kernel_rfl) (fun _ _ _ h => h) (Or.inl ⟨by rfl, ?_⟩) (by assumption) ?_
          rotate_left
          · intro w hSw; (try dsimp only at hSw); obtain ⟨s1, s2⟩ := hSw; first | (go_simp; done) | (go_simp; with_reducible rfl)
          try simp only [Act.put, List.setIfInBounds_toArray, List.set_cons_zero, List.set_cons_succ]
          refine wpAnyH_done (by kernel_rfl) ?_ _
          go_wp2
          go_ret
          exact ⟨g, _, rfl, Ht1.out, Ht2.out⟩
      · go_simp
        have hb := (Below.refl W3.heap.size W3).alloc (Nat.le_refl _) (.cells (zerosA (V + 1)) 3)
        have hn2 := BlkI.made W3 3 (V + 1)
        obtain ⟨W4, hW2⟩ : ∃ W9, W9 = W3.alloc (.cells (zerosA (V + 1)) 3) := ⟨_, rfl⟩
        rw [← hW2] at hb hn2 ⊢
        clear hW2
        have ger := Hb.out.size
        have nlr := Hl.out.lt
        have nvr := Hv.out.lt
        replace HB := hide (HB.out.keep hb)
        replace Hl := hide (Hl.out.keep hb)
        replace Hv := hide (Hv.out.keep hb)
        replace Hb := hide (Hb.out.trans (hb.mono Hb.out.size))
        clear hb
        generalize W3.heap.size = gr at hn2 ger nlr nvr ⊢
        have Hr := hide hn2
        clear hn2
        have c0 := HB.out.cell 0
        have c1 := HB.out.cell 1
        simp only [List.getElem?_cons_zero, List.getElem?_cons_succ] at c0 c1
        refine hK.out _ _ ?_ (fun hHeld2 => ?_)
        · (try dsimp only); exact ⟨c0, c1⟩
        clear hK K hHeld c0 c1
        try simp only [Act.put, List.setIfInBounds_toArray, List.set_cons_zero, List.set_cons_succ]
        have hHeld := hHeld2; clear hHeld2
        refine wpAnyH_ready (rs := [4]) (by kernel_rfl) (by simp) ?_
        refine AllReadyH.cons rfl (fun K hK => ?_) AllReadyH.nil
        · go_simp
          with_reducible refine (clone_ct H.out Hb.out HA.out hn).mono ?_
          rintro e W5 ⟨O, oc, rfl, hb, xs, hown, hxs⟩
          have hcl : Cloned w.heap.size w.heap.size W5 n cs O oc := ⟨xs, own_mono hown Hb.out.size, fun i x hx => by
            obtain ⟨A', n', c', e1, e2⟩ := hxs i x hx
            refine ⟨A', n', c', e1, e2.keep (Hb.out.trans (hb.mono Hb.out.size)), fun b off e hn9 => ?_⟩
            obtain ⟨b', off', e', hlt⟩ := rd_heap e2 hn9 (by decide)
            rw [e] at e'
            injection e' with e'
            injection e' with e' _
            omega⟩
          have HC := hide hcl
          clear hcl hown hxs xs
          replace HB := hide (HB.out.keep hb)
          replace Hl := hide (Hl.out.keep hb)
          replace Hv := hide (Hv.out.keep hb)
          replace Hr := hide (Hr.out.keep hb)
          replace Hb := hide (Hb.out.trans (hb.mono Hb.out.size))
          clear hb
          have c0 := HB.out.cell 0
          have c1 := HB.out.cell 1
          simp only [List.getElem?_cons_zero, List.getElem?_cons_succ] at c0 c1
          refine hK.out _ _ ?_ (fun hHeld2 => ?_)
          · (try dsimp only); exact ⟨c0, c1⟩
          clear hK K hHeld c0 c1
          try simp only [Act.put, List.setIfInBounds_toArray, List.set_cons_zero, List.set_cons_succ]
          have hHeld := hHeld2; clear hHeld2
          refine take1 (i := 11) (v := ?_) (some 18) rfl rfl (by kernel_rfl) (by kernel_rfl) (by kernel_rfl) (fun _ _ _ h => h) (Or.inl ⟨by rfl, ?_⟩) (by assumption) ?_
          rotate_left
          · intro w hSw; (try dsimp only at hSw); obtain ⟨s1, s2⟩ := hSw; first | (go_simp; done) | (go_simp; with_reducible rfl)
          try simp only [Act.put, List.setIfInBounds_toArray, List.set_cons_zero, List.set_cons_succ]
          refine wpAnyH_ready (rs := [12]) (by kernel_rfl) (by simp) ?_
          refine AllReadyH.cons rfl (fun K hK => ?_) AllReadyH.nil
          go_simp
          obtain ⟨WF, hWF⟩ : ∃ WF, WF = W5.alloc (.cells #[.int .i64 V, .slice O n oc, .slice none 0 0, .slice (some ⟨gv, 0, none⟩) (V + 1) (V + 1), .slice (some ⟨gl, 0, none⟩) (V + 1) (V + 1), .slice (some ⟨gr, 0, none⟩) (V + 1) (V + 1), .slice none 0 0, .slice none 0 0] 96) := ⟨_, rfl⟩
          obtain ⟨g, hg⟩ : ∃ g, g = W5.heap.size := ⟨_, rfl⟩
          obtain ⟨ht1, ht2⟩ := new_tail Hb.out Hv.out Hl.out Hr.out (by omega) (by omega) (by omega) gev gel ger HC.out Hlen.out hg hWF
          have hbx : Blk 51 WF bB [.int .i64 V, .slice A n c] := by rw [hWF]; exact HB.out.alloc _
          rw [← hWF, ← hg]
          have Ht1 := hide ht1
          have Ht2 := hide ht2
          have c0 := hbx.cell 0
          have c1 := hbx.cell 1
          simp only [List.getElem?_cons_zero, List.getElem?_cons_succ] at c0 c1
          clear hWF hg ht1 ht2 hbx
          refine hK.out _ _ ?_ (fun hHeld2 => ?_)
          · (try dsimp only); exact ⟨c0, c1⟩
          clear hK K hHeld
          try simp only [Act.put, List.setIfInBounds_toArray, List.set_cons_zero, List.set_cons_succ]
          have hHeld := hHeld2; clear hHeld2
          refine take1 (i := 13) (v := ?_) (some 2) rfl rfl (by kernel_rfl) (by kernel_rfl) (by kernel_rfl) (fun _ _ _ h => h) (Or.inl ⟨by rfl, ?_⟩) (by assumption) ?_
          rotate_left
          · intro w hSw; (try dsimp only at hSw); obtain ⟨s1, s2⟩ := hSw; first | (go_simp; done) | (go_simp; with_reducible rfl)
          try simp only [Act.put, List.setIfInBounds_toArray, List.set_cons_zero, List.set_cons_succ]
          refine wpAnyH_done (by kernel_rfl) ?_ _
          go_wp2
          go_ret
          exact ⟨g, _, rfl, Ht1.out, Ht2.out⟩
    · go_simp
      have hb := (Below.refl W2.heap.size W2).alloc (Nat.le_refl _) (.cells (zerosA (V + 1)) 3)
      have hn2 := BlkI.made W2 3 (V + 1)
      obtain ⟨W3, hW2⟩ : ∃ W9, W9 = W2.alloc (.cells (zerosA (V + 1)) 3) := ⟨_, rfl⟩
      rw [← hW2] at hb hn2 ⊢
      clear hW2
      have ger := Hb.out.size
      have nlr := Hl.out.lt
      replace HB := hide (HB.out.keep hb)
      replace Hl := hide (Hl.out.keep hb)
      replace Hb := hide (Hb.out.trans (hb.mono Hb.out.size))
      clear hb
      generalize W2.heap.size = gr at hn2 ger nlr ⊢
      have Hr := hide hn2
      clear hn2
      have c0 := HB.out.cell 0
      have c1 := HB.out.cell 1
      simp only [List.getElem?_cons_zero, List.getElem?_cons_succ] at c0 c1
      refine hK.out _ _ ?_ (fun hHeld2 => ?_)
      · (try dsimp only); exact ⟨c0, c1⟩
      clear hK K hHeld c0 c1
      try simp only [Act.put, List.setIfInBounds_toArray, List.set_cons_zero, List.set_cons_succ]
      have hHeld := hHeld2; clear hHeld2
      refine wpAnyH_ready (rs := [4, 6]) (by kernel_rfl) (by simp) ?_
      refine AllReadyH.cons rfl (fun K hK => ?_) (AllReadyH.cons rfl (fun K hK => ?_) AllReadyH.nil)
      · go_simp
        with_reducible refine (clone_ct H.out Hb.out HA.out hn).mono ?_
        rintro e W4 ⟨O, oc, rfl, hb, xs, hown, hxs⟩
        have hcl : Cloned w.heap.size w.heap.size W4 n cs O oc := ⟨xs, own_mono hown Hb.out.size, fun i x hx => by
          obtain ⟨A', n', c', e1, e2⟩ := hxs i x hx
          refine ⟨A', n', c', e1, e2.keep (Hb.out.trans (hb.mono Hb.out.size)), fun b off e hn9 => ?_⟩
          obtain ⟨b', off', e', hlt⟩ := rd_heap e2 hn9 (by decide)
          rw [e] at e'
          injection e' with e'
          injection e' with e' _
          omega⟩
        have HC := hide hcl
        clear hcl hown hxs xs
        replace HB := hide (HB.out.keep hb)
        replace Hl := hide (Hl.out.keep hb)
        replace Hr := hide (Hr.out.keep hb)
        replace Hb := hide (Hb.out.trans (hb.mono Hb.out.size))
        clear hb
        have c0 := HB.out.cell 0
        have c1 := HB.out.cell 1
        simp only [List.getElem?_cons_zero, List.getElem?_cons_succ] at c0 c1
        refine hK.out _ _ ?_ (fun hHeld2 => ?_)
        · (try dsimp only); exact ⟨c0, c1⟩
        clear hK K hHeld c0 c1
        try simp only [Act.put, List.setIfInBounds_toArray, List.set_cons_zero, List.set_cons_succ]
        have hHeld := hHeld2; clear hHeld2
        refine wpAnyH_ready (rs := [6]) (by kernel_rfl) (by simp) ?_
        refine AllReadyH.cons rfl (fun K hK => ?_) AllReadyH.nil
        · go_simp
          have hb := (Below.refl W4.heap.size W4).alloc (Nat.le_refl _) (.cells (zerosA (V + 1)) 3)
          have hn2 := BlkI.made W4 3 (V + 1)
          obtain ⟨W5, hW2⟩ : ∃ W9, W9 = W4.alloc (.cells (zerosA (V + 1)) 3) := ⟨_, rfl⟩
          rw [← hW2] at hb hn2 ⊢
          clear hW2
          have gev := Hb.out.size
          have nlv := Hl.out.lt
          have nrv := Hr.out.lt
          replace HB := hide (HB.out.keep hb)
          replace Hl := hide (Hl.out.keep hb)
          replace Hr := hide (Hr.out.keep hb)
          replace HC := hide (HC.out.keep hb)
          replace Hb := hide (Hb.out.trans (hb.mono Hb.out.size))
          clear hb
          generalize W4.heap.size = gv at hn2 gev nlv nrv ⊢
          have Hv := hide hn2
          clear hn2
          have c0 := HB.out.cell 0
          have c1 := HB.out.cell 1
          simp only [List.getElem?_cons_zero, List.getElem?_cons_succ] at c0 c1
          refine hK.out _ _ ?_ (fun hHeld2 => ?_)
          · (try dsimp only); exact ⟨c0, c1⟩
          clear hK K hHeld c0 c1
          try simp only [Act.put, List.setIfInBounds_toArray, List.set_cons_zero, List.set_cons_succ]
          have hHeld := hHeld2; clear hHeld2
          refine take1 (i := 11) (v := ?_) (some 18) rfl rfl (by kernel_rfl) (by kernel_rfl) (by kernel_rfl) (fun _ _ _ h => h) (Or.inl ⟨by rfl, ?_⟩) (by assumption) ?_
          rotate_left
          · intro w hSw; (try dsimp only at hSw); obtain ⟨s1, s2⟩ := hSw; first | (go_simp; done) | (go_simp; with_reducible rfl)
          try simp only [Act.put, List.setIfInBounds_toArray, List.set_cons_zero, List.set_cons_succ]
          refine wpAnyH_ready (rs := [12]) (by kernel_rfl) (by simp) ?_
          refine AllReadyH.cons rfl (fun K hK => ?_) AllReadyH.nil
          go_simp
          obtain ⟨WF, hWF⟩ : ∃ WF, WF = W5.alloc (.cells #[.int .i64 V, .slice O n oc, .slice none 0 0, .slice (some ⟨gv, 0, none⟩) (V + 1) (V + 1), .slice (some ⟨gl, 0, none⟩) (V + 1) (V + 1), .slice (some ⟨gr, 0, none⟩) (V + 1) (V + 1), .slice none 0 0, .slice none 0 0] 96) := ⟨_, rfl⟩
          obtain ⟨g, hg⟩ : ∃ g, g = W5.heap.size := ⟨_, rfl⟩
          obtain ⟨ht1, ht2⟩ := new_tail Hb.out Hv.out Hl.out Hr.out (by omega) (by omega) (by omega) gev gel ger HC.out Hlen.out hg hWF
          have hbx : Blk 51 WF bB [.int .i64 V, .slice A n c] := by rw [hWF]; exact HB.out.alloc _
          rw [← hWF, ← hg]
          have Ht1 := hide ht1
          have Ht2 := hide ht2
          have c0 := hbx.cell 0
          have c1 := hbx.cell 1
          simp only [List.getElem?_cons_zero, List.getElem?_cons_succ] at c0 c1
          clear hWF hg ht1 ht2 hbx
          refine hK.out _ _ ?_ (fun hHeld2 => ?_)
          · (try dsimp only); exact ⟨c0, c1⟩
          clear hK K hHeld
          try simp only [Act.put, List.setIfInBounds_toArray, List.set_cons_zero, List.set_cons_succ]
          have hHeld := hHeld2; clear hHeld2
          refine take1 (i := 13) (v := ?_) (some 2) rfl rfl (by kernel_rfl) (by kernel_rfl) (by kernel_rfl) (fun _ _ _ h => h) (Or.inl ⟨by rfl, ?_⟩) (by assumption) ?_
          rotate_left
          · intro w hSw; (try dsimp only at hSw); obtain ⟨s1, s2⟩ := hSw; first | (go_simp; done) | (go_simp; with_reducible rfl)
          try simp only [Act.put, List.setIfInBounds_toArray, List.set_cons_zero, List.set_cons_succ]
          refine wpAnyH_done (by kernel_rfl) ?_ _
          go_wp2
          go_ret
          exact ⟨g, _, rfl, Ht1.out, Ht2.out⟩
      · go_simp
        have hb := (Below.refl W3.heap.size W3).alloc (Nat.le_refl _) (.cells (zerosA (V + 1)) 3)
        have hn2 := BlkI.made W3 3 (V + 1)
        obtain ⟨W4, hW2⟩ : ∃ W9, W9 = W3.alloc (.cells (zerosA (V + 1)) 3) := ⟨_, rfl⟩
        rw [← hW2] at hb hn2 ⊢
        clear hW2
        have gev := Hb.out.size
        have nlv := Hl.out.lt
        have nrv := Hr.out.lt
        replace HB := hide (HB.out.keep hb)
        replace Hl := hide (Hl.out.keep hb)
        replace Hr := hide (Hr.out.keep hb)
        replace Hb := hide (Hb.out.trans (hb.mono Hb.out.size))
        clear hb
        generalize W3.heap.size = gv at hn2 gev nlv nrv ⊢
        have Hv := hide hn2
        clear hn2
        have c0 := HB.out.cell 0
        have c1 := HB.out.cell 1
        simp only [List.getElem?_cons_zero, List.getElem?_cons_succ] at c0 c1
        refine hK.out _ _ ?_ (fun hHeld2 => ?_)
        · (try dsimp only); exact ⟨c0, c1⟩
        clear hK K hHeld c0 c1
        try simp only [Act.put, List.setIfInBounds_toArray, List.set_cons_zero, List.set_cons_succ]
        have hHeld := hHeld2; clear hHeld2
        refine wpAnyH_ready (rs := [4]) (by kernel_rfl) (by simp) ?_
        refine AllReadyH.cons rfl (fun K hK => ?_) AllReadyH.nil
        · go_simp
          with_reducible refine (clone_ct H.out Hb.out HA.out hn).mono ?_
          rintro e W5 ⟨O, oc, rfl, hb, xs, hown, hxs⟩
          have hcl : Cloned w.heap.size w.heap.size W5 n cs O oc := ⟨xs, own_mono hown Hb.out.size, fun i x hx => by
            obtain ⟨A', n', c', e1, e2⟩ := hxs i x hx
            refine ⟨A', n', c', e1, e2.keep (Hb.out.trans (hb.mono Hb.out.size)), fun b off e hn9 => ?_⟩
            obtain ⟨b', off', e', hlt⟩ := rd_heap e2 hn9 (by decide)
            rw [e] at e'
            injection e' with e'
            injection e' with e' _
            omega⟩
          have HC := hide hcl
          clear hcl hown hxs xs
          replace HB := hide (HB.out.keep hb)
          replace Hl := hide (Hl.out.keep hb)
          replace Hr := hide (Hr.out.keep hb)
          replace Hv := hide (Hv.out.keep hb)
          replace Hb := hide (Hb.out.trans (hb.mono Hb.out.size))
          clear hb
          have c0 := HB.out.cell 0
          have c1 := HB.out.cell 1
          simp only [List.getElem?_cons_zero, List.getElem?_cons_succ] at c0 c1
          refine hK.out _ _ ?_ (fun hHeld2 => ?_)
          · (try dsimp only); exact ⟨c0, c1⟩
          clear hK K hHeld c0 c1
          try simp only [Act.put, List.setIfInBounds_toArray, List.set_cons_zero, List.set_cons_succ]
          have hHeld := hHeld2; clear hHeld2
          refine take1 (i := 11) (v := ?_) (some 18) rfl rfl (by kernel_rfl) (by kernel_rfl) (by kernel_rfl) (fun _ _ _ h => h) (Or.inl ⟨by rfl, ?_⟩) (by assumption) ?_
          rotate_left
          · intro w hSw; (try dsimp only at hSw); obtain ⟨s1, s2⟩ := hSw; first | (go_simp; done) | (go_simp; with_reducible rfl)
          try simp only [Act.put, List.setIfInBounds_toArray, List.set_cons_zero, List.set_cons_succ]
          refine wpAnyH_ready (rs := [12]) (by kernel_rfl) (by simp) ?_
          refine AllReadyH.cons rfl (fun K hK => ?_) AllReadyH.nil
          go_simp
          obtain ⟨WF, hWF⟩ : ∃ WF, WF = W5.alloc (.cells #[.int .i64 V, .slice O n oc, .slice none 0 0, .slice (some ⟨gv, 0, none⟩) (V + 1) (V + 1), .slice (some ⟨gl, 0, none⟩) (V + 1) (V + 1), .slice (some ⟨gr, 0, none⟩) (V + 1) (V + 1), .slice none 0 0, .slice none 0 0] 96) := ⟨_, rfl⟩
          obtain ⟨g, hg⟩ : ∃ g, g = W5.heap.size := ⟨_, rfl⟩
          obtain ⟨ht1, ht2⟩ := new_tail Hb.out Hv.out Hl.out Hr.out (by omega) (by omega) (by omega) gev gel ger HC.out Hlen.out hg hWF
          have hbx : Blk 51 WF bB [.int .i64 V, .slice A n c] := by rw [hWF]; exact HB.out.alloc _
          rw [← hWF, ← hg]
          have Ht1 := hide ht1
          have Ht2 := hide ht2
          have c0 := hbx.cell 0
          have c1 := hbx.cell 1
          simp only [List.getElem?_cons_zero, List.getElem?_cons_succ] at c0 c1
          clear hWF hg ht1 ht2 hbx
          refine hK.out _ _ ?_ (fun hHeld2 => ?_)
          · (try dsimp only); exact ⟨c0, c1⟩
          clear hK K hHeld
          try simp only [Act.put, List.setIfInBounds_toArray, List.set_cons_zero, List.set_cons_succ]
          have hHeld := hHeld2; clear hHeld2
          refine take1 (i := 13) (v := ?_) (some 2) rfl rfl (by kernel_rfl) (by kernel_rfl) (by kernel_rfl) (fun _ _ _ h => h) (Or.inl ⟨by rfl, ?_⟩) (by assumption) ?_
          rotate_left
          · intro w hSw; (try dsimp only at hSw); obtain ⟨s1, s2⟩ := hSw; first | (go_simp; done) | (go_simp; with_reducible rfl)
          try simp only [Act.put, List.setIfInBounds_toArray, List.set_cons_zero, List.set_cons_succ]
          refine wpAnyH_done (by kernel_rfl) ?_ _
          go_wp2
          go_ret
          exact ⟨g, _, rfl, Ht1.out, Ht2.out⟩
  · go_simp
    have hb := (Below.refl W1.heap.size W1).alloc (Nat.le_refl _) (.cells (zerosA (V + 1)) 3)
    have hn2 := BlkI.made W1 3 (V + 1)
    obtain ⟨W2, hW2⟩ : ∃ W9, W9 = W1.alloc (.cells (zerosA (V + 1)) 3) := ⟨_, rfl⟩
    rw [← hW2] at hb hn2 ⊢
    clear hW2
    have ger := Hb.out.size
    replace HB := hide (HB.out.keep hb)
    replace Hb := hide (Hb.out.trans (hb.mono Hb.out.size))
    clear hb
    generalize W1.heap.size = gr at hn2 ger  ⊢
    have Hr := hide hn2
    clear hn2
    have c0 := HB.out.cell 0
    have c1 := HB.out.cell 1
    simp only [List.getElem?_cons_zero, List.getElem?_cons_succ] at c0 c1
    refine hK.out _ _ ?_ (fun hHeld2 => ?_)
    · (try dsimp only); exact ⟨c0, c1⟩
    clear hK K hHeld c0 c1
    try simp only [Act.put, List.setIfInBounds_toArray, List.set_cons_zero, List.set_cons_succ]
    have hHeld := hHeld2; clear hHeld2
    refine wpAnyH_ready (rs := [4, 6, 8]) (by kernel_rfl) (by simp) ?_
    refine AllReadyH.cons rfl (fun K hK => ?_) (AllReadyH.cons rfl (fun K hK => ?_) (AllReadyH.cons rfl (fun K hK => ?_) AllReadyH.nil))
    · go_simp
      with_reducible refine (clone_ct H.out Hb.out HA.out hn).mono ?_
      rintro e W3 ⟨O, oc, rfl, hb, xs, hown, hxs⟩
      have hcl : Cloned w.heap.size w.heap.size W3 n cs O oc := ⟨xs, own_mono hown Hb.out.size, fun i x hx => by
        obtain ⟨A', n', c', e1, e2⟩ := hxs i x hx
        refine ⟨A', n', c', e1, e2.keep (Hb.out.trans (hb.mono Hb.out.size)), fun b off e hn9 => ?_⟩
        obtain ⟨b', off', e', hlt⟩ := rd_heap e2 hn9 (by decide)
        rw [e] at e'
        injection e' with e'
        injection e' with e' _
        omega⟩
      have HC := hide hcl
      clear hcl hown hxs xs
      replace HB := hide (HB.out.keep hb)
      replace Hr := hide (Hr.out.keep hb)
      replace Hb := hide (Hb.out.trans (hb.mono Hb.out.size))
      clear hb
      have c0 := HB.out.cell 0
      have c1 := HB.out.cell 1
      simp only [List.getElem?_cons_zero, List.getElem?_cons_succ] at c0 c1
      refine hK.out _ _ ?_ (fun hHeld2 => ?_)
      · (try dsimp only); exact ⟨c0, c1⟩
      clear hK K hHeld c0 c1
      try simp only [Act.put, List.setIfInBounds_toArray, List.set_cons_zero, List.set_cons_succ]
      have hHeld := hHeld2; clear hHeld2
      refine wpAnyH_ready (rs := [6, 8]) (by kernel_rfl) (by simp) ?_
      refine AllReadyH.cons rfl (fun K hK => ?_) (AllReadyH.cons rfl (fun K hK => ?_) AllReadyH.nil)
      · go_simp
        have hb := (Below.refl W3.heap.size W3).alloc (Nat.le_refl _) (.cells (zerosA (V + 1)) 3)
        have hn2 := BlkI.made W3 3 (V + 1)
        obtain ⟨W4, hW2⟩ : ∃ W9, W9 = W3.alloc (.cells (zerosA (V + 1)) 3) := ⟨_, rfl⟩
        rw [← hW2] at hb hn2 ⊢
        clear hW2
        have gev := Hb.out.size
        have nrv := Hr.out.lt
        replace HB := hide (HB.out.keep hb)
        replace Hr := hide (Hr.out.keep hb)
        replace HC := hide (HC.out.keep hb)
        replace Hb := hide (Hb.out.trans (hb.mono Hb.out.size))
        clear hb
        generalize W3.heap.size = gv at hn2 gev nrv ⊢
        have Hv := hide hn2
        clear hn2
        have c0 := HB.out.cell 0
        have c1 := HB.out.cell 1
        simp only [List.getElem?_cons_zero, List.getElem?_cons_succ] at c0 c1
        refine hK.out _ _ ?_ (fun hHeld2 => ?_)
        · (try dsimp only); exact ⟨c0, c1⟩
        clear hK K hHeld c0 c1
        try simp only [Act.put, List.setIfInBounds_toArray, List.set_cons_zero, List.set_cons_succ]
        have hHeld := hHeld2; clear hHeld2
        refine wpAnyH_ready (rs := [8]) (by kernel_rfl) (by simp) ?_
        refine AllReadyH.cons rfl (fun K hK => ?_) AllReadyH.nil
        · go_simp
          have hb := (Below.refl W4.heap.size W4).alloc (Nat.le_refl _) (.cells (zerosA (V + 1)) 3)
          have hn2 := BlkI.made W4 3 (V + 1)
          obtain ⟨W5, hW2⟩ : ∃ W9, W9 = W4.alloc (.cells (zerosA (V + 1)) 3) := ⟨_, rfl⟩
          rw [← hW2] at hb hn2 ⊢
          clear hW2
          have gel := Hb.out.size
          have nrl := Hr.out.lt
          have nvl := Hv.out.lt
          replace HB := hide (HB.out.keep hb)
          replace Hr := hide (Hr.out.keep hb)
          replace Hv := hide (Hv.out.keep hb)
          replace HC := hide (HC.out.keep hb)
          replace Hb := hide (Hb.out.trans (hb.mono Hb.out.size))
          clear hb
          generalize W4.heap.size = gl at hn2 gel nrl nvl ⊢
          have Hl := hide hn2
          clear hn2
          have c0 := HB.out.cell 0
          have c1 := HB.out.cell 1
          simp only [List.getElem?_cons_zero, List.getElem?_cons_succ] at c0 c1
          refine hK.out _ _ ?_ (fun hHeld2 => ?_)
          · (try dsimp only); exact ⟨c0, c1⟩
          clear hK K hHeld c0 c1
          try simp only [Act.put, List.setIfInBounds_toArray, List.set_cons_zero, List.set_cons_succ]
          have hHeld := hHeld2; clear hHeld2
          refine take1 (i := 11) (v := ?_) (some 18) rfl rfl (by kernel_rfl) (by kernel_rfl) (by kernel_rfl) (fun _ _ _ h => h) (Or.inl ⟨by rfl, ?_⟩) (by assumption) ?_
          rotate_left
          · intro w hSw; (try dsimp only at hSw); obtain ⟨s1, s2⟩ := hSw; first | (go_simp; done) | (go_simp; with_reducible rfl)
          try simp only [Act.put, List.setIfInBounds_toArray, List.set_cons_zero, List.set_cons_succ]
          refine wpAnyH_ready (rs := [12]) (by kernel_rfl) (by simp) ?_
          refine AllReadyH.cons rfl (fun K hK => ?_) AllReadyH.nil
          go_simp
          obtain ⟨WF, hWF⟩ : ∃ WF, WF = W5.alloc (.cells #[.int .i64 V, .slice O n oc, .slice none 0 0, .slice (some ⟨gv, 0, none⟩) (V + 1) (V + 1), .slice (some ⟨gl, 0, none⟩) (V + 1) (V + 1), .slice (some ⟨gr, 0, none⟩) (V + 1) (V + 1), .slice none 0 0, .slice none 0 0] 96) := ⟨_, rfl⟩
          obtain ⟨g, hg⟩ : ∃ g, g = W5.heap.size := ⟨_, rfl⟩
          obtain ⟨ht1, ht2⟩ := new_tail Hb.out Hv.out Hl.out Hr.out (by omega) (by omega) (by omega) gev gel ger HC.out Hlen.out hg hWF
          have hbx : Blk 51 WF bB [.int .i64 V, .slice A n c] := by rw [hWF]; exact HB.out.alloc _
          rw [← hWF, ← hg]
          have Ht1 := hide ht1
          have Ht2 := hide ht2
          have c0 := hbx.cell 0
          have c1 := hbx.cell 1
          simp only [List.getElem?_cons_zero, List.getElem?_cons_succ] at c0 c1
          clear hWF hg ht1 ht2 hbx
          refine hK.out _ _ ?_ (fun hHeld2 => ?_)
          · (try dsimp only); exact ⟨c0, c1⟩
          clear hK K hHeld
          try simp only [Act.put, List.setIfInBounds_toArray, List.set_cons_zero, List.set_cons_succ]
          have hHeld := hHeld2; clear hHeld2
          refine take1 (i := 13) (v := ?_) (some 2) rfl rfl (by kernel_rfl) (by kernel_rfl) (by kernel_rfl) (fun _ _ _ h => h) (Or.inl ⟨by rfl, ?_⟩) (by assumption) ?_
          rotate_left
          · intro w hSw; (try dsimp only at hSw); obtain ⟨s1, s2⟩ := hSw; first | (go_simp; done) | (go_simp; with_reducible rfl)
          try simp only [Act.put, List.setIfInBounds_toArray, List.set_cons_zero, List.set_cons_succ]
          refine wpAnyH_done (by kernel_rfl) ?_ _
          go_wp2
          go_ret
          exact ⟨g, _, rfl, Ht1.out, Ht2.out⟩
      · go_simp
        have hb := (Below.refl W3.heap.size W3).alloc (Nat.le_refl _) (.cells (zerosA (V + 1)) 3)
        have hn2 := BlkI.made W3 3 (V + 1)
        obtain ⟨W4, hW2⟩ : ∃ W9, W9 = W3.alloc (.cells (zerosA (V + 1)) 3) := ⟨_, rfl⟩
        rw [← hW2] at hb hn2 ⊢
        clear hW2
        have gel := Hb.out.size
        have nrl := Hr.out.lt
        replace HB := hide (HB.out.keep hb)
        replace Hr := hide (Hr.out.keep hb)
        replace HC := hide (HC.out.keep hb)
        replace Hb := hide (Hb.out.trans (hb.mono Hb.out.size))
        clear hb
        generalize W3.heap.size = gl at hn2 gel nrl ⊢
        have Hl := hide hn2
        clear hn2
        have c0 := HB.out.cell 0
        have c1 := HB.out.cell 1
        simp only [List.getElem?_cons_zero, List.getElem?_cons_succ] at c0 c1
        refine hK.out _ _ ?_ (fun hHeld2 => ?_)
        · (try dsimp only); exact ⟨c0, c1⟩
        clear hK K hHeld c0 c1
        try simp only [Act.put, List.setIfInBounds_toArray, List.set_cons_zero, List.set_cons_succ]
        have hHeld := hHeld2; clear hHeld2
        refine wpAnyH_ready (rs := [6]) (by kernel_rfl) (by simp) ?_
        refine AllReadyH.cons rfl (fun K hK => ?_) AllReadyH.nil
        · go_simp
          have hb := (Below.refl W4.heap.size W4).alloc (Nat.le_refl _) (.cells (zerosA (V + 1)) 3)
          have hn2 := BlkI.made W4 3 (V + 1)
          obtain ⟨W5, hW2⟩ : ∃ W9, W9 = W4.alloc (.cells (zerosA (V + 1)) 3) := ⟨_, rfl⟩
          rw [← hW2] at hb hn2 ⊢
          clear hW2
          have gev := Hb.out.size
          have nrv := Hr.out.lt
          have nlv := Hl.out.lt
          replace HB := hide (HB.out.keep hb)
          replace Hr := hide (Hr.out.keep hb)
          replace Hl := hide (Hl.out.keep hb)
          replace HC := hide (HC.out.keep hb)
          replace Hb := hide (Hb.out.trans (hb.mono Hb.out.size))
          clear hb
          generalize W4.heap.size = gv at hn2 gev nrv nlv ⊢
          have Hv := hide hn2
          clear hn2
          have c0 := HB.out.cell 0
          have c1 := HB.out.cell 1
          simp only [List.getElem?_cons_zero, List.getElem?_cons_succ] at c0 c1
          refine hK.out _ _ ?_ (fun hHeld2 => ?_)
          · (try dsimp only); exact ⟨c0, c1⟩
          clear hK K hHeld c0 c1
          try simp only [Act.put, List.setIfInBounds_toArray, List.set_cons_zero, List.set_cons_succ]
          have hHeld := hHeld2; clear hHeld2
          refine take1 (i := 11) (v := ?_) (some 18) rfl rfl (by kernel_rfl) (by kernel_rfl) (by kernel_rfl) (fun _ _ _ h => h) (Or.inl ⟨by rfl, ?_⟩) (by assumption) ?_
          rotate_left
          · intro w hSw; (try dsimp only at hSw); obtain ⟨s1, s2⟩ := hSw; first | (go_simp; done) | (go_simp; with_reducible rfl)
          try simp only [Act.put, List.setIfInBounds_toArray, List.set_cons_zero, List.set_cons_succ]
          refine wpAnyH_ready (rs := [12]) (by kernel_rfl) (by simp) ?_
          refine AllReadyH.cons rfl (fun K hK => ?_) AllReadyH.nil
          go_simp
          obtain ⟨WF, hWF⟩ : ∃ WF, WF = W5.alloc (.cells #[.int .i64 V, .slice O n oc, .slice none 0 0, .slice (some ⟨gv, 0, none⟩) (V + 1) (V + 1), .slice (some ⟨gl, 0, none⟩) (V + 1) (V + 1), .slice (some ⟨gr, 0, none⟩) (V + 1) (V + 1), .slice none 0 0, .slice none 0 0] 96) := ⟨_, rfl⟩
          obtain ⟨g, hg⟩ : ∃ g, g = W5.heap.size := ⟨_, rfl⟩
          obtain ⟨ht1, ht2⟩ := new_tail Hb.out Hv.out Hl.out Hr.out (by omega) (by omega) (by omega) gev gel ger HC.out Hlen.out hg hWF
          have hbx : Blk 51 WF bB [.int .i64 V, .slice A n c] := by rw [hWF]; exact HB.out.alloc _
          rw [← hWF, ← hg]
          have Ht1 := hide ht1
          have Ht2 := hide ht2
          have c0 := hbx.cell 0
          have c1 := hbx.cell 1
          simp only [List.getElem?_cons_zero, List.getElem?_cons_succ] at c0 c1
          clear hWF hg ht1 ht2 hbx
          refine hK.out _ _ ?_ (fun hHeld2 => ?_)
          · (try dsimp only); exact ⟨c0, c1⟩
          clear hK K hHeld
          try simp only [Act.put, List.setIfInBounds_toArray, List.set_cons_zero, List.set_cons_succ]
          have hHeld := hHeld2; clear hHeld2
          refine take1 (i := 13) (v := ?_) (some 2) rfl rfl (by kernel_rfl) (by kernel_rfl) (by kernel_rfl) (fun _ _ _ h => h) (Or.inl ⟨by rfl, ?_⟩) (by assumption) ?_
          rotate_left
          · intro w hSw; (try dsimp only at hSw); obtain ⟨s1, s2⟩ := hSw; first | (go_simp; done) | (go_simp; with_reducible rfl)
          try simp only [Act.put, List.setIfInBounds_toArray, List.set_cons_zero, List.set_cons_succ]
          refine wpAnyH_done (by kernel_rfl) ?_ _
          go_wp2
          go_ret
          exact ⟨g, _, rfl, Ht1.out, Ht2.out⟩
    · go_simp
      have hb := (Below.refl W2.heap.size W2).alloc (Nat.le_refl _) (.cells (zerosA (V + 1)) 3)
      have hn2 := BlkI.made W2 3 (V + 1)
      obtain ⟨W3, hW2⟩ : ∃ W9, W9 = W2.alloc (.cells (zerosA (V + 1)) 3) := ⟨_, rfl⟩
      rw [← hW2] at hb hn2 ⊢
      clear hW2
      have gev := Hb.out.size
      have nrv := Hr.out.lt
      replace HB := hide (HB.out.keep hb)
      replace Hr := hide (Hr.out.keep hb)
      replace Hb := hide (Hb.out.trans (hb.mono Hb.out.size))
      clear hb
      generalize W2.heap.size = gv at hn2 gev nrv ⊢
      have Hv := hide hn2
      clear hn2
      have c0 := HB.out.cell 0
      have c1 := HB.out.cell 1
      simp only [List.getElem?_cons_zero, List.getElem?_cons_succ] at c0 c1
      refine hK.out _ _ ?_ (fun hHeld2 => ?_)
      · (try dsimp only); exact ⟨c0, c1⟩
      clear hK K hHeld c0 c1
      try simp only [Act.put, List.setIfInBounds_toArray, List.set_cons_zero, List.set_cons_succ]
      have hHeld := hHeld2; clear hHeld2
      refine wpAnyH_ready (rs := [4, 8]) (by kernel_rfl) (by simp) ?_
      refine AllReadyH.cons rfl (fun K hK => ?_) (AllReadyH.cons rfl (fun K hK => ?_) AllReadyH.nil)
      · go_simp
        with_reducible refine (clone_ct H.out Hb.out HA.out hn).mono ?_
        rintro e W4 ⟨O, oc, rfl, hb, xs, hown, hxs⟩
        have hcl : Cloned w.heap.size w.heap.size W4 n cs O oc := ⟨xs, own_mono hown Hb.out.size, fun i x hx => by
          obtain ⟨A', n', c', e1, e2⟩ := hxs i x hx
          refine ⟨A', n', c', e1, e2.keep (Hb.out.trans (hb.mono Hb.out.size)), fun b off e hn9 => ?_⟩
          obtain ⟨b', off', e', hlt⟩ := rd_heap e2 hn9 (by decide)
          rw [e] at e'
          injection e' with e'
          injection e' with e' _
          omega⟩
        have HC := hide hcl
        clear hcl hown hxs xs
        replace HB := hide (HB.out.keep hb)
        replace Hr := hide (Hr.out.keep hb)
        replace Hv := hide (Hv.out.keep hb)
        replace Hb := hide (Hb.out.trans (hb.mono Hb.out.size))
        clear hb
        have c0 := HB.out.cell 0
        have c1 := HB.out.cell 1
        simp only [List.getElem?_cons_zero, List.getElem?_cons_succ] at c0 c1
        refine hK.out _ _ ?_ (fun hHeld2 => ?_)
        · (try dsimp only); exact ⟨c0, c1⟩
        clear hK K hHeld c0 c1
        try simp only [Act.put, List.setIfInBounds_toArray, List.set_cons_zero, List.set_cons_succ]
        have hHeld := hHeld2; clear hHeld2
        refine wpAnyH_ready (rs := [8]) (by kernel_rfl) (by simp) ?_
        refine AllReadyH.cons rfl (fun K hK => ?_) AllReadyH.nil
        · go_simp
          have hb := (Below.refl W4.heap.size W4).alloc (Nat.le_refl _) (.cells (zerosA (V + 1)) 3)
          have hn2 := BlkI.made W4 3 (V + 1)
          obtain ⟨W5, hW2⟩ : ∃ W9, W9 = W4.alloc (.cells (zerosA (V + 1)) 3) := ⟨_, rfl⟩
          rw [← hW2] at hb hn2 ⊢
          clear hW2
          have gel := Hb.out.size
          have nrl := Hr.out.lt
          have nvl := Hv.out.lt
          replace HB := hide (HB.out.keep hb)
          replace Hr := hide (Hr.out.keep hb)
          replace Hv := hide (Hv.out.keep hb)
          replace HC := hide (HC.out.keep hb)
          replace Hb := hide (Hb.out.trans (hb.mono Hb.out.size))
          clear hb
          generalize W4.heap.size = gl at hn2 gel nrl nvl ⊢
          have Hl := hide hn2
          clear hn2
          have c0 := HB.out.cell 0
          have c1 := HB.out.cell 1
          simp only [List.getElem?_cons_zero, List.getElem?_cons_succ] at c0 c1
          refine hK.out _ _ ?_ (fun hHeld2 => ?_)
          · (try dsimp only); exact ⟨c0, c1⟩
          clear hK K hHeld c0 c1
          try simp only [Act.put, List.setIfInBounds_toArray, List.set_cons_zero, List.set_cons_succ]
          have hHeld := hHeld2; clear hHeld2
          refine take1 (i := 11) (v := ?_) (some 18) rfl rfl (by kernel_rfl) (by kernel_rfl) (by kernel_rfl) (fun _ _ _ h => h) (Or.inl ⟨by rfl, ?_⟩) (by assumption) ?_
          rotate_left
          · intro w hSw; (try dsimp only at hSw); obtain ⟨s1, s2⟩ := hSw; first | (go_simp; done) | (go_simp; with_reducible rfl)
          try simp only [Act.put, List.setIfInBounds_toArray, List.set_cons_zero, List.set_cons_succ]
          refine wpAnyH_ready (rs := [12]) (by kernel_rfl) (by simp) ?_
          refine AllReadyH.cons rfl (fun K hK => ?_) AllReadyH.nil
          go_simp
          obtain ⟨WF, hWF⟩ : ∃ WF, WF = W5.alloc (.cells #[.int .i64 V, .slice O n oc, .slice none 0 0, .slice (some ⟨gv, 0, none⟩) (V + 1) (V + 1), .slice (some ⟨gl, 0, none⟩) (V + 1) (V + 1), .slice (some ⟨gr, 0, none⟩) (V + 1) (V + 1), .slice none 0 0, .slice none 0 0] 96) := ⟨_, rfl⟩
          obtain ⟨g, hg⟩ : ∃ g, g = W5.heap.size := ⟨_, rfl⟩
          obtain ⟨ht1, ht2⟩ := new_tail Hb.out Hv.out Hl.out Hr.out (by omega) (by omega) (by omega) gev gel ger HC.out Hlen.out hg hWF
          have hbx : Blk 51 WF bB [.int .i64 V, .slice A n c] := by rw [hWF]; exact HB.out.alloc _
          rw [← hWF, ← hg]
          have Ht1 := hide ht1
          have Ht2 := hide ht2
          have c0 := hbx.cell 0
          have c1 := hbx.cell 1
          simp only [List.getElem?_cons_zero, List.getElem?_cons_succ] at c0 c1
          clear hWF hg ht1 ht2 hbx
          refine hK.out _ _ ?_ (fun hHeld2 => ?_)
          · (try dsimp only); exact ⟨c0, c1⟩
          clear hK K hHeld
          try simp only [Act.put, List.setIfInBounds_toArray, List.set_cons_zero, List.set_cons_succ]
          have hHeld := hHeld2; clear hHeld2
          refine take1 (i := 13) (v := ?_) (some 2) rfl rfl (by kernel_rfl) (by kernel_rfl) (by kernel_rfl) (fun _ _ _ h => h) (Or.inl ⟨by rfl, ?_⟩) (by assumption) ?_
          rotate_left
          · intro w hSw; (try dsimp only at hSw); obtain ⟨s1, s2⟩ := hSw; first | (go_simp; done) | (go_simp; with_reducible rfl)
          try simp only [Act.put, List.setIfInBounds_toArray, List.set_cons_zero, List.set_cons_succ]
          refine wpAnyH_done (by kernel_rfl) ?_ _
          go_wp2
          go_ret
          exact ⟨g, _, rfl, Ht1.out, Ht2.out⟩
      · go_simp
        have hb := (Below.refl W3.heap.size W3).alloc (Nat.le_refl _) (.cells (zerosA (V + 1)) 3)
        have hn2 := BlkI.made W3 3 (V + 1)
        obtain ⟨W4, hW2⟩ : ∃ W9, W9 = W3.alloc (.cells (zerosA (V + 1)) 3) := ⟨_, rfl⟩
        rw [← hW2] at hb hn2 ⊢
        clear hW2
        have gel := Hb.out.size
        have nrl := Hr.out.lt
        have nvl := Hv.out.lt
        replace HB := hide (HB.out.keep hb)
        replace Hr := hide (Hr.out.keep hb)
        replace Hv := hide (Hv.out.keep hb)
        replace Hb := hide (Hb.out.trans (hb.mono Hb.out.size))
        clear hb
        generalize W3.heap.size = gl at hn2 gel nrl nvl ⊢
        have Hl := hide hn2
        clear hn2
        have c0 := HB.out.cell 0
        have c1 := HB.out.cell 1
        simp only [List.getElem?_cons_zero, List.getElem?_cons_succ] at c0 c1
        refine hK.out _ _ ?_ (fun hHeld2 => ?_)
        · (try dsimp only); exact ⟨c0, c1⟩
        clear hK K hHeld c0 c1
        try simp only [Act.put, List.setIfInBounds_toArray, List.set_cons_zero, List.set_cons_succ]
        have hHeld := hHeld2; clear hHeld2
        refine wpAnyH_ready (rs := [4]) (by kernel_rfl) (by simp) ?_
        refine AllReadyH.cons rfl (fun K hK => ?_) AllReadyH.nil
        · go_simp
          with_reducible refine (clone_ct H.out Hb.out HA.out hn).mono ?_
          rintro e W5 ⟨O, oc, rfl, hb, xs, hown, hxs⟩
          have hcl : Cloned w.heap.size w.heap.size W5 n cs O oc := ⟨xs, own_mono hown Hb.out.size, fun i x hx => by
            obtain ⟨A', n', c', e1, e2⟩ := hxs i x hx
            refine ⟨A', n', c', e1, e2.keep (Hb.out.trans (hb.mono Hb.out.size)), fun b off e hn9 => ?_⟩
            obtain ⟨b', off', e', hlt⟩ := rd_heap e2 hn9 (by decide)
            rw [e] at e'
            injection e' with e'
            injection e' with e' _
            omega⟩
          have HC := hide hcl
          clear hcl hown hxs xs
          replace HB := hide (HB.out.keep hb)
          replace Hr := hide (Hr.out.keep hb)
          replace Hv := hide (Hv.out.keep hb)
          replace Hl := hide (Hl.out.keep hb)
          replace Hb := hide (Hb.out.trans (hb.mono Hb.out.size))
          clear hb
          have c0 := HB.out.cell 0
          have c1 := HB.out.cell 1
          simp only [List.getElem?_cons_zero, List.getElem?_cons_succ] at c0 c1
          refine hK.out _ _ ?_ (fun hHeld2 => ?_)
          · (try dsimp only); exact ⟨c0, c1⟩
          clear hK K hHeld c0 c1
          try simp only [Act.put, List.setIfInBounds_toArray, List.set_cons_zero, List.set_cons_succ]
          have hHeld := hHeld2; clear hHeld2
          refine take1 (i := 11) (v := ?_) (some 18) rfl rfl (by kernel_rfl) (by kernel_rfl) (by kernel_rfl) (fun _ _ _ h => h) (Or.inl ⟨by rfl, ?_⟩) (by assumption) ?_
          rotate_left
          · intro w hSw; (try dsimp only at hSw); obtain ⟨s1, s2⟩ := hSw; first | (go_simp; done) | (go_simp; with_reducible rfl)
          try simp only [Act.put, List.setIfInBounds_toArray, List.set_cons_zero, List.set_cons_succ]
          refine wpAnyH_ready (rs := [12]) (by kernel_rfl) (by simp) ?_
          refine AllReadyH.cons rfl (fun K hK => ?_) AllReadyH.nil
          go_simp
          obtain ⟨WF, hWF⟩ : ∃ WF, WF = W5.alloc (.cells #[.int .i64 V, .slice O n oc, .slice none 0 0, .slice (some ⟨gv, 0, none⟩) (V + 1) (V + 1), .slice (some ⟨gl, 0, none⟩) (V + 1) (V + 1), .slice (some ⟨gr, 0, none⟩) (V + 1) (V + 1), .slice none 0 0, .slice none 0 0] 96) := ⟨_, rfl⟩
          obtain ⟨g, hg⟩ : ∃ g, g = W5.heap.size := ⟨_, rfl⟩
          obtain ⟨ht1, ht2⟩ := new_tail Hb.out Hv.out Hl.out Hr.out (by omega) (by omega) (by omega) gev gel ger HC.out Hlen.out hg hWF
          have hbx : Blk 51 WF bB [.int .i64 V, .slice A n c] := by rw [hWF]; exact HB.out.alloc _
          rw [← hWF, ← hg]
          have Ht1 := hide ht1
          have Ht2 := hide ht2
          have c0 := hbx.cell 0
          have c1 := hbx.cell 1
          simp only [List.getElem?_cons_zero, List.getElem?_cons_succ] at c0 c1
          clear hWF hg ht1 ht2 hbx
          refine hK.out _ _ ?_ (fun hHeld2 => ?_)
          · (try dsimp only); exact ⟨c0, c1⟩
          clear hK K hHeld
          try simp only [Act.put, List.setIfInBounds_toArray, List.set_cons_zero, List.set_cons_succ]
          have hHeld := hHeld2; clear hHeld2
          refine take1 (i := 13) (v := ?_) (some 2) rfl rfl (by kernel_rfl) (by kernel_rfl) (by kernel_rfl) (fun _ _ _ h => h) (Or.inl ⟨by rfl, ?_⟩) (by assumption) ?_
          rotate_left
          · intro w hSw; (try dsimp only at hSw); obtain ⟨s1, s2⟩ := hSw; first | (go_simp; done) | (go_simp; with_reducible rfl)
          try simp only [Act.put, List.setIfInBounds_toArray, List.set_cons_zero, List.set_cons_succ]
          refine wpAnyH_done (by kernel_rfl) ?_ _
          go_wp2
          go_ret
          exact ⟨g, _, rfl, Ht1.out, Ht2.out⟩
    · go_simp
      have hb := (Below.refl W2.heap.size W2).alloc (Nat.le_refl _) (.cells (zerosA (V + 1)) 3)
      have hn2 := BlkI.made W2 3 (V + 1)
      obtain ⟨W3, hW2⟩ : ∃ W9, W9 = W2.alloc (.cells (zerosA (V + 1)) 3) := ⟨_, rfl⟩
      rw [← hW2] at hb hn2 ⊢
      clear hW2
      have gel := Hb.out.size
      have nrl := Hr.out.lt
      replace HB := hide (HB.out.keep hb)
      replace Hr := hide (Hr.out.keep hb)
      replace Hb := hide (Hb.out.trans (hb.mono Hb.out.size))
      clear hb
      generalize W2.heap.size = gl at hn2 gel nrl ⊢
      have Hl := hide hn2
      clear hn2
      have c0 := HB.out.cell 0
      have c1 := HB.out.cell 1
      simp only [List.getElem?_cons_zero, List.getElem?_cons_succ] at c0 c1
      refine hK.out _ _ ?_ (fun hHeld2 => ?_)
      · (try dsimp only); exact ⟨c0, c1⟩
      clear hK K hHeld c0 c1
      try simp only [Act.put, List.setIfInBounds_toArray, List.set_cons_zero, List.set_cons_succ]
      have hHeld := hHeld2; clear hHeld2
      refine wpAnyH_ready (rs := [4, 6]) (by kernel_rfl) (by simp) ?_
      refine AllReadyH.cons rfl (fun K hK => ?_) (AllReadyH.cons rfl (fun K hK => ?_) AllReadyH.nil)
      · go_simp
        with_reducible refine (clone_ct H.out Hb.out HA.out hn).mono ?_
        rintro e W4 ⟨O, oc, rfl, hb, xs, hown, hxs⟩
        have hcl : Cloned w.heap.size w.heap.size W4 n cs O oc := ⟨xs, own_mono hown Hb.out.size, fun i x hx => by
          obtain ⟨A', n', c', e1, e2⟩ := hxs i x hx
          refine ⟨A', n', c', e1, e2.keep (Hb.out.trans (hb.mono Hb.out.size)), fun b off e hn9 => ?_⟩
          obtain ⟨b', off', e', hlt⟩ := rd_heap e2 hn9 (by decide)
          rw [e] at e'
          injection e' with e'
          injection e' with e' _
          omega⟩
        have HC := hide hcl
        clear hcl hown hxs xs
        replace HB := hide (HB.out.keep hb)
        replace Hr := hide (Hr.out.keep hb)
        replace Hl := hide (Hl.out.keep hb)
        replace Hb := hide (Hb.out.trans (hb.mono Hb.out.size))
        clear hb
        have c0 := HB.out.cell 0
        have c1 := HB.out.cell 1
        simp only [List.getElem?_cons_zero, List.getElem?_cons_succ] at c0 c1
        refine hK.out _ _ ?_ (fun hHeld2 => ?_)
        · (try dsimp only); exact ⟨c0, c1⟩
        clear hK K hHeld c0 c1
        try simp only [Act.put, List.setIfInBounds_toArray, List.set_cons_zero, List.set_cons_succ]
        have hHeld := hHeld2; clear hHeld2
        refine wpAnyH_ready (rs := [6]) (by kernel_rfl) (by simp) ?_
        refine AllReadyH.cons rfl (fun K hK => ?_) AllReadyH.nil
        · go_simp
          have hb := (Below.refl W4.heap.size W4).alloc (Nat.le_refl _) (.cells (zerosA (V + 1)) 3)
          have hn2 := BlkI.made W4 3 (V + 1)
          obtain ⟨W5, hW2⟩ : ∃ W9, W9 = W4.alloc (.cells (zerosA (V + 1)) 3) := ⟨_, rfl⟩
          rw [← hW2] at hb hn2 ⊢
          clear hW2
          have gev := Hb.out.size
          have nrv := Hr.out.lt
          have nlv := Hl.out.lt
          replace HB := hide (HB.out.keep hb)
          replace Hr := hide (Hr.out.keep hb)
          replace Hl := hide (Hl.out.keep hb)
          replace HC := hide (HC.out.keep hb)
          replace Hb := hide (Hb.out.trans (hb.mono Hb.out.size))
          clear hb
          generalize W4.heap.size = gv at hn2 gev nrv nlv ⊢
          have Hv := hide hn2
          clear hn2
          have c0 := HB.out.cell 0
          have c1 := HB.out.cell 1
          simp only [List.getElem?_cons_zero, List.getElem?_cons_succ] at c0 c1
          refine hK.out _ _ ?_ (fun hHeld2 => ?_)
          · (try dsimp only); exact ⟨c0, c1⟩
          clear hK K hHeld c0 c1
          try simp only [Act.put, List.setIfInBounds_toArray, List.set_cons_zero, List.set_cons_succ]
          have hHeld := hHeld2; clear hHeld2
          refine take1 (i := 11) (v := ?_) (some 18) rfl rfl (by kernel_rfl) (by kernel_rfl) (by kernel_rfl) (fun _ _ _ h => h) (Or.inl ⟨by rfl, ?_⟩) (by assumption) ?_
          rotate_left
          · intro w hSw; (try dsimp only at hSw); obtain ⟨s1, s2⟩ := hSw; first | (go_simp; done) | (go_simp; with_reducible rfl)
          try simp only [Act.put, List.setIfInBounds_toArray, List.set_cons_zero, List.set_cons_succ]
          refine wpAnyH_ready (rs := [12]) (by kernel_rfl) (by simp) ?_
          refine AllReadyH.cons rfl (fun K hK => ?_) AllReadyH.nil
          go_simp
          obtain ⟨WF, hWF⟩ : ∃ WF, WF = W5.alloc (.cells #[.int .i64 V, .slice O n oc, .slice none 0 0, .slice (some ⟨gv, 0, none⟩) (V + 1) (V + 1), .slice (some ⟨gl, 0, none⟩) (V + 1) (V + 1), .slice (some ⟨gr, 0, none⟩) (V + 1) (V + 1), .slice none 0 0, .slice none 0 0] 96) := ⟨_, rfl⟩
          obtain ⟨g, hg⟩ : ∃ g, g = W5.heap.size := ⟨_, rfl⟩
          obtain ⟨ht1, ht2⟩ := new_tail Hb.out Hv.out Hl.out Hr.out (by omega) (by omega) (by omega) gev gel ger HC.out Hlen.out hg hWF
          have hbx : Blk 51 WF bB [.int .i64 V, .slice A n c] := by rw [hWF]; exact HB.out.alloc _
          rw [← hWF, ← hg]
          have Ht1 := hide ht1
          have Ht2 := hide ht2
          have c0 := hbx.cell 0
          have c1 := hbx.cell 1
          simp only [List.getElem?_cons_zero, List.getElem?_cons_succ] at c0 c1
          clear hWF hg ht1 ht2 hbx
          refine hK.out _ _ ?_ (fun hHeld2 => ?_)
          · (try dsimp only); exact ⟨c0, c1⟩
          clear hK K hHeld
          try simp only [Act.put, List.setIfInBounds_toArray, List.set_cons_zero, List.set_cons_succ]
          have hHeld := hHeld2; clear hHeld2
          refine take1 (i := 13) (v := ?_) (some 2) rfl rfl (by kernel_rfl) (by kernel_rfl) (by kernel_rfl) (fun _ _ _ h => h) (Or.inl ⟨by rfl, ?_⟩) (by assumption) ?_
          rotate_left
          · intro w hSw; (try dsimp only at hSw); obtain ⟨s1, s2⟩ := hSw; first | (go_simp; done) | (go_simp; with_reducible rfl)
          try simp only [Act.put, List.setIfInBounds_toArray, List.set_cons_zero, List.set_cons_succ]
          refine wpAnyH_done (by kernel_rfl) ?_ _
          go_wp2
          go_ret
          exact ⟨g, _, rfl, Ht1.out, Ht2.out⟩
      · go_simp
        have hb := (Below.refl W3.heap.size W3).alloc (Nat.le_refl _) (.cells (zerosA (V + 1)) 3)
        have hn2 := BlkI.made W3 3 (V + 1)
        obtain ⟨W4, hW2⟩ : ∃ W9, W9 = W3.alloc (.cells (zerosA (V + 1)) 3) := ⟨_, rfl⟩
        rw [← hW2] at hb hn2 ⊢
        clear hW2
        have gev := Hb.out.size
        have nrv := Hr.out.lt
        have nlv := Hl.out.lt
        replace HB := hide (HB.out.keep hb)
        replace Hr := hide (Hr.out.keep hb)
        replace Hl := hide (Hl.out.keep hb)
        replace Hb := hide (Hb.out.trans (hb.mono Hb.out.size))
        clear hb
        generalize W3.heap.size = gv at hn2 gev nrv nlv ⊢
        have Hv := hide hn2
        clear hn2
        have c0 := HB.out.cell 0
        have c1 := HB.out.cell 1
        simp only [List.getElem?_cons_zero, List.getElem?_cons_succ] at c0 c1
        refine hK.out _ _ ?_ (fun hHeld2 => ?_)
        · (try dsimp only); exact ⟨c0, c1⟩
        clear hK K hHeld c0 c1
        try simp only [Act.put, List.setIfInBounds_toArray, List.set_cons_zero, List.set_cons_succ]
        have hHeld := hHeld2; clear hHeld2
        refine wpAnyH_ready (rs := [4]) (by kernel_rfl) (by simp) ?_
        refine AllReadyH.cons rfl (fun K hK => ?_) AllReadyH.nil
        · go_simp
          with_reducible refine (clone_ct H.out Hb.out HA.out hn).mono ?_
          rintro e W5 ⟨O, oc, rfl, hb, xs, hown, hxs⟩
          have hcl : Cloned w.heap.size w.heap.size W5 n cs O oc := ⟨xs, own_mono hown Hb.out.size, fun i x hx => by
            obtain ⟨A', n', c', e1, e2⟩ := hxs i x hx
            refine ⟨A', n', c', e1, e2.keep (Hb.out.trans (hb.mono Hb.out.size)), fun b off e hn9 => ?_⟩
            obtain ⟨b', off', e', hlt⟩ := rd_heap e2 hn9 (by decide)
            rw [e] at e'
            injection e' with e'
            injection e' with e' _
            omega⟩
          have HC := hide hcl
          clear hcl hown hxs xs
          replace HB := hide (HB.out.keep hb)
          replace Hr := hide (Hr.out.keep hb)
          replace Hl := hide (Hl.out.keep hb)
          replace Hv := hide (Hv.out.keep hb)
          replace Hb := hide (Hb.out.trans (hb.mono Hb.out.size))
          clear hb
          have c0 := HB.out.cell 0
          have c1 := HB.out.cell 1
          simp only [List.getElem?_cons_zero, List.getElem?_cons_succ] at c0 c1
          refine hK.out _ _ ?_ (fun hHeld2 => ?_)
          · (try dsimp only); exact ⟨c0, c1⟩
          clear hK K hHeld c0 c1
          try simp only [Act.put, List.setIfInBounds_toArray, List.set_cons_zero, List.set_cons_succ]
          have hHeld := hHeld2; clear hHeld2
          refine take1 (i := 11) (v := ?_) (some 18) rfl rfl (by kernel_rfl) (by kernel_rfl) (by kernel_rfl) (fun _ _ _ h => h) (Or.inl ⟨by rfl, ?_⟩) (by assumption) ?_
          rotate_left
          · intro w hSw; (try dsimp only at hSw); obtain ⟨s1, s2⟩ := hSw; first | (go_simp; done) | (go_simp; with_reducible rfl)
          try simp only [Act.put, List.setIfInBounds_toArray, List.set_cons_zero, List.set_cons_succ]
          refine wpAnyH_ready (rs := [12]) (by kernel_rfl) (by simp) ?_
          refine AllReadyH.cons rfl (fun K hK => ?_) AllReadyH.nil
          go_simp
          obtain ⟨WF, hWF⟩ : ∃ WF, WF = W5.alloc (.cells #[.int .i64 V, .slice O n oc, .slice none 0 0, .slice (some ⟨gv, 0, none⟩) (V + 1) (V + 1), .slice (some ⟨gl, 0, none⟩) (V + 1) (V + 1), .slice (some ⟨gr, 0, none⟩) (V + 1) (V + 1), .slice none 0 0, .slice none 0 0] 96) := ⟨_, rfl⟩
          obtain ⟨g, hg⟩ : ∃ g, g = W5.heap.size := ⟨_, rfl⟩
          obtain ⟨ht1, ht2⟩ := new_tail Hb.out Hv.out Hl.out Hr.out (by omega) (by omega) (by omega) gev gel ger HC.out Hlen.out hg hWF
          have hbx : Blk 51 WF bB [.int .i64 V, .slice A n c] := by rw [hWF]; exact HB.out.alloc _
          rw [← hWF, ← hg]
          have Ht1 := hide ht1
          have Ht2 := hide ht2
          have c0 := hbx.cell 0
          have c1 := hbx.cell 1
          simp only [List.getElem?_cons_zero, List.getElem?_cons_succ] at c0 c1
          clear hWF hg ht1 ht2 hbx
          refine hK.out _ _ ?_ (fun hHeld2 => ?_)
          · (try dsimp only); exact ⟨c0, c1⟩
          clear hK K hHeld
          try simp only [Act.put, List.setIfInBounds_toArray, List.set_cons_zero, List.set_cons_succ]
          have hHeld := hHeld2; clear hHeld2
          refine take1 (i := 13) (v := ?_) (some 2) rfl rfl (by kernel_rfl) (by kernel_rfl) (by kernel_rfl) (fun _ _ _ h => h) (Or.inl ⟨by rfl, ?_⟩) (by assumption) ?_
          rotate_left
          · intro w hSw; (try dsimp only at hSw); obtain ⟨s1, s2⟩ := hSw; first | (go_simp; done) | (go_simp; with_reducible rfl)
          try simp only [Act.put, List.setIfInBounds_toArray, List.set_cons_zero, List.set_cons_succ]
          refine wpAnyH_done (by kernel_rfl) ?_ _
          go_wp2
          go_ret
          exact ⟨g, _, rfl, Ht1.out, Ht2.out⟩
end Go.Proofs.Ytnfeknfakkdbhaa
