/- Contracts of the store's small methods: level, sides, Node. -/
import Derived.Test.YtgenpcokpodhkaaStore
import Derived.Deep.RegionLaw
namespace Go.Proofs.Ytgenpcokpodhkaa
open Go.RowKit Go.Maps

section
variable {L B g bf bp : Nat} {w w' w'' : World} {ns : List BN} {np : Nat} {M : BN → Option Int}
theorem StoreAt.node (h : StoreAt L B g bf bp w ns np M) {i : Nat} {n : BN} (hn : ns[i]? = some n) : ∃ r c, Blk 85 w g [.int .i64 L, .slice (some ⟨r, 0, none⟩) ns.length c, .map (some bf), .map (some bp)] ∧
    w.cell? ⟨r, i * 3, none⟩ = some (.int .i64 (n.1 : Int)) ∧ w.cell? ⟨r, i * 3 + 1, none⟩ = some (.int .i64 (n.2.1 : Int)) ∧ w.cell? ⟨r, i * 3 + 2, none⟩ = some (.int .i64 (n.2.2 : Int)) ∧ i < ns.length := by
  obtain ⟨A, c, hb, ho⟩ := h.blk
  have hi := (List.getElem?_eq_some_iff.1 hn).1
  obtain ⟨r, cap, e, hr, hlt⟩ := ho.form (by omega)
  injection e with e1 _ e2
  subst e1 e2
  obtain ⟨h1, h2, h3⟩ := nodesC_get ns hn
  have c1 := ho.cells (g := r) rfl _ _ h1
  have c2 := ho.cells (g := r) rfl _ _ h2
  have c3 := ho.cells (g := r) rfl _ _ h3
  rw [add_plain, Nat.zero_add] at c1 c2 c3
  exact ⟨r, c, hb, c1, c2, c3, hi⟩
theorem StoreAt.cells (h : StoreAt L B g bf bp w ns np M) : ∃ A c, w.cell? ⟨g, 0, none⟩ = some (.int .i64 L) ∧ w.cell? ⟨g, 1, none⟩ = some (.slice A ns.length c) ∧ w.cell? ⟨g, 2, none⟩ = some (.map (some bf)) ∧ w.cell? ⟨g, 3, none⟩ = some (.map (some bp)) ∧ (∀ i, w.frozen? ⟨g, i, none⟩ = false) ∧
    w.ownsRow B 69 3 (.slice A ns.length c) ns.length (nodesC ns) := by
  obtain ⟨A, c, hb, ho⟩ := h.blk
  exact ⟨A, c, hb.cell 0, hb.cell 1, hb.cell 2, hb.cell 3, hb.frozen, ho⟩
end

theorem level_ct {L B g bf bp : Nat} {w : World} {ns : List BN} {np : Nat} {M : BN → Option Int} (h : StoreAt L B g bf bp w ns np M) {k : Nat} (hk : k < ns.length + 2) :
    Calls Try.prog 67 #[.pointer (some ⟨g, 0, none⟩), .int .i64 k] w (Same w (.int .i64 (lvl L ns k : Nat))) := by
  have hL := h.low
  have hfew := h.few.1
  by_cases h2 : k < 2
  · rw [lvl_small ns h2]
    obtain ⟨A, c, hc0, hc1, hc2, hc3, _⟩ := h.cells
    go_enter Try.func67, Try.ntmps67
    go_wp2
    go_ret
    exact ⟨rfl, rfl⟩
  · obtain ⟨i, v, l, h', rfl, hn⟩ := node_of (ns := ns) (by omega) hk
    rw [lvl_node hn]
    obtain ⟨r, c, hb, hn0, _, _, hi⟩ := h.node hn
    have hc1 := hb.cell 1
    simp at hc1
    go_enter Try.func67, Try.ntmps67
    go_wp2
    go_ret
    exact ⟨rfl, rfl⟩

/-- what hangs below node k at a level -/
def sidesF (L : Nat) (ns : List BN) (k lv : Nat) : Nat × Nat := if lv < lvl L ns k then (k, k) else (ns[k - 2]?.map (·.2)).getD (0, 0)
set_option maxHeartbeats 800000 in
theorem sides_ct {L B g bf bp : Nat} {w : World} {ns : List BN} {np : Nat} {M : BN → Option Int} (h : StoreAt L B g bf bp w ns np M) {k lv : Nat} (hk : k < ns.length + 2) (hlv : lv < L) :
    Calls Try.prog 70 #[.pointer (some ⟨g, 0, none⟩), .int .i64 k, .int .i64 lv] w (Gives w (.tuple #[.int .i64 ((sidesF L ns k lv).1 : Nat), .int .i64 ((sidesF L ns k lv).2 : Nat)])) := by
  have hL := h.low
  have hfew := h.few.1
  by_cases h2 : lv < lvl L ns k
  · have hs : sidesF L ns k lv = (k, k) := by rw [sidesF, if_pos h2]
    rw [hs]
    have hlev := level_ct h hk
    generalize lvl L ns k = lk at *
    have Hs := hide hs
    clear hs
    go_enter Try.func70, Try.ntmps70
    go_wp2_with fail
    refine hlev.mono ?_
    rintro e w1 ⟨rfl, rfl⟩
    go_wp2
    exact bodyPost_ret (v := .tuple #[.int .i64 k, .int .i64 k]) (by simp [results, Try.results70, go_sem]) rfl ⟨rfl, Below.refl _ _⟩
  · have hk2 : ¬ k < 2 := fun hk2 => by rw [lvl_small ns hk2] at h2; omega
    obtain ⟨i, v, l, h', rfl, hn⟩ := node_of (ns := ns) (by omega) hk
    have hs : sidesF L ns (i + 2) lv = (l, h') := by rw [sidesF, if_neg h2, Nat.add_sub_cancel, hn]; rfl
    rw [hs]
    have hlev := level_ct h hk
    rw [lvl_node hn] at hlev h2
    obtain ⟨r, c, hb, hn0, hn1, hn2, hi⟩ := h.node hn
    have hc1 := hb.cell 1
    simp at hc1
    have Hs := hide hs
    have Hn := hide hn
    clear hs hn
    go_enter Try.func70, Try.ntmps70
    go_wp2_with fail
    refine hlev.mono ?_
    rintro e w1 ⟨rfl, rfl⟩
    go_wp2
    go_quiet (fail)
    go_wp2
    refine bodyPost_ret (v := .tuple #[.int .i64 l, .int .i64 h']) (by simp [results, Try.results70, go_sem]) rfl ⟨rfl, ?_⟩
    exact below_drewN ((Below.refl _ _).alloc (Nat.le_refl _) _) nq

/-- returned k, the store now st, and no other memory turned -/
def NodeP (L B g bf bp : Nat) (w : World) (ns : List BN) (k np : Nat) (M : BN → Option Int) (e : Ending) (w' : World) : Prop :=
  e = .returned (.int .i64 k) ∧ StoreAt L B g bf bp w' ns np M ∧ Kept B g bf bp w w'
set_option maxHeartbeats 1600000 in
theorem Node_ct {L B g bf bp : Nat} {w : World} {ns : List BN} {np : Nat} {M : BN → Option Int} (h : StoreAt L B g bf bp w ns np M) {v l h' : Nat} (hv : v ≤ 24) (hl : l < ns.length + 2) (hh : h' < ns.length + 2) (hroom : ns.length < 1000000000000) :
    Calls Try.prog 60 #[.pointer (some ⟨g, 0, none⟩), .int .i64 v, .int .i64 l, .int .i64 h'] w (NodeP L B g bf bp w (nodeF ns v l h').1 (nodeF ns v l h').2 np M) := by
  have hL := h.low
  by_cases hlh : l = h'
  · subst hlh
    have hs : nodeF ns v l l = (ns, l) := by rw [nodeF, if_pos rfl]
    rw [hs]
    clear hs
    have Hst := hide h
    clear h
    go_enter Try.func60, Try.ntmps60
    go_wp2
    go_ret
    exact ⟨rfl, Hst.out, Kept.refl _ _ _ _ _⟩
  · obtain ⟨kl, hkl⟩ := keyN (n := (v, l, h')) ⟨by simp; omega, by simp; omega, by simp; omega⟩
    have hc0 := h.cells.choose_spec.choose_spec.1
    have hsz : g < w.heap.size := World.block_lt_of_cell? w _ hc0
    obtain ⟨fc, hlook, hfc, hfM⟩ := h.found.looks lawN Try.underlying82 Try.underlying3 zeroI hkl
    have hfb := h.found.lt
    obtain ⟨V, hV⟩ : ∃ V, V = w.alloc (.cells #[.int .i64 v, .int .i64 l, .int .i64 h'] 69) := ⟨_, rfl⟩
    have hbV : Below w.heap.size w V := by rw [hV]; exact (Below.refl _ _).alloc (Nat.le_refl _) _
    have hst := h.keep hbV
    have hlookd : ∀ d, (Instr.lookup 82 (.map (some bf)) (.agg #[.int .i64 v, .int .i64 l, .int .i64 h']) true).run Try.prog (V.drewN d) = .ok (.tuple #[.int .i64 fc, .bool (foundF ns (v, l, h')).isSome]) (V.drewN d) :=
      fun d => hlook _ (hbV.block _ hfb)
    have hcell := Blk.new w 69 [.int .i64 v, .int .i64 l, .int .i64 h']
    have hVs : w.heap.size < V.heap.size := by rw [hV]; simp
    have Hst := hide hst
    generalize hs : nodeF ns v l h' = st
    have Hs := hide hs
    obtain ⟨A, c, hblk, hown'⟩ := h.blk
    have hne : some g ≠ (Value.slice A ns.length c).ownBlock := fun e => by
      obtain ⟨_, cs, m, hr⟩ := own_block hown' e.symm
      unfold Blk at hblk
      rw [hblk] at hr
      injection hr with hr
      injection hr with _ hr _
      exact absurd hr (by decide)
    have hne2 : some w.heap.size ≠ (Value.slice A ns.length c).ownBlock := fun e => by
      have := (own_block hown' e.symm).1
      omega
    have Hblk0 := hide hblk
    have Hown0 := hide hown'
    have Hne := hide hne
    have Hne2 := hide hne2
    clear hblk hown' hne hne2
    have HV := hide hV
    have HbV := hide hbV
    have Hcell := hide hcell
    have Hlookd := hide hlookd
    have HfM := hide hfM
    clear h hc0 hlook hst hkl hs hV hbV hcell hlookd hfM
    go_enter Try.func60, Try.ntmps60
    go_wp2_with fail
    rw [← HV.out]
    have hcell := Hcell.out
    rw [← HV.out] at hcell
    have hlookd := Hlookd.out
    have hfM := HfM.out
    have hsV := HbV.out.size
    have hc2 := (Hblk0.out.keep HbV.out).cell 2
    simp at hc2
    have hn0 := hcell.cell 0
    have hn1 := hcell.cell 1
    have hn2 := hcell.cell 2
    simp at hn0 hn1 hn2
    cases hp : posN ns (v, l, h') 2 with
    | some k =>
      have hs : nodeF ns v l h' = (ns, k) := by rw [nodeF, if_neg hlh, hp]
      obtain rfl := Hs.out.symm.trans hs
      have hM : foundF ns (v, l, h') = some (k : Int) := by rw [foundF, hp]; rfl
      rw [hM] at hlookd
      obtain rfl := hfM _ hM
      clear hs hM hp hfM
      simp only [Option.isSome_some] at hlookd
      go_quiet (fail)
      go_wp2
      go_ret
      exact ⟨rfl, Hst.out.qt ⟨_, rfl⟩, (Kept.of_below HbV.out hsz).drewN _⟩
    | none =>
      have hs : nodeF ns v l h' = (ns ++ [(v, l, h')], ns.length + 2) := by rw [nodeF, if_neg hlh, hp]
      obtain rfl := Hs.out.symm.trans hs
      have hM : foundF ns (v, l, h') = none := by rw [foundF, hp]; rfl
      rw [hM] at hlookd
      have Hnew := hide (posN_none.1 hp)
      clear hs hM hp hfM
      simp only [Option.isSome_none] at hlookd
      go_quiet (fail)
      go_wp2_with fail
      have hbW := below_drewN HbV.out nq
      have hst1 := Hst.out.qt (w' := V.drewN nq) ⟨nq, rfl⟩
      have Hcell1 := Hcell
      rw [← HV.out] at Hcell1
      have hcell1 := (Hcell1.out).qt (w' := V.drewN nq) ⟨nq, rfl⟩
      have hVs' : w.heap.size < (V.drewN nq).heap.size := hVs
      clear hlookd hc2 hn0 hn1 hn2 hcell Hcell Hcell1 Hlookd HfM hVs hsV hfb Hst HbV HV
      generalize V.drewN nq = W at *
      clear V
      have hblk := Hblk0.out.keep hbW
      have hown := own_keep Hown0.out hbW
      have hc1 := hblk.cell 1
      have hn0 := hcell1.cell 0
      have hn1 := hcell1.cell 1
      have hn2 := hcell1.cell 2
      simp at hn0 hn1 hn2 hc1
      have hgV : g < W.heap.size := by omega
      have HbW := hide hbW
      have Hblk := hide hblk
      have Hst1 := hide hst1
      have Hcell1 := hide hcell1
      have Hown := hide hown
      have hbl := hst1.base.2.2.2.2
      clear hst1 hcell1 hown hblk hbW
      obtain ⟨i0, hi0, hz0, hz1, hz2⟩ := info_parts (show (Try.prog.info? 69).map (fun i => (i.zero, i.size, i.bytes)) = some (some (.agg #[.int .i64 0, .int .i64 0, .int .i64 0]), 3, 24) by kernel_rfl)
      have hml : ns.length + 1 ≤ maxLen := by unfold maxLen; omega
      have hby : (ns.length + 1) * 24 ≤ 140737488355328 := by omega
      have hone : ∀ u ∈ [Value.int .i64 (v : Int), .int .i64 l, .int .i64 h'], u.oneCell' = true := by
        intro u hu
        simp at hu
        rcases hu with rfl | rfl | rfl <;> rfl
      have hnews : ∀ j u, [Value.int .i64 (v : Int), .int .i64 l, .int .i64 h'][j]? = some u → (W.alloc (.cells #[.int .i64 v, .int .i64 l, .int .i64 h'] 69)).drew.cell? ((⟨W.heap.size, 0, none⟩ : Addr).add j) = some u := by
        intro j u hj
        rw [add_plain, Nat.zero_add]
        exact (((Blk.new W 69 [.int .i64 v, .int .i64 l, .int .i64 h']).qt (Qt.refl _).drew).cell j).trans hj
      have Hnews := hide hnews
      clear hnews
      go_region_law (refine step_append_lies _ rfl _ _ 28 rfl B 69 i0 (.agg #[.int .i64 0, .int .i64 0, .int .i64 0]) 3 24 Try.underlying28 hi0 hz0 hz1 hz2 rfl (by decide) (.slice A ns.length c) ns.length (nodesC ns) (by simp [Act.eval]) (Hown.out.alloc _).drew ⟨W.heap.size, 0, none⟩ 1 1 [.int .i64 v, .int .i64 l, .int .i64 h'] (by simp [Act.eval]) rfl Hnews.out hone (by omega) hml hby (by simp; omega) _ rfl ?_; intro gr cap w2 hown2 hgr2 hat2 hlt2; have hb2 := ((Hblk.out.alloc _).qt (Qt.refl _).drew).grown hgr2 Hne.out; have hz2 := hb2.frozen 1; have hcg2 := hb2.cell 1; have Hb2 := hide hb2; have Hown2 := hide hown2; have Hgr2 := hide hgr2; have Hat2 := hide hat2; clear hb2 hown2 hgr2 hat2)
      all_goals
        have HW2 := hide (((Below.refl W.heap.size W).alloc (Nat.le_refl _) (.cells #[.int .i64 v, .int .i64 l, .int .i64 h'] 69)).drew)
        have hbox2 := (Hcell1.out.below HW2.out Hcell1.out.lt).grown Hgr2.out Hne2.out
        have hz3 := (only_set w2 g 1 (.slice (some ⟨gr, 0, none⟩) (ns.length + 1) cap))
        have hblk3 := Hb2.out.set 1 (.slice (some ⟨gr, 0, none⟩) (ns.length + 1) cap)
        have hgrg : gr ≠ g := fun e => by
          obtain ⟨_, cs, m, hr⟩ := own_block Hown2.out (r := gr) rfl
          have hb := Hb2.out
          unfold Blk at hb
          rw [e, hb] at hr
          injection hr with hr
          injection hr with _ hr _
          exact absurd hr (by decide)
        have hown3 := own_other Hown2.out hz3 (fun r hr => by
          have hr : gr = r := by simpa [Value.ownBlock] using hr
          rw [← hr]
          simpa using hgrg)
        have hmapne : ∀ b es cl, w2.heap[b]? = some (.map es cl) → b ≠ g := fun b es cl hb e => by
          have hb' := Hb2.out
          unfold Blk at hb'
          rw [e, hb'] at hb
          cases hb
        have hmapk : ∀ b es cl, W.heap[b]? = some (.map es cl) → b < W.heap.size → w2.heap[b]? = W.heap[b]? := fun b es cl hb hlt => by
          refine (Hgr2.out.block b (Nat.lt_of_lt_of_le hlt HW2.out.size) (fun e => ?_)).trans (HW2.out.block b hlt)
          obtain ⟨_, cs, m, hr⟩ := own_block Hown.out e.symm
          rw [hr] at hb
          cases hb
        obtain ⟨es, cl, hbf⟩ := Hst1.out.found.isMap
        obtain ⟨es', cl', hbp⟩ := Hst1.out.pairs.isMap
        have hbf2 := hmapk _ _ _ hbf Hst1.out.found.lt
        have hbp2 := hmapk _ _ _ hbp Hst1.out.pairs.lt
        have hbf3 := Below.heap_setCell w2 ⟨g, 1, none⟩ (.slice (some ⟨gr, 0, none⟩) (ns.length + 1) cap) bf (hmapne _ _ _ (hbf2.trans hbf))
        have hbp3 := Below.heap_setCell w2 ⟨g, 1, none⟩ (.slice (some ⟨gr, 0, none⟩) (ns.length + 1) cap) bp (hmapne _ _ _ (hbp2.trans hbp))
        have hfound3 := Hst1.out.found.of_block (hbf3.trans hbf2)
        have hpairs3 := Hst1.out.pairs.of_block (hbp3.trans hbp2)
        have hbox3 : Blk 69 (w2.setCell ⟨g, 1, none⟩ (.slice (some ⟨gr, 0, none⟩) (ns.length + 1) cap)) w.heap.size [.int .i64 v, .int .i64 l, .int .i64 h'] := hbox2.far (show w.heap.size ≠ g by omega) _
        have hk3 : Kept B g bf bp W (w2.setCell ⟨g, 1, none⟩ (.slice (some ⟨gr, 0, none⟩) (ns.length + 1) cap)) := by
          refine Kept.of_push (gr := gr) HW2.out Hown.out (Hblk.out.cell 1) Hgr2.out ?_ Hst1.out.base.1 ?_
          · rcases Hat2.out with h1 | h1
            · exact .inl h1
            · refine .inr ?_
              rw [h1]
              exact HW2.out.size
          · have := hblk3.cell 1
            rw [rowOf, this]
            rfl
        have hsz3 : W.heap.size ≤ (w2.setCell ⟨g, 1, none⟩ (.slice (some ⟨gr, 0, none⟩) (ns.length + 1) cap)).heap.size := hk3.size
        clear hz3 hgrg hmapne hmapk hbf hbp hbf2 hbp2 hbf3 hbp3 hbox2 Hb2 Hown2 Hgr2 Hat2 HW2 hlt2
        generalize w2.setCell ⟨g, 1, none⟩ (.slice (some ⟨gr, 0, none⟩) (ns.length + 1) cap) = W3 at *
        clear Hcell1 Hown Hblk0 Hown0 Hne Hne2 Hblk Hnews
        obtain ⟨kl2, hkl2⟩ := keyN (n := (v, l, h')) ⟨by simp; omega, by simp; omega, by simp; omega⟩
        obtain ⟨w4, hrun4, hf4, hg4, hs4⟩ := (hfound3.of_block (w' := W3.drew) rfl).put encN_inj lawN Try.underlying82 Try.underlying3 hroom hkl2 ((ns.length + 2 : Nat) : Int) (by omega)
        have hrun4' : (Instr.mapUpdate 82 (.map (some bf)) (.agg #[.int .i64 v, .int .i64 l, .int .i64 h']) (.int .i64 ((ns.length : Int) + 1 + 1))).run Try.prog W3.drew = .ok () w4 := by
          rw [show (ns.length : Int) + 1 + 1 = ((ns.length + 2 : Nat) : Int) by omega]
          exact hrun4
        have hnbf : ∀ b es cl, W3.heap[b]? = some (.map es cl) → ∀ r, (Value.slice (some ⟨gr, 0, none⟩) (ns.length + 1) cap).ownBlock = some r → some r ≠ some b := fun b es cl hb r hr e => by
          injection e with e
          obtain ⟨_, cs, m, hc⟩ := own_block hown3 hr
          rw [e, hb] at hc
          cases hc
        obtain ⟨esf, clf, hmf⟩ := hfound3.isMap
        have Hnbf := hide (hnbf _ _ _ hmf)
        clear hnbf hmf
        clear hrun4 hkl2 kl2
        rw [foundF_put Hnew.out] at hf4
        have hd0 := hblk3.cell 0
        have hd1 := hblk3.cell 1
        have hd2 := hblk3.cell 2
        have he0 := hbox3.cell 0
        have he1 := hbox3.cell 1
        have he2 := hbox3.cell 2
        simp at hd0 hd1 hd2 he0 he1 he2
        have Hf4 := hide hf4
        have Hg4 := hide hg4
        have Hown3 := hide hown3
        have Hblk3 := hide hblk3
        have Hk3 := hide hk3
        have Hpairs3 := hide hpairs3
        clear hf4 hg4 hown3 hblk3 hk3 hpairs3 hfound3 hbox3
        go_wp2_with fail
        go_region
        go_wp2
        go_ret
        have hne3 := Hst1.out.ne
        have hpr := Hpairs3.out
        refine ⟨ret_int (by simp; omega), ⟨hL, ⟨by simp; omega, Hst1.out.few.2⟩, ⟨some ⟨gr, 0, none⟩, cap, ?_, ?_⟩, ?_, ?_, Hst1.out.base.1, Hst1.out.base.2.1, Hst1.out.base.2.2.1, Hst1.out.base.2.2.2.1, ?_⟩, ?_⟩
        · have := (Hblk3.out.qt (Qt.refl _).drew).grown Hg4.out (by simpa using hne3.1)
          simpa using this
        · have := own_other (Hown3.out.drew) Hg4.out Hnbf.out
          rw [nodesC_append]
          simpa [nodesC] using this
        · rw [List.length_append]
          exact Hf4.out
        · exact hpr.of_block (Hg4.out.block bp hpr.lt (by simpa using fun e => hne3.2.2 e.symm))
        · exact Nat.le_trans hbl (Nat.le_trans hsz3 Hg4.out.size)
        · exact (Kept.of_below HbW.out hsz).trans (Hk3.out.trans ((Kept.of_below (Below.refl _ W3).drew Hblk3.out.lt).trans (Kept.of_grown Hg4.out Hst1.out.base.2.1 (.inl rfl) Hblk3.out.lt hne3.1)))
end Go.Proofs.Ytgenpcokpodhkaa
