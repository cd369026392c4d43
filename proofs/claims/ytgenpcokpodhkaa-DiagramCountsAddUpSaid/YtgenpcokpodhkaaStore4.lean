/- Contract of the store's both. -/
import Derived.Test.YtgenpcokpodhkaaStore3
namespace Go.Proofs.Ytgenpcokpodhkaa
open Go.RowKit Go.Maps

theorem len_more (l m : List BN) : l.length ≤ (l ++ m).length := by simp
/-- the sides of a node at a level that is not below it -/
theorem sidesF_ok {L : Nat} {ns : List BN} (ok : OkD L ns) {k lv : Nat} (hk : k < ns.length + 2) (hlv : lv ≤ lvl L ns k) (hL : lv < L) :
    (sidesF L ns k lv).1 < ns.length + 2 ∧ (sidesF L ns k lv).2 < ns.length + 2 ∧ lv < lvl L ns (sidesF L ns k lv).1 ∧ lv < lvl L ns (sidesF L ns k lv).2 ∧
    ∀ s : Nat → Bool, sem ns k s = if s lv = true then sem ns (sidesF L ns k lv).2 s else sem ns (sidesF L ns k lv).1 s := by
  unfold sidesF
  by_cases h : lv < lvl L ns k
  · rw [if_pos h]
    exact ⟨hk, hk, h, h, fun s => by simp⟩
  · rw [if_neg h]
    have hk2 : ¬ k < 2 := fun h2 => by rw [lvl_small ns h2] at h; omega
    obtain ⟨i, v, l, h', rfl, hn⟩ := node_of (ns := ns) (by omega) hk
    rw [lvl_node hn] at h hlv
    obtain rfl : v = lv := by omega
    obtain ⟨_, h1, h2, _, h3, h4⟩ := ok.node i v l h' hn
    have := (List.getElem?_eq_some_iff.1 hn).1
    simp only [Nat.add_sub_cancel, hn, Option.map_some, Option.getD_some]
    exact ⟨by omega, by omega, h3, h4, fun s => sem_node ok hn s⟩
theorem opF_ite (op : Nat) (c : Bool) (x y x' y' : Bool) : opF op (if c = true then x else y) (if c = true then x' else y') = if c = true then opF op x x' else opF op y y' := by
  cases c <;> rfl
theorem opF_comm (op : Nat) (x y : Bool) : opF op x y = opF op y x := by
  unfold opF
  split <;> cases x <;> cases y <;> rfl
/-- op's level -/
theorem lvl_op {L : Nat} {ns : List BN} (ok : OkD L ns) {op a b k : Nat} (ha : a < ns.length + 2) (hb : b < ns.length + 2) (hk : k < ns.length + 2) (h : ∀ s, sem ns k s = opF op (sem ns a s) (sem ns b s)) : min (lvl L ns a) (lvl L ns b) ≤ lvl L ns k := by
  refine lvl_of_dep ok hk (Nat.le_trans (Nat.min_le_left _ _) (lvl_le ok a)) (fun s t hst => ?_)
  rw [h, h, sem_dep ok a a (Nat.le_refl _) ha s t (fun v hv => hst v (by omega)), sem_dep ok b b (Nat.le_refl _) hb s t (fun v hv => hst v (by omega))]

/-- what a memory keeps: one more pair -/
theorem PairsOk.put {ns : List BN} {M : BN → Option Int} (h : PairsOk ns M) {op a b k : Nat} (ha : a < ns.length + 2) (hb : b < ns.length + 2) (hk : k < ns.length + 2) (hq : ∀ s, sem ns k s = opF op (sem ns a s) (sem ns b s)) : PairsOk ns (putM M (op, a, b) (k : Int)) := fun op' a' b' c hc => by
  by_cases he : (op', a', b') = (op, a, b)
  · rw [he, putM_same] at hc
    injection hc with hc
    simp only [Prod.mk.injEq] at he
    obtain ⟨rfl, rfl, rfl⟩ := he
    exact ⟨k, hc.symm, hk, ha, hb, hq⟩
  · rw [putM_other _ _ he] at hc
    exact h op' a' b' c hc

set_option maxHeartbeats 3200000 in
set_option maxRecDepth 100000 in
theorem both_ct {L B g bf bp : Nat} {op : Nat} (hop : op = 0 ∨ op = 1) : ∀ (d : Nat) (w : World) (ns : List BN) (C a b : Nat), St L B g bf bp w ns C → a < ns.length + 2 → b < ns.length + 2 → L - min (lvl L ns a) (lvl L ns b) ≤ d → C + 2 ^ (d + 1) ≤ 1000000000000 →
    Calls Try.prog 59 #[.pointer (some ⟨g, 0, none⟩), .int .i64 op, .int .i64 a, .int .i64 b] w (StP L B g bf bp w ns (C + (2 ^ (d + 1) - 2)) fun ns' k => ∀ s, sem ns' k s = opF op (sem ns a s) (sem ns b s)) := by
  intro d
  induction d with
  | zero =>
    intro w ns C a b h ha hb hd hC
    refine (both_end hop h ha hb ?_).mono (fun e w' hp => by simpa using hp)
    have h1 := lvl_le h.ok a
    have h2 := lvl_le h.ok b
    by_cases ha2 : a < 2
    · exact .inr (.inl ha2)
    · right; right
      obtain ⟨i, v, l, h', rfl, hn⟩ := node_of (ns := ns) (by omega) ha
      have := (h.ok.node i v l h' hn).1
      rw [lvl_node hn] at hd
      omega
  | succ d ih =>
    intro w ns C a b h ha hb hd hC
    have hpow : 2 ^ (d + 1 + 1) = 2 ^ (d + 1) + 2 ^ (d + 1) := by rw [Nat.pow_succ]; omega
    have hpos : 2 ≤ 2 ^ (d + 1) := by rw [Nat.pow_succ]; have := Nat.two_pow_pos d; omega
    by_cases hend : a = b ∨ a < 2 ∨ b < 2
    · refine (both_end hop h ha hb hend).mono ?_
      rintro e w' ⟨ms, k, h1, h2, h3, h4, h5⟩
      exact ⟨ms, k, h1, h2.mono (by omega), h3, h4, h5⟩
    · have hL := h.low
      have hop2 : op ≤ 1 := by omega
      -- the smaller of the two, and the other
      obtain ⟨p, q, hpq, hsw⟩ : ∃ p q, p < q ∧ ((p = a ∧ q = b) ∨ (q = a ∧ p = b)) := by
        rcases Nat.lt_trichotomy a b with h | h | h
        · exact ⟨a, b, h, .inl ⟨rfl, rfl⟩⟩
        · exact absurd (.inl h) hend
        · exact ⟨b, a, h, .inr ⟨rfl, rfl⟩⟩
      have hp2 : 2 ≤ p := by omega
      have hp : p < ns.length + 2 := by omega
      have hq : q < ns.length + 2 := by omega
      have hdpq : L - min (lvl L ns p) (lvl L ns q) ≤ d + 1 := by
        rcases hsw with ⟨rfl, rfl⟩ | ⟨rfl, rfl⟩
        · exact hd
        · rw [Nat.min_comm]; exact hd
      have hQ : ∀ (ns' : List BN) k, (∀ s, sem ns' k s = opF op (sem ns p s) (sem ns q s)) → ∀ s, sem ns' k s = opF op (sem ns a s) (sem ns b s) := by
        intro ns' k hk s
        rcases hsw with ⟨rfl, rfl⟩ | ⟨rfl, rfl⟩
        · exact hk s
        · rw [hk, opF_comm]
      have hlen : ns.length ≤ 1000000000000 := by have := h.1; omega
      obtain ⟨g1, ok, np, M, g3, g4, g5⟩ := h
      obtain ⟨kl, hkl⟩ := keyT (n := (op, p, q)) ⟨by simp; omega, by simp; omega, by simp; omega⟩
      obtain ⟨fc, hlook, hfc, hfM⟩ := g4.pairs.looks lawT Try.underlying83 Try.underlying3 zeroI hkl
      have hpb := g4.pairs.lt
      have hw0 : g < w.heap.size := g4.blk.choose_spec.choose_spec.1.lt
      obtain ⟨V, hV⟩ : ∃ V, V = w.alloc (.cells #[.int .i64 op, .int .i64 p, .int .i64 q] 93) := ⟨_, rfl⟩
      have hbV : Below w.heap.size w V := by rw [hV]; exact (Below.refl _ _).alloc (Nat.le_refl _) _
      have hlookd : ∀ d, (Instr.lookup 83 (.map (some bp)) (.agg #[.int .i64 op, .int .i64 p, .int .i64 q]) true).run Try.prog (V.drewN d) = .ok (.tuple #[.int .i64 fc, .bool (M (op, p, q)).isSome]) (V.drewN d) :=
        fun d => hlook _ (hbV.block _ hpb)
      have hcell := Blk.new w 93 [.int .i64 op, .int .i64 p, .int .i64 q]
      rw [← hV] at hcell
      have Hst := hide (g4.keep hbV)
      have Hst0 := hide g4
      have Hok := hide ok
      have Hpairs := hide g5
      have HV := hide hV
      have HbV := hide hbV
      have Hcell := hide hcell
      have Hlookd := hide hlookd
      have HfM := hide hfM
      have HQ := hide hQ
      have Hdpq := hide hdpq
      have Hih := hide ih
      have hgV : g < V.heap.size := Nat.lt_of_lt_of_le hw0 hbV.size
      have hwV : w.heap.size < V.heap.size := by rw [hV]; simp
      have Hpow := hide hpow
      clear g4 ok g5 hV hbV hcell hlookd hfM hQ hdpq ih hlook hkl kl hd hpow
      rcases hsw with ⟨rfl, rfl⟩ | ⟨rfl, rfl⟩
      all_goals
        go_enter Try.func59, Try.ntmps59
        go_wp2_with fail
        rw [← HV.out]
        have hcell := Hcell.out
        have hlookd := Hlookd.out
        obtain ⟨A, c, hc0, hc1, hc2, hc3, hfz, hown⟩ := Hst.out.cells
        have hn0 := hcell.cell 0
        have hn1 := hcell.cell 1
        have hn2 := hcell.cell 2
        simp at hn0 hn1 hn2
        clear hc0 hc1 hc2 hown hfz
        cases hM : M (op, p, q) with
        | some cc =>
          obtain ⟨k, rfl, hk1, hk2, hk3, hk4⟩ := Hpairs.out op p q cc hM
          rw [hM] at hlookd
          obtain rfl := HfM.out _ hM
          have HM := hide hM
          have Hk4 := hide hk4
          clear hM hk4
          simp only [Option.isSome_some] at hlookd
          go_quiet (fail)
          go_wp2
          go_ret
          exact ⟨[], k, rfl, by simpa using ⟨by omega, Hok.out, np, M, by omega, Hst.out.qt ⟨_, rfl⟩, Hpairs.out⟩, (Kept.of_below HbV.out hw0).drewN _, by simpa using hk1, by simpa using HQ.out ns k Hk4.out⟩
        | none =>
          rw [hM] at hlookd
          have HM := hide hM
          clear hM
          simp only [Option.isSome_none] at hlookd
          go_quiet (fail)
          go_wp2_with fail
          have hst1 := Hst.out.qt (w' := V.drewN nq) ⟨nq, rfl⟩
          have hbW := below_drewN HbV.out nq
          have hc1 := hcell.qt (w' := V.drewN nq) ⟨nq, rfl⟩
          have hwW : w.heap.size < (V.drewN nq).heap.size := hwV
          clear hlookd hcell hn0 hn1 hn2 hc3 HV HbV Hcell Hlookd HfM Hst hwV hgV
          generalize V.drewN nq = W at *
          have hlev1 := level_ct hst1 hp
          have hlev2 := level_ct hst1 hq
          obtain ⟨hlpL, hlqL⟩ : lvl L ns p < L ∧ lvl L ns q < L := by
            obtain ⟨i, v, l, h', e1, hn⟩ := node_of (ns := ns) hp2 hp
            obtain ⟨i', v', l', h'', e2, hn'⟩ := node_of (ns := ns) (by omega) hq
            rw [e1, e2, lvl_node hn, lvl_node hn']
            exact ⟨(Hok.out.node i v l h' hn).1, (Hok.out.node i' v' l' h'' hn').1⟩
          have hsd1 := @sidesF_ok L ns Hok.out p
          have hsd2 := @sidesF_ok L ns Hok.out q
          obtain ⟨lv, hlv⟩ : ∃ lv, lv = min (lvl L ns p) (lvl L ns q) := ⟨_, rfl⟩
          have hlvL : lv < L := by omega
          have hs1 := @sidesF_ok L ns Hok.out p lv hp (by omega) hlvL
          have hs2 := @sidesF_ok L ns Hok.out q lv hq (by omega) hlvL
          have hsc1 := fun W hW => @sides_ct L B g bf bp W ns np M hW p lv hp hlvL
          have hsc2 := fun W hW => @sides_ct L B g bf bp W ns np M hW q lv hq hlvL
          generalize hA : sidesF L ns p lv = sa at *
          generalize hB : sidesF L ns q lv = sb at *
          obtain ⟨al, ah⟩ := sa
          obtain ⟨bl, bh⟩ := sb
          simp only at hs1 hs2 hsc1 hsc2
          obtain ⟨ha1, ha2, ha3, ha4, ha5⟩ := hs1
          obtain ⟨hb1, hb2, hb3, hb4, hb5⟩ := hs2
          have hdlv := Hdpq.out
          rw [← hlv] at hdlv
          generalize lvl L ns p = lp at *
          generalize lvl L ns q = lq at *
          have Hst1 := hide hst1
          have HbW := hide hbW
          have Hc1 := hide hc1
          have Ha5 := hide ha5
          have Hb5 := hide hb5
          have Hsc1 := hide hsc1
          have Hsc2 := hide hsc2
          have Hlv := hide hlv
          clear hst1 hbW hc1 ha5 hb5 hsc1 hsc2 hA hB hsd1 hsd2 hlv Hdpq hlpL hlqL
          rcases (show (lp ≤ lq ∧ lp = lv) ∨ (lq < lp ∧ lq = lv) by have := Hlv.out; omega) with ⟨hle, rfl⟩ | ⟨hle, rfl⟩
          all_goals
            clear Hlv
            refine hlev1.mono ?_
            rintro e w1 ⟨rfl, rfl⟩
            go_wp2_with fail
            refine hlev2.mono ?_
            rintro e w1 ⟨rfl, rfl⟩
            clear hlev1 hlev2
            go_wp2_with fail
            refine (Hsc1.out _ Hst1.out).mono ?_
            rintro e w1 ⟨rfl, hb1⟩
            have hst2 := Hst1.out.keep hb1
            have hbW1 := HbW.out.trans (hb1.mono HbW.out.size)
            have hc1 := Hc1.out.keep hb1
            have Hst2 := hide hst2
            have HbW1 := hide hbW1
            have Hc2 := hide hc1
            clear hst2 hbW1 hc1 hb1 Hst1 HbW Hc1
            go_wp2_with fail
            refine (Hsc2.out _ Hst2.out).mono ?_
            rintro e w2 ⟨rfl, hb2⟩
            have hst3 := Hst2.out.keep hb2
            have hbW2 := HbW1.out.trans (hb2.mono HbW1.out.size)
            have hc2 := Hc2.out.keep hb2
            have hSt : St L B g bf bp w2 ns C := ⟨g1, Hok.out, np, M, g3, hst3, Hpairs.out⟩
            have HSt := hide hSt
            have Hb2 := hide hbW2
            have Hc3 := hide hc2
            clear hst3 hbW2 hc2 hb2 Hst2 HbW1 Hc2 hSt Hsc1 Hsc2
            go_wp2_with fail
            have hpow := Hpow.out
            refine (Hih.out _ _ C al bl HSt.out ha1 hb1 (by omega) (by omega)).mono ?_
            rintro e w3 ⟨ms1, k1, rfl, hst4, hk4, hkl4, hq4⟩
            have hBw := HSt.out.base
            have hne := Hst0.out.ne
            have hbfl := Hst0.out.found.lt
            have hc4 := hk4.blk Hc3.out (HSt.out.free Hc3.out (show w.heap.size ≠ g by omega) (by decide))
            have Hst4 := hide hst4
            have Hkept := hide ((Kept.of_below (B := B) (g := g) (bf := bf) (bp := bp) Hb2.out hw0).trans hk4)
            have Hc4 := hide hc4
            have hl1 : ns.length ≤ (ns ++ ms1).length := by simp
            have hla : lvl L (ns ++ ms1) ah = lvl L ns ah := lvl_add ms1 ha2
            have hlb : lvl L (ns ++ ms1) bh = lvl L ns bh := lvl_add ms1 hb2
            have hd2 : L - min (lvl L (ns ++ ms1) ah) (lvl L (ns ++ ms1) bh) ≤ d := by rw [hla, hlb]; omega
            have hlk1 := lvl_op hst4.ok (k := k1) (op := op) (a := al) (b := bl) (by omega) (by omega) hkl4 (fun s => by rw [hq4, sem_add Hok.out _ ha1, sem_add Hok.out _ hb1])
            rw [lvl_add ms1 ha1, lvl_add ms1 hb1] at hlk1
            have Hq4 := hide hq4
            clear hst4 hk4 hc4 hq4 HSt Hb2 Hc3 hla hlb
            go_wp2_with fail
            refine (Hih.out _ _ _ ah bh Hst4.out (by omega) (by omega) hd2 (by omega)).mono ?_
            rintro e w4 ⟨ms2, k2, rfl, hst5, hk5, hkl5, hq5⟩
            have hc5 := hk5.blk Hc4.out (Hst4.out.free Hc4.out (show w.heap.size ≠ g by omega) (by decide))
            have Hst5 := hide hst5
            have Hkept5 := hide (Hkept.out.trans hk5)
            have Hc5 := hide hc5
            have hok4 := Hst4.out.ok
            have hl2 : (ns ++ ms1).length ≤ (ns ++ ms1 ++ ms2).length := len_more _ _
            have hlk2 := lvl_op hst5.ok (k := k2) (op := op) (a := ah) (b := bh) (by omega) (by omega) hkl5 (fun s => by rw [hq5, sem_add hok4 _ (by omega), sem_add hok4 _ (by omega)])
            rw [lvl_add ms2 (show ah < (ns ++ ms1).length + 2 by omega), lvl_add ms2 (show bh < (ns ++ ms1).length + 2 by omega), lvl_add ms1 ha2, lvl_add ms1 hb2] at hlk2
            rw [← lvl_add (L := L) ms2 hkl4] at hlk1
            have Hq5 := hide hq5
            have Hok4 := hide hok4
            clear hst5 hk5 hc5 hq5 Hkept Hc4 hok4 hd2
            go_wp2_with fail
            refine (Node_st Hst5.out hlvL (by omega) hkl5 (by omega) (by omega) (by omega)).mono ?_
            rintro e w5 ⟨ms3, k, rfl, hst6, hk6, hkl6, hq6, _⟩
            have hc6 := hk6.blk Hc5.out (Hst5.out.free Hc5.out (show w.heap.size ≠ g by omega) (by decide))
            have hl3 : (ns ++ ms1 ++ ms2).length ≤ (ns ++ ms1 ++ ms2 ++ ms3).length := len_more _ _
            -- what the new node means
            have hmean : ∀ s, sem (ns ++ ms1 ++ ms2 ++ ms3) k s = opF op (sem ns p s) (sem ns q s) := by
              intro s
              rw [hq6, Hq5.out, sem_add Hok4.out _ hkl4, Hq4.out, Ha5.out, Hb5.out, opF_ite, sem_add Hok.out _ ha2, sem_add Hok.out _ hb2]
            obtain ⟨r1, r2, np', M', r3, r4, r5⟩ := hst6
            have hbp5 := r4.pairs.lt
            obtain ⟨A, c, hd0, hd1, hd2, hd3, hfz, hown⟩ := r4.cells
            have he0 := hc6.cell 0
            have he1 := hc6.cell 1
            have he2 := hc6.cell 2
            simp at he0 he1 he2
            obtain ⟨kl2, hkl2⟩ := keyT (n := (op, p, q)) ⟨by simp; omega, by simp; omega, by simp; omega⟩
            have hbase := r4.base
            obtain ⟨w6, hrun, hp6, hg6, hs6⟩ := (r4.pairs.of_block (w' := w5.drew) rfl).put encN_inj lawT Try.underlying83 Try.underlying3 (by omega) hkl2 (k : Int) (by omega)
            have hrun' : (Instr.mapUpdate 83 (.map (some bp)) (.agg #[.int .i64 op, .int .i64 p, .int .i64 q]) (.int .i64 (k : Int))).run Try.prog w5.drew = .ok () w6 := hrun
            have hne5 := r4.ne
            have hfin : StP L B g bf bp w ns (C + (2 ^ (d + 1 + 1) - 2)) (fun ns' k => ∀ s, sem ns' k s = opF op (sem ns p s) (sem ns q s)) (.returned (.int .i64 (k : Nat))) w6 := by
              obtain ⟨A', c', hblk', hown'⟩ := r4.blk
              refine ⟨ms1 ++ (ms2 ++ ms3), k, rfl, ?_, (Hkept5.out.trans hk6).trans ((Kept.of_below (Below.refl _ w5).drew r4.lt).trans (Kept.of_grown hg6 hbase.2.2.1 (.inr rfl) r4.lt hne5.2.1)), by simpa [List.append_assoc] using hkl6, by simpa [List.append_assoc] using hmean⟩
              rw [← List.append_assoc, ← List.append_assoc]
              refine ⟨by omega, r2, np' + 1, putM M' (op, p, q) (k : Int), by omega, ⟨r4.low, ⟨r4.few.1, by omega⟩, ⟨A', c', (hblk'.qt (Qt.refl _).drew).grown hg6 (by simpa using hne5.2.1), own_other hown'.drew hg6 (fun r hr e => ?_)⟩, r4.found.of_block (hg6.block bf r4.found.lt (by simpa using hne5.2.2)), hp6, hbase.1, hbase.2.1, hbase.2.2.1, hbase.2.2.2.1, Nat.le_trans hbase.2.2.2.2 hg6.size⟩, r5.put (by omega) (by omega) hkl6 (fun s => ?_)⟩
              · injection e with e
                obtain ⟨_, cs, m, hcc⟩ := own_block hown' hr
                obtain ⟨es, cl, hm⟩ := r4.pairs.isMap
                rw [e, hm] at hcc
                cases hcc
              · rw [hmean, List.append_assoc, List.append_assoc, sem_add Hok.out _ hp, sem_add Hok.out _ hq]
            have Hfin := hide hfin
            clear hfin hp6 hg6 hs6 hrun hown hfz hd0 hd1 hd2 r1 r2 r4 r5 hbase hmean hq6 hk6 Hkept5 Hc5 hc6 hkl2
            go_wp2_with fail
            go_region
            go_wp2
            go_ret
            obtain ⟨ms, k', h1, h2, h3, h4, h5⟩ := Hfin.out
            exact ⟨ms, k', h1, h2, h3, h4, HQ.out _ _ h5⟩
end Go.Proofs.Ytgenpcokpodhkaa
