/- Exists: its closure, and it. Exists. -/
import Derived.Test.YtgenpcokpodhkaaStore9
import Derived.StillTailTactics
namespace Go.Proofs.Ytgenpcokpodhkaa
open Go.RowKit Go.Maps

/-- true for some value of variable lv -/
def existsF (lv : Nat) : Fun → Fun := fun f s => f (setV s lv false) || f (setV s lv true)
theorem existsF_dep (lv : Nat) : Dep (existsF lv) := fun f m h s t hst => by
  have hs : ∀ b v, m ≤ v → setV s lv b v = setV t lv b v := fun b v hv => by
    unfold setV
    split
    · rfl
    · exact hst v hv
  unfold existsF
  rw [h _ _ (hs false), h _ _ (hs true)]
theorem existsF_sides {lv v : Nat} (hv : v ≠ lv) : Sides (existsF lv) v := fun f f0 f1 h _ _ s => by
  unfold existsF
  rw [h, h, setV_other _ _ hv, setV_other _ _ hv]
  split <;> rfl
theorem exists_high {L : Nat} {ns : List BN} (ok : OkD L ns) {k lv : Nat} (hk : k < ns.length + 2) (hl : lv < lvl L ns k) (s : Nat → Bool) : sem ns k s = existsF lv (sem ns k) s := by
  unfold existsF
  rw [sem_set ok hk hl, sem_set ok hk hl, Bool.or_self]

abbrev existsX (g mk lv ck cs ce cw : Nat) : List (TypeId × Nat × List Value) :=
  [(87, ck, [.map (some mk)]), (62, cs, [.pointer (some ⟨g, 0, none⟩)]), (3, ce, [.int .i64 lv]),
   (74, cw, [.func (Fn.func 66) #[] #[.pointer (some ⟨cs, 0, none⟩), .pointer (some ⟨ce, 0, none⟩), .pointer (some ⟨ck, 0, none⟩), .pointer (some ⟨cw, 0, none⟩)]])]

theorem Or_d {L B g bf bp : Nat} {w : World} {ns : List BN} {C a b d : Nat} (h : St L B g bf bp w ns C) (ha : a < ns.length + 2) (hb : b < ns.length + 2) (hd : L - min (lvl L ns a) (lvl L ns b) ≤ d) (hC : C + 2 ^ (d + 1) ≤ 1000000000000) :
    Calls Try.prog 37 #[.pointer (some ⟨g, 0, none⟩), .int .i64 a, .int .i64 b] w (StP L B g bf bp w ns (C + (2 ^ (d + 1) - 2)) fun ns' k => ∀ s, sem ns' k s = (sem ns a s || sem ns b s)) := by
  have hc := both_ct (op := 1) (.inr rfl) d w ns C a b h ha hb hd hC
  have Hc := hide hc
  clear hc
  go_enter Try.func37, Try.ntmps37
  go_wp2_with fail
  refine Hc.out.mono ?_
  rintro e w' ⟨ms, k, rfl, h2, h3, h4, h5⟩
  have H := hide (And.intro h2 (And.intro h3 (And.intro h4 h5)))
  clear h2 h3 h4 h5 h
  go_wp2
  go_ret
  exact ⟨ms, k, rfl, H.out.1, H.out.2.1, H.out.2.2.1, fun s => by rw [H.out.2.2.2 s]; rfl⟩

section
variable {L B g bf bp ck cs ce cw mk lv k : Nat} {w : World} {ns : List BN} {C C' : Nat} {K : Nat → Option Int}
theorem NAt.level (hw : NAt (existsF lv) L B g bf bp mk (existsX g mk lv ck cs ce cw) w ns C K) (hk : k < ns.length + 2) :
    Calls Try.prog 67 #[.pointer (some ⟨g, 0, none⟩), .int .i64 k] w (Same w (.int .i64 (lvl L ns k : Nat))) := by
  obtain ⟨_, ok, np, M, _, hst', _⟩ := hw.st
  exact level_ct hst' hk

set_option maxHeartbeats 1600000 in
set_option maxRecDepth 100000 in
theorem ExistsHigh_ct (hC : C ≤ C') (hk : k < ns.length + 2) (hlt : lv < lvl L ns k) (hw : NAt (existsF lv) L B g bf bp mk (existsX g mk lv ck cs ce cw) w ns C K) :
    Calls Try.prog 66 #[.int .i64 k, .pointer (some ⟨cs, 0, none⟩), .pointer (some ⟨ce, 0, none⟩), .pointer (some ⟨ck, 0, none⟩), .pointer (some ⟨cw, 0, none⟩)] w (NP (existsF lv) L B g bf bp mk (existsX g mk lv ck cs ce cw) w ns K C' k) := by
  have hlev := hw.level hk
  have hcs := (hw.box (62, cs, [.pointer (some ⟨g, 0, none⟩)]) (by simp)).cell 0
  have hce := (hw.box (3, ce, [.int .i64 lv]) (by simp)).cell 0
  simp only [List.getElem?_cons_zero] at hcs hce
  have Hf := hide (NP.stay (φ := existsF lv) hw hC hk (exists_high hw.st.ok hk hlt))
  have Hlev := hide hlev
  have hlL := lvl_le hw.st.ok k
  have hL := hw.st.low
  clear hw hlev
  generalize lvl L ns k = q at *
  go_enter Try.func66, Try.ntmps66
  go_wp2_with fail
  refine Hlev.out.mono ?_
  rintro e w1 ⟨rfl, rfl⟩
  go_wp2
  go_ret
  exact Hf.out

set_option maxHeartbeats 1600000 in
set_option maxRecDepth 100000 in
theorem ExistsAt_ct {d : Nat} (hC : C + 2 ^ (d + 1) ≤ 1000000000000) (hk : k < ns.length + 2) (hd : L - lv ≤ d + 1) (hlvL : lv < L) (hlt : lvl L ns k = lv) (hw : NAt (existsF lv) L B g bf bp mk (existsX g mk lv ck cs ce cw) w ns C K) :
    Calls Try.prog 66 #[.int .i64 k, .pointer (some ⟨cs, 0, none⟩), .pointer (some ⟨ce, 0, none⟩), .pointer (some ⟨ck, 0, none⟩), .pointer (some ⟨cw, 0, none⟩)] w (NP (existsF lv) L B g bf bp mk (existsX g mk lv ck cs ce cw) w ns K (C + (2 ^ (d + 1) - 2)) k) := by
  have hlev := hw.level hk
  rw [hlt] at hlev
  have hcs := (hw.box (62, cs, [.pointer (some ⟨g, 0, none⟩)]) (by simp)).cell 0
  have hce := (hw.box (3, ce, [.int .i64 lv]) (by simp)).cell 0
  have hls := (hw.box (62, cs, [.pointer (some ⟨g, 0, none⟩)]) (by simp)).lt
  simp only [List.getElem?_cons_zero] at hcs hce hls
  have hk2 : ¬ k < 2 := fun h => by rw [lvl_small ns h] at hlt; omega
  obtain ⟨i, v, l, h', rfl, hn⟩ := node_of (ns := ns) (by omega) hk
  rw [lvl_node hn] at hlt
  subst hlt
  obtain ⟨b1, b2, b3, b4, b5, b6⟩ := hw.st.ok.node i v l h' hn
  have hst' := hw.st
  obtain ⟨_, ok, np, M, _, hst', _⟩ := hst'
  obtain ⟨r, c, hb, hn0, hn1, hn2, hi⟩ := hst'.node hn
  have hg1 := hb.cell 1
  simp only [List.getElem?_cons_zero, List.getElem?_cons_succ] at hg1
  have hfew := hw.st.1
  have hor : ∀ w', Below w.heap.size w w' → Calls Try.prog 37 #[.pointer (some ⟨g, 0, none⟩), .int .i64 l, .int .i64 h'] w' (StP L B g bf bp w' ns (C + (2 ^ (d + 1) - 2)) fun ns' k => ∀ s, sem ns' k s = (sem ns l s || sem ns h' s)) :=
    fun w' hb => Or_d (hw.st.keep hb) (by omega) (by omega) (by omega) hC
  have Hw := hide hw
  have Hlev := hide hlev
  have Hor := hide hor
  have Hn := hide hn
  have Hok := hide ok
  clear hw hlev hor hst' hb hn ok
  go_enter Try.func66, Try.ntmps66
  go_wp2_with fail
  refine Hlev.out.mono ?_
  rintro e w1 ⟨rfl, rfl⟩
  go_wp2_with fail
  have hCle : C ≤ 1000000000000 := Nat.le_trans (Nat.le_add_right _ _) hC
  have hwr1 : IntKind.i64.wrap ((i : Int) + 2 - 2) = i := by rw [show (i : Int) + 2 - 2 = i from by omega]; exact IntWalk.i64_in _ (by omega)
  have hwr2 : IntKind.i64.wrap (i : Int) = i := IntWalk.i64_in _ (by omega)
  go_still_tail 19, (by kernel_rfl)
  change wpList _ _ _ _ _ w.drew
  obtain ⟨W, hW⟩ : ∃ W, W = w.drew := ⟨_, rfl⟩
  rw [← hW]
  have hbW : Below w.heap.size w W := by rw [hW]; exact (Below.refl _ _).drew
  have HbW := hide hbW
  clear hW hbW hwr1 hwr2
  go_wp2_with fail
  refine (Hor.out _ HbW.out).mono ?_
  rintro e w1 ⟨ms, k', rfl, hst1, hk1, hl1, hq1⟩
  have hk' := (Kept.of_below (B := B) (g := g) (bf := bf) (bp := bp) HbW.out Hw.out.st.lt).trans hk1
  have hf : NP (existsF v) L B g bf bp mk (existsX g mk v ck cs ce cw) w ns K (C + (2 ^ (d + 1) - 2)) (i + 2) (.returned (.int .i64 (k' : Nat))) w1 :=
    ⟨ms, k', K, rfl, fun _ h => h, Hw.out.store hst1 hk' (by omega), hk'.two mk, hl1, fun s => by
      rw [hq1]
      unfold existsF
      rw [sem_low Hok.out Hn.out, sem_high Hok.out Hn.out]⟩
  have Hf := hide hf
  clear hf hst1 hk' hk1 hl1 hq1
  go_wp2
  go_ret
  exact Hf.out
end

set_option maxHeartbeats 1600000 in
set_option maxRecDepth 100000 in
theorem ExistsKnown_ct {L B g bf bp ck cs ce cw mk lv k : Nat} {w : World} {ns : List BN} {C C' : Nat} {K : Nat → Option Int} (hC : C ≤ C') (hfew : C ≤ 1000000000000) (hk : k < ns.length + 2) (hlt : lvl L ns k < lv) (h0 : (K k).isSome = true) (hw : NAt (existsF lv) L B g bf bp mk (existsX g mk lv ck cs ce cw) w ns C K) :
    Calls Try.prog 66 #[.int .i64 k, .pointer (some ⟨cs, 0, none⟩), .pointer (some ⟨ce, 0, none⟩), .pointer (some ⟨ck, 0, none⟩), .pointer (some ⟨cw, 0, none⟩)] w (NP (existsF lv) L B g bf bp mk (existsX g mk lv ck cs ce cw) w ns K C' k) := by
  obtain ⟨fc, hlook, hfc, hfM⟩ := hw.looks (k := k) (by have := hw.st.1; have := hfew; omega)
  obtain ⟨c, hc⟩ := Option.isSome_iff_exists.1 h0
  obtain ⟨m, rfl, _, hm, hq⟩ := hw.known k c hc
  obtain rfl := hfM _ hc
  rw [hc] at hlook
  have hlook' : (Instr.lookup 87 (.map (some mk)) (.int .i64 (k : Int)) true).run Try.prog w = .ok (.tuple #[.int .i64 (m : Int), .bool true]) w := hlook
  have hck := (hw.box (87, ck, [.map (some mk)]) (by simp)).cell 0
  simp at hck
  have hcs := (hw.box (62, cs, [.pointer (some ⟨g, 0, none⟩)]) (by simp)).cell 0
  have hce := (hw.box (3, ce, [.int .i64 lv]) (by simp)).cell 0
  simp only [List.getElem?_cons_zero] at hcs hce
  have Hlev := hide (hw.level hk)
  have hL := hw.st.low
  have Hf := hide (NP.stay (φ := (existsF lv)) hw hC hm hq)
  clear hw hfM hlook hc h0 hq
  generalize lvl L ns k = q at *
  go_enter Try.func66, Try.ntmps66
  go_wp2_with fail
  refine Hlev.out.mono ?_
  rintro e w1 ⟨rfl, rfl⟩
  go_wp2
  go_ret
  exact Hf.out

set_option maxHeartbeats 3200000 in
set_option maxRecDepth 100000 in
theorem ExistsWalk_ct {L B g bf bp ck cs ce cw mk lv : Nat} (hlvL : lv < L) : ∀ (d : Nat) (k : Nat) (w : World) (ns : List BN) (C : Nat) (K : Nat → Option Int), L - lvl L ns k ≤ d → k < ns.length + 2 → C + 2 ^ (d + 1) ≤ 1000000000000 → NAt (existsF lv) L B g bf bp mk (existsX g mk lv ck cs ce cw) w ns C K →
    Calls Try.prog 66 #[.int .i64 k, .pointer (some ⟨cs, 0, none⟩), .pointer (some ⟨ce, 0, none⟩), .pointer (some ⟨ck, 0, none⟩), .pointer (some ⟨cw, 0, none⟩)] w (NP (existsF lv) L B g bf bp mk (existsX g mk lv ck cs ce cw) w ns K (C + (2 ^ (d + 1) - 2)) k) := by
  intro d
  induction d with
  | zero =>
    intro k w ns C K hd hk hC hw
    have hlt : lv < lvl L ns k := by omega
    exact ExistsHigh_ct (by omega) hk hlt hw
  | succ d ih =>
    intro k w ns C K hd hk hC hw
    have hpow : 2 ^ (d + 1 + 1) = 2 ^ (d + 1) + 2 ^ (d + 1) := by rw [Nat.pow_succ]; omega
    have hpos : 2 ≤ 2 ^ (d + 1) := by rw [Nat.pow_succ]; have := Nat.two_pow_pos d; omega
    have hfew := hw.st.1
    rcases Nat.lt_trichotomy (lvl L ns k) lv with hlt | hlt | hlt
    case inr.inr => exact ExistsHigh_ct (by omega) hk hlt hw
    case inr.inl =>
      rw [hlt] at hd
      refine (ExistsAt_ct (d := d) (by omega) hk hd hlvL hlt hw).mono fun e w' hp => ?_
      obtain ⟨ms, k', K', p1, p2, p3, p4⟩ := hp
      exact ⟨ms, k', K', p1, p2, p3.mono (by omega), p4⟩
    cases hl : K k with
    | some c => exact ExistsKnown_ct (by omega) (by omega) hk hlt (by rw [hl]; rfl) hw
    | none =>
      have hk2 : ¬ k < 2 := fun h => by rw [lvl_small ns h] at hlt; omega
      have hlev := hw.level hk
      obtain ⟨i, v, l, h', rfl, hn⟩ := node_of (ns := ns) (by omega) hk
      obtain ⟨b1, b2, b3, b4, b5, b6⟩ := hw.st.ok.node i v l h' hn
      rw [lvl_node hn] at hd hlt hlev
      have hvl : v ≠ lv := by omega
      have hce := (hw.box (3, ce, [.int .i64 lv]) (by simp)).cell 0
      simp only [List.getElem?_cons_zero] at hce
      have hLlow := hw.st.low
      have Hlev := hide hlev
      obtain ⟨fc, hlook, hfc, _⟩ := hw.looks (k := i + 2) (by omega)
      rw [hl] at hlook
      have hlook' : (Instr.lookup 87 (.map (some mk)) (.int .i64 ((i : Int) + 2)) true).run Try.prog w = .ok (.tuple #[.int .i64 fc, .bool false]) w := hlook
      have hst' := hw.st
      obtain ⟨_, ok, np, M, _, hst', _⟩ := hst'
      obtain ⟨r, c, hb, hn0, hn1, hn2, hi⟩ := hst'.node hn
      have hg1 := hb.cell 1
      have hbk := hw.box _ (List.mem_cons_self ..)
      have hbs := hw.box (62, cs, [.pointer (some ⟨g, 0, none⟩)]) (by simp)
      have hbw := hw.box (74, cw, [.func (Fn.func 66) #[] #[.pointer (some ⟨cs, 0, none⟩), .pointer (some ⟨ce, 0, none⟩), .pointer (some ⟨ck, 0, none⟩), .pointer (some ⟨cw, 0, none⟩)]]) (by simp)
      have hck := hbk.cell 0
      have hcs := hbs.cell 0
      have hcw := hbw.cell 0
      simp at hck hcs hcw hg1
      have hlk := hbk.lt
      have hls := hbs.lt
      have hlw := hbw.lt
      simp only at hlk hls hlw
      have Hw := hide hw
      have Hih := hide ih
      have Hpow := hide hpow
      have Hn := hide hn
      have Hok := hide ok
      clear hlev hw hst' ih hlook hl hb hn hpow ok hbk hbs hbw
      go_enter Try.func66, Try.ntmps66
      go_wp2_with fail
      refine Hlev.out.mono ?_
      rintro e wl ⟨rfl, rfl⟩
      go_wp2_with fail
      obtain ⟨V, hV⟩ : ∃ V, V = w.alloc (.cells #[.int .i64 v, .int .i64 l, .int .i64 h'] 69) := ⟨_, rfl⟩
      rw [← hV]
      have hbV : Below w.heap.size w V := by rw [hV]; exact (Below.refl _ _).alloc (Nat.le_refl _) _
      have hwV := Hw.out.keep hbV
      have hfr : Free V g bf bp w.heap.size ∧ w.heap.size ≠ mk := by rw [hV]; exact Hw.out.free_new _
      have hbox : Blk 69 V w.heap.size [.int .i64 v, .int .i64 l, .int .i64 h'] := by rw [hV]; exact Blk.new _ _ _
      have hkV : Kept2 B g bf bp mk w V := (Kept.of_below hbV Hw.out.st.lt).two mk
      have hd1 := hbox.cell 0
      have hd2 := hbox.cell 1
      have hd3 := hbox.cell 2
      have hcs := (hwV.box (62, cs, [.pointer (some ⟨g, 0, none⟩)]) (by simp)).cell 0
      have hcw := (hwV.box (74, cw, [.func (Fn.func 66) #[] #[.pointer (some ⟨cs, 0, none⟩), .pointer (some ⟨ce, 0, none⟩), .pointer (some ⟨ck, 0, none⟩), .pointer (some ⟨cw, 0, none⟩)]]) (by simp)).cell 0
      have hszV : w.heap.size < V.heap.size := hfr.1.1
      simp at hd1 hd2 hd3 hcs hcw
      have HwV := hide hwV
      have Hfr := hide hfr
      have Hbox := hide hbox
      have HkV := hide hkV
      have hdec1 : decide (lv < v) = false := by simp; omega
      have hdec2 : ((v : Int) == (lv : Int)) = false := by simp; omega
      simp only [hdec1, hdec2]
      clear hdec1 hdec2 hV hbV hwV hfr hbox hkV hce hck hlook' hn0 hn1 hn2 hg1
      have hlV : cs < V.heap.size ∧ cw < V.heap.size ∧ ck < V.heap.size := by omega
      obtain ⟨hls, hlw, hlk⟩ := hlV
      go_cut [8] (fun s8 wc => ∃ ms k' K', s8 = .int .i64 (k' : Nat) ∧ (∀ j, (K j).isSome = true → (K' j).isSome = true) ∧ NAt (existsF lv) L B g bf bp mk (existsX g mk lv ck cs ce cw) wc (ns ++ ms) (C + (2 ^ (d + 1 + 1) - 2) - 1) K' ∧ Kept2 B g bf bp mk V wc ∧ k' < (ns ++ ms).length + 2 ∧ ∀ s, sem (ns ++ ms) k' s = (existsF lv) (sem ns (i + 2)) s)
      case first =>
        go_region_held3 (fun w' => w'.cell? ⟨cs, 0, none⟩ = some (.pointer (some ⟨g, 0, none⟩)) ∧ w'.cell? ⟨cw, 0, none⟩ = some (.func (Fn.func 66) #[] #[.pointer (some ⟨cs, 0, none⟩), .pointer (some ⟨ce, 0, none⟩), .pointer (some ⟨ck, 0, none⟩), .pointer (some ⟨cw, 0, none⟩)]) ∧ w'.cell? ⟨w.heap.size, 0, none⟩ = some (.int .i64 v) ∧ w'.cell? ⟨w.heap.size, 1, none⟩ = some (.int .i64 l) ∧ w'.cell? ⟨w.heap.size, 2, none⟩ = some (.int .i64 h')) (first | go_keep) (first
          | (go_at_call 66
             fail_if_success (have hno := Hw1)
             refine (Hih.out l _ ns C K (by omega) (by omega) (by have := Hpow.out; omega) (HwV.out.keep (Below.refl V.heap.size V).drew)).mono ?_
             rintro e w1 ⟨ms1, k1, K1, rfl, hK1, hw1, hk1, hl1, hq1⟩
             have hkV1 := ((Kept.of_below (B := B) (g := g) (bf := bf) (bp := bp) (Below.refl V.heap.size V).drew HwV.out.st.lt).two mk).trans hk1
             have hbox1 := hkV1.blk Hbox.out Hfr.out.1 Hfr.out.2
             have he1 := hbox1.cell 0
             have he2 := hbox1.cell 1
             have he3 := hbox1.cell 2
             have he4 := (hw1.box (62, cs, [.pointer (some ⟨g, 0, none⟩)]) (by simp)).cell 0
             have he5 := (hw1.box (74, cw, [.func (Fn.func 66) #[] #[.pointer (some ⟨cs, 0, none⟩), .pointer (some ⟨ce, 0, none⟩), .pointer (some ⟨ck, 0, none⟩), .pointer (some ⟨cw, 0, none⟩)]]) (by simp)).cell 0
             simp only [List.getElem?_cons_zero, List.getElem?_cons_succ] at he1 he2 he3 he4 he5
             have Hw1 := hide hw1
             have HkV1 := hide hkV1
             have Hq1 := hide hq1
             have HK1 := hide hK1
             clear hw1 hkV1 hk1 hq1 hbox1 hK1)
          | (go_at_call 66
             have hyes := Hw1
             clear hyes
             refine (Hih.out h' _ (ns ++ ms1) _ K1 (by rw [lvl_add _ (by omega)]; omega) (by have := len_more ns ms1; omega) (by have := Hpow.out; omega) Hw1.out).mono ?_
             rintro e w2 ⟨ms2, k2, K2, rfl, hK2, hw2, hk2, hl2, hq2⟩
             have hkV2 := HkV1.out.trans hk2
             have hbox2 := hkV2.blk Hbox.out Hfr.out.1 Hfr.out.2
             have he1 := hbox2.cell 0
             have he2 := hbox2.cell 1
             have he3 := hbox2.cell 2
             have he4 := (hw2.box (62, cs, [.pointer (some ⟨g, 0, none⟩)]) (by simp)).cell 0
             have he5 := (hw2.box (74, cw, [.func (Fn.func 66) #[] #[.pointer (some ⟨cs, 0, none⟩), .pointer (some ⟨ce, 0, none⟩), .pointer (some ⟨ck, 0, none⟩), .pointer (some ⟨cw, 0, none⟩)]]) (by simp)).cell 0
             simp only [List.getElem?_cons_zero, List.getElem?_cons_succ] at he1 he2 he3 he4 he5
             have hok1 := Hw1.out.st.ok
             have hll1 := (existsF_dep lv).lvl Hok.out hok1 (show l < ns.length + 2 by omega) hl1 Hq1.out
             have hll2 := (existsF_dep lv).lvl hok1 hw2.st.ok (show h' < (ns ++ ms1).length + 2 by have := len_more ns ms1; omega) hl2 hq2
             rw [← lvl_add (L := L) ms2 hl1] at hll1
             rw [lvl_add ms1 (show h' < ns.length + 2 by omega)] at hll2
             have hl12 : k1 < (ns ++ ms1 ++ ms2).length + 2 := by have := len_more (ns ++ ms1) ms2; omega
             have Hok1 := hide hok1
             have Hw2 := hide hw2
             have HkV2 := hide hkV2
             have Hq2 := hide hq2
             have HK2 := hide hK2
             clear hw2 hkV2 hk2 hq2 hbox2 hK2 hok1)
          | (go_at_call 60
             refine (Node_st Hw2.out.st b1 hl12 hl2 (by omega) (by omega) (by have := Hpow.out; omega)).mono ?_
             rintro e w3 ⟨ms3, k3, rfl, hst3, hk3, hl3, hq3, _⟩
             have hkV3 := HkV2.out.trans (hk3.two mk)
             have hbox3 := hkV3.blk Hbox.out Hfr.out.1 Hfr.out.2
             have hw3 := Hw2.out.store hst3 hk3 (by omega)
             have he1 := hbox3.cell 0
             have he2 := hbox3.cell 1
             have he3 := hbox3.cell 2
             have he4 := (hw3.box (62, cs, [.pointer (some ⟨g, 0, none⟩)]) (by simp)).cell 0
             have he5 := (hw3.box (74, cw, [.func (Fn.func 66) #[] #[.pointer (some ⟨cs, 0, none⟩), .pointer (some ⟨ce, 0, none⟩), .pointer (some ⟨ck, 0, none⟩), .pointer (some ⟨cw, 0, none⟩)]]) (by simp)).cell 0
             simp only [List.getElem?_cons_zero, List.getElem?_cons_succ] at he1 he2 he3 he4 he5
             have hmean := join_mean (existsF_sides hvl) Hok.out Hok1.out Hn.out hl1 Hq1.out Hq2.out hq3
             have Hw3 := hide hw3
             have HkV3 := hide hkV3
             have Hmean := hide hmean
             have Hl3 := hide hl3
             clear hw3 hkV3 hk3 hq3 hbox3 hst3 hmean hl3))
        go_wp2_with fail
        go_meet
        refine ⟨ms1 ++ (ms2 ++ ms3), k3, K2, rfl, fun j hj => HK2.out j (HK1.out j hj), ?_, HkV3.out, ?_, fun s => ?_⟩
        · rw [← List.append_assoc, ← List.append_assoc]
          exact Hw3.out.mono (by have := Hpow.out; omega)
        · rw [← List.append_assoc, ← List.append_assoc]
          exact Hl3.out
        · rw [← List.append_assoc, ← List.append_assoc]
          exact Hmean.out s
      case rest =>
        obtain ⟨ms, k', K', rfl, hK', hw', hk', hl', hq'⟩ := hcut
        have hck := (hw'.box (87, ck, [.map (some mk)]) (by simp)).cell 0
        simp only [List.getElem?_cons_zero] at hck
        obtain ⟨w5, hrun, hw5, hk5⟩ := hw'.put (k := i + 2) (m := k') (by have := len_more ns ms; omega) hl' (fun s => by rw [hq', sem_add' Hok.out _ hk]) (by omega)
        have hrun' : (Instr.mapUpdate 87 (.map (some mk)) (.int .i64 ((i : Int) + 2)) (.int .i64 (k' : Int))).run Try.prog wc = .ok () w5 := hrun
        have hf : NP (existsF lv) L B g bf bp mk (existsX g mk lv ck cs ce cw) w ns K (C + (2 ^ (d + 1 + 1) - 2)) (i + 2) (.returned (.int .i64 (k' : Nat))) w5 :=
          ⟨ms, k', _, rfl, fun j hj => putM_some _ (hK' j hj), hw5.mono (by omega), (HkV.out.trans hk').trans hk5, hl', hq'⟩
        have Hf := hide hf
        clear hf hw5 hk5 hrun hw' hk' hq' hK' hd1 hd2 hd3 hcs hcw
        go_wp2
        go_ret
        exact Hf.out

end Go.Proofs.Ytgenpcokpodhkaa
namespace Go.Proofs.Ytgenpcokpodhkaa
open Go.RowKit Go.Maps

theorem ExistsStart {w : World} {L B g bf bp C lv : Nat} {ns : List BN} (h : St L B g bf bp w ns C) :
    ∀ V, V = ((((w.alloc (.cells #[.pointer (some ⟨g, 0, none⟩)] 62)).alloc (.cells #[.int .i64 lv] 3)).alloc (.map #[] 0)).alloc (.cells #[.map (some (w.heap.size + 1 + 1))] 87)).alloc (.cells #[.func (Fn.func 66) #[] #[.pointer (some ⟨w.heap.size, 0, none⟩), .pointer (some ⟨w.heap.size + 1, 0, none⟩), .pointer (some ⟨w.heap.size + 1 + 1 + 1, 0, none⟩), .pointer (some ⟨w.heap.size + 1 + 1 + 1 + 1, 0, none⟩)]] 74) →
      NAt (existsF lv) L B g bf bp (w.heap.size + 1 + 1) (existsX g (w.heap.size + 1 + 1) lv (w.heap.size + 1 + 1 + 1) w.heap.size (w.heap.size + 1) (w.heap.size + 1 + 1 + 1 + 1)) V ns C (fun _ => none) ∧ Below w.heap.size w V := by
  intro V hV
  have h4 : Below w.heap.size w V := by
    rw [hV]
    exact (((below_three w _ _ _).alloc (by simp only [World.size_alloc]; omega) _).alloc (by simp only [World.size_alloc]; omega) _)
  have b0 : Blk 62 V w.heap.size [.pointer (some ⟨g, 0, none⟩)] := by
    rw [hV]
    exact ((((Blk.new w _ [.pointer (some ⟨g, 0, none⟩)]).alloc _).alloc _).alloc _).alloc _
  have b1 : Blk 3 V (w.heap.size + 1) [.int .i64 lv] := by
    have := Blk.new (w.alloc (.cells #[.pointer (some ⟨g, 0, none⟩)] 62)) 3 [.int .i64 lv]
    simp only [World.size_alloc] at this
    rw [hV]
    exact ((this.alloc _).alloc _).alloc _
  have hmap : Known V (w.heap.size + 1 + 1) 0 (fun _ => none) := by
    have := MapAt.made ((w.alloc (.cells #[.pointer (some ⟨g, 0, none⟩)] 62)).alloc (.cells #[.int .i64 lv] 3)) Try.prog 3 3 encI
    simp only [World.size_alloc] at this
    rw [hV]
    exact (this.alloc _).alloc _
  have bk : Blk 87 V (w.heap.size + 1 + 1 + 1) [.map (some (w.heap.size + 1 + 1))] := by
    have := Blk.new (((w.alloc (.cells #[.pointer (some ⟨g, 0, none⟩)] 62)).alloc (.cells #[.int .i64 lv] 3)).alloc (.map #[] 0)) 87 [.map (some (w.heap.size + 1 + 1))]
    simp only [World.size_alloc] at this
    rw [hV]
    exact this.alloc _
  have bw : Blk 74 V (w.heap.size + 1 + 1 + 1 + 1) [.func (Fn.func 66) #[] #[.pointer (some ⟨w.heap.size, 0, none⟩), .pointer (some ⟨w.heap.size + 1, 0, none⟩), .pointer (some ⟨w.heap.size + 1 + 1 + 1, 0, none⟩), .pointer (some ⟨w.heap.size + 1 + 1 + 1 + 1, 0, none⟩)]] := by
    have := Blk.new ((((w.alloc (.cells #[.pointer (some ⟨g, 0, none⟩)] 62)).alloc (.cells #[.int .i64 lv] 3)).alloc (.map #[] 0)).alloc (.cells #[.map (some (w.heap.size + 1 + 1))] 87)) 74 [.func (Fn.func 66) #[] #[.pointer (some ⟨w.heap.size, 0, none⟩), .pointer (some ⟨w.heap.size + 1, 0, none⟩), .pointer (some ⟨w.heap.size + 1 + 1 + 1, 0, none⟩), .pointer (some ⟨w.heap.size + 1 + 1 + 1 + 1, 0, none⟩)]]
    simp only [World.size_alloc] at this
    rw [hV]
    exact this
  have hst := h.keep h4
  refine ⟨⟨hst, fun x hx => ?_, fun x hx => ?_, ⟨0, by omega, hmap⟩, ⟨?_, by have := h.base; omega⟩, fun k c hc => by cases hc⟩, h4⟩
  · simp only [List.mem_cons, List.not_mem_nil, or_false] at hx
    rcases hx with rfl | rfl | rfl | rfl
    · exact bk
    · exact b0
    · exact b1
    · exact bw
  · simp only [List.mem_cons, List.not_mem_nil, or_false] at hx
    rcases hx with rfl | rfl | rfl | rfl <;> exact ⟨(by dsimp only; decide), (by dsimp only; decide)⟩
  · obtain ⟨_, _, np, M, _, c4, _⟩ := h
    obtain ⟨es, cl, hm⟩ := hmap.isMap
    obtain ⟨_, _, np', M', _, c5, _⟩ := hst
    exact c5.free_map hm (by have := c4.found.lt; omega) (by have := c4.pairs.lt; omega)

set_option maxHeartbeats 1600000 in
theorem Exists_ct {L B g bf bp : Nat} {w : World} {ns : List BN} {C a lv : Nat} (h : St L B g bf bp w ns C) (ha : a < ns.length + 2) (hlv : lv < L) (hC : C + 33554434 ≤ 1000000000000) :
    Calls Try.prog 55 #[.pointer (some ⟨g, 0, none⟩), .int .i64 a, .int .i64 lv] w (StP L B g bf bp w ns (C + 33554434) fun ns' k => ∀ s, sem ns' k s = existsF lv (sem ns a) s) := by
  have hm1 := fun w => run_makeMap (P := Try.prog) 87 w
  have hlow := h.low
  have hz3 := ExistsStart (lv := lv) h
  have Hz := hide hz3
  have Hst := hide h
  clear hz3 h
  go_enter Try.func55, Try.ntmps55
  go_wp2_with fail
  obtain ⟨V, hV⟩ : ∃ V, V = ((((w.alloc (.cells #[.pointer (some ⟨g, 0, none⟩)] 62)).alloc (.cells #[.int .i64 lv] 3)).alloc (.map #[] 0)).alloc (.cells #[.map (some (w.heap.size + 1 + 1))] 87)).alloc (.cells #[.func (Fn.func 66) #[] #[.pointer (some ⟨w.heap.size, 0, none⟩), .pointer (some ⟨w.heap.size + 1, 0, none⟩), .pointer (some ⟨w.heap.size + 1 + 1 + 1, 0, none⟩), .pointer (some ⟨w.heap.size + 1 + 1 + 1 + 1, 0, none⟩)]] 74) := ⟨_, rfl⟩
  rw [← hV]
  obtain ⟨hw, hbV⟩ := Hz.out V hV
  clear hV Hz
  have hp := pow_le hlow
  refine (ExistsWalk_ct hlv L a V ns _ _ (Nat.sub_le _ _) ha (by omega) hw).mono ?_
  rintro e w3 ⟨ms, k, K', rfl, _, hw3, hk3, hl3, hq3⟩
  have hf : StP L B g bf bp w ns (C + 33554434) (fun ns' k => ∀ s, sem ns' k s = existsF lv (sem ns a) s) (.returned (.int .i64 (k : Nat))) w3 :=
    ⟨ms, k, rfl, hw3.st.mono (by omega), (Kept.of_below hbV Hst.out.lt).trans2 hk3 (by omega), hl3, hq3⟩
  have Hf := hide hf
  clear hf hw3 hk3 hq3 hw hbV
  go_wp2
  go_ret
  exact Hf.out
end Go.Proofs.Ytgenpcokpodhkaa
