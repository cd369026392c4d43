/- What the law of made tables' costs asks for, part 26: Lo3. -/
import Derived.Test.YtliggcmohcdchaaV1
import Derived.Test.YtliggcmohcdchaaV2
import Derived.Test.YtliggcmohcdchaaV3
import Derived.Test.YtliggcmohcdchaaV4
import Derived.Test.YtliggcmohcdchaaV5
import Derived.Test.YtliggcmohcdchaaV6
import Derived.Test.YtliggcmohcdchaaV7
import Derived.Test.YtliggcmohcdchaaV8
import Derived.Test.YtliggcmohcdchaaV16
import Derived.Test.YtliggcmohcdchaaV17
import Derived.Test.YtliggcmohcdchaaV18
import Derived.Test.YtliggcmohcdchaaV19
import Derived.Test.YtliggcmohcdchaaV20
import Derived.BigQuiet
import Derived.Deep.AppendLies
import Derived.Deep.DeepCutAuto
import Derived.Deep.Draws
import Derived.Deep.Fields
import Derived.Deep.LoopGhost
import Derived.Deep.QuietTactic
import Derived.Deep.RegionHeld3
import Derived.Deep.Slices
import Derived.DeepKeys4
import Derived.Ground.Names2Prog
import Derived.Ground.SlgnProg
import Derived.Ground.SlsfProg
import Derived.IntWalk
import Derived.Laws.AppendOwnNone
import Derived.Laws.BitsAllLaws
import Derived.Laws.OwnMore
import Derived.Lib.Hide
import Derived.Lib.SlicesCompact
import Derived.LoopIn
import Derived.LoopNIn
import Derived.Maps.AppendAt
import Derived.Maps.OwnIn
import Derived.Maps.OwnOps
import Derived.Maps.OwnSet
import Derived.OwnWalkIn
import Derived.RangeFuncBound
import Derived.RangeFuncCalls
import Derived.RangeFuncLeaves
import Derived.RangeFuncNested
import Derived.Shelf.Abstract
import Derived.Shelf.RegionOpen
import Derived.Shelf.Slices.Cells
import Derived.Shelf.Slices.Clone
import Derived.Shelf.Slices.CompactI
import Derived.Shelf.Slices.Empties
import Derived.Shelf.Slices.In.SortNone
import Derived.Shelf.Slices.SearchI
import Derived.Shelf.Sort.Plain
import Derived.Sort.OwnSortedInts
import Derived.TacticsInMore
import Derived.Test.YtliggcmohcdchaaProg
import Derived.WalkKit
namespace Go.Proofs.Ytliggcmohcdchaa
set_option linter.unusedVariables false
set_option linter.unusedSimpArgs false
open Go.RowKit Go.Maps
/-- what a table says, as the elements of a map -/
def tabV (l : List Ent) (w : Nat) : Option Value := (tabM l w).map (.int .i64)
/-- block gv is the values of a table: the space and the map -/
structure ValsR (w : World) (gv s0 gl : Nat) (ms : List Mk) (l : List Ent) : Prop where
  at_ : ∃ gW mb cnt, Blk 74 w gv [.pointer (some ⟨gW, 0, none⟩), .map (some mb)] ∧ WordsR w gW s0 gl ms ∧ MapV Try.prog 75 encW w mb cnt (tabV l)
theorem ValsR.keep {w w' : World} {gv s0 gl : Nat} {ms : List Mk} {l : List Ent} (h : ValsR w gv s0 gl ms l) (hb : Below w.heap.size w w') : ValsR w' gv s0 gl ms l := by
  obtain ⟨gW, mb, cnt, h1, h2, h3⟩ := h.at_
  exact ⟨gW, mb, cnt, h1.keep hb, h2.keep hb, h3.keep hb⟩
def NewP (w : World) (s0 gl : Nat) (ms : List Mk) (l : List Ent) (e : Ending) (w' : World) : Prop :=
  Below w.heap.size w w' ∧ ∃ gv, e = .returned (.pointer (some ⟨gv, 0, none⟩)) ∧ w.heap.size ≤ gv ∧ ValsR w' gv s0 gl ms l
theorem tab_step {N : Nat} (hN : N ≤ 24) {l : List Ent} (h : TabOk N l) {k : Nat} {e : Ent} (he : l[k]? = some e) : tabV (l.take (k + 1)) = putV (tabV (l.take k)) (wordF e.st) (.int .i64 e.val) := by
  funext w
  unfold tabV putV
  rw [List.take_add_one, he]
  show (tabM (l.take k ++ [e]) w).map _ = _
  rw [tabM_snoc]
  · split
    · rfl
    · rfl
  · intro x hx hw
    obtain ⟨hlt, rfl⟩ := List.getElem?_eq_some_iff.1 he
    have hxl := List.mem_of_mem_take hx
    have hst := word_inj (by omega) (h.set x hxl) (h.set _ (List.getElem_mem hlt)) hw
    have h1 : l = l.take k ++ l[k] :: l.drop (k + 1) := by rw [← List.drop_eq_getElem_cons hlt, List.take_append_drop]
    have hp := h.up
    rw [h1] at hp
    have h2 := (List.pairwise_append.1 hp).2.2 x hx l[k] List.mem_cons_self
    rw [hst, lessL_irrefl] at h2
    cases h2
theorem takeL {P : Program} {md : Region.Mode} {ops : Array Oper} {Q : Exit → Act → World → Prop} {S : World → Prop} {i : Nat} {oi : Oper} {v : Value} {fuel : Nat} {listed : Array Bool} {a : Act} {w : World} (d : Option Tmp) (hi : ops[i]? = some oi) (hd : oi.dst = d)
    (hs : Region.noSelect ops = true) (hf : Region.free md ops listed i = true) (hr : (Region.ready md ops listed).contains i = true)
    (hQ : ∀ c a w, Q (.panic c) (a.put d v) w → Q (.panic c) a w) (hy : YieldsIf P ops S oi v a) (hS : S w)
    (h : wpAnyH P md ops Q S fuel (listed.setIfInBounds i true) (a.put d v) w) : wpAnyH P md ops Q S (fuel + 1) listed a w := by
  subst hd
  exact wpAnyH_take hi hs hf hr hQ hy hS h
set_option maxRecDepth 100000 in
set_option maxHeartbeats 6400000 in
theorem newValues_ct (a : TA) (T : Tsk) (N : Nat) (A : Option Addr) (n c : Nat) (l : List Ent) (w : World) (h : TkR w a T) (hok : OkT T N) (hl : Rd Enc.ent w A n c l) (htab : TabOk N l) :
    Calls Try.prog 36 #[.agg #[.int .i64 T.facts, .slice a.I a.nI a.cI, .slice a.G a.nG a.cG, .slice a.O a.nO a.cO], .slice A n c] w (NewP w (wordF T.init) (wordF T.goal) (T.ops.map mkOp) l) := by
  have hof := fun W hW => Of_ct a T N W hW hok
  obtain ⟨I, nI, cI, G, nG, cG, O, nO, cO⟩ := a
  simp only at hof ⊢
  have hN := hok.low
  have hlow := hl.low
  have Hlen := hide hl.len
  have h2k := htab.few
  rw [hl.len] at h2k
  obtain ⟨s0, hs0⟩ : ∃ x, x = wordF T.init := ⟨_, rfl⟩
  obtain ⟨gl, hgl⟩ : ∃ x, x = wordF T.goal := ⟨_, rfl⟩
  obtain ⟨ms, hms⟩ : ∃ x, x = T.ops.map mkOp := ⟨_, rfl⟩
  unfold OfP at hof
  rw [← hs0, ← hgl, ← hms] at hof ⊢
  have H := hide h
  have Hl := hide hl
  have Htab := hide htab
  have Hof := hide hof
  clear h hl hok htab hof hs0 hgl hms
  have Hbl := hide (Below.refl w.heap.size w)
  go_enter Try.func36, Try.ntmps36
  go_upto_region 1 with (fail)
  obtain ⟨B0, hB0⟩ : ∃ B0, B0 = w.heap.size := ⟨_, rfl⟩
  have HB0 := hide hB0
  clear hB0
  have s_0 : B0 ≤ w.heap.size := Nat.le_trans (Nat.le_of_eq HB0.out) Hbl.out.size
  have hyt := Blk.new (w) 25 [.int .i64 T.facts, .slice I nI cI, .slice G nG cG, .slice O nO cO]
  have hbW : Below (w).heap.size (w) ((w).alloc (.cells #[.int .i64 T.facts, .slice I nI cI, .slice G nG cG, .slice O nO cO] 25)) := (Below.refl _ _).alloc (Nat.le_refl _) _
  obtain ⟨w0, hW⟩ : ∃ W, W = (w).alloc (.cells #[.int .i64 T.facts, .slice I nI cI, .slice G nG cG, .slice O nO cO] 25) := ⟨_, rfl⟩
  rw [← hW] at hyt hbW ⊢
  replace Hbl := hide (Hbl.out.trans (hbW.mono Hbl.out.size))
  have Ht := hide hyt
  clear hW hbW hyt
  generalize w.heap.size = gT at Ht s_0 ⊢
  have t0 := Ht.out.cell 0
  have t1 := Ht.out.cell 1
  have t2 := Ht.out.cell 2
  have t3 := Ht.out.cell 3
  have tl := Ht.out.lt
  simp only [List.getElem?_cons_zero, List.getElem?_cons_succ] at t0 t1 t2 t3
  have a_t : B0 ≤ gT := by omega
  clear s_0
  go_wp2_with fail
  with_reducible refine (Hof.out w0 (H.out.keep Hbl.out)).mono ?_
  rintro e w1 ⟨hb, gW, rfl, hgW, hgl, hWf⟩
  have HW := hide (hWf w1 (Chg.refl _ _))
  have HgW := hide hgW
  clear hWf hgl hgW
  clear t0 t1 t2 t3 tl
  replace Ht := hide (Ht.out.keep hb)
  replace Hbl := hide (Hbl.out.trans (hb.mono Hbl.out.size))
  clear hb
  have t0 := Ht.out.cell 0
  have t1 := Ht.out.cell 1
  have t2 := Ht.out.cell 2
  have t3 := Ht.out.cell 3
  have tl := Ht.out.lt
  simp only [List.getElem?_cons_zero, List.getElem?_cons_succ] at t0 t1 t2 t3
  have hmm := @run_makeMap Try.prog
  go_upto_region 2 with (fail)
  clear hmm
  have hb0 : B0 ≤ w1.heap.size := Nat.le_trans (Nat.le_of_eq HB0.out) Hbl.out.size
  have hm0 := (MapV.made w1 Try.prog 75 encW).alloc (.cells #[.pointer (some ⟨gW, 0, none⟩), .map (some w1.heap.size)] 74)
  have hv0 := Blk.new (w1.alloc (.map #[] 0)) 74 [.pointer (some ⟨gW, 0, none⟩), .map (some w1.heap.size)]
  have hbW := below_two w1 (.map #[] 0) (.cells #[.pointer (some ⟨gW, 0, none⟩), .map (some w1.heap.size)] 74)
  simp only [World.size_alloc] at hv0
  obtain ⟨w2, hW⟩ : ∃ W, W = (w1.alloc (.map #[] 0)).alloc (.cells #[.pointer (some ⟨gW, 0, none⟩), .map (some w1.heap.size)] 74) := ⟨_, rfl⟩
  rw [← hW] at hm0 hv0 hbW ⊢
  have HW1 := hide HW.out
  have Hbl1 := hide Hbl.out
  have Hlo1 := hide (show w1.heap.size ≤ w1.heap.size from Nat.le_refl _)
  have Hb1 := hide hbW
  replace Hbl := hide (Hbl.out.trans (hbW.mono Hbl.out.size))
  have Hm := hide hm0
  have Hv := hide hv0
  clear hW hm0 hv0 hbW
  clear t0 t1 t2 t3 tl
  have hmw : w1.heap.size ≤ w1.heap.size := Nat.le_refl _
  generalize hmb : w1.heap.size = mb at Hm Hv Hb1 hb0 ⊢
  have Hmb := hide hmb
  have Hmw := hide (hmw)
  clear hmb hmw Ht Hbl HW
  go_wp2_with fail
  go_loopw [15] (fun i wr => ∃ (k cnt : Nat), k ≤ n ∧ i = .int .i64 k ∧ cnt ≤ k ∧ Below mb w1 wr ∧ Blk 74 wr (mb + 1) [.pointer (some ⟨gW, 0, none⟩), .map (some mb)] ∧ MapV Try.prog 75 encW wr mb cnt (tabV (l.take k))) (fun i _ => n - (intOf i).toNat)
  case atStart => exact ⟨0, 0, by omega, rfl, by omega, Hb1.out, Hv.out, Hm.out⟩
  case round =>
    obtain ⟨k, cnt, hk, rfl, hck, hb, hv, hm⟩ := hrel
    clear Hv Hm Hb1
    have hbw : Below w.heap.size w wr := Hbl1.out.trans (hb.mono (by have := Hbl1.out.size; have := Hmb.out; omega))
    have hszb : mb ≤ wr.heap.size := by have := hb.size; have := Hmb.out; omega
    by_cases hlt : k < n
    rotate_left
    · obtain rfl : k = n := by omega
      rw [List.take_of_length_le (by rw [Hlen.out]; omega)] at hm
      have Hv := hide hv
      have Hm := hide hm
      have Hb := hide hb
      have Hbw := hide hbw
      clear hv hm hb hbw
      go_wp2_with fail
      go_ret
      have hmb := Hmb.out
      exact ⟨Hbw.out, mb + 1, rfl, by have := Hbl1.out.size; omega, ⟨gW, mb, cnt, Hv.out, HW1.out.keep (Hb.out.mono (by omega)), Hm.out⟩⟩
    obtain ⟨b, off, e, A1, n1, c1, rfl, he, g0, g1, r1, r2⟩ := (Hl.out.keep hbw).ent hlt
    have hset := Htab.out.set e (List.mem_of_getElem? he)
    have hstep := tab_step hN Htab.out he
    have hwl : wordF e.st < 4294967296 := word_lt (set_range hN hset)
    have hwd := fun W hb => Word_ct A1 n1 c1 e.st W (r1.keep hb) (set_range hN hset)
    obtain ⟨x, hx⟩ : ∃ x, x = wordF e.st := ⟨_, rfl⟩
    simp only [← hx] at hwd hwl hstep
    have Hwd := hide hwd
    have Hstep := hide hstep
    obtain ⟨hv_1, hv_2⟩ := r2
    have Hv := hide hv
    have Hm := hide hm
    have Hb := hide hb
    have Hbw := hide hbw
    have vl := hv.lt
    have hki : (k : Int) < (n : Int) := by omega
    clear hset hx hwd hstep r1 he hv hm hb hbw
    go_upto_region 5 with (fail)
    have hY := Blk.new wr 38 [.slice A1 n1 c1, .int .i64 e.val]
    have hby := (Below.refl wr.heap.size wr).alloc (Nat.le_refl _) (.cells #[.slice A1 n1 c1, .int .i64 e.val] 38)
    obtain ⟨W4, hW4⟩ : ∃ W, W = wr.alloc (.cells #[.slice A1 n1 c1, .int .i64 e.val] 38) := ⟨_, rfl⟩
    rw [← hW4] at hY hby ⊢
    clear hW4
    replace Hv := hide (Hv.out.keep hby)
    replace Hm := hide (Hm.out.keep hby)
    replace Hb := hide (Hb.out.trans (hby.mono hszb))
    have Hby := hide hby
    have sY : ¬ wr.heap.size = mb := by omega
    have sV : ¬ mb + 1 = wr.heap.size := by omega
    have sV2 : ¬ wr.heap.size = mb + 1 := by omega
    clear hby g0 g1 vl
    generalize hgy : wr.heap.size = gY at hY sY sV sV2 ⊢
    have Hgy := hide hgy
    have HY := hide hY
    clear hY hgy
    have y0 := HY.out.cell 0
    have y1 := HY.out.cell 1
    have v0 := Hv.out.cell 0
    have v1 := Hv.out.cell 1
    simp only [List.getElem?_cons_zero, List.getElem?_cons_succ] at y0 y1 v0 v1
    refine wp_region_held_drew (S := (fun w' => w'.cell? ⟨gY, 0, none⟩ = some (.slice A1 n1 c1) ∧ w'.cell? ⟨gY, 1, none⟩ = some (.int .i64 e.val) ∧ w'.cell? ⟨mb + 1, 1, none⟩ = some (.map (some mb)))) (by kernel_rfl) ?_ (fun hHeld => ?_)
    · (try dsimp only); exact ⟨y0, y1, v1⟩
    refine takeL (i := 0) (v := ?_) (some 19) rfl rfl (by kernel_rfl) (by kernel_rfl) (by kernel_rfl) (fun _ _ _ h => h) (Or.inl ⟨by rfl, ?_⟩) (by assumption) ?_
    rotate_left
    · intro w hSw; (try dsimp only at hSw); obtain ⟨s1, s2, s3⟩ := hSw; first | (go_simp; done) | (go_simp; with_reducible rfl)
    try simp only [Act.put, List.setIfInBounds_toArray, List.set_cons_zero, List.set_cons_succ]
    refine takeL (i := 1) (v := ?_) (some 20) rfl rfl (by kernel_rfl) (by kernel_rfl) (by kernel_rfl) (fun _ _ _ h => h) (Or.inl ⟨by rfl, ?_⟩) (by assumption) ?_
    rotate_left
    · intro w hSw; (try dsimp only at hSw); obtain ⟨s1, s2, s3⟩ := hSw; first | (go_simp; done) | (go_simp; with_reducible rfl)
    try simp only [Act.put, List.setIfInBounds_toArray, List.set_cons_zero, List.set_cons_succ]
    refine takeL (i := 2) (v := ?_) (some 21) rfl rfl (by kernel_rfl) (by kernel_rfl) (by kernel_rfl) (fun _ _ _ h => h) (Or.inl ⟨by rfl, ?_⟩) (by assumption) ?_
    rotate_left
    · intro w hSw; (try dsimp only at hSw); obtain ⟨s1, s2, s3⟩ := hSw; first | (go_simp; done) | (go_simp; with_reducible rfl)
    try simp only [Act.put, List.setIfInBounds_toArray, List.set_cons_zero, List.set_cons_succ]
    refine takeL (i := 3) (v := ?_) (some 22) rfl rfl (by kernel_rfl) (by kernel_rfl) (by kernel_rfl) (fun _ _ _ h => h) (Or.inl ⟨by rfl, ?_⟩) (by assumption) ?_
    rotate_left
    · intro w hSw; (try dsimp only at hSw); obtain ⟨s1, s2, s3⟩ := hSw; first | (go_simp; done) | (go_simp; with_reducible rfl)
    try simp only [Act.put, List.setIfInBounds_toArray, List.set_cons_zero, List.set_cons_succ]
    refine takeL (i := 4) (v := ?_) (some 23) rfl rfl (by kernel_rfl) (by kernel_rfl) (by kernel_rfl) (fun _ _ _ h => h) (Or.inl ⟨by rfl, ?_⟩) (by assumption) ?_
    rotate_left
    · intro w hSw; (try dsimp only at hSw); obtain ⟨s1, s2, s3⟩ := hSw; first | (go_simp; done) | (go_simp; with_reducible rfl)
    try simp only [Act.put, List.setIfInBounds_toArray, List.set_cons_zero, List.set_cons_succ]
    refine takeL (i := 5) (v := ?_) (some 24) rfl rfl (by kernel_rfl) (by kernel_rfl) (by kernel_rfl) (fun _ _ _ h => h) (Or.inl ⟨by rfl, ?_⟩) (by assumption) ?_
    rotate_left
    · intro w hSw; (try dsimp only at hSw); obtain ⟨s1, s2, s3⟩ := hSw; first | (go_simp; done) | (go_simp; with_reducible rfl)
    try simp only [Act.put, List.setIfInBounds_toArray, List.set_cons_zero, List.set_cons_succ]
    refine takeL (i := 7) (v := ?_) (some 26) rfl rfl (by kernel_rfl) (by kernel_rfl) (by kernel_rfl) (fun _ _ _ h => h) (Or.inl ⟨by rfl, ?_⟩) (by assumption) ?_
    rotate_left
    · intro w hSw; (try dsimp only at hSw); obtain ⟨s1, s2, s3⟩ := hSw; first | (go_simp; done) | (go_simp; with_reducible rfl)
    try simp only [Act.put, List.setIfInBounds_toArray, List.set_cons_zero, List.set_cons_succ]
    refine takeL (i := 8) (v := ?_) (some 27) rfl rfl (by kernel_rfl) (by kernel_rfl) (by kernel_rfl) (fun _ _ _ h => h) (Or.inl ⟨by rfl, ?_⟩) (by assumption) ?_
    rotate_left
    · intro w hSw; (try dsimp only at hSw); obtain ⟨s1, s2, s3⟩ := hSw; first | (go_simp; done) | (go_simp; with_reducible rfl)
    try simp only [Act.put, List.setIfInBounds_toArray, List.set_cons_zero, List.set_cons_succ]
    clear y0 y1 v0 v1
    replace HY := hide (HY.out.qt (Qt.refl W4).drew)
    replace Hv := hide (Hv.out.qt (Qt.refl W4).drew)
    replace Hm := hide (Hm.out.drewN 1)
    have Hb5 := hide (Hby.out.drew)
    replace Hb := hide (Hb.out.drew)
    obtain ⟨W5, hW5⟩ : ∃ W, W = W4.drew := ⟨_, rfl⟩
    have hmm : MapV Try.prog 75 encW W5 mb cnt (tabV (l.take k)) := by rw [hW5]; exact Hm.out
    rw [← hW5] at HY Hv Hb5 Hb hHeld ⊢
    replace Hm := hide hmm
    clear hW5 hmm
    obtain ⟨W6, hput, hm6, hg6, hz6⟩ := Hm.out.put encW_inj (int_keyed Try.underlying75) (T := 72) (E := 3) Try.underlying72 (by omega) (key := x) (keyW Try.underlying75 hwl) (.int .i64 e.val)
    unfold encW at hput
    rw [← Hstep.out] at hm6
    have y0 := HY.out.cell 0
    have y1 := HY.out.cell 1
    have v1 := Hv.out.cell 1
    simp only [List.getElem?_cons_zero, List.getElem?_cons_succ] at y0 y1 v1
    have hY6 := HY.out.grown hg6 (fun e => sY (by injection e))
    have hv6 := Hv.out.grown hg6 (fun e => by injection e with e; omega)
    have hb6 : Below mb w1 W6 := Hb.out.trans (((Below.refl mb W5).grown hg6 (by have := Hb.out.size; have := Hmb.out; omega) (fun k e => by injection e with e; omega)))
    have z0 := hY6.cell 0
    have z1 := hY6.cell 1
    have z3 := hv6.cell 1
    simp only [List.getElem?_cons_zero, List.getElem?_cons_succ] at z0 z1 z3
    have Hv6 := hide hv6
    have Hm6 := hide hm6
    have Hb6 := hide hb6
    clear hY6 hv6 hm6 hb6 hg6
    refine wpAnyH_ready (rs := [6]) (by kernel_rfl) (by simp) ?_
    refine AllReadyH.cons rfl (fun K hK => ?_) AllReadyH.nil
    go_simp
    with_reducible refine (Hwd.out W5 Hb5.out).mono ?_
    rintro e w1 ⟨rfl, rfl⟩
    refine hK.out _ _ ?_ (fun hHeld2 => ?_)
    · (try dsimp only); exact ⟨y0, y1, v1⟩
    clear hK K hHeld
    try simp only [Act.put, List.setIfInBounds_toArray, List.set_cons_zero, List.set_cons_succ]
    have hHeld := hHeld2; clear hHeld2
    refine wpAnyH_ready (rs := [9]) (by kernel_rfl) (by simp) ?_
    refine AllReadyH.cons rfl (fun K hK => ?_) AllReadyH.nil
    go_simp
    refine hK.out _ _ ?_ (fun hHeld2 => ?_)
    · (try dsimp only); exact ⟨z0, z1, z3⟩
    clear hK K hHeld
    try simp only [Act.put, List.setIfInBounds_toArray, List.set_cons_zero, List.set_cons_succ]
    have hHeld := hHeld2; clear hHeld2
    refine wpAnyH_done (by kernel_rfl) ?_ _
    go_wp2_with fail
    have hck2 : (if (tabV (l.take k) x).isSome = true then cnt else cnt + 1) ≤ k + 1 := by split <;> omega
    go_roundw
    case rel => exact ⟨k + 1, _, by omega, by go_num, hck2, Hb6.out, Hv6.out, Hm6.out⟩
    case measure => simp [intOf]; omega
end Go.Proofs.Ytliggcmohcdchaa
