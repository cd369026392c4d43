/- What the law asks for, part 27: Ah. -/
import Derived.Test.YtemiecammmbjdaaGreatM1
import Derived.Test.YtemiecammmbjdaaGreatM2
import Derived.Test.YtemiecammmbjdaaGreatM3
import Derived.Test.YtemiecammmbjdaaGreatM4
import Derived.Test.YtemiecammmbjdaaGreatM5
import Derived.Test.YtemiecammmbjdaaGreatM10
import Derived.Test.YtemiecammmbjdaaGreatM11
import Derived.Test.YtemiecammmbjdaaGreatM13
import Derived.BigQuiet
import Derived.Deep.AppendLies
import Derived.Deep.DeepCutAuto
import Derived.Deep.Draws
import Derived.Deep.Fields
import Derived.Deep.LoopGhost
import Derived.Deep.QuietTactic
import Derived.Deep.RegionHeld3
import Derived.Deep.Slices
import Derived.DeepKeys4
import Derived.Ground.Names2Prog
import Derived.Ground.SlgnProg
import Derived.Ground.SlsfProg
import Derived.IntWalk
import Derived.Laws.AppendOwnNone
import Derived.Laws.BitsAllLaws
import Derived.Laws.OwnMore
import Derived.Lib.Hide
import Derived.Lib.SlicesCompact
import Derived.Maps.AppendAt
import Derived.Maps.OwnOps
import Derived.Maps.OwnSet
import Derived.Shelf.Slices.Cells
import Derived.Shelf.Slices.Clone
import Derived.Shelf.Slices.CompactI
import Derived.Shelf.Slices.Empties
import Derived.Shelf.Slices.In.SortNone
import Derived.Shelf.Slices.SearchI
import Derived.Shelf.Sort.Plain
import Derived.Sort.OwnSortedInts
import Derived.Test.YtemiecammmbjdaaGreatProg
import Derived.WalkKit
namespace Go.Proofs.YtemiecammmbjdaaGreat
set_option linter.unusedVariables false
set_option linter.unusedSimpArgs false
open Go.RowKit Go.Maps
theorem takeA {P : Program} {md : Region.Mode} {ops : Array Oper} {Q : Exit → Act → World → Prop} {S : World → Prop} {i : Nat} {oi : Oper} {v : Value} {fuel : Nat} {listed : Array Bool} {a : Act} {w : World} (d : Option Tmp) (hi : ops[i]? = some oi) (hd : oi.dst = d)
    (hs : Region.noSelect ops = true) (hf : Region.free md ops listed i = true) (hr : (Region.ready md ops listed).contains i = true)
    (hQ : ∀ c a w, Q (.panic c) (a.put d v) w → Q (.panic c) a w) (hy : YieldsIf P ops S oi v a) (hS : S w)
    (h : wpAnyH P md ops Q S fuel (listed.setIfInBounds i true) (a.put d v) w) : wpAnyH P md ops Q S (fuel + 1) listed a w := by
  subst hd
  exact wpAnyH_take hi hs hf hr hQ hy hS h
set_option maxRecDepth 100000 in
set_option maxHeartbeats 1600000 in
theorem Value0_ct (F I0 G0 O0 : Value) (A : Option Addr) (n c : Nat) (w : World) :
    Calls Tryz.prog 69 #[.agg #[F, I0, G0, O0], .int .i64 0, .slice A n c] w (Gives w (.int .i64 0)) := by
  go_enter Tryz.func69, Tryz.ntmps69
  go_wp2_with fail
  go_ret
  exact ⟨rfl, (Below.refl _ _).alloc (Nat.le_refl _) _⟩
theorem zeroIA (w : World) : (zeroValue 3).run Tryz.prog w = .ok (.int .i64 0) w := by kernel_rfl
/-- a heuristic's memory: the boxes of the task, of its kind, of the map of known values, and the map at hb -/
structure HeuW (tb kb xb hb : Nat) (tc : List Value) (kind : Int) (hv : Nat → Int) (L : List Nat) (W : World) : Prop where
  tbx : Blk 25 W tb tc
  kbx : Blk 3 W kb [.int .i64 kind]
  xbx : Blk 123 W xb [.map (some hb)]
  map : ∃ D : List Nat, D.Nodup ∧ (∀ s ∈ D, s ∈ L) ∧ MapV Tryz.prog 69 encW W hb D.length (fun k => if k ∈ D then some (.int .i64 (hv k)) else none)
section
variable {tb kb xb hb : Nat} {tc : List Value} {kind : Int} {hv : Nat → Int} {L : List Nat} {W W' : World}
theorem HeuW.chg {M : Nat → Prop} (h : HeuW tb kb xb hb tc kind hv L W) (hc : Chg M W W') (h1 : ¬ M tb) (h2 : ¬ M kb) (h3 : ¬ M xb) (h4 : ¬ M hb) : HeuW tb kb xb hb tc kind hv L W' := by
  obtain ⟨D, d1, d2, d3⟩ := h.map
  exact ⟨hc.blk h.tbx h1, hc.blk h.kbx h2, hc.blk h.xbx h3, D, d1, d2, d3.chg hc h4⟩
theorem HeuW.keep (h : HeuW tb kb xb hb tc kind hv L W) (hb' : Below W.heap.size W W') : HeuW tb kb xb hb tc kind hv L W' := h.chg (Chg.of_below hb' (fun _ => False)) (fun e => e) (fun e => e) (fun e => e) (fun e => e)
end
set_option maxRecDepth 100000 in
set_option maxHeartbeats 6400000 in
theorem Heur1_ct {tb kb xb hb : Nat} {v0 v1 v2 v3 : Value} {kind : Int} {hv : Nat → Int} {L : List Nat} (hL : L.length ≤ 2000) (s : Nat) (hs : s ∈ L) (hs32 : s < 4294967296) (W : World) (h : HeuW tb kb xb hb [v0, v1, v2, v3] kind hv L W)
    (hval : ∀ W' A n c, Below W.heap.size W W' → Rd Enc.int W' A n c (factsF s) → Calls Tryz.prog 69 #[.agg #[v0, v1, v2, v3], .int .i64 kind, .slice A n c] W' (Gives W' (.int .i64 (hv s)))) :
    Calls Tryz.prog 68 #[.int .u32 s, .pointer (some ⟨xb, 0, none⟩), .pointer (some ⟨tb, 0, none⟩), .pointer (some ⟨kb, 0, none⟩)] W (fun e W' => e = .returned (.int .i64 (hv s)) ∧ HeuW tb kb xb hb [v0, v1, v2, v3] kind hv L W' ∧ Chg (fun b => b = hb) W W') := by
  obtain ⟨D, d1, d2, d3⟩ := h.map
  have x0 := h.xbx.cell 0
  have xl := h.xbx.lt
  have t0 := h.tbx.cell 0
  have t1 := h.tbx.cell 1
  have t2 := h.tbx.cell 2
  have t3 := h.tbx.cell 3
  have tl := h.tbx.lt
  have k0 := h.kbx.cell 0
  have kl := h.kbx.lt
  simp only [List.getElem?_cons_zero, List.getElem?_cons_succ] at x0 t0 t1 t2 t3 k0
  have hlook := d3.look (int_keyed Tryz.underlying69) (T := 123) (E := 3) Tryz.underlying123 zeroIA (keyW Tryz.underlying69 hs32) W rfl
  have hne : hb ≠ tb := d3.ne h.tbx
  have hne2 : hb ≠ kb := d3.ne h.kbx
  have hne3 : hb ≠ xb := d3.ne h.xbx
  have H := hide h
  have D2 := hide d2
  have D1 := hide d1
  have D3 := hide d3
  have Hval := hide hval
  unfold encW at hlook
  clear h d1 d2 d3 hval
  by_cases hin : s ∈ D
  · rw [if_pos hin] at hlook
    simp only [Option.getD_some, Option.isSome_some] at hlook
    go_enter Tryz.func68, Tryz.ntmps68
    go_wp2_with fail
    go_ret
    exact ⟨rfl, H.out, Chg.refl _ _⟩
  · rw [if_neg hin] at hlook
    simp only [Option.getD_none, Option.isSome_none] at hlook
    have Hin := hide hin
    clear hin
    go_enter Tryz.func68, Tryz.ntmps68
    go_upto_region 3 with (fail)
    obtain ⟨V, hV⟩ : ∃ Z, Z = W.drew := ⟨_, rfl⟩
    have hbV : Below W.heap.size W V := by rw [hV]; exact (Below.refl _ _).drew
    refine wp_region_held_drew (S := (fun w' => w'.cell? ⟨tb, 0, none⟩ = some v0 ∧ w'.cell? ⟨tb, 1, none⟩ = some v1 ∧ w'.cell? ⟨tb, 2, none⟩ = some v2 ∧ w'.cell? ⟨tb, 3, none⟩ = some v3 ∧ w'.cell? ⟨kb, 0, none⟩ = some (.int .i64 kind))) (by kernel_rfl) ?_ (fun hHeld => ?_)
    · exact ⟨t0, t1, t2, t3, k0⟩
    rw [← hV] at hHeld ⊢
    clear hV hlook
    refine takeA (i := 0) (v := ?_) (some 16) rfl rfl (by kernel_rfl) (by kernel_rfl) (by kernel_rfl) (fun _ _ _ h => h) (Or.inl ⟨by rfl, ?_⟩) (by assumption) ?_
    rotate_left
    · intro w hSw; (try dsimp only at hSw); obtain ⟨s1, s2, s3, s4, s5⟩ := hSw; first | (go_simp; done) | (go_simp; with_reducible rfl)
    try simp only [Act.put, List.setIfInBounds_toArray, List.set_cons_zero, List.set_cons_succ]
    refine takeA (i := 1) (v := ?_) (some 17) rfl rfl (by kernel_rfl) (by kernel_rfl) (by kernel_rfl) (fun _ _ _ h => h) (Or.inl ⟨by rfl, ?_⟩) (by assumption) ?_
    rotate_left
    · intro w hSw; (try dsimp only at hSw); obtain ⟨s1, s2, s3, s4, s5⟩ := hSw; first | (go_simp; done) | (go_simp; with_reducible rfl)
    try simp only [Act.put, List.setIfInBounds_toArray, List.set_cons_zero, List.set_cons_succ]
    refine takeA (i := 2) (v := ?_) (some 18) rfl rfl (by kernel_rfl) (by kernel_rfl) (by kernel_rfl) (fun _ _ _ h => h) (Or.inl ⟨by rfl, ?_⟩) (by assumption) ?_
    rotate_left
    · intro w hSw; (try dsimp only at hSw); obtain ⟨s1, s2, s3, s4, s5⟩ := hSw; first | (go_simp; done) | (go_simp; with_reducible rfl)
    try simp only [Act.put, List.setIfInBounds_toArray, List.set_cons_zero, List.set_cons_succ]
    refine wpAnyH_ready (rs := [3]) (by kernel_rfl) (by simp) ?_
    refine AllReadyH.cons rfl (fun K hK => ?_) AllReadyH.nil
    go_simp
    refine (Facts_ct s V hs32).mono ?_
    rintro e w2 ⟨hb2, A2, c2, vs2, rfl, hown⟩
    have hrd := hown.rd
    have hbx : Below W.heap.size W w2 := hbV.trans (hb2.mono hbV.size)
    clear hown
    obtain ⟨fl, hfl⟩ : ∃ z, z = (factsF s).length := ⟨_, rfl⟩
    rw [← hfl] at hrd ⊢
    clear hfl hb2
    go_simp
    refine hK.out _ _ ?_ (fun hHeld2 => ?_)
    · exact ⟨((hbx).cell (p := ⟨tb, 0, none⟩) tl).trans t0, ((hbx).cell (p := ⟨tb, 1, none⟩) tl).trans t1, ((hbx).cell (p := ⟨tb, 2, none⟩) tl).trans t2, ((hbx).cell (p := ⟨tb, 3, none⟩) tl).trans t3, ((hbx).cell (p := ⟨kb, 0, none⟩) kl).trans k0⟩
    clear hK K hHeld
    try simp only [Act.put, List.setIfInBounds_toArray, List.set_cons_zero, List.set_cons_succ]
    have hHeld := hHeld2; clear hHeld2
    refine wpAnyH_ready (rs := [4]) (by kernel_rfl) (by simp) ?_
    refine AllReadyH.cons rfl (fun K hK => ?_) AllReadyH.nil
    go_simp
    refine (Hval.out w2 A2 fl c2 hbx hrd).mono ?_
    rintro e w3 ⟨rfl, hb3⟩
    have hby : Below W.heap.size W w3 := hbx.trans (hb3.mono hbx.size)
    go_simp
    refine hK.out _ _ ?_ (fun hHeld2 => ?_)
    · exact ⟨((hby).cell (p := ⟨tb, 0, none⟩) tl).trans t0, ((hby).cell (p := ⟨tb, 1, none⟩) tl).trans t1, ((hby).cell (p := ⟨tb, 2, none⟩) tl).trans t2, ((hby).cell (p := ⟨tb, 3, none⟩) tl).trans t3, ((hby).cell (p := ⟨kb, 0, none⟩) kl).trans k0⟩
    clear hK K hHeld
    try simp only [Act.put, List.setIfInBounds_toArray, List.set_cons_zero, List.set_cons_succ]
    have hHeld := hHeld2; clear hHeld2
    refine takeA (i := 5) (v := ?_) (some 6) rfl rfl (by kernel_rfl) (by kernel_rfl) (by kernel_rfl) (fun _ _ _ h => h) (Or.inl ⟨by rfl, ?_⟩) (by assumption) ?_
    rotate_left
    · intro w hSw; (try dsimp only at hSw); obtain ⟨s1, s2, s3, s4, s5⟩ := hSw; first | (go_simp; done) | (go_simp; with_reducible rfl)
    try simp only [Act.put, List.setIfInBounds_toArray, List.set_cons_zero, List.set_cons_succ]
    refine wpAnyH_done (by kernel_rfl) ?_ _
    have hm3 := D3.out.keep hby
    have hDl : D.length < 1000000000000 := by
      have := List.Nodup.length_le_of_subset D1.out (fun s hs => D2.out s hs)
      omega
    obtain ⟨w4, hput, hm4, hg4, hz4⟩ := hm3.put encW_inj (int_keyed Tryz.underlying69) (T := 123) (E := 3) Tryz.underlying123 hDl (key := s) (keyW Tryz.underlying69 hs32) (.int .i64 (hv s))
    unfold encW at hput
    have hc4 : Chg (fun b => b = hb) w3 w4 := (Chg.of_grown hg4).mono fun b e => by injection e with e; exact e.symm
    have y0 := (hby.cell (p := ⟨xb, 0, none⟩) xl).trans x0
    have H3 := H.out.keep hby
    have hfin : HeuW tb kb xb hb [v0, v1, v2, v3] kind hv L w4 := by
      refine ⟨hc4.blk H3.tbx (fun e => hne e.symm), hc4.blk H3.kbx (fun e => hne2 e.symm), hc4.blk H3.xbx (fun e => hne3 e.symm), s :: D, List.nodup_cons.2 ⟨Hin.out, D1.out⟩, fun k hk => ?_, ?_⟩
      · rcases List.mem_cons.1 hk with rfl | hk
        · exact hs
        · exact D2.out k hk
      · rw [if_neg Hin.out] at hm4
        simp only [Option.isSome_none, Bool.false_eq_true, if_false] at hm4
        rw [List.length_cons]
        refine hm4.ext (fun k => ?_)
        unfold putV
        by_cases e : k = s
        · subst e; simp
        · rw [if_neg e]; simp only [List.mem_cons, e, false_or]
    have Hfin := hide hfin
    have Hch := hide (Chg.trans (M := fun b => b = hb) (Chg.of_below hby _) hc4)
    clear hfin hc4 hm3 hm4 hg4 hz4 H3 hHeld hrd hbx hby
    go_wp2_with fail
    go_ret
    exact ⟨rfl, Hfin.out, Hch.out⟩
/-- a new heuristic -/
def HeurP (w : World) (tc : List Value) (kind : Int) (hv : Nat → Int) (L : List Nat) (e : Ending) (w' : World) : Prop :=
  Below w.heap.size w w' ∧ ∃ tb kb xb hb, e = .returned (.func (.func 68) #[] #[.pointer (some ⟨xb, 0, none⟩), .pointer (some ⟨tb, 0, none⟩), .pointer (some ⟨kb, 0, none⟩)]) ∧ HeuW tb kb xb hb tc kind hv L w' ∧ w.heap.size ≤ tb ∧ w.heap.size ≤ kb ∧ w.heap.size ≤ xb ∧ w.heap.size ≤ hb
set_option maxRecDepth 100000 in
set_option maxHeartbeats 1600000 in
theorem Heuristic_ct (v0 v1 v2 v3 : Value) (kind : Int) (hv : Nat → Int) (L : List Nat) (w : World) :
    Calls Tryz.prog 38 #[.agg #[v0, v1, v2, v3], .int .i64 kind] w (HeurP w [v0, v1, v2, v3] kind hv L) := by
  have hmm := @run_makeMap Tryz.prog
  have hmf : ∀ (fn : Fn) (first cap : Array Value) (w : World), (Instr.makeFunc fn first cap).run Tryz.prog w = .ok (.func fn first cap) w := fun _ _ _ _ => rfl
  go_enter Tryz.func38, Tryz.ntmps38
  go_wp2_with fail
  go_ret
  obtain ⟨W1, h1⟩ : ∃ W, W = w.alloc (.cells #[v0, v1, v2, v3] 25) := ⟨_, rfl⟩
  obtain ⟨W2, h2⟩ : ∃ W, W = W1.alloc (.cells #[.int .i64 kind] 3) := ⟨_, rfl⟩
  obtain ⟨W3, h3⟩ : ∃ W, W = W2.alloc (.map #[] 0) := ⟨_, rfl⟩
  have z1 : W1.heap.size = w.heap.size + 1 := by rw [h1, World.size_alloc]
  have z2 : W2.heap.size = w.heap.size + 1 + 1 := by rw [h2, World.size_alloc, z1]
  have z3 : W3.heap.size = w.heap.size + 1 + 1 + 1 := by rw [h3, World.size_alloc, z2]
  have b1 : Blk 25 W1 w.heap.size [v0, v1, v2, v3] := by rw [h1]; exact Blk.new _ _ _
  have b2 : Blk 3 W2 (w.heap.size + 1) [.int .i64 kind] := by rw [← z1, h2]; exact Blk.new _ _ _
  have m3 : MapV (κ := Nat) Tryz.prog 69 encW W3 (w.heap.size + 1 + 1) 0 (fun _ => none) := by rw [← z2, h3]; exact MapV.made _ _ _ _
  have k1 : Below w.heap.size w W1 := by rw [h1]; exact (Below.refl _ _).alloc (Nat.le_refl _) _
  have k2 : Below W1.heap.size W1 W2 := by rw [h2]; exact (Below.refl _ _).alloc (Nat.le_refl _) _
  have k3 : Below W2.heap.size W2 W3 := by rw [h3]; exact (Below.refl _ _).alloc (Nat.le_refl _) _
  rw [← h1, ← h2, ← h3]
  have b4 := Blk.new W3 123 [.map (some (w.heap.size + 1 + 1))]
  rw [z3] at b4
  have k4 := (Below.refl W3.heap.size W3).alloc (Nat.le_refl _) (.cells [Value.map (some (w.heap.size + 1 + 1))].toArray 123)
  refine ⟨((k1.trans (k2.mono (by omega))).trans (k3.mono (by omega))).trans (k4.mono (by omega)), w.heap.size, w.heap.size + 1, w.heap.size + 1 + 1 + 1, w.heap.size + 1 + 1, rfl, ⟨((b1.keep k2).keep k3).keep k4, (b2.keep k3).keep k4, b4, [], List.nodup_nil, fun s hs => (by cases hs), (m3.keep k4).ext (fun k => by simp)⟩, Nat.le_refl _, by omega, by omega, by omega⟩
end Go.Proofs.YtemiecammmbjdaaGreat
