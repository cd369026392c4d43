/- What the law asks for, part 38: De2 De3. -/
import Derived.Test.YtmjiiddncbhgpaaGreatE1
import Derived.Test.YtmjiiddncbhgpaaGreatE2
import Derived.Test.YtmjiiddncbhgpaaGreatE3
import Derived.Test.YtmjiiddncbhgpaaGreatE4
import Derived.Test.YtmjiiddncbhgpaaGreatE5
import Derived.Test.YtmjiiddncbhgpaaGreatE6
import Derived.Test.YtmjiiddncbhgpaaGreatE7
import Derived.Test.YtmjiiddncbhgpaaGreatE8
import Derived.Test.YtmjiiddncbhgpaaGreatE26
import Derived.Test.YtmjiiddncbhgpaaGreatE27
import Derived.Test.YtmjiiddncbhgpaaGreatE28
import Derived.Test.YtmjiiddncbhgpaaGreatE29
import Derived.Test.YtmjiiddncbhgpaaGreatE31
import Derived.Test.YtmjiiddncbhgpaaGreatE34
import Derived.Test.YtmjiiddncbhgpaaGreatE35
import Derived.Test.YtmjiiddncbhgpaaGreatE36
import Derived.Test.YtmjiiddncbhgpaaGreatE37
import Derived.BigQuiet
import Derived.Deep.AppendLies
import Derived.Deep.DeepCutAuto
import Derived.Deep.Draws
import Derived.Deep.Fields
import Derived.Deep.LoopGhost
import Derived.Deep.QuietTactic
import Derived.Deep.RegionHeld
import Derived.Deep.RegionHeld3
import Derived.Deep.RegionLaw
import Derived.Deep.Slices
import Derived.DeepKeys4
import Derived.Laws.AppendOwnNone
import Derived.Laws.BitsAllLaws
import Derived.Laws.EntriesVeiled
import Derived.Laws.OwnMore
import Derived.Lib.Hide
import Derived.Lib.SlicesCompact
import Derived.LoopIn
import Derived.LoopNIn
import Derived.Maps.AppendAt
import Derived.Maps.OwnIn
import Derived.Maps.OwnOps
import Derived.Maps.OwnSet
import Derived.OrdersHeld
import Derived.OrdersIn
import Derived.OwnWalkIn
import Derived.ProofKit
import Derived.RangeFuncBound
import Derived.RangeFuncCalls
import Derived.RangeFuncLeaves
import Derived.RangeFuncNested
import Derived.Shelf.Abstract
import Derived.Shelf.RegionOpen
import Derived.StillTail
import Derived.StillTailTactics
import Derived.TacticsInMore
import Derived.Test.YtmjiiddncbhgpaaGreatProg
import Derived.WalkKit
import Init
namespace Go.Proofs.YtmjiiddncbhgpaaGreat
set_option linter.unusedVariables false
set_option linter.unusedSimpArgs false
open Go.RowKit Go.Shelf Go.Maps
def Enc.ss : Enc SS where
  size := 2
  ok := fun w vs x => ∃ A n c B m d, vs = [.slice A n c, .slice B m d] ∧ Rd Enc.int w A n c x.need ∧ Rd Enc.int w B m d x.no
  len := fun ⟨_, _, _, _, _, _, h, _⟩ => by rw [h]; rfl
  keep := fun ⟨A, n, c, B, m, d, h, h1, h2⟩ hb => ⟨A, n, c, B, m, d, h, h1.keep hb, h2.keep hb⟩
theorem Rd.ss {w : World} {A : Option Addr} {n c k : Nat} {xs : List SS} (h : Rd Enc.ss w A n c xs) (hk : k < n) :
    ∃ b off x A1 n1 c1 A2 n2 c2, A = some ⟨b, off, none⟩ ∧ xs[k]? = some x ∧ w.cell? ⟨b, off + k * 2, none⟩ = some (.slice A1 n1 c1) ∧ w.cell? ⟨b, off + k * 2 + 1, none⟩ = some (.slice A2 n2 c2) ∧ Rd Enc.int w A1 n1 c1 x.need ∧ Rd Enc.int w A2 n2 c2 x.no := by
  obtain ⟨b, off, x, vs, ha, hx, ⟨A1, n1, c1, A2, n2, c2, hvs, h1, h2⟩, hv⟩ := h.get hk
  subst hvs
  exact ⟨b, off, x, A1, n1, c1, A2, n2, c2, ha, hx, hv 0 _ rfl, hv 1 _ rfl, h1, h2⟩
theorem sub_iff {f g h : (Nat → Bool) → Bool} (hk : ∀ s, h s = (f s && !g s)) : (∀ s, h s = false) ↔ ∀ s, f s = true → g s = true := by
  constructor
  · intro e s hf
    have := (hk s).symm.trans (e s)
    rw [hf] at this
    cases hg : g s
    · rw [hg] at this; cases this
    · rfl
  · intro e s
    rw [hk]
    cases hf : f s
    · rfl
    · rw [e s hf]; rfl
/-- a node of no state is node 0 -/
theorem zero_iff {L : Nat} {ns : List BN} (ok : OkD L ns) {k : Nat} (hk : k < ns.length + 2) : k = 0 ↔ ∀ s, sem ns k s = false :=
  ⟨fun e s => by rw [e, sem_zero], fun h => sem_inj ok k k 0 (Nat.le_refl _) (Nat.zero_le _) hk (by omega) (fun s => by rw [h, sem_zero])⟩
set_option maxRecDepth 100000 in
set_option maxHeartbeats 3000000 in
theorem contains_ct {L B g bf bp rb all : Nat} {w : World} {ns : List BN} {C : Nat} {A A' : Option Addr} {m c m' c' : Nat} {x : SS} (h : St L B g bf bp w ns C)
    (hreg : Blk 76 w rb [.pointer (some ⟨g, 0, none⟩), .int .i64 all]) (hrg : rb ≠ g) (hA : Rd Enc.int w A m c x.need) (hB : Rd Enc.int w A' m' c' x.no) (fA : FreeA w B g bf bp A m) (fB : FreeA w B g bf bp A' m')
    (hx : ∀ p ∈ x.need, 0 ≤ p ∧ p < (L : Int)) (hx' : ∀ p ∈ x.no, 0 ≤ p ∧ p < (L : Int)) (hm : m ≤ 24) (hm' : m' ≤ 24) (hall : all < ns.length + 2) (hC : C + 67111266 ≤ 5800000000000) :
    Calls Tryz.prog 42 #[.pointer (some ⟨rb, 0, none⟩), .agg #[.slice A m c, .slice A' m' c']] w fun e w' => ∃ b ms, e = .returned (.bool b) ∧ St L B g bf bp w' (ns ++ ms) (C + 67111266) ∧ Kept B g bf bp w w' ∧
      (b = true ↔ ∀ s, inS x s = true → sem ns all s = true) := by
  have hgl := h.lt
  have hfr := h.free hreg hrg (by decide)
  obtain ⟨C1, hC1⟩ : ∃ z, z = C + 2400 := ⟨_, rfl⟩
  obtain ⟨C2, hC2⟩ : ∃ z, z = C1 + 33554434 := ⟨_, rfl⟩
  obtain ⟨C3, hC3⟩ : ∃ z, z = C2 + 33554432 := ⟨_, rfl⟩
  have hbx := Blk.new w 70 [.slice A m c, .slice A' m' c']
  have hb1 := (Below.refl w.heap.size w).alloc (Nat.le_refl _) (.cells #[.slice A m c, .slice A' m' c'] 70)
  obtain ⟨W, hW⟩ : ∃ W, W = w.alloc (.cells #[.slice A m c, .slice A' m' c'] 70) := ⟨_, rfl⟩
  have hb2 : Below w.heap.size w W.drew := by rw [hW]; exact hb1.drew
  rw [← hW] at hbx
  have hbd : Blk 70 W.drew w.heap.size [.slice A m c, .slice A' m' c'] := hbx
  have hK0 : Kept B g bf bp w W.drew := Kept.of_below hb2 hgl
  have hreg2 := hreg.keep hb2
  have hst2 := h.keep hb2
  have HKw := hide hK0
  have Hfr := hide (hK0.free hfr)
  have Hreg := hide hreg2
  have HA := hide (hA.keep hb2)
  have HB := hide (hB.keep hb2)
  have FA := hide (fA.kept hK0)
  have FB := hide (fB.kept hK0)
  have St0 := hide hst2
  have Hbx := hide hbd
  have Hbf := hide (hst2.free hbd (by omega) (by decide))
  have Kp0 := hide (Kept.refl B g bf bp W.drew)
  have Hx := hide hx
  have Hx' := hide hx'
  have HW := hide hW
  have b0 := hbx.cell 0
  have b1 := hbx.cell 1
  have r0 := hreg2.cell 0
  have r1 := hreg2.cell 1
  simp only [List.getElem?_cons_zero, List.getElem?_cons_succ] at b0 b1 r0 r1
  clear h hreg hA hB fA fB hx hx' hb1 hb2 hbx hbd hK0 hreg2 hst2 hfr hW
  go_enter Tryz.func42, Tryz.ntmps42
  go_wp2_with fail
  rw [← HW.out]
  refine wp_region_held_drew (S := (fun w' => w'.cell? ⟨w.heap.size, 0, none⟩ = some (.slice A m c) ∧ w'.cell? ⟨w.heap.size, 1, none⟩ = some (.slice A' m' c') ∧ w'.cell? ⟨rb, 0, none⟩ = some (.pointer (some ⟨g, 0, none⟩)) ∧ w'.cell? ⟨rb, 1, none⟩ = some (.int .i64 all))) (by kernel_rfl) ?_ (fun hHeld => ?_)
  · exact ⟨b0, b1, r0, r1⟩
  refine takeR (i := 0) (v := ?_) (some 5) rfl rfl (by kernel_rfl) (by kernel_rfl) (by kernel_rfl) (fun _ _ _ h => h) (Or.inl ⟨by rfl, ?_⟩) (by assumption) ?_
  rotate_left
  · intro w hSw; (try dsimp only at hSw); obtain ⟨s1, s2, s3, s4⟩ := hSw; first | (go_simp; done) | (go_simp; with_reducible rfl)
  try simp only [Act.put, List.setIfInBounds_toArray, List.set_cons_zero, List.set_cons_succ]
  refine takeR (i := 1) (v := ?_) (some 6) rfl rfl (by kernel_rfl) (by kernel_rfl) (by kernel_rfl) (fun _ _ _ h => h) (Or.inl ⟨by rfl, ?_⟩) (by assumption) ?_
  rotate_left
  · intro w hSw; (try dsimp only at hSw); obtain ⟨s1, s2, s3, s4⟩ := hSw; first | (go_simp; done) | (go_simp; with_reducible rfl)
  try simp only [Act.put, List.setIfInBounds_toArray, List.set_cons_zero, List.set_cons_succ]
  refine takeR (i := 2) (v := ?_) (some 7) rfl rfl (by kernel_rfl) (by kernel_rfl) (by kernel_rfl) (fun _ _ _ h => h) (Or.inl ⟨by rfl, ?_⟩) (by assumption) ?_
  rotate_left
  · intro w hSw; (try dsimp only at hSw); obtain ⟨s1, s2, s3, s4⟩ := hSw; first | (go_simp; done) | (go_simp; with_reducible rfl)
  try simp only [Act.put, List.setIfInBounds_toArray, List.set_cons_zero, List.set_cons_succ]
  refine takeR (i := 3) (v := ?_) (some 8) rfl rfl (by kernel_rfl) (by kernel_rfl) (by kernel_rfl) (fun _ _ _ h => h) (Or.inl ⟨by rfl, ?_⟩) (by assumption) ?_
  rotate_left
  · intro w hSw; (try dsimp only at hSw); obtain ⟨s1, s2, s3, s4⟩ := hSw; first | (go_simp; done) | (go_simp; with_reducible rfl)
  try simp only [Act.put, List.setIfInBounds_toArray, List.set_cons_zero, List.set_cons_succ]
  refine takeR (i := 4) (v := ?_) (some 9) rfl rfl (by kernel_rfl) (by kernel_rfl) (by kernel_rfl) (fun _ _ _ h => h) (Or.inl ⟨by rfl, ?_⟩) (by assumption) ?_
  rotate_left
  · intro w hSw; (try dsimp only at hSw); obtain ⟨s1, s2, s3, s4⟩ := hSw; first | (go_simp; done) | (go_simp; with_reducible rfl)
  try simp only [Act.put, List.setIfInBounds_toArray, List.set_cons_zero, List.set_cons_succ]
  refine takeR (i := 5) (v := ?_) (some 10) rfl rfl (by kernel_rfl) (by kernel_rfl) (by kernel_rfl) (fun _ _ _ h => h) (Or.inl ⟨by rfl, ?_⟩) (by assumption) ?_
  rotate_left
  · intro w hSw; (try dsimp only at hSw); obtain ⟨s1, s2, s3, s4⟩ := hSw; first | (go_simp; done) | (go_simp; with_reducible rfl)
  try simp only [Act.put, List.setIfInBounds_toArray, List.set_cons_zero, List.set_cons_succ]
  refine takeR (i := 7) (v := ?_) (some 12) rfl rfl (by kernel_rfl) (by kernel_rfl) (by kernel_rfl) (fun _ _ _ h => h) (Or.inl ⟨by rfl, ?_⟩) (by assumption) ?_
  rotate_left
  · intro w hSw; (try dsimp only at hSw); obtain ⟨s1, s2, s3, s4⟩ := hSw; first | (go_simp; done) | (go_simp; with_reducible rfl)
  try simp only [Act.put, List.setIfInBounds_toArray, List.set_cons_zero, List.set_cons_succ]
  refine takeR (i := 8) (v := ?_) (some 13) rfl rfl (by kernel_rfl) (by kernel_rfl) (by kernel_rfl) (fun _ _ _ h => h) (Or.inl ⟨by rfl, ?_⟩) (by assumption) ?_
  rotate_left
  · intro w hSw; (try dsimp only at hSw); obtain ⟨s1, s2, s3, s4⟩ := hSw; first | (go_simp; done) | (go_simp; with_reducible rfl)
  try simp only [Act.put, List.setIfInBounds_toArray, List.set_cons_zero, List.set_cons_succ]
  refine takeR (i := 9) (v := ?_) (some 14) rfl rfl (by kernel_rfl) (by kernel_rfl) (by kernel_rfl) (fun _ _ _ h => h) (Or.inl ⟨by rfl, ?_⟩) (by assumption) ?_
  rotate_left
  · intro w hSw; (try dsimp only at hSw); obtain ⟨s1, s2, s3, s4⟩ := hSw; first | (go_simp; done) | (go_simp; with_reducible rfl)
  try simp only [Act.put, List.setIfInBounds_toArray, List.set_cons_zero, List.set_cons_succ]
  refine takeR (i := 10) (v := ?_) (some 15) rfl rfl (by kernel_rfl) (by kernel_rfl) (by kernel_rfl) (fun _ _ _ h => h) (Or.inl ⟨by rfl, ?_⟩) (by assumption) ?_
  rotate_left
  · intro w hSw; (try dsimp only at hSw); obtain ⟨s1, s2, s3, s4⟩ := hSw; first | (go_simp; done) | (go_simp; with_reducible rfl)
  try simp only [Act.put, List.setIfInBounds_toArray, List.set_cons_zero, List.set_cons_succ]
  refine takeR (i := 11) (v := ?_) (some 16) rfl rfl (by kernel_rfl) (by kernel_rfl) (by kernel_rfl) (fun _ _ _ h => h) (Or.inl ⟨by rfl, ?_⟩) (by assumption) ?_
  rotate_left
  · intro w hSw; (try dsimp only at hSw); obtain ⟨s1, s2, s3, s4⟩ := hSw; first | (go_simp; done) | (go_simp; with_reducible rfl)
  try simp only [Act.put, List.setIfInBounds_toArray, List.set_cons_zero, List.set_cons_succ]
  refine takeR (i := 12) (v := ?_) (some 17) rfl rfl (by kernel_rfl) (by kernel_rfl) (by kernel_rfl) (fun _ _ _ h => h) (Or.inl ⟨by rfl, ?_⟩) (by assumption) ?_
  rotate_left
  · intro w hSw; (try dsimp only at hSw); obtain ⟨s1, s2, s3, s4⟩ := hSw; first | (go_simp; done) | (go_simp; with_reducible rfl)
  try simp only [Act.put, List.setIfInBounds_toArray, List.set_cons_zero, List.set_cons_succ]
  refine takeR (i := 13) (v := ?_) (some 18) rfl rfl (by kernel_rfl) (by kernel_rfl) (by kernel_rfl) (fun _ _ _ h => h) (Or.inl ⟨by rfl, ?_⟩) (by assumption) ?_
  rotate_left
  · intro w hSw; (try dsimp only at hSw); obtain ⟨s1, s2, s3, s4⟩ := hSw; first | (go_simp; done) | (go_simp; with_reducible rfl)
  try simp only [Act.put, List.setIfInBounds_toArray, List.set_cons_zero, List.set_cons_succ]
  refine takeR (i := 14) (v := ?_) (some 19) rfl rfl (by kernel_rfl) (by kernel_rfl) (by kernel_rfl) (fun _ _ _ h => h) (Or.inl ⟨by rfl, ?_⟩) (by assumption) ?_
  rotate_left
  · intro w hSw; (try dsimp only at hSw); obtain ⟨s1, s2, s3, s4⟩ := hSw; first | (go_simp; done) | (go_simp; with_reducible rfl)
  try simp only [Act.put, List.setIfInBounds_toArray, List.set_cons_zero, List.set_cons_succ]
  generalize W.drew = Wd at *
  clear HW b0 b1 r0 r1
  refine wpAnyH_ready (rs := [6]) (by kernel_rfl) (by simp) ?_
  refine AllReadyH.cons rfl (fun K hK => ?_) AllReadyH.nil
  go_simp
  refine (cube_ct (x := x) St0.out (Kp0.out.blk Hreg.out Hfr.out) hrg (FA.out.rd Kp0.out HA.out) (FB.out.rd Kp0.out HB.out) (FA.out.kept Kp0.out) (FB.out.kept Kp0.out) Hx.out Hx'.out hm hm' (by omega)).mono ?_
  rintro e w3 ⟨ms1, kc, rfl, hst1, hk1, hkc, hqc⟩
  go_simp
  have St1 := hide (hst1.mono (C' := C1) (by omega))
  have Kp1 := hide (Kp0.out.trans hk1)
  have hl1 : ns.length ≤ (ns ++ ms1).length := len_more _ _
  clear hst1 hk1
  have b01 := (Kp1.out.blk Hbx.out Hbf.out).cell 0
  have b11 := (Kp1.out.blk Hbx.out Hbf.out).cell 1
  have r01 := (Kp1.out.blk Hreg.out Hfr.out).cell 0
  have r11 := (Kp1.out.blk Hreg.out Hfr.out).cell 1
  simp only [List.getElem?_cons_zero, List.getElem?_cons_succ] at b01 b11 r01 r11
  refine hK.out _ _ ?_ (fun hHeld2 => ?_)
  · exact ⟨b01, b11, r01, r11⟩
  clear hK K hHeld
  try simp only [Act.put, List.setIfInBounds_toArray, List.set_cons_zero, List.set_cons_succ]
  have hHeld := hHeld2; clear hHeld2
  refine wpAnyH_ready (rs := [15]) (by kernel_rfl) (by simp) ?_
  refine AllReadyH.cons rfl (fun K hK => ?_) AllReadyH.nil
  go_simp
  refine (Not_ct (a := all) St1.out (by omega) (by omega)).mono ?_
  rintro e w4 ⟨ms2, kn, rfl, hst2, hk2, hkn, hqn⟩
  go_simp
  have St2 := hide (hst2.mono (C' := C2) (by omega))
  have Kp2 := hide (Kp1.out.trans hk2)
  have hl2 : (ns ++ ms1).length ≤ ((ns ++ ms1) ++ ms2).length := len_more _ _
  clear hst2 hk2
  have b02 := (Kp2.out.blk Hbx.out Hbf.out).cell 0
  have b12 := (Kp2.out.blk Hbx.out Hbf.out).cell 1
  have r02 := (Kp2.out.blk Hreg.out Hfr.out).cell 0
  have r12 := (Kp2.out.blk Hreg.out Hfr.out).cell 1
  simp only [List.getElem?_cons_zero, List.getElem?_cons_succ] at b02 b12 r02 r12
  refine hK.out _ _ ?_ (fun hHeld2 => ?_)
  · exact ⟨b02, b12, r02, r12⟩
  clear hK K hHeld
  try simp only [Act.put, List.setIfInBounds_toArray, List.set_cons_zero, List.set_cons_succ]
  have hHeld := hHeld2; clear hHeld2
  refine wpAnyH_ready (rs := [16]) (by kernel_rfl) (by simp) ?_
  refine AllReadyH.cons rfl (fun K hK => ?_) AllReadyH.nil
  go_simp
  refine (And_ct St2.out (a := kc) (b := kn) (by omega) (by omega) (by omega)).mono ?_
  rintro e w5 ⟨ms3, k, rfl, hst3, hk3, hkl, hq3⟩
  go_simp
  have St3 := hide (hst3.mono (C' := C3) (by omega))
  have Kp3 := hide (Kp2.out.trans hk3)
  have hl3 : (ns ++ ms1 ++ ms2).length ≤ ((ns ++ ms1 ++ ms2) ++ ms3).length := len_more _ _
  clear hst3 hk3
  have b03 := (Kp3.out.blk Hbx.out Hbf.out).cell 0
  have b13 := (Kp3.out.blk Hbx.out Hbf.out).cell 1
  have r03 := (Kp3.out.blk Hreg.out Hfr.out).cell 0
  have r13 := (Kp3.out.blk Hreg.out Hfr.out).cell 1
  simp only [List.getElem?_cons_zero, List.getElem?_cons_succ] at b03 b13 r03 r13
  refine hK.out _ _ ?_ (fun hHeld2 => ?_)
  · exact ⟨b03, b13, r03, r13⟩
  clear hK K hHeld
  try simp only [Act.put, List.setIfInBounds_toArray, List.set_cons_zero, List.set_cons_succ]
  have hHeld := hHeld2; clear hHeld2
  refine takeR (i := 17) (v := ?_) (some 22) rfl rfl (by kernel_rfl) (by kernel_rfl) (by kernel_rfl) (fun _ _ _ h => h) (Or.inl ⟨by rfl, ?_⟩) (by assumption) ?_
  rotate_left
  · intro w hSw; (try dsimp only at hSw); obtain ⟨s1, s2, s3, s4⟩ := hSw; first | (go_simp; done) | (go_simp; with_reducible rfl)
  try simp only [Act.put, List.setIfInBounds_toArray, List.set_cons_zero, List.set_cons_succ]
  refine takeR (i := 18) (v := ?_) (some 4) rfl rfl (by kernel_rfl) (by kernel_rfl) (by kernel_rfl) (fun _ _ _ h => h) (Or.inl ⟨by rfl, ?_⟩) (by assumption) ?_
  rotate_left
  · intro w hSw; (try dsimp only at hSw); obtain ⟨s1, s2, s3, s4⟩ := hSw; first | (go_simp; done) | (go_simp; with_reducible rfl)
  try simp only [Act.put, List.setIfInBounds_toArray, List.set_cons_zero, List.set_cons_succ]
  refine wpAnyH_done (by kernel_rfl) ?_ _
  go_wp2_with fail
  go_ret
  have key : ∀ s, sem (ns ++ ms1 ++ ms2 ++ ms3) k s = (inS x s && !sem ns all s) := fun s => by rw [hq3, sem_add St1.out.ok ms2 hkc, hqc, hqn, sem_add St0.out.ok ms1 hall]
  have hz := (zero_iff St3.out.ok hkl).trans (sub_iff key)
  have hst4 := St3.out
  rw [List.append_assoc, List.append_assoc] at hst4
  refine ⟨_, ms1 ++ (ms2 ++ ms3), rfl, hst4.mono (by omega), HKw.out.trans Kp3.out, ?_⟩
  rw [Bool.beq_eq_decide_eq, decide_eq_true_eq]
  exact Iff.trans (by omega) hz
end Go.Proofs.YtmjiiddncbhgpaaGreat
namespace Go.Proofs.YtmjiiddncbhgpaaGreat
set_option linter.unusedVariables false
set_option linter.unusedSimpArgs false
open Go.RowKit Go.Shelf Go.Maps
theorem OkSS.parts {L : Nat} {x : SS} (h : OkSS L x) (hL : L ≤ 24) : (∀ p ∈ x.need, 0 ≤ p ∧ p < (L : Int)) ∧ (∀ p ∈ x.no, 0 ≤ p ∧ p < (L : Int)) ∧ x.need.length ≤ 24 ∧ x.no.length ≤ 24 :=
  ⟨(setB_iff.1 h.need).2, (setB_iff.1 h.no).2, Nat.le_trans (setB_len h.need) hL, Nat.le_trans (setB_len h.no) hL⟩
theorem inR_take {cs : List SS} {k : Nat} {x : SS} (h : cs[k]? = some x) (s : Nat → Bool) : inR (cs.take (k + 1)) s = (inR (cs.take k) s || inS x s) := by
  rw [List.take_add_one, h]
  exact inR_snoc _ _ _
theorem cellOf_low {w w' : World} (h : Below w.heap.size w w') {a : Addr} {v : Value} (hc : w.cell? a = some v) : w'.cell? a = some v :=
  (h.cell (World.block_lt_of_cell? _ _ hc)).trans hc
set_option maxRecDepth 100000 in
set_option maxHeartbeats 3000000 in
theorem newRegion_ct {L : Nat} (hL : L ≤ 24) {w : World} {A : Option Addr} {n c : Nat} {cs : List SS} (h : Rd Enc.ss w A n c cs) (hok : ∀ x ∈ cs, OkSS L x) (hn : n ≤ 2000) :
    Calls Tryz.prog 36 #[.int .i64 L, .slice A n c] w fun e w' => ∃ g bf bp rb ns all Ck, e = .returned (.pointer (some ⟨rb, 0, none⟩)) ∧ St L w.heap.size g bf bp w' ns Ck ∧ Ck ≤ 33556900 * n ∧
      Blk 76 w' rb [.pointer (some ⟨g, 0, none⟩), .int .i64 (all : Nat)] ∧ rb ≠ g ∧ all < ns.length + 2 ∧ (∀ s, sem ns all s = inR cs s) ∧ Below w.heap.size w w' := by
  have hlen := h.len
  have hsm := h.low
  have H := hide h
  have Hok := hide hok
  clear h hok
  go_enter Tryz.func36, Tryz.ntmps36
  go_wp2_with fail
  refine (NewStore_ct L hL w).mono ?_
  rintro e w1 ⟨hb1, g, bf, bp, rfl, hst1⟩
  have hgl := hst1.lt
  have hrg := Blk.new w1 76 [.pointer (some ⟨g, 0, none⟩), .int .i64 0]
  have hba := (Below.refl w1.heap.size w1).alloc (Nat.le_refl _) (.cells #[.pointer (some ⟨g, 0, none⟩), .int .i64 0] 76)
  have hst2 := hst1.keep hba
  have hlw := hb1.trans (hba.mono hb1.size)
  have Hs0 := hide hst2
  have Hr0 := hide hrg
  have Hl0 := hide hlw
  have hrb : w1.heap.size ≠ g := by omega
  have hw1 := hb1.size
  clear hb1 hst1 hrg hba hst2 hlw
  go_wp2_with fail
  obtain ⟨RB, hRB⟩ : ∃ z, z = w1.heap.size := ⟨_, rfl⟩
  have HRB := hide hRB
  rw [← hRB] at hrb hgl hw1 ⊢
  clear hRB
  go_loopw [14] (fun i wr => ∃ (k : Nat) (ns : List BN) (all Ck : Nat), k ≤ n ∧ i = .int .i64 k ∧ St L w.heap.size g bf bp wr ns Ck ∧ Ck ≤ 33556900 * k ∧ Blk 76 wr RB [.pointer (some ⟨g, 0, none⟩), .int .i64 all] ∧ all < ns.length + 2 ∧ (∀ s, sem ns all s = inR (cs.take k) s) ∧ Below w.heap.size w wr) (fun i _ => n - (intOf i).toNat)
  case atStart => exact ⟨0, [], 0, 0, by omega, rfl, Hs0.out, by omega, by rw [HRB.out]; exact Hr0.out, by simp, fun s => by rw [sem_zero]; rfl, Hl0.out⟩
  case round =>
    clear Hs0 Hr0 Hl0 HRB
    obtain ⟨k, ns, all, Ck, hk, rfl, hst, hCk, hreg, hall, hq, hlow⟩ := hrel
    have hgr := hst.lt
    have hrs := hreg.lt
    have Hq := hide hq
    have Hlow := hide hlow
    by_cases hlt : k < n
    · obtain ⟨b, off, x, A1, n1, c1, A2, n2, c2, rfl, hx, x0, x1, hA, hB⟩ := H.out.ss hlt
      obtain ⟨p1, p2, p3, p4⟩ := (Hok.out x (List.mem_of_getElem? hx)).parts hL
      rw [hA.len] at p3
      rw [hB.len] at p4
      have x0 := cellOf_low hlow x0
      have x1 := cellOf_low hlow x1
      obtain ⟨W, hW⟩ : ∃ W, W = wr.alloc (.cells #[.slice A1 n1 c1, .slice A2 n2 c2] 70) := ⟨_, rfl⟩
      have hbx : Blk 70 W wr.heap.size [.slice A1 n1 c1, .slice A2 n2 c2] := by rw [hW]; exact Blk.new wr _ _
      have hb2 : Below wr.heap.size wr W.drew := by rw [hW]; exact ((Below.refl wr.heap.size wr).alloc (Nat.le_refl _) _).drew
      have hbd : Blk 70 W.drew wr.heap.size [.slice A1 n1 c1, .slice A2 n2 c2] := hbx
      have hreg2 := hreg.keep hb2
      have hst2 := hst.keep hb2
      have hl2 := hlow.trans (hb2.mono hlow.size)
      have hfr := hst2.free hreg2 hrb (by decide)
      have HB0 := hide hl2
      have Hreg := hide hreg2
      have Hfr := hide hfr
      have HA := hide (hA.keep (hl2.mono (Nat.le_refl _)))
      have HB := hide (hB.keep (hl2.mono (Nat.le_refl _)))
      have FA := hide (FreeA.old (g := g) (bf := bf) (bp := bp) hA hl2 (Nat.le_refl _))
      have FB := hide (FreeA.old (g := g) (bf := bf) (bp := bp) hB hl2 (Nat.le_refl _))
      have St0 := hide hst2
      have Hbx := hide hbd
      have Hbf := hide (hst2.free hbd (by omega) (by decide))
      have Kp0 := hide (Kept.refl w.heap.size g bf bp W.drew)
      have Hx := hide p1
      have Hx' := hide p2
      have HW := hide hW
      have Hxk := hide hx
      have hgW := hst2.lt
      have b0 := hbd.cell 0
      have b1 := hbd.cell 1
      have r0 := hreg2.cell 0
      have r1 := hreg2.cell 1
      simp only [List.getElem?_cons_zero, List.getElem?_cons_succ] at b0 b1 r0 r1
      have hC1 : Ck + 2400 + 33554432 ≤ 33556900 * (k + 1) := by omega
      have hC2 : 33556900 * (k + 1) ≤ 5800000000000 := by omega
      clear hst hreg hq hlow hx p1 p2 hbx hb2 hbd hreg2 hst2 hl2 hfr hA hB hW
      go_wp2_with fail
      obtain ⟨C1, hC1e⟩ : ∃ z, z = Ck + 2400 := ⟨_, rfl⟩
      obtain ⟨C2, hC2e⟩ : ∃ z, z = C1 + 33554432 := ⟨_, rfl⟩
      rw [← HW.out]
      refine wp_region_held_drew (S := (fun w' => w'.cell? ⟨wr.heap.size, 0, none⟩ = some (.slice A1 n1 c1) ∧ w'.cell? ⟨wr.heap.size, 1, none⟩ = some (.slice A2 n2 c2) ∧ w'.cell? ⟨RB, 0, none⟩ = some (.pointer (some ⟨g, 0, none⟩)))) (by kernel_rfl) ?_ (fun hHeld => ?_)
      · exact ⟨b0, b1, r0⟩
      refine takeR (i := 0) (v := ?_) (some 18) rfl rfl (by kernel_rfl) (by kernel_rfl) (by kernel_rfl) (fun _ _ _ h => h) (Or.inl ⟨by rfl, ?_⟩) (by assumption) ?_
      rotate_left
      · intro w hSw; (try dsimp only at hSw); obtain ⟨s1, s2, s3⟩ := hSw; first | (go_simp; done) | (go_simp; with_reducible rfl)
      try simp only [Act.put, List.setIfInBounds_toArray, List.set_cons_zero, List.set_cons_succ]
      refine takeR (i := 1) (v := ?_) (some 19) rfl rfl (by kernel_rfl) (by kernel_rfl) (by kernel_rfl) (fun _ _ _ h => h) (Or.inl ⟨by rfl, ?_⟩) (by assumption) ?_
      rotate_left
      · intro w hSw; (try dsimp only at hSw); obtain ⟨s1, s2, s3⟩ := hSw; first | (go_simp; done) | (go_simp; with_reducible rfl)
      try simp only [Act.put, List.setIfInBounds_toArray, List.set_cons_zero, List.set_cons_succ]
      refine takeR (i := 2) (v := ?_) (some 20) rfl rfl (by kernel_rfl) (by kernel_rfl) (by kernel_rfl) (fun _ _ _ h => h) (Or.inl ⟨by rfl, ?_⟩) (by assumption) ?_
      rotate_left
      · intro w hSw; (try dsimp only at hSw); obtain ⟨s1, s2, s3⟩ := hSw; first | (go_simp; done) | (go_simp; with_reducible rfl)
      try simp only [Act.put, List.setIfInBounds_toArray, List.set_cons_zero, List.set_cons_succ]
      refine takeR (i := 3) (v := ?_) (some 21) rfl rfl (by kernel_rfl) (by kernel_rfl) (by kernel_rfl) (fun _ _ _ h => h) (Or.inl ⟨by rfl, ?_⟩) (by assumption) ?_
      rotate_left
      · intro w hSw; (try dsimp only at hSw); obtain ⟨s1, s2, s3⟩ := hSw; first | (go_simp; done) | (go_simp; with_reducible rfl)
      try simp only [Act.put, List.setIfInBounds_toArray, List.set_cons_zero, List.set_cons_succ]
      refine takeR (i := 4) (v := ?_) (some 22) rfl rfl (by kernel_rfl) (by kernel_rfl) (by kernel_rfl) (fun _ _ _ h => h) (Or.inl ⟨by rfl, ?_⟩) (by assumption) ?_
      rotate_left
      · intro w hSw; (try dsimp only at hSw); obtain ⟨s1, s2, s3⟩ := hSw; first | (go_simp; done) | (go_simp; with_reducible rfl)
      try simp only [Act.put, List.setIfInBounds_toArray, List.set_cons_zero, List.set_cons_succ]
      refine takeR (i := 5) (v := ?_) (some 23) rfl rfl (by kernel_rfl) (by kernel_rfl) (by kernel_rfl) (fun _ _ _ h => h) (Or.inl ⟨by rfl, ?_⟩) (by assumption) ?_
      rotate_left
      · intro w hSw; (try dsimp only at hSw); obtain ⟨s1, s2, s3⟩ := hSw; first | (go_simp; done) | (go_simp; with_reducible rfl)
      try simp only [Act.put, List.setIfInBounds_toArray, List.set_cons_zero, List.set_cons_succ]
      refine takeR (i := 6) (v := ?_) (some 24) rfl rfl (by kernel_rfl) (by kernel_rfl) (by kernel_rfl) (fun _ _ _ h => h) (Or.inl ⟨by rfl, ?_⟩) (by assumption) ?_
      rotate_left
      · intro w hSw; (try dsimp only at hSw); obtain ⟨s1, s2, s3⟩ := hSw; first | (go_simp; done) | (go_simp; with_reducible rfl)
      try simp only [Act.put, List.setIfInBounds_toArray, List.set_cons_zero, List.set_cons_succ]
      refine takeR (i := 7) (v := ?_) (some 25) rfl rfl (by kernel_rfl) (by kernel_rfl) (by kernel_rfl) (fun _ _ _ h => h) (Or.inl ⟨by rfl, ?_⟩) (by assumption) ?_
      rotate_left
      · intro w hSw; (try dsimp only at hSw); obtain ⟨s1, s2, s3⟩ := hSw; first | (go_simp; done) | (go_simp; with_reducible rfl)
      try simp only [Act.put, List.setIfInBounds_toArray, List.set_cons_zero, List.set_cons_succ]
      refine takeR (i := 9) (v := ?_) (some 27) rfl rfl (by kernel_rfl) (by kernel_rfl) (by kernel_rfl) (fun _ _ _ h => h) (Or.inl ⟨by rfl, ?_⟩) (by assumption) ?_
      rotate_left
      · intro w hSw; (try dsimp only at hSw); obtain ⟨s1, s2, s3⟩ := hSw; first | (go_simp; done) | (go_simp; with_reducible rfl)
      try simp only [Act.put, List.setIfInBounds_toArray, List.set_cons_zero, List.set_cons_succ]
      refine takeR (i := 10) (v := ?_) (some 28) rfl rfl (by kernel_rfl) (by kernel_rfl) (by kernel_rfl) (fun _ _ _ h => h) (Or.inl ⟨by rfl, ?_⟩) (by assumption) ?_
      rotate_left
      · intro w hSw; (try dsimp only at hSw); obtain ⟨s1, s2, s3⟩ := hSw; first | (go_simp; done) | (go_simp; with_reducible rfl)
      try simp only [Act.put, List.setIfInBounds_toArray, List.set_cons_zero, List.set_cons_succ]
      generalize W.drew = Wd at *
      clear HW
      refine wpAnyH_ready (rs := [8, 11]) (by kernel_rfl) (by simp) ?_
      refine AllReadyH.cons rfl (fun K hK => ?_) (AllReadyH.cons rfl (fun K hK => ?_) AllReadyH.nil)
      · go_simp
        refine hK.out _ _ ?_ (fun hHeld2 => ?_)
        · exact ⟨b0, b1, r0⟩
        clear hK K hHeld
        try simp only [Act.put, List.setIfInBounds_toArray, List.set_cons_zero, List.set_cons_succ]
        have hHeld := hHeld2; clear hHeld2
        refine wpAnyH_ready (rs := [11]) (by kernel_rfl) (by simp) ?_
        refine AllReadyH.cons rfl (fun K hK => ?_) AllReadyH.nil
        go_simp
        refine (cube_ct (x := x) St0.out (Kp0.out.blk Hreg.out Hfr.out) hrb (FA.out.rd Kp0.out HA.out) (FB.out.rd Kp0.out HB.out) (FA.out.kept Kp0.out) (FB.out.kept Kp0.out) Hx.out Hx'.out p3 p4 (by omega)).mono ?_
        rintro e w3 ⟨ms1, kc, rfl, hst1, hk1, hkc, hqc⟩
        go_simp
        have St1 := hide (hst1.mono (C' := C1) (by omega))
        have Kp1 := hide (Kp0.out.trans hk1)
        have hl1 : ns.length ≤ (ns ++ ms1).length := len_more _ _
        clear hst1 hk1
        have b01 := (Kp1.out.blk Hbx.out Hbf.out).cell 0
        have b11 := (Kp1.out.blk Hbx.out Hbf.out).cell 1
        have r01 := (Kp1.out.blk Hreg.out Hfr.out).cell 0
        have r11 := (Kp1.out.blk Hreg.out Hfr.out).cell 1
        simp only [List.getElem?_cons_zero, List.getElem?_cons_succ] at b01 b11 r01 r11
        refine hK.out _ _ ?_ (fun hHeld2 => ?_)
        · exact ⟨b01, b11, r01⟩
        clear hK K hHeld
        try simp only [Act.put, List.setIfInBounds_toArray, List.set_cons_zero, List.set_cons_succ]
        have hHeld := hHeld2; clear hHeld2
        refine wpAnyH_ready (rs := [12]) (by kernel_rfl) (by simp) ?_
        refine AllReadyH.cons rfl (fun K hK => ?_) AllReadyH.nil
        go_simp
        refine (Or_ct St1.out (a := all) (b := kc) (by omega) (by omega) (by omega)).mono ?_
        rintro e w4 ⟨ms2, kn, rfl, hst2, hk2, hkn, hqn⟩
        go_simp
        have St2 := hide (hst2.mono (C' := C2) (by omega))
        have Kp2 := hide (Kp1.out.trans hk2)
        have hl2 : (ns ++ ms1).length ≤ ((ns ++ ms1) ++ ms2).length := len_more _ _
        clear hst2 hk2
        have b02 := (Kp2.out.blk Hbx.out Hbf.out).cell 0
        have b12 := (Kp2.out.blk Hbx.out Hbf.out).cell 1
        have r02 := (Kp2.out.blk Hreg.out Hfr.out).cell 0
        have r12 := (Kp2.out.blk Hreg.out Hfr.out).cell 1
        simp only [List.getElem?_cons_zero, List.getElem?_cons_succ] at b02 b12 r02 r12
        refine hK.out _ _ ?_ (fun hHeld2 => ?_)
        · exact ⟨b02, b12, r02⟩
        clear hK K hHeld
        try simp only [Act.put, List.setIfInBounds_toArray, List.set_cons_zero, List.set_cons_succ]
        have hHeld := hHeld2; clear hHeld2
        have hreg4 := Kp2.out.blk Hreg.out Hfr.out
        have hfr4 := Kp2.out.free Hfr.out
        have hbx4 := Kp2.out.blk Hbx.out Hbf.out
        have hz1 := hreg4.frozen 1
        refine takeR (i := 13) (v := ?_) (some 31) rfl rfl (by kernel_rfl) (by kernel_rfl) (by kernel_rfl) (fun _ _ _ h => h) (Or.inl ⟨by rfl, ?_⟩) (by assumption) ?_
        rotate_left
        · intro w hSw; (try dsimp only at hSw); obtain ⟨s1, s2, s3⟩ := hSw; first | (go_simp; done) | (go_simp; with_reducible rfl)
        try simp only [Act.put, List.setIfInBounds_toArray, List.set_cons_zero, List.set_cons_succ]
        refine takeR (i := 14) (v := ?_) (some 32) rfl rfl (by kernel_rfl) (by kernel_rfl) (by kernel_rfl) (fun _ _ _ h => h) (Or.inl ⟨by rfl, ?_⟩) (by assumption) ?_
        rotate_left
        · intro w hSw; (try dsimp only at hSw); obtain ⟨s1, s2, s3⟩ := hSw; first | (go_simp; done) | (go_simp; with_reducible rfl)
        try simp only [Act.put, List.setIfInBounds_toArray, List.set_cons_zero, List.set_cons_succ]
        refine wpAnyH_ready (rs := [15]) (by kernel_rfl) (by simp) ?_
        refine AllReadyH.cons rfl (fun K hK => ?_) AllReadyH.nil
        go_simp
        have hc := Chg.set w4 RB 1 (.int .i64 (kn : Nat))
        have hreg5 := hreg4.set 1 (.int .i64 (kn : Nat))
        simp only [List.set_cons_zero, List.set_cons_succ] at hreg5
        have hbx5 := hc.blk hbx4 (by omega)
        have q0 := hbx5.cell 0
        have q1 := hbx5.cell 1
        have q2 := hreg5.cell 0
        simp only [List.getElem?_cons_zero, List.getElem?_cons_succ] at q0 q1 q2
        have hst5 := St2.out.chg hc (fun i e => by subst e; exact hfr4.2)
        have hlw5 : Below w.heap.size w (w4.setCell ⟨RB, 1, none⟩ (.int .i64 (kn : Nat))) := (HB0.out.trans (Kp2.out.below HB0.out.size)).setCell hw1 _
        refine hK.out _ _ ?_ (fun hHeld2 => ?_)
        · exact ⟨q0, q1, q2⟩
        clear hK K hHeld
        try simp only [Act.put, List.setIfInBounds_toArray, List.set_cons_zero, List.set_cons_succ]
        have hHeld := hHeld2; clear hHeld2
        refine wpAnyH_done (by kernel_rfl) ?_ _
        have Hst5 := hide hst5
        have Hreg5 := hide hreg5
        have Hlw5 := hide hlw5
        have Hqn := hide hqn
        have Hqc := hide hqc
        have Hok1 := hide St1.out.ok
        have Hok0 := hide St0.out.ok
        generalize w4.setCell ⟨RB, 1, none⟩ (.int .i64 (kn : Nat)) = w5 at *
        clear hst5 hreg5 hlw5 hqn hqc q0 q1 q2 hreg4 hfr4 hbx4 hbx5 hc hz1
        go_wp2_with fail
        go_roundw
        case rel =>
          refine ⟨k + 1, _, kn, C2, by omega, by go_num, Hst5.out, by omega, Hreg5.out, hkn, fun s => ?_, Hlw5.out⟩
          rw [Hqn.out, sem_add Hok0.out ms1 hall, Hq.out, Hqc.out, inR_take Hxk.out]
        case measure => simp [intOf]; omega
      · go_simp
        refine (cube_ct (x := x) St0.out (Kp0.out.blk Hreg.out Hfr.out) hrb (FA.out.rd Kp0.out HA.out) (FB.out.rd Kp0.out HB.out) (FA.out.kept Kp0.out) (FB.out.kept Kp0.out) Hx.out Hx'.out p3 p4 (by omega)).mono ?_
        rintro e w3 ⟨ms1, kc, rfl, hst1, hk1, hkc, hqc⟩
        go_simp
        have St1 := hide (hst1.mono (C' := C1) (by omega))
        have Kp1 := hide (Kp0.out.trans hk1)
        have hl1 : ns.length ≤ (ns ++ ms1).length := len_more _ _
        clear hst1 hk1
        have b01 := (Kp1.out.blk Hbx.out Hbf.out).cell 0
        have b11 := (Kp1.out.blk Hbx.out Hbf.out).cell 1
        have r01 := (Kp1.out.blk Hreg.out Hfr.out).cell 0
        have r11 := (Kp1.out.blk Hreg.out Hfr.out).cell 1
        simp only [List.getElem?_cons_zero, List.getElem?_cons_succ] at b01 b11 r01 r11
        refine hK.out _ _ ?_ (fun hHeld2 => ?_)
        · exact ⟨b01, b11, r01⟩
        clear hK K hHeld
        try simp only [Act.put, List.setIfInBounds_toArray, List.set_cons_zero, List.set_cons_succ]
        have hHeld := hHeld2; clear hHeld2
        refine wpAnyH_ready (rs := [8]) (by kernel_rfl) (by simp) ?_
        refine AllReadyH.cons rfl (fun K hK => ?_) AllReadyH.nil
        go_simp
        refine hK.out _ _ ?_ (fun hHeld2 => ?_)
        · exact ⟨b01, b11, r01⟩
        clear hK K hHeld
        try simp only [Act.put, List.setIfInBounds_toArray, List.set_cons_zero, List.set_cons_succ]
        have hHeld := hHeld2; clear hHeld2
        refine wpAnyH_ready (rs := [12]) (by kernel_rfl) (by simp) ?_
        refine AllReadyH.cons rfl (fun K hK => ?_) AllReadyH.nil
        go_simp
        refine (Or_ct St1.out (a := all) (b := kc) (by omega) (by omega) (by omega)).mono ?_
        rintro e w4 ⟨ms2, kn, rfl, hst2, hk2, hkn, hqn⟩
        go_simp
        have St2 := hide (hst2.mono (C' := C2) (by omega))
        have Kp2 := hide (Kp1.out.trans hk2)
        have hl2 : (ns ++ ms1).length ≤ ((ns ++ ms1) ++ ms2).length := len_more _ _
        clear hst2 hk2
        have b02 := (Kp2.out.blk Hbx.out Hbf.out).cell 0
        have b12 := (Kp2.out.blk Hbx.out Hbf.out).cell 1
        have r02 := (Kp2.out.blk Hreg.out Hfr.out).cell 0
        have r12 := (Kp2.out.blk Hreg.out Hfr.out).cell 1
        simp only [List.getElem?_cons_zero, List.getElem?_cons_succ] at b02 b12 r02 r12
        refine hK.out _ _ ?_ (fun hHeld2 => ?_)
        · exact ⟨b02, b12, r02⟩
        clear hK K hHeld
        try simp only [Act.put, List.setIfInBounds_toArray, List.set_cons_zero, List.set_cons_succ]
        have hHeld := hHeld2; clear hHeld2
        have hreg4 := Kp2.out.blk Hreg.out Hfr.out
        have hfr4 := Kp2.out.free Hfr.out
        have hbx4 := Kp2.out.blk Hbx.out Hbf.out
        have hz1 := hreg4.frozen 1
        refine takeR (i := 13) (v := ?_) (some 31) rfl rfl (by kernel_rfl) (by kernel_rfl) (by kernel_rfl) (fun _ _ _ h => h) (Or.inl ⟨by rfl, ?_⟩) (by assumption) ?_
        rotate_left
        · intro w hSw; (try dsimp only at hSw); obtain ⟨s1, s2, s3⟩ := hSw; first | (go_simp; done) | (go_simp; with_reducible rfl)
        try simp only [Act.put, List.setIfInBounds_toArray, List.set_cons_zero, List.set_cons_succ]
        refine takeR (i := 14) (v := ?_) (some 32) rfl rfl (by kernel_rfl) (by kernel_rfl) (by kernel_rfl) (fun _ _ _ h => h) (Or.inl ⟨by rfl, ?_⟩) (by assumption) ?_
        rotate_left
        · intro w hSw; (try dsimp only at hSw); obtain ⟨s1, s2, s3⟩ := hSw; first | (go_simp; done) | (go_simp; with_reducible rfl)
        try simp only [Act.put, List.setIfInBounds_toArray, List.set_cons_zero, List.set_cons_succ]
        refine wpAnyH_ready (rs := [15]) (by kernel_rfl) (by simp) ?_
        refine AllReadyH.cons rfl (fun K hK => ?_) AllReadyH.nil
        go_simp
        have hc := Chg.set w4 RB 1 (.int .i64 (kn : Nat))
        have hreg5 := hreg4.set 1 (.int .i64 (kn : Nat))
        simp only [List.set_cons_zero, List.set_cons_succ] at hreg5
        have hbx5 := hc.blk hbx4 (by omega)
        have q0 := hbx5.cell 0
        have q1 := hbx5.cell 1
        have q2 := hreg5.cell 0
        simp only [List.getElem?_cons_zero, List.getElem?_cons_succ] at q0 q1 q2
        have hst5 := St2.out.chg hc (fun i e => by subst e; exact hfr4.2)
        have hlw5 : Below w.heap.size w (w4.setCell ⟨RB, 1, none⟩ (.int .i64 (kn : Nat))) := (HB0.out.trans (Kp2.out.below HB0.out.size)).setCell hw1 _
        refine hK.out _ _ ?_ (fun hHeld2 => ?_)
        · exact ⟨q0, q1, q2⟩
        clear hK K hHeld
        try simp only [Act.put, List.setIfInBounds_toArray, List.set_cons_zero, List.set_cons_succ]
        have hHeld := hHeld2; clear hHeld2
        refine wpAnyH_done (by kernel_rfl) ?_ _
        have Hst5 := hide hst5
        have Hreg5 := hide hreg5
        have Hlw5 := hide hlw5
        have Hqn := hide hqn
        have Hqc := hide hqc
        have Hok1 := hide St1.out.ok
        have Hok0 := hide St0.out.ok
        generalize w4.setCell ⟨RB, 1, none⟩ (.int .i64 (kn : Nat)) = w5 at *
        clear hst5 hreg5 hlw5 hqn hqc q0 q1 q2 hreg4 hfr4 hbx4 hbx5 hc hz1
        go_wp2_with fail
        go_roundw
        case rel =>
          refine ⟨k + 1, _, kn, C2, by omega, by go_num, Hst5.out, by omega, Hreg5.out, hkn, fun s => ?_, Hlw5.out⟩
          rw [Hqn.out, sem_add Hok0.out ms1 hall, Hq.out, Hqc.out, inR_take Hxk.out]
        case measure => simp [intOf]; omega
    · obtain rfl : k = n := by omega
      have Hst := hide hst
      have Hreg := hide hreg
      clear hst hreg hq hlow
      go_wp2
      go_ret
      exact ⟨g, bf, bp, RB, ns, all, Ck, rfl, Hst.out, hCk, Hreg.out, hrb, hall, fun s => by rw [Hq.out, List.take_of_length_le (by omega)], Hlow.out⟩
end Go.Proofs.YtmjiiddncbhgpaaGreat
