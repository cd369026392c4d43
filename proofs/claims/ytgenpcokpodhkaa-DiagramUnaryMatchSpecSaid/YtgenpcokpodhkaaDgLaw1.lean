/- Contract of the laws' example. -/
import Derived.Test.YtgenpcokpodhkaaDgLaw1c
namespace Go.Proofs.Ytgenpcokpodhkaa
open Go.RowKit Go.Maps

set_option maxHeartbeats 6400000 in
set_option maxRecDepth 100000 in
theorem example_ct (w : World) : Calls Try.prog 10 #[] w (Gives w (.bool true)) := by
  go_enter Try.func10, Try.ntmps10
  go_wp2_with fail
  have hb0 := below_two w (.cells #[.int .i64 1] 3) (.cells #[.slice (some ⟨w.heap.size, 0, none⟩) 1 1] 48)
  have hc := Of_d 1 _ 1 1 [[1]] _ (by omega) (lit_rd2 w)
  rw [ex_of] at hc
  refine hc.mono ?_
  clear hc
  intro e w1 hp
  obtain ⟨A1, n1, c1, rfl, hr1, hb⟩ := hp.open_
  have HB := hide (hb0.trans (hb.mono hb0.size))
  have Hr1 := hide hr1
  have HX : Hid (Bxs w1 []) := hide (fun x hx => by cases hx)
  clear hp hr1 hb hb0
  go_wp2_with fail
  obtain ⟨W1, hW⟩ : ∃ W, W = (w1.alloc (.cells #[(.int .i64 1), (.slice A1 n1 c1), (.int .i64 2)] 30)).alloc (.cells #[(.int .i64 0), (.int .i64 0)] 25) := ⟨_, rfl⟩
  rw [← hW]
  have hbW : Below w1.heap.size w1 W1 := by rw [hW]; exact below_two _ _ _
  have hX : Bxs W1 [(25, w1.heap.size + 1, [(.int .i64 0), (.int .i64 0)]), (30, w1.heap.size, [(.int .i64 1), (.slice A1 n1 c1), (.int .i64 2)])] := by
    rw [hW]
    have h1 := (HX.out.push 30 [(.int .i64 1), (.slice A1 n1 c1), (.int .i64 2)]).push 25 [(.int .i64 0), (.int .i64 0)]
    simp only [World.size_alloc] at h1
    exact h1
  have HB2 := hide (HB.out.trans (hbW.mono HB.out.size))
  clear HB
  have HB := HB2
  clear HB2
  have Hr1' := hide (Hr1.out.keep hbW)
  clear Hr1
  have Hr1 := Hr1'
  clear Hr1'
  have HX2 := hide hX
  clear HX
  have HX := HX2
  clear HX2
  clear hW hbW hX
  refine (node_ct W1).mono ?_
  intro e w2 hp
  obtain ⟨N2, m2, k2, rfl, hr, hb⟩ := hp.open_
  have HB2 := hide (HB.out.trans (hb.mono HB.out.size))
  clear HB
  have HB := HB2
  clear HB2
  have Hr1' := hide (Hr1.out.keep hb)
  clear Hr1
  have Hr1 := Hr1'
  clear Hr1'
  have HX2 := hide (HX.out.keep hb)
  clear HX
  have HX := HX2
  clear HX2
  have Hn2 := hide hr
  clear hp hr hb
  go_wp2_with fail
  have hc := Not_d 1 N2 m2 k2 nd 2 w2 (by omega) (by omega) Hn2.out
  rw [ex_not] at hc
  refine hc.mono ?_
  clear hc
  intro e w3 hp
  obtain ⟨A3, n3, c3, rfl, hr, hb⟩ := hp.open_
  have HB2 := hide (HB.out.trans (hb.mono HB.out.size))
  clear HB
  have HB := HB2
  clear HB2
  have Hr1' := hide (Hr1.out.keep hb)
  clear Hr1
  have Hr1 := Hr1'
  clear Hr1'
  have Hn2' := hide (Hn2.out.keep hb)
  clear Hn2
  have Hn2 := Hn2'
  clear Hn2'
  have HX2 := hide (HX.out.keep hb)
  clear HX
  have HX := HX2
  clear HX2
  have Hr3 := hide hr
  clear hp hr hb
  go_wp2_with fail
  obtain ⟨W3, hW⟩ : ∃ W, W = (w3.alloc (.cells #[(.int .i64 1), (.slice A3 n3 c3), (.int .i64 2)] 30)).alloc (.cells #[(.int .i64 0), (.int .i64 0)] 25) := ⟨_, rfl⟩
  rw [← hW]
  have hbW : Below w3.heap.size w3 W3 := by rw [hW]; exact below_two _ _ _
  have hX : Bxs W3 [(25, w3.heap.size + 1, [(.int .i64 0), (.int .i64 0)]), (30, w3.heap.size, [(.int .i64 1), (.slice A3 n3 c3), (.int .i64 2)]), (25, w1.heap.size + 1, [(.int .i64 0), (.int .i64 0)]), (30, w1.heap.size, [(.int .i64 1), (.slice A1 n1 c1), (.int .i64 2)])] := by
    rw [hW]
    have h1 := (HX.out.push 30 [(.int .i64 1), (.slice A3 n3 c3), (.int .i64 2)]).push 25 [(.int .i64 0), (.int .i64 0)]
    simp only [World.size_alloc] at h1
    exact h1
  have HB2 := hide (HB.out.trans (hbW.mono HB.out.size))
  clear HB
  have HB := HB2
  clear HB2
  have Hr1' := hide (Hr1.out.keep hbW)
  clear Hr1
  have Hr1 := Hr1'
  clear Hr1'
  have Hn2' := hide (Hn2.out.keep hbW)
  clear Hn2
  have Hn2 := Hn2'
  clear Hn2'
  have Hr3' := hide (Hr3.out.keep hbW)
  clear Hr3
  have Hr3 := Hr3'
  clear Hr3'
  have HX2 := hide hX
  clear HX
  have HX := HX2
  clear HX2
  clear hW hbW hX
  refine (node_ct W3).mono ?_
  intro e w4 hp
  obtain ⟨N4, m4, k4, rfl, hr, hb⟩ := hp.open_
  have HB2 := hide (HB.out.trans (hb.mono HB.out.size))
  clear HB
  have HB := HB2
  clear HB2
  have Hr1' := hide (Hr1.out.keep hb)
  clear Hr1
  have Hr1 := Hr1'
  clear Hr1'
  have Hn2' := hide (Hn2.out.keep hb)
  clear Hn2
  have Hn2 := Hn2'
  clear Hn2'
  have Hr3' := hide (Hr3.out.keep hb)
  clear Hr3
  have Hr3 := Hr3'
  clear Hr3'
  have HX2 := hide (HX.out.keep hb)
  clear HX
  have HX := HX2
  clear HX2
  have Hn4 := hide hr
  clear hp hr hb
  go_wp2_with fail
  have hc := Count_d 1 N4 m4 k4 nd 2 w4 (by omega) (by omega) Hn4.out
  rw [ex_count] at hc
  refine hc.mono ?_
  clear hc
  rintro e w5 ⟨rfl, hb⟩
  simp only [faultV]
  have HB2 := hide (HB.out.trans (hb.mono HB.out.size))
  clear HB
  have HB := HB2
  clear HB2
  have Hr1' := hide (Hr1.out.keep hb)
  clear Hr1
  have Hr1 := Hr1'
  clear Hr1'
  have Hn2' := hide (Hn2.out.keep hb)
  clear Hn2
  have Hn2 := Hn2'
  clear Hn2'
  have Hr3' := hide (Hr3.out.keep hb)
  clear Hr3
  have Hr3 := Hr3'
  clear Hr3'
  have Hn4' := hide (Hn4.out.keep hb)
  clear Hn4
  have Hn4 := Hn4'
  clear Hn4'
  have HX2 := hide (HX.out.keep hb)
  clear HX
  have HX := HX2
  clear HX2
  clear hb
  go_wp2_with fail
  obtain ⟨W5, hW⟩ : ∃ W, W = w5.alloc (.cells #[(.int .i64 0), (.int .i64 0)] 25) := ⟨_, rfl⟩
  rw [← hW]
  have hbW : Below w5.heap.size w5 W5 := by rw [hW]; exact (Below.refl _ _).alloc (Nat.le_refl _) _
  have hX : Bxs W5 [(25, w5.heap.size, [(.int .i64 0), (.int .i64 0)]), (25, w3.heap.size + 1, [(.int .i64 0), (.int .i64 0)]), (30, w3.heap.size, [(.int .i64 1), (.slice A3 n3 c3), (.int .i64 2)]), (25, w1.heap.size + 1, [(.int .i64 0), (.int .i64 0)]), (30, w1.heap.size, [(.int .i64 1), (.slice A1 n1 c1), (.int .i64 2)])] := by
    rw [hW]
    exact HX.out.push 25 [(.int .i64 0), (.int .i64 0)]
  have HB2 := hide (HB.out.trans (hbW.mono HB.out.size))
  clear HB
  have HB := HB2
  clear HB2
  have Hr1' := hide (Hr1.out.keep hbW)
  clear Hr1
  have Hr1 := Hr1'
  clear Hr1'
  have Hn2' := hide (Hn2.out.keep hbW)
  clear Hn2
  have Hn2 := Hn2'
  clear Hn2'
  have Hr3' := hide (Hr3.out.keep hbW)
  clear Hr3
  have Hr3 := Hr3'
  clear Hr3'
  have Hn4' := hide (Hn4.out.keep hbW)
  clear Hn4
  have Hn4 := Hn4'
  clear Hn4'
  have HX2 := hide hX
  clear HX
  have HX := HX2
  clear HX2
  clear hW hbW hX
  refine (node_ct W5).mono ?_
  intro e w6 hp
  obtain ⟨N6, m6, k6, rfl, hr, hb⟩ := hp.open_
  have HB2 := hide (HB.out.trans (hb.mono HB.out.size))
  clear HB
  have HB := HB2
  clear HB2
  have Hr1' := hide (Hr1.out.keep hb)
  clear Hr1
  have Hr1 := Hr1'
  clear Hr1'
  have Hn2' := hide (Hn2.out.keep hb)
  clear Hn2
  have Hn2 := Hn2'
  clear Hn2'
  have Hr3' := hide (Hr3.out.keep hb)
  clear Hr3
  have Hr3 := Hr3'
  clear Hr3'
  have Hn4' := hide (Hn4.out.keep hb)
  clear Hn4
  have Hn4 := Hn4'
  clear Hn4'
  have HX2 := hide (HX.out.keep hb)
  clear HX
  have HX := HX2
  clear HX2
  have Hn6 := hide hr
  clear hp hr hb
  go_wp2_with fail
  have hc := Pick_d 1 N6 m6 k6 nd 2 w6 (by omega) (by omega) Hn6.out
  rw [ex_pick] at hc
  refine hc.mono ?_
  clear hc
  rintro e w7 ⟨⟨A7, n7, c7, rfl, hr⟩, hb⟩
  simp only [faultV]
  have HB2 := hide (HB.out.trans (hb.mono HB.out.size))
  clear HB
  have HB := HB2
  clear HB2
  have Hr1' := hide (Hr1.out.keep hb)
  clear Hr1
  have Hr1 := Hr1'
  clear Hr1'
  have Hn2' := hide (Hn2.out.keep hb)
  clear Hn2
  have Hn2 := Hn2'
  clear Hn2'
  have Hr3' := hide (Hr3.out.keep hb)
  clear Hr3
  have Hr3 := Hr3'
  clear Hr3'
  have Hn4' := hide (Hn4.out.keep hb)
  clear Hn4
  have Hn4 := Hn4'
  clear Hn4'
  have Hn6' := hide (Hn6.out.keep hb)
  clear Hn6
  have Hn6 := Hn6'
  clear Hn6'
  have HX2 := hide (HX.out.keep hb)
  clear HX
  have HX := HX2
  clear HX2
  have Hr7 := hide hr
  clear hr hb
  go_wp2_with fail
  obtain ⟨W7, hW⟩ : ∃ W, W = w7.alloc (.cells #[(.int .i64 0), (.int .i64 0)] 25) := ⟨_, rfl⟩
  rw [← hW]
  have hbW : Below w7.heap.size w7 W7 := by rw [hW]; exact (Below.refl _ _).alloc (Nat.le_refl _) _
  have hX : Bxs W7 [(25, w7.heap.size, [(.int .i64 0), (.int .i64 0)]), (25, w5.heap.size, [(.int .i64 0), (.int .i64 0)]), (25, w3.heap.size + 1, [(.int .i64 0), (.int .i64 0)]), (30, w3.heap.size, [(.int .i64 1), (.slice A3 n3 c3), (.int .i64 2)]), (25, w1.heap.size + 1, [(.int .i64 0), (.int .i64 0)]), (30, w1.heap.size, [(.int .i64 1), (.slice A1 n1 c1), (.int .i64 2)])] := by
    rw [hW]
    exact HX.out.push 25 [(.int .i64 0), (.int .i64 0)]
  have HB2 := hide (HB.out.trans (hbW.mono HB.out.size))
  clear HB
  have HB := HB2
  clear HB2
  have Hr1' := hide (Hr1.out.keep hbW)
  clear Hr1
  have Hr1 := Hr1'
  clear Hr1'
  have Hn2' := hide (Hn2.out.keep hbW)
  clear Hn2
  have Hn2 := Hn2'
  clear Hn2'
  have Hr3' := hide (Hr3.out.keep hbW)
  clear Hr3
  have Hr3 := Hr3'
  clear Hr3'
  have Hn4' := hide (Hn4.out.keep hbW)
  clear Hn4
  have Hn4 := Hn4'
  clear Hn4'
  have Hn6' := hide (Hn6.out.keep hbW)
  clear Hn6
  have Hn6 := Hn6'
  clear Hn6'
  have Hr7' := hide (Hr7.out.keep hbW)
  clear Hr7
  have Hr7 := Hr7'
  clear Hr7'
  have HX2 := hide hX
  clear HX
  have HX := HX2
  clear HX2
  clear hW hbW hX
  refine (node_ct W7).mono ?_
  intro e w8 hp
  obtain ⟨N8, m8, k8, rfl, hr, hb⟩ := hp.open_
  have HB2 := hide (HB.out.trans (hb.mono HB.out.size))
  clear HB
  have HB := HB2
  clear HB2
  have Hr1' := hide (Hr1.out.keep hb)
  clear Hr1
  have Hr1 := Hr1'
  clear Hr1'
  have Hn2' := hide (Hn2.out.keep hb)
  clear Hn2
  have Hn2 := Hn2'
  clear Hn2'
  have Hr3' := hide (Hr3.out.keep hb)
  clear Hr3
  have Hr3 := Hr3'
  clear Hr3'
  have Hn4' := hide (Hn4.out.keep hb)
  clear Hn4
  have Hn4 := Hn4'
  clear Hn4'
  have Hn6' := hide (Hn6.out.keep hb)
  clear Hn6
  have Hn6 := Hn6'
  clear Hn6'
  have Hr7' := hide (Hr7.out.keep hb)
  clear Hr7
  have Hr7 := Hr7'
  clear Hr7'
  have HX2 := hide (HX.out.keep hb)
  clear HX
  have HX := HX2
  clear HX2
  have Hn8 := hide hr
  clear hp hr hb
  go_wp2_with fail
  have hbl : Below w8.heap.size w8 (w8.alloc (.cells #[.int .i64 0] 3)) := (Below.refl _ _).alloc (Nat.le_refl _) _
  have hc := Eval_d 1 N8 m8 k8 nd 2 _ 1 1 [0] _ (by omega) (by omega) (Hn8.out.keep hbl) (lit_rd1 w8 0 (by omega))
  rw [ex_eval] at hc
  refine hc.mono ?_
  clear hc
  rintro e w9 ⟨rfl, hb'⟩
  simp only [faultV]
  have hb := hbl.trans (hb'.mono hbl.size)
  clear hb' hbl
  have HB2 := hide (HB.out.trans (hb.mono HB.out.size))
  clear HB
  have HB := HB2
  clear HB2
  have Hr1' := hide (Hr1.out.keep hb)
  clear Hr1
  have Hr1 := Hr1'
  clear Hr1'
  have Hn2' := hide (Hn2.out.keep hb)
  clear Hn2
  have Hn2 := Hn2'
  clear Hn2'
  have Hr3' := hide (Hr3.out.keep hb)
  clear Hr3
  have Hr3 := Hr3'
  clear Hr3'
  have Hn4' := hide (Hn4.out.keep hb)
  clear Hn4
  have Hn4 := Hn4'
  clear Hn4'
  have Hn6' := hide (Hn6.out.keep hb)
  clear Hn6
  have Hn6 := Hn6'
  clear Hn6'
  have Hr7' := hide (Hr7.out.keep hb)
  clear Hr7
  have Hr7 := Hr7'
  clear Hr7'
  have Hn8' := hide (Hn8.out.keep hb)
  clear Hn8
  have Hn8 := Hn8'
  clear Hn8'
  have HX2 := hide (HX.out.keep hb)
  clear HX
  have HX := HX2
  clear HX2
  clear hb
  go_wp2_with fail
  obtain ⟨W9, hW⟩ : ∃ W, W = w9.alloc (.cells #[(.int .i64 0), (.int .i64 0)] 25) := ⟨_, rfl⟩
  rw [← hW]
  have hbW : Below w9.heap.size w9 W9 := by rw [hW]; exact (Below.refl _ _).alloc (Nat.le_refl _) _
  have hX : Bxs W9 [(25, w9.heap.size, [(.int .i64 0), (.int .i64 0)]), (25, w7.heap.size, [(.int .i64 0), (.int .i64 0)]), (25, w5.heap.size, [(.int .i64 0), (.int .i64 0)]), (25, w3.heap.size + 1, [(.int .i64 0), (.int .i64 0)]), (30, w3.heap.size, [(.int .i64 1), (.slice A3 n3 c3), (.int .i64 2)]), (25, w1.heap.size + 1, [(.int .i64 0), (.int .i64 0)]), (30, w1.heap.size, [(.int .i64 1), (.slice A1 n1 c1), (.int .i64 2)])] := by
    rw [hW]
    exact HX.out.push 25 [(.int .i64 0), (.int .i64 0)]
  have HB2 := hide (HB.out.trans (hbW.mono HB.out.size))
  clear HB
  have HB := HB2
  clear HB2
  have Hr1' := hide (Hr1.out.keep hbW)
  clear Hr1
  have Hr1 := Hr1'
  clear Hr1'
  have Hn2' := hide (Hn2.out.keep hbW)
  clear Hn2
  have Hn2 := Hn2'
  clear Hn2'
  have Hr3' := hide (Hr3.out.keep hbW)
  clear Hr3
  have Hr3 := Hr3'
  clear Hr3'
  have Hn4' := hide (Hn4.out.keep hbW)
  clear Hn4
  have Hn4 := Hn4'
  clear Hn4'
  have Hn6' := hide (Hn6.out.keep hbW)
  clear Hn6
  have Hn6 := Hn6'
  clear Hn6'
  have Hr7' := hide (Hr7.out.keep hbW)
  clear Hr7
  have Hr7 := Hr7'
  clear Hr7'
  have Hn8' := hide (Hn8.out.keep hbW)
  clear Hn8
  have Hn8 := Hn8'
  clear Hn8'
  have HX2 := hide hX
  clear HX
  have HX := HX2
  clear HX2
  clear hW hbW hX
  refine (node_ct W9).mono ?_
  intro e w10 hp
  obtain ⟨N10, m10, k10, rfl, hr, hb⟩ := hp.open_
  have HB2 := hide (HB.out.trans (hb.mono HB.out.size))
  clear HB
  have HB := HB2
  clear HB2
  have Hr1' := hide (Hr1.out.keep hb)
  clear Hr1
  have Hr1 := Hr1'
  clear Hr1'
  have Hn2' := hide (Hn2.out.keep hb)
  clear Hn2
  have Hn2 := Hn2'
  clear Hn2'
  have Hr3' := hide (Hr3.out.keep hb)
  clear Hr3
  have Hr3 := Hr3'
  clear Hr3'
  have Hn4' := hide (Hn4.out.keep hb)
  clear Hn4
  have Hn4 := Hn4'
  clear Hn4'
  have Hn6' := hide (Hn6.out.keep hb)
  clear Hn6
  have Hn6 := Hn6'
  clear Hn6'
  have Hr7' := hide (Hr7.out.keep hb)
  clear Hr7
  have Hr7 := Hr7'
  clear Hr7'
  have Hn8' := hide (Hn8.out.keep hb)
  clear Hn8
  have Hn8 := Hn8'
  clear Hn8'
  have HX2 := hide (HX.out.keep hb)
  clear HX
  have HX := HX2
  clear HX2
  have Hn10 := hide hr
  clear hp hr hb
  go_wp2_with fail
  refine (node_ct w10).mono ?_
  intro e w11 hp
  obtain ⟨N11, m11, k11, rfl, hr, hb⟩ := hp.open_
  have HB2 := hide (HB.out.trans (hb.mono HB.out.size))
  clear HB
  have HB := HB2
  clear HB2
  have Hr1' := hide (Hr1.out.keep hb)
  clear Hr1
  have Hr1 := Hr1'
  clear Hr1'
  have Hn2' := hide (Hn2.out.keep hb)
  clear Hn2
  have Hn2 := Hn2'
  clear Hn2'
  have Hr3' := hide (Hr3.out.keep hb)
  clear Hr3
  have Hr3 := Hr3'
  clear Hr3'
  have Hn4' := hide (Hn4.out.keep hb)
  clear Hn4
  have Hn4 := Hn4'
  clear Hn4'
  have Hn6' := hide (Hn6.out.keep hb)
  clear Hn6
  have Hn6 := Hn6'
  clear Hn6'
  have Hr7' := hide (Hr7.out.keep hb)
  clear Hr7
  have Hr7 := Hr7'
  clear Hr7'
  have Hn8' := hide (Hn8.out.keep hb)
  clear Hn8
  have Hn8 := Hn8'
  clear Hn8'
  have Hn10' := hide (Hn10.out.keep hb)
  clear Hn10
  have Hn10 := Hn10'
  clear Hn10'
  have HX2 := hide (HX.out.keep hb)
  clear HX
  have HX := HX2
  clear HX2
  have Hn11 := hide hr
  clear hp hr hb
  go_wp2_with fail
  have hc := And_d 1 N10 m10 k10 nd 2 1 N11 m11 k11 nd 2 w11 (by omega) (by omega) (by omega) (by omega) Hn10.out Hn11.out
  rw [ex_and] at hc
  refine hc.mono ?_
  clear hc
  intro e w12 hp
  obtain ⟨A12, n12, c12, rfl, hr, hb⟩ := hp.open_
  have HB2 := hide (HB.out.trans (hb.mono HB.out.size))
  clear HB
  have HB := HB2
  clear HB2
  have Hr1' := hide (Hr1.out.keep hb)
  clear Hr1
  have Hr1 := Hr1'
  clear Hr1'
  have Hn2' := hide (Hn2.out.keep hb)
  clear Hn2
  have Hn2 := Hn2'
  clear Hn2'
  have Hr3' := hide (Hr3.out.keep hb)
  clear Hr3
  have Hr3 := Hr3'
  clear Hr3'
  have Hn4' := hide (Hn4.out.keep hb)
  clear Hn4
  have Hn4 := Hn4'
  clear Hn4'
  have Hn6' := hide (Hn6.out.keep hb)
  clear Hn6
  have Hn6 := Hn6'
  clear Hn6'
  have Hr7' := hide (Hr7.out.keep hb)
  clear Hr7
  have Hr7 := Hr7'
  clear Hr7'
  have Hn8' := hide (Hn8.out.keep hb)
  clear Hn8
  have Hn8 := Hn8'
  clear Hn8'
  have Hn10' := hide (Hn10.out.keep hb)
  clear Hn10
  have Hn10 := Hn10'
  clear Hn10'
  have Hn11' := hide (Hn11.out.keep hb)
  clear Hn11
  have Hn11 := Hn11'
  clear Hn11'
  have HX2 := hide (HX.out.keep hb)
  clear HX
  have HX := HX2
  clear HX2
  have Hr12 := hide hr
  clear hp hr hb
  go_wp2_with fail
  obtain ⟨W12, hW⟩ : ∃ W, W = (w12.alloc (.cells #[(.int .i64 1), (.slice A12 n12 c12), (.int .i64 2)] 30)).alloc (.cells #[(.int .i64 0), (.int .i64 0)] 25) := ⟨_, rfl⟩
  rw [← hW]
  have hbW : Below w12.heap.size w12 W12 := by rw [hW]; exact below_two _ _ _
  have hX : Bxs W12 [(25, w12.heap.size + 1, [(.int .i64 0), (.int .i64 0)]), (30, w12.heap.size, [(.int .i64 1), (.slice A12 n12 c12), (.int .i64 2)]), (25, w9.heap.size, [(.int .i64 0), (.int .i64 0)]), (25, w7.heap.size, [(.int .i64 0), (.int .i64 0)]), (25, w5.heap.size, [(.int .i64 0), (.int .i64 0)]), (25, w3.heap.size + 1, [(.int .i64 0), (.int .i64 0)]), (30, w3.heap.size, [(.int .i64 1), (.slice A3 n3 c3), (.int .i64 2)]), (25, w1.heap.size + 1, [(.int .i64 0), (.int .i64 0)]), (30, w1.heap.size, [(.int .i64 1), (.slice A1 n1 c1), (.int .i64 2)])] := by
    rw [hW]
    have h1 := (HX.out.push 30 [(.int .i64 1), (.slice A12 n12 c12), (.int .i64 2)]).push 25 [(.int .i64 0), (.int .i64 0)]
    simp only [World.size_alloc] at h1
    exact h1
  have HB2 := hide (HB.out.trans (hbW.mono HB.out.size))
  clear HB
  have HB := HB2
  clear HB2
  have Hr1' := hide (Hr1.out.keep hbW)
  clear Hr1
  have Hr1 := Hr1'
  clear Hr1'
  have Hn2' := hide (Hn2.out.keep hbW)
  clear Hn2
  have Hn2 := Hn2'
  clear Hn2'
  have Hr3' := hide (Hr3.out.keep hbW)
  clear Hr3
  have Hr3 := Hr3'
  clear Hr3'
  have Hn4' := hide (Hn4.out.keep hbW)
  clear Hn4
  have Hn4 := Hn4'
  clear Hn4'
  have Hn6' := hide (Hn6.out.keep hbW)
  clear Hn6
  have Hn6 := Hn6'
  clear Hn6'
  have Hr7' := hide (Hr7.out.keep hbW)
  clear Hr7
  have Hr7 := Hr7'
  clear Hr7'
  have Hn8' := hide (Hn8.out.keep hbW)
  clear Hn8
  have Hn8 := Hn8'
  clear Hn8'
  have Hn10' := hide (Hn10.out.keep hbW)
  clear Hn10
  have Hn10 := Hn10'
  clear Hn10'
  have Hn11' := hide (Hn11.out.keep hbW)
  clear Hn11
  have Hn11 := Hn11'
  clear Hn11'
  have Hr12' := hide (Hr12.out.keep hbW)
  clear Hr12
  have Hr12 := Hr12'
  clear Hr12'
  have HX2 := hide hX
  clear HX
  have HX := HX2
  clear HX2
  clear hW hbW hX
  have hq0 := HX.out (30, w3.heap.size, [(.int .i64 1), (.slice A3 n3 c3), (.int .i64 2)]) (by simp)
  refine ex_r7 _ _ _ _ _ _ _ _ _ _ _ _ _ _ _ _ _ _ _ _ _ _ _ _ _ _ _ _ _ _ _ _ _ _ _ _ _ _ _ _ _ _ _ _ _ _ _ _ _ _ _ _ _ _ _ _ _ _ _ _ _ _ _ _ _ _ _ _ _ _ _ _ _ _ _ _ _ _ _ _ _ _ _ _ _ _ _ _ _ _ _ _ _ _ _ _ _ _ _ _ _ _ _ _ _ _ _ _ _ _ _ _ _ _ _ _ _ _ _ _ _ _ _ _ _ _ _ _ _ _ _ _ _ _ _ _ _ _ _ _ _ hq0 Hr3.out ?_
  intro g14 g15 v52 v53 v54 v55 v56 v57 wc h14 h15 l14 l15 hbc
  clear hq0
  have HB2 := hide (HB.out.trans (hbc.mono HB.out.size))
  clear HB
  have HB := HB2
  clear HB2
  have Hr1' := hide (Hr1.out.keep hbc)
  clear Hr1
  have Hr1 := Hr1'
  clear Hr1'
  have Hn2' := hide (Hn2.out.keep hbc)
  clear Hn2
  have Hn2 := Hn2'
  clear Hn2'
  have Hr3' := hide (Hr3.out.keep hbc)
  clear Hr3
  have Hr3 := Hr3'
  clear Hr3'
  have Hn4' := hide (Hn4.out.keep hbc)
  clear Hn4
  have Hn4 := Hn4'
  clear Hn4'
  have Hn6' := hide (Hn6.out.keep hbc)
  clear Hn6
  have Hn6 := Hn6'
  clear Hn6'
  have Hr7' := hide (Hr7.out.keep hbc)
  clear Hr7
  have Hr7 := Hr7'
  clear Hr7'
  have Hn8' := hide (Hn8.out.keep hbc)
  clear Hn8
  have Hn8 := Hn8'
  clear Hn8'
  have Hn10' := hide (Hn10.out.keep hbc)
  clear Hn10
  have Hn10 := Hn10'
  clear Hn10'
  have Hn11' := hide (Hn11.out.keep hbc)
  clear Hn11
  have Hn11 := Hn11'
  clear Hn11'
  have Hr12' := hide (Hr12.out.keep hbc)
  clear Hr12
  have Hr12 := Hr12'
  clear Hr12'
  have HX2 := hide (HX.out.keep hbc)
  clear HX
  have HX := HX2
  clear HX2
  have H14 := hide (And.intro h14 (And.intro h15 (And.intro l14 l15)))
  clear h14 h15 l14 l15 hbc
  go_wp2_with fail
  refine (node_ct wc).mono ?_
  intro e w13 hp
  obtain ⟨N13, m13, k13, rfl, hr, hb⟩ := hp.open_
  have HB2 := hide (HB.out.trans (hb.mono HB.out.size))
  clear HB
  have HB := HB2
  clear HB2
  have Hr1' := hide (Hr1.out.keep hb)
  clear Hr1
  have Hr1 := Hr1'
  clear Hr1'
  have Hn2' := hide (Hn2.out.keep hb)
  clear Hn2
  have Hn2 := Hn2'
  clear Hn2'
  have Hr3' := hide (Hr3.out.keep hb)
  clear Hr3
  have Hr3 := Hr3'
  clear Hr3'
  have Hn4' := hide (Hn4.out.keep hb)
  clear Hn4
  have Hn4 := Hn4'
  clear Hn4'
  have Hn6' := hide (Hn6.out.keep hb)
  clear Hn6
  have Hn6 := Hn6'
  clear Hn6'
  have Hr7' := hide (Hr7.out.keep hb)
  clear Hr7
  have Hr7 := Hr7'
  clear Hr7'
  have Hn8' := hide (Hn8.out.keep hb)
  clear Hn8
  have Hn8 := Hn8'
  clear Hn8'
  have Hn10' := hide (Hn10.out.keep hb)
  clear Hn10
  have Hn10 := Hn10'
  clear Hn10'
  have Hn11' := hide (Hn11.out.keep hb)
  clear Hn11
  have Hn11 := Hn11'
  clear Hn11'
  have Hr12' := hide (Hr12.out.keep hb)
  clear Hr12
  have Hr12 := Hr12'
  clear Hr12'
  have HX2 := hide (HX.out.keep hb)
  clear HX
  have HX := HX2
  clear HX2
  have H14' := hide (And.intro ((hb.cell (p := ⟨g14, 2, none⟩) H14.out.2.2.1).trans H14.out.1) (And.intro ((hb.cell (p := ⟨g15, 0, none⟩) H14.out.2.2.2).trans H14.out.2.1) (And.intro (Nat.lt_of_lt_of_le H14.out.2.2.1 hb.size) (Nat.lt_of_lt_of_le H14.out.2.2.2 hb.size))))
  clear H14
  have H14 := H14'
  clear H14'
  have Hn13 := hide hr
  clear hp hr hb
  go_wp2_with fail
  have hc := Exists_d 1 0 N13 m13 k13 nd 2 w13 (by omega) (by omega) (by omega) Hn13.out
  rw [ex_exists] at hc
  refine hc.mono ?_
  clear hc
  intro e w14 hp
  obtain ⟨A14, n14, c14, rfl, hr, hb⟩ := hp.open_
  have HB2 := hide (HB.out.trans (hb.mono HB.out.size))
  clear HB
  have HB := HB2
  clear HB2
  have Hr1' := hide (Hr1.out.keep hb)
  clear Hr1
  have Hr1 := Hr1'
  clear Hr1'
  have Hn2' := hide (Hn2.out.keep hb)
  clear Hn2
  have Hn2 := Hn2'
  clear Hn2'
  have Hr3' := hide (Hr3.out.keep hb)
  clear Hr3
  have Hr3 := Hr3'
  clear Hr3'
  have Hn4' := hide (Hn4.out.keep hb)
  clear Hn4
  have Hn4 := Hn4'
  clear Hn4'
  have Hn6' := hide (Hn6.out.keep hb)
  clear Hn6
  have Hn6 := Hn6'
  clear Hn6'
  have Hr7' := hide (Hr7.out.keep hb)
  clear Hr7
  have Hr7 := Hr7'
  clear Hr7'
  have Hn8' := hide (Hn8.out.keep hb)
  clear Hn8
  have Hn8 := Hn8'
  clear Hn8'
  have Hn10' := hide (Hn10.out.keep hb)
  clear Hn10
  have Hn10 := Hn10'
  clear Hn10'
  have Hn11' := hide (Hn11.out.keep hb)
  clear Hn11
  have Hn11 := Hn11'
  clear Hn11'
  have Hr12' := hide (Hr12.out.keep hb)
  clear Hr12
  have Hr12 := Hr12'
  clear Hr12'
  have Hn13' := hide (Hn13.out.keep hb)
  clear Hn13
  have Hn13 := Hn13'
  clear Hn13'
  have HX2 := hide (HX.out.keep hb)
  clear HX
  have HX := HX2
  clear HX2
  have H14' := hide (And.intro ((hb.cell (p := ⟨g14, 2, none⟩) H14.out.2.2.1).trans H14.out.1) (And.intro ((hb.cell (p := ⟨g15, 0, none⟩) H14.out.2.2.2).trans H14.out.2.1) (And.intro (Nat.lt_of_lt_of_le H14.out.2.2.1 hb.size) (Nat.lt_of_lt_of_le H14.out.2.2.2 hb.size))))
  clear H14
  have H14 := H14'
  clear H14'
  clear hp hr hb
  have bb0 := HX.out (25, w12.heap.size + 1, [(.int .i64 0), (.int .i64 0)]) (by simp)
  have bc0_0 := bb0.cell 0
  have bc0_1 := bb0.cell 1
  have bl0 := bb0.lt
  simp only [List.getElem?_cons_zero, List.getElem?_cons_succ] at bl0 bc0_0 bc0_1
  clear bb0
  have bb1 := HX.out (30, w12.heap.size, [(.int .i64 1), (.slice A12 n12 c12), (.int .i64 2)]) (by simp)
  have bc1_0 := bb1.cell 0
  have bc1_1 := bb1.cell 1
  have bc1_2 := bb1.cell 2
  have bl1 := bb1.lt
  simp only [List.getElem?_cons_zero, List.getElem?_cons_succ] at bl1 bc1_0 bc1_1 bc1_2
  clear bb1
  have bb2 := HX.out (25, w9.heap.size, [(.int .i64 0), (.int .i64 0)]) (by simp)
  have bc2_0 := bb2.cell 0
  have bc2_1 := bb2.cell 1
  have bl2 := bb2.lt
  simp only [List.getElem?_cons_zero, List.getElem?_cons_succ] at bl2 bc2_0 bc2_1
  clear bb2
  have bb3 := HX.out (25, w7.heap.size, [(.int .i64 0), (.int .i64 0)]) (by simp)
  have bc3_0 := bb3.cell 0
  have bc3_1 := bb3.cell 1
  have bl3 := bb3.lt
  simp only [List.getElem?_cons_zero, List.getElem?_cons_succ] at bl3 bc3_0 bc3_1
  clear bb3
  have bb4 := HX.out (25, w5.heap.size, [(.int .i64 0), (.int .i64 0)]) (by simp)
  have bc4_0 := bb4.cell 0
  have bc4_1 := bb4.cell 1
  have bl4 := bb4.lt
  simp only [List.getElem?_cons_zero, List.getElem?_cons_succ] at bl4 bc4_0 bc4_1
  clear bb4
  have bb5 := HX.out (25, w3.heap.size + 1, [(.int .i64 0), (.int .i64 0)]) (by simp)
  have bc5_0 := bb5.cell 0
  have bc5_1 := bb5.cell 1
  have bl5 := bb5.lt
  simp only [List.getElem?_cons_zero, List.getElem?_cons_succ] at bl5 bc5_0 bc5_1
  clear bb5
  have bb6 := HX.out (30, w3.heap.size, [(.int .i64 1), (.slice A3 n3 c3), (.int .i64 2)]) (by simp)
  have bc6_0 := bb6.cell 0
  have bc6_1 := bb6.cell 1
  have bc6_2 := bb6.cell 2
  have bl6 := bb6.lt
  simp only [List.getElem?_cons_zero, List.getElem?_cons_succ] at bl6 bc6_0 bc6_1 bc6_2
  clear bb6
  have bb7 := HX.out (25, w1.heap.size + 1, [(.int .i64 0), (.int .i64 0)]) (by simp)
  have bc7_0 := bb7.cell 0
  have bc7_1 := bb7.cell 1
  have bl7 := bb7.lt
  simp only [List.getElem?_cons_zero, List.getElem?_cons_succ] at bl7 bc7_0 bc7_1
  clear bb7
  have bb8 := HX.out (30, w1.heap.size, [(.int .i64 1), (.slice A1 n1 c1), (.int .i64 2)]) (by simp)
  have bc8_0 := bb8.cell 0
  have bc8_1 := bb8.cell 1
  have bc8_2 := bb8.cell 2
  have bl8 := bb8.lt
  simp only [List.getElem?_cons_zero, List.getElem?_cons_succ] at bl8 bc8_0 bc8_1 bc8_2
  clear bb8
  obtain ⟨f14, f15, fl14, fl15⟩ := H14.out
  go_wp2_with fail
  obtain ⟨W14, hW⟩ : ∃ W, W = (w14.alloc (.cells #[(.int .i64 1), (.slice A14 n14 c14), (.int .i64 1)] 30)).alloc (.cells #[(.int .i64 0), (.int .i64 0)] 25) := ⟨_, rfl⟩
  rw [← hW]
  have hbW : Below w14.heap.size w14 W14 := by rw [hW]; exact below_two _ _ _
  have hX : Bxs W14 [(25, w14.heap.size + 1, [(.int .i64 0), (.int .i64 0)]), (30, w14.heap.size, [(.int .i64 1), (.slice A14 n14 c14), (.int .i64 1)]), (25, w12.heap.size + 1, [(.int .i64 0), (.int .i64 0)]), (30, w12.heap.size, [(.int .i64 1), (.slice A12 n12 c12), (.int .i64 2)]), (25, w9.heap.size, [(.int .i64 0), (.int .i64 0)]), (25, w7.heap.size, [(.int .i64 0), (.int .i64 0)]), (25, w5.heap.size, [(.int .i64 0), (.int .i64 0)]), (25, w3.heap.size + 1, [(.int .i64 0), (.int .i64 0)]), (30, w3.heap.size, [(.int .i64 1), (.slice A3 n3 c3), (.int .i64 2)]), (25, w1.heap.size + 1, [(.int .i64 0), (.int .i64 0)]), (30, w1.heap.size, [(.int .i64 1), (.slice A1 n1 c1), (.int .i64 2)])] := by
    rw [hW]
    have h1 := (HX.out.push 30 [(.int .i64 1), (.slice A14 n14 c14), (.int .i64 1)]).push 25 [(.int .i64 0), (.int .i64 0)]
    simp only [World.size_alloc] at h1
    exact h1
  have HB2 := hide (HB.out.trans (hbW.mono HB.out.size))
  clear HB
  have HB := HB2
  clear HB2
  have Hr1' := hide (Hr1.out.keep hbW)
  clear Hr1
  have Hr1 := Hr1'
  clear Hr1'
  have Hn2' := hide (Hn2.out.keep hbW)
  clear Hn2
  have Hn2 := Hn2'
  clear Hn2'
  have Hr3' := hide (Hr3.out.keep hbW)
  clear Hr3
  have Hr3 := Hr3'
  clear Hr3'
  have Hn4' := hide (Hn4.out.keep hbW)
  clear Hn4
  have Hn4 := Hn4'
  clear Hn4'
  have Hn6' := hide (Hn6.out.keep hbW)
  clear Hn6
  have Hn6 := Hn6'
  clear Hn6'
  have Hr7' := hide (Hr7.out.keep hbW)
  clear Hr7
  have Hr7 := Hr7'
  clear Hr7'
  have Hn8' := hide (Hn8.out.keep hbW)
  clear Hn8
  have Hn8 := Hn8'
  clear Hn8'
  have Hn10' := hide (Hn10.out.keep hbW)
  clear Hn10
  have Hn10 := Hn10'
  clear Hn10'
  have Hn11' := hide (Hn11.out.keep hbW)
  clear Hn11
  have Hn11 := Hn11'
  clear Hn11'
  have Hr12' := hide (Hr12.out.keep hbW)
  clear Hr12
  have Hr12 := Hr12'
  clear Hr12'
  have Hn13' := hide (Hn13.out.keep hbW)
  clear Hn13
  have Hn13 := Hn13'
  clear Hn13'
  have HX2 := hide hX
  clear HX
  have HX := HX2
  clear HX2
  have H14' := hide (And.intro ((hbW.cell (p := ⟨g14, 2, none⟩) H14.out.2.2.1).trans H14.out.1) (And.intro ((hbW.cell (p := ⟨g15, 0, none⟩) H14.out.2.2.2).trans H14.out.2.1) (And.intro (Nat.lt_of_lt_of_le H14.out.2.2.1 hbW.size) (Nat.lt_of_lt_of_le H14.out.2.2.2 hbW.size))))
  clear H14
  have H14 := H14'
  clear H14'
  clear hW hbW hX
  clear bl0 bc0_0 bc0_1 bl1 bc1_0 bc1_1 bc1_2 bl2 bc2_0 bc2_1 bl3 bc3_0 bc3_1 bl4 bc4_0 bc4_1 bl5 bc5_0 bc5_1 bl6 bc6_0 bc6_1 bc6_2 bl7 bc7_0 bc7_1 bl8 bc8_0 bc8_1 bc8_2
  clear f14 f15 fl14 fl15
  have hP : ExP A1 n1 c1 A12 n12 c12 A7 n7 c7 w1.heap.size w12.heap.size [w1.heap.size + 1, w3.heap.size + 1, w5.heap.size, w7.heap.size, w9.heap.size, w12.heap.size + 1, g15, w14.heap.size + 1] [g14, w14.heap.size] w W14 := by
    refine ⟨HX.out (30, w1.heap.size, [(.int .i64 1), (.slice A1 n1 c1), (.int .i64 2)]) (by simp), HX.out (30, w12.heap.size, [(.int .i64 1), (.slice A12 n12 c12), (.int .i64 2)]) (by simp), fun b hb => ?_, fun b hb => ?_, Hr1.out, Hr12.out, Hr7.out, HB.out⟩
    · simp only [List.mem_cons, List.not_mem_nil, or_false] at hb
      rcases hb with rfl | rfl | rfl | rfl | rfl | rfl | rfl | rfl
      · exact ⟨(HX.out (25, w1.heap.size + 1, [(.int .i64 0), (.int .i64 0)]) (by simp)).cell 0, (HX.out (25, w1.heap.size + 1, [(.int .i64 0), (.int .i64 0)]) (by simp)).lt⟩
      · exact ⟨(HX.out (25, w3.heap.size + 1, [(.int .i64 0), (.int .i64 0)]) (by simp)).cell 0, (HX.out (25, w3.heap.size + 1, [(.int .i64 0), (.int .i64 0)]) (by simp)).lt⟩
      · exact ⟨(HX.out (25, w5.heap.size, [(.int .i64 0), (.int .i64 0)]) (by simp)).cell 0, (HX.out (25, w5.heap.size, [(.int .i64 0), (.int .i64 0)]) (by simp)).lt⟩
      · exact ⟨(HX.out (25, w7.heap.size, [(.int .i64 0), (.int .i64 0)]) (by simp)).cell 0, (HX.out (25, w7.heap.size, [(.int .i64 0), (.int .i64 0)]) (by simp)).lt⟩
      · exact ⟨(HX.out (25, w9.heap.size, [(.int .i64 0), (.int .i64 0)]) (by simp)).cell 0, (HX.out (25, w9.heap.size, [(.int .i64 0), (.int .i64 0)]) (by simp)).lt⟩
      · exact ⟨(HX.out (25, w12.heap.size + 1, [(.int .i64 0), (.int .i64 0)]) (by simp)).cell 0, (HX.out (25, w12.heap.size + 1, [(.int .i64 0), (.int .i64 0)]) (by simp)).lt⟩
      · exact ⟨H14.out.2.1, H14.out.2.2.2⟩
      · exact ⟨(HX.out (25, w14.heap.size + 1, [(.int .i64 0), (.int .i64 0)]) (by simp)).cell 0, (HX.out (25, w14.heap.size + 1, [(.int .i64 0), (.int .i64 0)]) (by simp)).lt⟩
    · simp only [List.mem_cons, List.not_mem_nil, or_false] at hb
      rcases hb with rfl | rfl
      · exact ⟨H14.out.1, H14.out.2.2.1⟩
      · exact ⟨(HX.out (30, w14.heap.size, [(.int .i64 1), (.slice A14 n14 c14), (.int .i64 1)]) (by simp)).cell 2, (HX.out (30, w14.heap.size, [(.int .i64 1), (.slice A14 n14 c14), (.int .i64 1)]) (by simp)).lt⟩
  have HP := hide hP
  clear HX HB H14 Hr1 Hr3 Hr12 Hr7 Hn2 Hn4 Hn6 Hn8 Hn10 Hn11 Hn13
  refine ex_r9 _ _ _ _ _ _ _ _ _ _ _ _ _ _ _ _ _ _ _ _ _ _ _ _ _ _ _ _ _ _ _ _ _ _ _ _ _ _ _ _ _ _ _ _ _ _ _ _ _ _ _ _ _ _ _ _ _ _ _ _ _ _ _ _ _ _ _ _ _ _ _ _ _ _ _ _ _ _ _ _ _ _ _ _ _ _ _ _ _ _ _ _ _ _ _ _ _ _ _ _ _ _ _ _ _ _ _ _ _ _ _ _ _ _ _ _ _ _ _ _ _ _ _ _ _ _ hP ?_
  intro v63 v64 v65 v66 v67 v68 v69 v70 v71 v72 v73 v74 v75 v76 v77 v78 v79 v80 v81 v82 v83 v84 v85 v86 v87 v88 v89 v90 v91 v92 v93 v94 v95 v96 v97 v98 v99 v100 v101 v102 v103 v104 v105 v106 v107 v108 v109 v110 v111 v112 v113 v114 v115 v116 v117 v118 v119 v120 v121 v122 v123 v124 v125 v126 v127 v128 v129 v130 v131 v132 v133 v134 v135 v136 v137 v138 v139 v140 v141 w' hb'
  have Hb' := hide hb'
  clear hb' hP HP
  go_wp2
  go_ret
  exact ⟨rfl, Hb'.out⟩
end Go.Proofs.Ytgenpcokpodhkaa
