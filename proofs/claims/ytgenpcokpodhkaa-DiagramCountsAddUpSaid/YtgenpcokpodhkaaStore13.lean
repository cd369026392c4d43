/- Count. -/
import Derived.Test.YtgenpcokpodhkaaStore12
namespace Go.Proofs.Ytgenpcokpodhkaa
open Go.RowKit Go.Maps

theorem CountStart {w : World} {L B g bf bp C : Nat} {ns : List BN} (h : St L B g bf bp w ns C) :
    ∀ V, V = (((w.alloc (.cells #[.pointer (some ⟨g, 0, none⟩)] 62)).alloc (.map #[] 0)).alloc (.cells #[.map (some (w.heap.size + 1))] 87)).alloc (.cells #[.func (Fn.func 68) #[] #[.pointer (some ⟨w.heap.size + 1 + 1, 0, none⟩), .pointer (some ⟨w.heap.size, 0, none⟩), .pointer (some ⟨w.heap.size + 1 + 1 + 1, 0, none⟩)]] 74) →
      (∃ np M, CAt L B g bf bp (w.heap.size + 1) (countX g (w.heap.size + 1) (w.heap.size + 1 + 1) w.heap.size (w.heap.size + 1 + 1 + 1)) V ns np M 0 (fun _ => none)) ∧ Below w.heap.size w V := by
  intro V hV
  have h4 : Below w.heap.size w V := by
    rw [hV]
    exact (below_three w _ _ _).alloc (by simp only [World.size_alloc]; omega) _
  have b0 : Blk 62 V w.heap.size [.pointer (some ⟨g, 0, none⟩)] := by
    rw [hV]
    exact (((Blk.new w _ [.pointer (some ⟨g, 0, none⟩)]).alloc _).alloc _).alloc _
  have hmap : Known V (w.heap.size + 1) 0 (fun _ => none) := by
    have := MapAt.made (w.alloc (.cells #[.pointer (some ⟨g, 0, none⟩)] 62)) Try.prog 3 3 encI
    simp only [World.size_alloc] at this
    rw [hV]
    exact (this.alloc _).alloc _
  have bk : Blk 87 V (w.heap.size + 1 + 1) [.map (some (w.heap.size + 1))] := by
    have := Blk.new ((w.alloc (.cells #[.pointer (some ⟨g, 0, none⟩)] 62)).alloc (.map #[] 0)) 87 [.map (some (w.heap.size + 1))]
    simp only [World.size_alloc] at this
    rw [hV]
    exact this.alloc _
  have bw : Blk 74 V (w.heap.size + 1 + 1 + 1) [.func (Fn.func 68) #[] #[.pointer (some ⟨w.heap.size + 1 + 1, 0, none⟩), .pointer (some ⟨w.heap.size, 0, none⟩), .pointer (some ⟨w.heap.size + 1 + 1 + 1, 0, none⟩)]] := by
    have := Blk.new (((w.alloc (.cells #[.pointer (some ⟨g, 0, none⟩)] 62)).alloc (.map #[] 0)).alloc (.cells #[.map (some (w.heap.size + 1))] 87)) 74 [.func (Fn.func 68) #[] #[.pointer (some ⟨w.heap.size + 1 + 1, 0, none⟩), .pointer (some ⟨w.heap.size, 0, none⟩), .pointer (some ⟨w.heap.size + 1 + 1 + 1, 0, none⟩)]]
    simp only [World.size_alloc] at this
    rw [hV]
    exact this
  obtain ⟨_, ok, np, M, _, c4, _⟩ := h
  have c5 := c4.keep h4
  obtain ⟨es, cl, hm⟩ := hmap.isMap
  refine ⟨⟨np, M, c5, ok, fun x hx => ?_, ⟨0, by omega, hmap⟩, c5.free_map hm (by have := c4.found.lt; omega) (by have := c4.pairs.lt; omega), fun k c hc => by cases hc⟩, h4⟩
  simp only [List.mem_cons, List.not_mem_nil, or_false] at hx
  rcases hx with rfl | rfl | rfl
  · exact bk
  · exact b0
  · exact bw

set_option maxHeartbeats 1600000 in
theorem Count_ct {L B g bf bp : Nat} {w : World} {ns : List BN} {C a : Nat} (h : St L B g bf bp w ns C) (ha : a < ns.length + 2) :
    Calls Try.prog 56 #[.pointer (some ⟨g, 0, none⟩), .int .i64 a] w (Gives w (.int .i64 (count L ns a : Nat))) := by
  have hm1 := fun w => run_makeMap (P := Try.prog) 87 w
  have hlow := h.low
  have hlv := lvl_le h.ok a
  have hp := pow_le hlow
  have hc1 : cnt L ns a ≤ 16777216 := Nat.le_trans (cnt_le a) (Nat.le_trans (Nat.pow_le_pow_right (by omega) (show L - lvl L ns a ≤ 24 by omega)) (by decide))
  have hx1 : cnt L ns a * 2 ^ lvl L ns a ≤ 16777216 * 16777216 := Nat.mul_le_mul hc1 (Nat.le_trans (Nat.pow_le_pow_right (by omega) (show lvl L ns a ≤ 24 by omega)) (by decide))
  have hwr : IntKind.i64.wrap ((cnt L ns a : Int) * 2 ^ lvl L ns a) = (count L ns a : Nat) := by
    have h2 : (cnt L ns a : Int) * 2 ^ lvl L ns a = ((count L ns a : Nat) : Int) := by simp [count]
    rw [h2]
    exact IntWalk.i64_in _ (by unfold count; omega)
  have Hwr := hide hwr
  have hz3 := CountStart h
  have Hz := hide hz3
  clear hz3 h hx1 hc1 hwr
  go_enter Try.func56, Try.ntmps56
  go_wp2_with fail
  obtain ⟨V, hV⟩ : ∃ V, V = (((w.alloc (.cells #[.pointer (some ⟨g, 0, none⟩)] 62)).alloc (.map #[] 0)).alloc (.cells #[.map (some (w.heap.size + 1))] 87)).alloc (.cells #[.func (Fn.func 68) #[] #[.pointer (some ⟨w.heap.size + 1 + 1, 0, none⟩), .pointer (some ⟨w.heap.size, 0, none⟩), .pointer (some ⟨w.heap.size + 1 + 1 + 1, 0, none⟩)]] 74) := ⟨_, rfl⟩
  rw [← hV]
  obtain ⟨⟨np, M, hw⟩, hbV⟩ := Hz.out V hV
  have hcs := (hw.box (62, w.heap.size, [.pointer (some ⟨g, 0, none⟩)]) (by simp)).cell 0
  have hcw := (hw.box (74, w.heap.size + 1 + 1 + 1, [.func (Fn.func 68) #[] #[.pointer (some ⟨w.heap.size + 1 + 1, 0, none⟩), .pointer (some ⟨w.heap.size, 0, none⟩), .pointer (some ⟨w.heap.size + 1 + 1 + 1, 0, none⟩)]]) (by simp)).cell 0
  have hlw := (hw.box (74, w.heap.size + 1 + 1 + 1, [.func (Fn.func 68) #[] #[.pointer (some ⟨w.heap.size + 1 + 1, 0, none⟩), .pointer (some ⟨w.heap.size, 0, none⟩), .pointer (some ⟨w.heap.size + 1 + 1 + 1, 0, none⟩)]]) (by simp)).lt
  simp only [List.getElem?_cons_zero] at hcs hcw hlw
  have Hw := hide hw
  have HbV := hide hbV
  clear hV Hz hw hbV
  go_cut [4] (fun s4 wc => s4 = .int .i64 (count L ns a : Nat) ∧ Below w.heap.size w wc)
  case first =>
    go_region_held3 (fun w' => w'.cell? ⟨w.heap.size, 0, none⟩ = some (.pointer (some ⟨g, 0, none⟩)) ∧ w'.cell? ⟨w.heap.size + 1 + 1 + 1, 0, none⟩ = some (.func (Fn.func 68) #[] #[.pointer (some ⟨w.heap.size + 1 + 1, 0, none⟩), .pointer (some ⟨w.heap.size, 0, none⟩), .pointer (some ⟨w.heap.size + 1 + 1 + 1, 0, none⟩)])) (first | go_keep) (first
      | (go_at_call 68
         refine (CountWalk_ct L a _ 0 _ (Nat.sub_le _ _) ha (by omega) (Hw.out.keep (Below.refl V.heap.size V).drew)).mono ?_
         rintro e w1 ⟨rfl, ⟨K1, hw1⟩, hk1⟩
         have he4 := (hw1.box (62, w.heap.size, [.pointer (some ⟨g, 0, none⟩)]) (by simp)).cell 0
         have he5 := (hw1.box (74, w.heap.size + 1 + 1 + 1, [.func (Fn.func 68) #[] #[.pointer (some ⟨w.heap.size + 1 + 1, 0, none⟩), .pointer (some ⟨w.heap.size, 0, none⟩), .pointer (some ⟨w.heap.size + 1 + 1 + 1, 0, none⟩)]]) (by simp)).cell 0
         simp only [List.getElem?_cons_zero] at he4 he5
         have Hlev := hide (level_ct hw1.st ha)
         have Hk1 := hide (below_only HbV.out (only_trans (only_below (Below.refl V.heap.size V).drew (some (w.heap.size + 1))) hk1) HbV.out.size (by omega))
         clear hw1 hk1)
      | (go_at_call 67
         refine Hlev.out.mono ?_
         rintro e w1' ⟨rfl, rfl⟩))
    go_wp2_with fail
    go_meet
    exact ⟨by rw [Hwr.out], Hk1.out⟩
  case rest =>
    obtain ⟨rfl, hb⟩ := hcut
    have Hb := hide hb
    clear hb hcs hcw
    go_wp2
    go_ret
    exact ⟨rfl, Hb.out⟩
end Go.Proofs.Ytgenpcokpodhkaa
