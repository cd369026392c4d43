/- Exists. -/
import Derived.Test.YtgenpcokpodhkaaStore10
namespace Go.Proofs.Ytgenpcokpodhkaa
open Go.RowKit Go.Maps

theorem ExistsStart {w : World} {L B g bf bp C lv : Nat} {ns : List BN} (h : St L B g bf bp w ns C) :
    ∀ V, V = ((((w.alloc (.cells #[.pointer (some ⟨g, 0, none⟩)] 62)).alloc (.cells #[.int .i64 lv] 3)).alloc (.map #[] 0)).alloc (.cells #[.map (some (w.heap.size + 1 + 1))] 87)).alloc (.cells #[.func (Fn.func 66) #[] #[.pointer (some ⟨w.heap.size, 0, none⟩), .pointer (some ⟨w.heap.size + 1, 0, none⟩), .pointer (some ⟨w.heap.size + 1 + 1 + 1, 0, none⟩), .pointer (some ⟨w.heap.size + 1 + 1 + 1 + 1, 0, none⟩)]] 74) →
      NAt (existsF lv) L B g bf bp (w.heap.size + 1 + 1) (existsX g (w.heap.size + 1 + 1) lv (w.heap.size + 1 + 1 + 1) w.heap.size (w.heap.size + 1) (w.heap.size + 1 + 1 + 1 + 1)) V ns C (fun _ => none) ∧ Below w.heap.size w V := by
  intro V hV
  have h4 : Below w.heap.size w V := by
    rw [hV]
    exact (((below_three w _ _ _).alloc (by simp only [World.size_alloc]; omega) _).alloc (by simp only [World.size_alloc]; omega) _)
  have b0 : Blk 62 V w.heap.size [.pointer (some ⟨g, 0, none⟩)] := by
    rw [hV]
    exact ((((Blk.new w _ [.pointer (some ⟨g, 0, none⟩)]).alloc _).alloc _).alloc _).alloc _
  have b1 : Blk 3 V (w.heap.size + 1) [.int .i64 lv] := by
    have := Blk.new (w.alloc (.cells #[.pointer (some ⟨g, 0, none⟩)] 62)) 3 [.int .i64 lv]
    simp only [World.size_alloc] at this
    rw [hV]
    exact ((this.alloc _).alloc _).alloc _
  have hmap : Known V (w.heap.size + 1 + 1) 0 (fun _ => none) := by
    have := MapAt.made ((w.alloc (.cells #[.pointer (some ⟨g, 0, none⟩)] 62)).alloc (.cells #[.int .i64 lv] 3)) Try.prog 3 3 encI
    simp only [World.size_alloc] at this
    rw [hV]
    exact (this.alloc _).alloc _
  have bk : Blk 87 V (w.heap.size + 1 + 1 + 1) [.map (some (w.heap.size + 1 + 1))] := by
    have := Blk.new (((w.alloc (.cells #[.pointer (some ⟨g, 0, none⟩)] 62)).alloc (.cells #[.int .i64 lv] 3)).alloc (.map #[] 0)) 87 [.map (some (w.heap.size + 1 + 1))]
    simp only [World.size_alloc] at this
    rw [hV]
    exact this.alloc _
  have bw : Blk 74 V (w.heap.size + 1 + 1 + 1 + 1) [.func (Fn.func 66) #[] #[.pointer (some ⟨w.heap.size, 0, none⟩), .pointer (some ⟨w.heap.size + 1, 0, none⟩), .pointer (some ⟨w.heap.size + 1 + 1 + 1, 0, none⟩), .pointer (some ⟨w.heap.size + 1 + 1 + 1 + 1, 0, none⟩)]] := by
    have := Blk.new ((((w.alloc (.cells #[.pointer (some ⟨g, 0, none⟩)] 62)).alloc (.cells #[.int .i64 lv] 3)).alloc (.map #[] 0)).alloc (.cells #[.map (some (w.heap.size + 1 + 1))] 87)) 74 [.func (Fn.func 66) #[] #[.pointer (some ⟨w.heap.size, 0, none⟩), .pointer (some ⟨w.heap.size + 1, 0, none⟩), .pointer (some ⟨w.heap.size + 1 + 1 + 1, 0, none⟩), .pointer (some ⟨w.heap.size + 1 + 1 + 1 + 1, 0, none⟩)]]
    simp only [World.size_alloc] at this
    rw [hV]
    exact this
  have hst := h.keep h4
  refine ⟨⟨hst, fun x hx => ?_, fun x hx => ?_, ⟨0, by omega, hmap⟩, ⟨?_, by have := h.base; omega⟩, fun k c hc => by cases hc⟩, h4⟩
  · simp only [List.mem_cons, List.not_mem_nil, or_false] at hx
    rcases hx with rfl | rfl | rfl | rfl
    · exact bk
    · exact b0
    · exact b1
    · exact bw
  · simp only [List.mem_cons, List.not_mem_nil, or_false] at hx
    rcases hx with rfl | rfl | rfl | rfl <;> exact ⟨(by dsimp only; decide), (by dsimp only; decide)⟩
  · obtain ⟨_, _, np, M, _, c4, _⟩ := h
    obtain ⟨es, cl, hm⟩ := hmap.isMap
    obtain ⟨_, _, np', M', _, c5, _⟩ := hst
    exact c5.free_map hm (by have := c4.found.lt; omega) (by have := c4.pairs.lt; omega)

set_option maxHeartbeats 1600000 in
theorem Exists_ct {L B g bf bp : Nat} {w : World} {ns : List BN} {C a lv : Nat} (h : St L B g bf bp w ns C) (ha : a < ns.length + 2) (hlv : lv < L) (hC : C + 33554434 ≤ 1000000000000) :
    Calls Try.prog 55 #[.pointer (some ⟨g, 0, none⟩), .int .i64 a, .int .i64 lv] w (StP L B g bf bp w ns (C + 33554434) fun ns' k => ∀ s, sem ns' k s = existsF lv (sem ns a) s) := by
  have hm1 := fun w => run_makeMap (P := Try.prog) 87 w
  have hlow := h.low
  have hz3 := ExistsStart (lv := lv) h
  have Hz := hide hz3
  have Hst := hide h
  clear hz3 h
  go_enter Try.func55, Try.ntmps55
  go_wp2_with fail
  obtain ⟨V, hV⟩ : ∃ V, V = ((((w.alloc (.cells #[.pointer (some ⟨g, 0, none⟩)] 62)).alloc (.cells #[.int .i64 lv] 3)).alloc (.map #[] 0)).alloc (.cells #[.map (some (w.heap.size + 1 + 1))] 87)).alloc (.cells #[.func (Fn.func 66) #[] #[.pointer (some ⟨w.heap.size, 0, none⟩), .pointer (some ⟨w.heap.size + 1, 0, none⟩), .pointer (some ⟨w.heap.size + 1 + 1 + 1, 0, none⟩), .pointer (some ⟨w.heap.size + 1 + 1 + 1 + 1, 0, none⟩)]] 74) := ⟨_, rfl⟩
  rw [← hV]
  obtain ⟨hw, hbV⟩ := Hz.out V hV
  clear hV Hz
  have hp := pow_le hlow
  refine (ExistsWalk_ct hlv L a V ns _ _ (Nat.sub_le _ _) ha (by omega) hw).mono ?_
  rintro e w3 ⟨ms, k, K', rfl, _, hw3, hk3, hl3, hq3⟩
  have hf : StP L B g bf bp w ns (C + 33554434) (fun ns' k => ∀ s, sem ns' k s = existsF lv (sem ns a) s) (.returned (.int .i64 (k : Nat))) w3 :=
    ⟨ms, k, rfl, hw3.st.mono (by omega), (Kept.of_below hbV Hst.out.lt).trans2 hk3 (by omega), hl3, hq3⟩
  have Hf := hide hf
  clear hf hw3 hk3 hq3 hw hbV
  go_wp2
  go_ret
  exact Hf.out
end Go.Proofs.Ytgenpcokpodhkaa
