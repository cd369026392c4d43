/- The laws' example task. -/
import Derived.Test.YtnfeknfakkdbhaaMc8
import Derived.Test.YtnfeknfakkdbhaaLit
namespace Go.Proofs.Ytnfeknfakkdbhaa
set_option linter.unusedVariables false
set_option linter.unusedSimpArgs false
open Go.RowKit

def mT : Tsk := ⟨2, [], [1], [⟨[], [0], [], 1⟩, ⟨[0], [1], [0], 2⟩]⟩
def MTaskP (w : World) (e : Ending) (w' : World) : Prop := Below w.heap.size w w' ∧ ∃ a : TA, e = .returned (taskV mT a) ∧ TkR w' a mT
theorem one_low {w : World} {g : Nat} {x : Int} (hb : Blk 3 w g [.int .i64 x]) (hx : -1000 ≤ x ∧ x ≤ 1000) : Rd Enc.int w (some ⟨g, 0, none⟩) 1 1 [x] :=
  Rd.lit_ints [x] hb (by simp) (fun y hy => by simp at hy; subst hy; exact hx)
theorem mtask_mem (w : World) (X0 : Obj) : MTaskP w (.returned (.agg #[.int .i64 2, .slice none 0 0, .slice (some ⟨w.heap.size + 1, 0, none⟩) 1 1, .slice (some ⟨w.heap.size + 1 + 1 + 1 + 1 + 1 + 1, 0, none⟩) 2 2])) (((((((w.alloc X0).alloc (.cells #[.int .i64 1] 3)).alloc (.cells #[.int .i64 0] 3)).alloc (.cells #[.int .i64 0] 3)).alloc (.cells #[.int .i64 1] 3)).alloc (.cells #[.int .i64 0] 3)).alloc (.cells #[.slice none 0 0, .slice (some ⟨w.heap.size + 1 + 1, 0, none⟩) 1 1, .slice none 0 0, .int .i64 1, .slice (some ⟨w.heap.size + 1 + 1 + 1, 0, none⟩) 1 1, .slice (some ⟨w.heap.size + 1 + 1 + 1 + 1, 0, none⟩) 1 1, .slice (some ⟨w.heap.size + 1 + 1 + 1 + 1 + 1, 0, none⟩) 1 1, .int .i64 2] 27)) := by
  have b1 := Blk.new (w.alloc X0) 3 [.int .i64 1]
  have b2 := Blk.new ((w.alloc X0).alloc (.cells #[.int .i64 1] 3)) 3 [.int .i64 0]
  have b3 := Blk.new (((w.alloc X0).alloc (.cells #[.int .i64 1] 3)).alloc (.cells #[.int .i64 0] 3)) 3 [.int .i64 0]
  have b4 := Blk.new ((((w.alloc X0).alloc (.cells #[.int .i64 1] 3)).alloc (.cells #[.int .i64 0] 3)).alloc (.cells #[.int .i64 0] 3)) 3 [.int .i64 1]
  have b5 := Blk.new (((((w.alloc X0).alloc (.cells #[.int .i64 1] 3)).alloc (.cells #[.int .i64 0] 3)).alloc (.cells #[.int .i64 0] 3)).alloc (.cells #[.int .i64 1] 3)) 3 [.int .i64 0]
  have b6 := Blk.new ((((((w.alloc X0).alloc (.cells #[.int .i64 1] 3)).alloc (.cells #[.int .i64 0] 3)).alloc (.cells #[.int .i64 0] 3)).alloc (.cells #[.int .i64 1] 3)).alloc (.cells #[.int .i64 0] 3)) 27 [.slice none 0 0, .slice (some ⟨w.heap.size + 1 + 1, 0, none⟩) 1 1, .slice none 0 0, .int .i64 1, .slice (some ⟨w.heap.size + 1 + 1 + 1, 0, none⟩) 1 1, .slice (some ⟨w.heap.size + 1 + 1 + 1 + 1, 0, none⟩) 1 1, .slice (some ⟨w.heap.size + 1 + 1 + 1 + 1 + 1, 0, none⟩) 1 1, .int .i64 2]
  simp only [World.size_alloc] at b1 b2 b3 b4 b5 b6
  have d1 := (((((b1.alloc (.cells #[.int .i64 0] 3)).alloc (.cells #[.int .i64 0] 3)).alloc (.cells #[.int .i64 1] 3)).alloc (.cells #[.int .i64 0] 3)).alloc (.cells #[.slice none 0 0, .slice (some ⟨w.heap.size + 1 + 1, 0, none⟩) 1 1, .slice none 0 0, .int .i64 1, .slice (some ⟨w.heap.size + 1 + 1 + 1, 0, none⟩) 1 1, .slice (some ⟨w.heap.size + 1 + 1 + 1 + 1, 0, none⟩) 1 1, .slice (some ⟨w.heap.size + 1 + 1 + 1 + 1 + 1, 0, none⟩) 1 1, .int .i64 2] 27))
  have d2 := ((((b2.alloc (.cells #[.int .i64 0] 3)).alloc (.cells #[.int .i64 1] 3)).alloc (.cells #[.int .i64 0] 3)).alloc (.cells #[.slice none 0 0, .slice (some ⟨w.heap.size + 1 + 1, 0, none⟩) 1 1, .slice none 0 0, .int .i64 1, .slice (some ⟨w.heap.size + 1 + 1 + 1, 0, none⟩) 1 1, .slice (some ⟨w.heap.size + 1 + 1 + 1 + 1, 0, none⟩) 1 1, .slice (some ⟨w.heap.size + 1 + 1 + 1 + 1 + 1, 0, none⟩) 1 1, .int .i64 2] 27))
  have d3 := (((b3.alloc (.cells #[.int .i64 1] 3)).alloc (.cells #[.int .i64 0] 3)).alloc (.cells #[.slice none 0 0, .slice (some ⟨w.heap.size + 1 + 1, 0, none⟩) 1 1, .slice none 0 0, .int .i64 1, .slice (some ⟨w.heap.size + 1 + 1 + 1, 0, none⟩) 1 1, .slice (some ⟨w.heap.size + 1 + 1 + 1 + 1, 0, none⟩) 1 1, .slice (some ⟨w.heap.size + 1 + 1 + 1 + 1 + 1, 0, none⟩) 1 1, .int .i64 2] 27))
  have d4 := ((b4.alloc (.cells #[.int .i64 0] 3)).alloc (.cells #[.slice none 0 0, .slice (some ⟨w.heap.size + 1 + 1, 0, none⟩) 1 1, .slice none 0 0, .int .i64 1, .slice (some ⟨w.heap.size + 1 + 1 + 1, 0, none⟩) 1 1, .slice (some ⟨w.heap.size + 1 + 1 + 1 + 1, 0, none⟩) 1 1, .slice (some ⟨w.heap.size + 1 + 1 + 1 + 1 + 1, 0, none⟩) 1 1, .int .i64 2] 27))
  have d5 := (b5.alloc (.cells #[.slice none 0 0, .slice (some ⟨w.heap.size + 1 + 1, 0, none⟩) 1 1, .slice none 0 0, .int .i64 1, .slice (some ⟨w.heap.size + 1 + 1 + 1, 0, none⟩) 1 1, .slice (some ⟨w.heap.size + 1 + 1 + 1 + 1, 0, none⟩) 1 1, .slice (some ⟨w.heap.size + 1 + 1 + 1 + 1 + 1, 0, none⟩) 1 1, .int .i64 2] 27))
  have hb : Below w.heap.size w (((((((w.alloc X0).alloc (.cells #[.int .i64 1] 3)).alloc (.cells #[.int .i64 0] 3)).alloc (.cells #[.int .i64 0] 3)).alloc (.cells #[.int .i64 1] 3)).alloc (.cells #[.int .i64 0] 3)).alloc (.cells #[.slice none 0 0, .slice (some ⟨w.heap.size + 1 + 1, 0, none⟩) 1 1, .slice none 0 0, .int .i64 1, .slice (some ⟨w.heap.size + 1 + 1 + 1, 0, none⟩) 1 1, .slice (some ⟨w.heap.size + 1 + 1 + 1 + 1, 0, none⟩) 1 1, .slice (some ⟨w.heap.size + 1 + 1 + 1 + 1 + 1, 0, none⟩) 1 1, .int .i64 2] 27)) := ((((((((Below.refl w.heap.size w).alloc (Nat.le_refl _) X0).alloc (by simp only [World.size_alloc]; omega) _).alloc (by simp only [World.size_alloc]; omega) _).alloc (by simp only [World.size_alloc]; omega) _).alloc (by simp only [World.size_alloc]; omega) _).alloc (by simp only [World.size_alloc]; omega) _).alloc (by simp only [World.size_alloc]; omega) _)
  have r1 := one_low d1 (by omega)
  have r2 := one_low d2 (by omega)
  have r3 := one_low d3 (by omega)
  have r4 := one_low d4 (by omega)
  have r5 := one_low d5 (by omega)
  refine ⟨hb, ⟨none, 0, 0, some ⟨w.heap.size + 1, 0, none⟩, 1, 1, some ⟨w.heap.size + 1 + 1 + 1 + 1 + 1 + 1, 0, none⟩, 2, 2⟩, rfl, ⟨by unfold mT I64s; simp, Rd.nil_ _ _, r1, ?_⟩⟩
  refine ⟨rfl, Nat.le_refl _, by simp, fun h => (by cases h), fun _ => ⟨w.heap.size + 1 + 1 + 1 + 1 + 1 + 1, 0, rfl, fun j o hj => ?_⟩⟩
  match j, hj with
  | 0, hj =>
    obtain rfl := Option.some.inj hj
    refine ⟨[.slice none 0 0, .slice (some ⟨w.heap.size + 1 + 1, 0, none⟩) 1 1, .slice none 0 0, .int .i64 1], ⟨none, 0, 0, _, 1, 1, none, 0, 0, rfl, Rd.nil_ _ _, r2, Rd.nil_ _ _, by unfold I64s; simp⟩, fun i v hi => ?_⟩
    match i, hi with
    | 0, hi => obtain rfl := Option.some.inj hi; exact b6.cell 0
    | 1, hi => obtain rfl := Option.some.inj hi; exact b6.cell 1
    | 2, hi => obtain rfl := Option.some.inj hi; exact b6.cell 2
    | 3, hi => obtain rfl := Option.some.inj hi; exact b6.cell 3
    | i + 4, hi => simp at hi
  | 1, hj =>
    obtain rfl := Option.some.inj hj
    refine ⟨[.slice (some ⟨w.heap.size + 1 + 1 + 1, 0, none⟩) 1 1, .slice (some ⟨w.heap.size + 1 + 1 + 1 + 1, 0, none⟩) 1 1, .slice (some ⟨w.heap.size + 1 + 1 + 1 + 1 + 1, 0, none⟩) 1 1, .int .i64 2], ⟨_, 1, 1, _, 1, 1, _, 1, 1, rfl, r3, r4, r5, by unfold I64s; simp⟩, fun i v hi => ?_⟩
    match i, hi with
    | 0, hi => obtain rfl := Option.some.inj hi; exact b6.cell 4
    | 1, hi => obtain rfl := Option.some.inj hi; exact b6.cell 5
    | 2, hi => obtain rfl := Option.some.inj hi; exact b6.cell 6
    | 3, hi => obtain rfl := Option.some.inj hi; exact b6.cell 7
    | i + 4, hi => simp at hi
  | j + 2, hj => simp [mT] at hj
set_option maxRecDepth 100000 in
set_option maxHeartbeats 3200000 in
theorem macroTask_ct (w : World) : Calls Try.prog 59 #[] w (MTaskP w) := by
  go_enter Try.func59, Try.ntmps59
  go_wp2_with fail
  exact bodyPost_ret (v := .agg #[.int .i64 2, .slice none 0 0, .slice (some ⟨w.heap.size + 1, 0, none⟩) 1 1, .slice (some ⟨w.heap.size + 1 + 1 + 1 + 1 + 1 + 1, 0, none⟩) 2 2]) (by simp [results, Try.results59, go_sem]) rfl (mtask_mem w _)
end Go.Proofs.Ytnfeknfakkdbhaa
