/- The law HierarchyPlanMatchesSpec of the package hierarchy holds, without a condition., part 5: Sw3 Sw4. -/
import Derived.Test.YtmjiiddncbhgpaaGreatF1
import Derived.Test.YtmjiiddncbhgpaaGreatF2
import Derived.Test.YtmjiiddncbhgpaaGreatF3
import Derived.Test.YtmjiiddncbhgpaaGreatF4
import Derived.BigQuiet
import Derived.Deep.AppendLies
import Derived.Deep.Draws
import Derived.Deep.Fields
import Derived.Deep.LoopGhost
import Derived.Deep.QuietTactic
import Derived.Deep.Slices
import Derived.Laws.AppendOwnNone
import Derived.Laws.BitsAllLaws
import Derived.Laws.OwnMore
import Derived.Lib.Hide
import Derived.Lib.SlicesCompact
import Derived.Maps.AppendAt
import Derived.Test.YtmjiiddncbhgpaaGreatProg
import Derived.WalkKit
namespace Go.Proofs.YtmjiiddncbhgpaaGreat
set_option linter.unusedVariables false
set_option linter.unusedSimpArgs false
open Go.RowKit
theorem intInfoS : (Tryz.prog.info? 3).map (fun i => (i.zero, i.size, i.bytes)) = some (some (.int .i64 0), 1, 8) := by kernel_rfl
/-- the facts below k of a word -/
def factsTo (w k : Nat) : List Int := ((List.range k).filter fun p => w.testBit p).map Int.ofNat
theorem factsTo_all (w : Nat) : factsTo w 32 = factsF w := rfl
theorem factsTo_succ (w k : Nat) : factsTo w (k + 1) = factsTo w k ++ (if w.testBit k = true then [(k : Int)] else []) := by
  unfold factsTo
  rw [List.range_succ, List.filter_append, List.map_append]
  congr 1
  by_cases h : w.testBit k = true <;> simp [List.filter_cons, h]
theorem factsTo_len (w k : Nat) : (factsTo w k).length ≤ k := by
  unfold factsTo
  rw [List.length_map]
  exact Nat.le_trans (List.length_filter_le _ _) (by simp)
/-- a list of ints in a row of the call's own, read so whatever happens to what was there before -/
def MadeF (w : World) (l : List Int) (e : Ending) (w' : World) : Prop :=
  Below w.heap.size w w' ∧ ∃ A c vs, e = .returned (.slice A l.length c) ∧ OwnE Enc.int 3 w.heap.size (fun b => w.heap.size ≤ b) w' A l.length c vs l
theorem bit_test (m k : Nat) (hm : m < 4294967296) : (bits BinOp.and IntKind.u32 ((m : Int) / 2 ^ k) 1 == 1) = m.testBit k := by
  have e : ((m : Int) / 2 ^ k) = ((m / 2 ^ k : Nat) : Int) := by simp
  have h1 : m / 2 ^ k < 4294967296 := Nat.lt_of_le_of_lt (Nat.div_le_self _ _) hm
  have h2 := u32_and_nat (m / 2 ^ k) 1 h1 (by omega)
  rw [e]
  have h3 : (bits BinOp.and IntKind.u32 ((m / 2 ^ k : Nat) : Int) 1) = ((m / 2 ^ k &&& 1 : Nat) : Int) := h2
  rw [h3, Nat.and_one_is_mod, Nat.testBit_eq_decide_div_mod_eq]
  by_cases h : m / 2 ^ k % 2 = 1
  · simp [h]
  · have : m / 2 ^ k % 2 = 0 := by omega
    simp [this]
end Go.Proofs.YtmjiiddncbhgpaaGreat
namespace Go.Proofs.YtmjiiddncbhgpaaGreat
set_option linter.unusedVariables false
set_option linter.unusedSimpArgs false
open Go.RowKit
theorem Blk.cell3 {t : TypeId} {w : World} {g : Nat} {x0 x1 x2 : Value} (h : Blk t w g [x0, x1, x2]) : w.cell? ⟨g, 0, none⟩ = some x0 ∧ w.cell? ⟨g, 1, none⟩ = some x1 ∧ w.cell? ⟨g, 2, none⟩ = some x2 := ⟨h.cell 0, h.cell 1, h.cell 2⟩
/-- an operator as words, within bounds -/
structure MkOk (m : Mk) : Prop where
  pre : m.pre < 4294967296
  add : m.add < 4294967296
  del : m.del < 4294967296
  low : 0 ≤ m.cost
  high : m.cost ≤ 100
def mkCells (m : Mk) : List Value := [.int .u32 m.pre, .int .u32 m.add, .int .u32 m.del, .int .i64 m.cost]
def Enc.mop : Enc Mk where
  size := 4
  ok := fun w vs m => vs = mkCells m ∧ MkOk m
  len := fun h => by rw [h.1]; rfl
  keep := fun h _ => h
theorem Rd.mop {w : World} {A : Option Addr} {n c k : Nat} {ms : List Mk} (h : Rd Enc.mop w A n c ms) (hk : k < n) :
    ∃ b off m, A = some ⟨b, off, none⟩ ∧ ms[k]? = some m ∧ MkOk m ∧ w.cell? ⟨b, off + k * 4, none⟩ = some (.int .u32 m.pre) ∧ w.cell? ⟨b, off + k * 4 + 1, none⟩ = some (.int .u32 m.add) ∧ w.cell? ⟨b, off + k * 4 + 2, none⟩ = some (.int .u32 m.del) ∧ w.cell? ⟨b, off + k * 4 + 3, none⟩ = some (.int .i64 m.cost) := by
  obtain ⟨b, off, m, vs, e, hm, ⟨hvs, h1⟩, hv⟩ := h.get hk
  subst hvs
  exact ⟨b, off, m, e, hm, h1, hv 0 _ rfl, hv 1 _ rfl, hv 2 _ rfl, hv 3 _ rfl⟩
/-- block g is the space with start s0, goal gl and operators ms -/
structure WordsR (w : World) (g : Nat) (s0 gl : Nat) (ms : List Mk) : Prop where
  row : ∃ A n c, Blk 156 w g [.int .u32 s0, .int .u32 gl, .slice A n c] ∧ Rd Enc.mop w A n c ms
  start : s0 < 4294967296
  goal : gl < 4294967296
  few : ms.length ≤ 1000
theorem WordsR.keep {w w' : World} {g s0 gl : Nat} {ms : List Mk} (h : WordsR w g s0 gl ms) (hb : Below w.heap.size w w') : WordsR w' g s0 gl ms := by
  obtain ⟨⟨A, n, c, h1, h2⟩, h3, h4, h5⟩ := h
  exact ⟨⟨A, n, c, h1.keep hb, h2.keep hb⟩, h3, h4, h5⟩
theorem WordsR.lt {w : World} {g s0 gl : Nat} {ms : List Mk} (h : WordsR w g s0 gl ms) : g < w.heap.size := by
  obtain ⟨⟨A, n, c, h1, h2⟩, _⟩ := h
  exact h1.lt
theorem WordsR.ok {w : World} {g s0 gl : Nat} {ms : List Mk} (h : WordsR w g s0 gl ms) : ∀ m ∈ ms, MkOk m := fun m hm => by
  obtain ⟨⟨A, n, c, h1, h2⟩, _⟩ := h
  obtain ⟨k, hk⟩ := List.getElem?_of_mem hm
  obtain ⟨_, _, m', _, hm', hok, _⟩ := h2.mop (show k < n by rw [← h2.len]; exact (List.getElem?_eq_some_iff.1 hk).1)
  rw [hk] at hm'
  obtain rfl := Option.some.inj hm'
  exact hok
set_option maxHeartbeats 1600000 in
theorem Start_ct (g s0 gl : Nat) (ms : List Mk) (w : World) (h : WordsR w g s0 gl ms) :
    Calls Tryz.prog 65 #[.pointer (some ⟨g, 0, none⟩)] w (Same w (.int .u32 s0)) := by
  obtain ⟨⟨A, n, c, h1, h2⟩, _, _, _⟩ := h
  obtain ⟨c0, c1, c2⟩ := h1.cell3
  clear c1 c2 h2 h1
  go_enter Tryz.func65, Tryz.ntmps65
  go_wp2
  go_ret
  exact ⟨rfl, rfl⟩
theorem goal_and {s gl : Nat} (h1 : s < 4294967296) (h2 : gl < 4294967296) : (bits BinOp.and IntKind.u32 (s : Int) (gl : Int) == (gl : Int)) = goalW gl s := by
  rw [u32_and_nat s gl h1 h2]
  unfold goalW
  rw [Bool.eq_iff_iff]
  simp only [beq_iff_eq, decide_eq_true_eq]
  omega
set_option maxHeartbeats 1600000 in
theorem Goal_ct (g s0 gl : Nat) (ms : List Mk) (s : Nat) (w : World) (h : WordsR w g s0 gl ms) (hs : s < 4294967296) :
    Calls Tryz.prog 54 #[.pointer (some ⟨g, 0, none⟩), .int .u32 s] w (Quiet w (.bool (goalW gl s))) := by
  obtain ⟨⟨A, n, c, h1, h2⟩, _, hgl, _⟩ := h
  have Hg := hide (goal_and hs hgl)
  obtain ⟨c0, c1, c2⟩ := h1.cell3
  clear c0 c2 h2 h1
  go_enter Tryz.func54, Tryz.ntmps54
  go_wp2
  go_quiet (fail)
  go_wp2
  go_ret
  exact ⟨ret_bool Hg.out, _, rfl⟩
set_option maxHeartbeats 1600000 in
/-- the maker of the iterator: the space and the state boxed -/
theorem SSteps_ct (g s : Nat) (w : World) :
    Calls Tryz.prog 117 #[.pointer (some ⟨g, 0, none⟩), .int .u32 s] w fun e w' => e = .returned (.func (.func 145) #[] #[.pointer (some ⟨w.heap.size, 0, none⟩), .pointer (some ⟨w.heap.size + 1, 0, none⟩)]) ∧
      w' = (w.alloc (.cells #[.pointer (some ⟨g, 0, none⟩)] 91)).alloc (.cells #[.int .u32 s] 78) := by
  go_enter Tryz.func117, Tryz.ntmps117
  go_wp2
  go_ret
  exact ⟨rfl, rfl⟩
end Go.Proofs.YtmjiiddncbhgpaaGreat
