/- The law HierarchyPlanMatchesSpec of the package hierarchy holds, without a condition., part 25: Hk Ho Ht. -/
import Derived.Test.YtmjiiddncbhgpaaGreatF1
import Derived.Test.YtmjiiddncbhgpaaGreatF2
import Derived.Test.YtmjiiddncbhgpaaGreatF3
import Derived.Test.YtmjiiddncbhgpaaGreatF4
import Derived.Test.YtmjiiddncbhgpaaGreatF5
import Derived.Test.YtmjiiddncbhgpaaGreatF6
import Derived.Test.YtmjiiddncbhgpaaGreatF7
import Derived.Test.YtmjiiddncbhgpaaGreatF8
import Derived.Test.YtmjiiddncbhgpaaGreatF9
import Derived.Test.YtmjiiddncbhgpaaGreatF10
import Derived.Test.YtmjiiddncbhgpaaGreatF11
import Derived.Test.YtmjiiddncbhgpaaGreatF12
import Derived.Test.YtmjiiddncbhgpaaGreatF22
import Derived.Test.YtmjiiddncbhgpaaGreatF23
import Derived.Test.YtmjiiddncbhgpaaGreatF24
import Derived.BigQuiet
import Derived.BigRegionIn
import Derived.Deep.AppendLies
import Derived.Deep.DeepCutAuto
import Derived.Deep.Draws
import Derived.Deep.Fields
import Derived.Deep.LoopGhost
import Derived.Deep.QuietTactic
import Derived.Deep.RegionHeld3
import Derived.Deep.Slices
import Derived.DeepKeys4
import Derived.Laws.AppendOwnNone
import Derived.Laws.BitsAllLaws
import Derived.Laws.OwnMore
import Derived.Lib.Hide
import Derived.Lib.SlicesCompact
import Derived.LoopIn
import Derived.LoopNIn
import Derived.Maps.AppendAt
import Derived.Maps.OwnIn
import Derived.Maps.OwnOps
import Derived.Maps.OwnSet
import Derived.OrdersHeld
import Derived.OrdersIn
import Derived.OwnWalkIn
import Derived.RangeFuncBound
import Derived.RangeFuncCalls
import Derived.RangeFuncKeeps
import Derived.RangeFuncLeaves
import Derived.RangeFuncNested
import Derived.Shelf.Abstract
import Derived.Shelf.RegionOpen
import Derived.Sort.CutIn
import Derived.StillTail
import Derived.StillTailTactics
import Derived.TacticsInMore
import Derived.Test.YtmjiiddncbhgpaaGreatProg
import Derived.WalkKit
import Derived.WideKeyEntry
namespace Go.Proofs.YtmjiiddncbhgpaaGreat
set_option linter.unusedVariables false
set_option linter.unusedSimpArgs false
open Go.RowKit Go.Shelf Go.Maps
attribute [local go_sem] Oper.semAt_some
theorem cons_of_len {α : Type} {l : List α} {n : Nat} (h : l.length = n + 1) : ∃ x t, l = x :: t ∧ t.length = n := by
  cases l with
  | nil => cases h
  | cons x t => exact ⟨x, t, rfl, by simpa using h⟩
set_option maxRecDepth 100000 in
/-- a frame of 101 slots, written out -/
theorem lit101 (l : Array Value) (h : l.size = 101) : ∃ z : Nat → Value, l = #[z 0, z 1, z 2, z 3, z 4, z 5, z 6, z 7, z 8, z 9, z 10, z 11, z 12, z 13, z 14, z 15, z 16, z 17, z 18, z 19, z 20, z 21, z 22, z 23, z 24, z 25, z 26, z 27, z 28, z 29, z 30, z 31, z 32, z 33, z 34, z 35, z 36, z 37, z 38, z 39, z 40, z 41, z 42, z 43, z 44, z 45, z 46, z 47, z 48, z 49, z 50, z 51, z 52, z 53, z 54, z 55, z 56, z 57, z 58, z 59, z 60, z 61, z 62, z 63, z 64, z 65, z 66, z 67, z 68, z 69, z 70, z 71, z 72, z 73, z 74, z 75, z 76, z 77, z 78, z 79, z 80, z 81, z 82, z 83, z 84, z 85, z 86, z 87, z 88, z 89, z 90, z 91, z 92, z 93, z 94, z 95, z 96, z 97, z 98, z 99, z 100] := by
  refine ⟨fun i => l.getD i undef, ?_⟩
  obtain ⟨l⟩ := l
  replace h : l.length = 101 := h
  obtain ⟨z0, l0, e0, h⟩ := cons_of_len h
  obtain ⟨z1, l1, e1, h⟩ := cons_of_len h
  obtain ⟨z2, l2, e2, h⟩ := cons_of_len h
  obtain ⟨z3, l3, e3, h⟩ := cons_of_len h
  obtain ⟨z4, l4, e4, h⟩ := cons_of_len h
  obtain ⟨z5, l5, e5, h⟩ := cons_of_len h
  obtain ⟨z6, l6, e6, h⟩ := cons_of_len h
  obtain ⟨z7, l7, e7, h⟩ := cons_of_len h
  obtain ⟨z8, l8, e8, h⟩ := cons_of_len h
  obtain ⟨z9, l9, e9, h⟩ := cons_of_len h
  obtain ⟨z10, l10, e10, h⟩ := cons_of_len h
  obtain ⟨z11, l11, e11, h⟩ := cons_of_len h
  obtain ⟨z12, l12, e12, h⟩ := cons_of_len h
  obtain ⟨z13, l13, e13, h⟩ := cons_of_len h
  obtain ⟨z14, l14, e14, h⟩ := cons_of_len h
  obtain ⟨z15, l15, e15, h⟩ := cons_of_len h
  obtain ⟨z16, l16, e16, h⟩ := cons_of_len h
  obtain ⟨z17, l17, e17, h⟩ := cons_of_len h
  obtain ⟨z18, l18, e18, h⟩ := cons_of_len h
  obtain ⟨z19, l19, e19, h⟩ := cons_of_len h
  obtain ⟨z20, l20, e20, h⟩ := cons_of_len h
  obtain ⟨z21, l21, e21, h⟩ := cons_of_len h
  obtain ⟨z22, l22, e22, h⟩ := cons_of_len h
  obtain ⟨z23, l23, e23, h⟩ := cons_of_len h
  obtain ⟨z24, l24, e24, h⟩ := cons_of_len h
  obtain ⟨z25, l25, e25, h⟩ := cons_of_len h
  obtain ⟨z26, l26, e26, h⟩ := cons_of_len h
  obtain ⟨z27, l27, e27, h⟩ := cons_of_len h
  obtain ⟨z28, l28, e28, h⟩ := cons_of_len h
  obtain ⟨z29, l29, e29, h⟩ := cons_of_len h
  obtain ⟨z30, l30, e30, h⟩ := cons_of_len h
  obtain ⟨z31, l31, e31, h⟩ := cons_of_len h
  obtain ⟨z32, l32, e32, h⟩ := cons_of_len h
  obtain ⟨z33, l33, e33, h⟩ := cons_of_len h
  obtain ⟨z34, l34, e34, h⟩ := cons_of_len h
  obtain ⟨z35, l35, e35, h⟩ := cons_of_len h
  obtain ⟨z36, l36, e36, h⟩ := cons_of_len h
  obtain ⟨z37, l37, e37, h⟩ := cons_of_len h
  obtain ⟨z38, l38, e38, h⟩ := cons_of_len h
  obtain ⟨z39, l39, e39, h⟩ := cons_of_len h
  obtain ⟨z40, l40, e40, h⟩ := cons_of_len h
  obtain ⟨z41, l41, e41, h⟩ := cons_of_len h
  obtain ⟨z42, l42, e42, h⟩ := cons_of_len h
  obtain ⟨z43, l43, e43, h⟩ := cons_of_len h
  obtain ⟨z44, l44, e44, h⟩ := cons_of_len h
  obtain ⟨z45, l45, e45, h⟩ := cons_of_len h
  obtain ⟨z46, l46, e46, h⟩ := cons_of_len h
  obtain ⟨z47, l47, e47, h⟩ := cons_of_len h
  obtain ⟨z48, l48, e48, h⟩ := cons_of_len h
  obtain ⟨z49, l49, e49, h⟩ := cons_of_len h
  obtain ⟨z50, l50, e50, h⟩ := cons_of_len h
  obtain ⟨z51, l51, e51, h⟩ := cons_of_len h
  obtain ⟨z52, l52, e52, h⟩ := cons_of_len h
  obtain ⟨z53, l53, e53, h⟩ := cons_of_len h
  obtain ⟨z54, l54, e54, h⟩ := cons_of_len h
  obtain ⟨z55, l55, e55, h⟩ := cons_of_len h
  obtain ⟨z56, l56, e56, h⟩ := cons_of_len h
  obtain ⟨z57, l57, e57, h⟩ := cons_of_len h
  obtain ⟨z58, l58, e58, h⟩ := cons_of_len h
  obtain ⟨z59, l59, e59, h⟩ := cons_of_len h
  obtain ⟨z60, l60, e60, h⟩ := cons_of_len h
  obtain ⟨z61, l61, e61, h⟩ := cons_of_len h
  obtain ⟨z62, l62, e62, h⟩ := cons_of_len h
  obtain ⟨z63, l63, e63, h⟩ := cons_of_len h
  obtain ⟨z64, l64, e64, h⟩ := cons_of_len h
  obtain ⟨z65, l65, e65, h⟩ := cons_of_len h
  obtain ⟨z66, l66, e66, h⟩ := cons_of_len h
  obtain ⟨z67, l67, e67, h⟩ := cons_of_len h
  obtain ⟨z68, l68, e68, h⟩ := cons_of_len h
  obtain ⟨z69, l69, e69, h⟩ := cons_of_len h
  obtain ⟨z70, l70, e70, h⟩ := cons_of_len h
  obtain ⟨z71, l71, e71, h⟩ := cons_of_len h
  obtain ⟨z72, l72, e72, h⟩ := cons_of_len h
  obtain ⟨z73, l73, e73, h⟩ := cons_of_len h
  obtain ⟨z74, l74, e74, h⟩ := cons_of_len h
  obtain ⟨z75, l75, e75, h⟩ := cons_of_len h
  obtain ⟨z76, l76, e76, h⟩ := cons_of_len h
  obtain ⟨z77, l77, e77, h⟩ := cons_of_len h
  obtain ⟨z78, l78, e78, h⟩ := cons_of_len h
  obtain ⟨z79, l79, e79, h⟩ := cons_of_len h
  obtain ⟨z80, l80, e80, h⟩ := cons_of_len h
  obtain ⟨z81, l81, e81, h⟩ := cons_of_len h
  obtain ⟨z82, l82, e82, h⟩ := cons_of_len h
  obtain ⟨z83, l83, e83, h⟩ := cons_of_len h
  obtain ⟨z84, l84, e84, h⟩ := cons_of_len h
  obtain ⟨z85, l85, e85, h⟩ := cons_of_len h
  obtain ⟨z86, l86, e86, h⟩ := cons_of_len h
  obtain ⟨z87, l87, e87, h⟩ := cons_of_len h
  obtain ⟨z88, l88, e88, h⟩ := cons_of_len h
  obtain ⟨z89, l89, e89, h⟩ := cons_of_len h
  obtain ⟨z90, l90, e90, h⟩ := cons_of_len h
  obtain ⟨z91, l91, e91, h⟩ := cons_of_len h
  obtain ⟨z92, l92, e92, h⟩ := cons_of_len h
  obtain ⟨z93, l93, e93, h⟩ := cons_of_len h
  obtain ⟨z94, l94, e94, h⟩ := cons_of_len h
  obtain ⟨z95, l95, e95, h⟩ := cons_of_len h
  obtain ⟨z96, l96, e96, h⟩ := cons_of_len h
  obtain ⟨z97, l97, e97, h⟩ := cons_of_len h
  obtain ⟨z98, l98, e98, h⟩ := cons_of_len h
  obtain ⟨z99, l99, e99, h⟩ := cons_of_len h
  obtain ⟨z100, l100, e100, h⟩ := cons_of_len h
  have e101 := List.eq_nil_of_length_eq_zero h
  subst e101
  subst e100
  subst e99
  subst e98
  subst e97
  subst e96
  subst e95
  subst e94
  subst e93
  subst e92
  subst e91
  subst e90
  subst e89
  subst e88
  subst e87
  subst e86
  subst e85
  subst e84
  subst e83
  subst e82
  subst e81
  subst e80
  subst e79
  subst e78
  subst e77
  subst e76
  subst e75
  subst e74
  subst e73
  subst e72
  subst e71
  subst e70
  subst e69
  subst e68
  subst e67
  subst e66
  subst e65
  subst e64
  subst e63
  subst e62
  subst e61
  subst e60
  subst e59
  subst e58
  subst e57
  subst e56
  subst e55
  subst e54
  subst e53
  subst e52
  subst e51
  subst e50
  subst e49
  subst e48
  subst e47
  subst e46
  subst e45
  subst e44
  subst e43
  subst e42
  subst e41
  subst e40
  subst e39
  subst e38
  subst e37
  subst e36
  subst e35
  subst e34
  subst e33
  subst e32
  subst e31
  subst e30
  subst e29
  subst e28
  subst e27
  subst e26
  subst e25
  subst e24
  subst e23
  subst e22
  subst e21
  subst e20
  subst e19
  subst e18
  subst e17
  subst e16
  subst e15
  subst e14
  subst e13
  subst e12
  subst e11
  subst e10
  subst e9
  subst e8
  subst e7
  subst e6
  subst e5
  subst e4
  subst e3
  subst e2
  subst e1
  subst e0
  rfl
section
variable (w0 : World) (Rb am rm bm X1 : Nat) (vs : List Value) (ms : List Mk) (st : List Nat) (hm : List Hm) (lim : Nat) (M : Option Addr) (nM cM : Nat) (SA : Option Addr) (sn sc : Nat)
/-- at the head of a round -/
def CI1 (k : Nat) (a : Act) (wr : World) : Prop := ∃ (r Xr : Nat) (R : Chn → Option Nat) (rows : KP → Option RowC) (bk : KP → List Chn) (cr cb : Nat) (kn : List Chn) (Ds : List Nat), k = 589825 - kn.length ∧ a.tmps.size = 101 ∧ a.tmps[0]? = some (.pointer (some ⟨Rb, 0, none⟩)) ∧ a.tmps[1]? = some (.pointer (some ⟨X1, 0, none⟩)) ∧ a.tmps[2]? = some (.pointer (some ⟨Xr, 0, none⟩)) ∧ a.defers = Ds.map markD ∧ ClB w0 Rb am rm bm vs st cr cb R rows bk Ds wr ∧ Blk 101 wr X1 [.pointer (some ⟨Rb, 0, none⟩)] ∧ Blk 3 wr Xr [.int .i64 (r : Int)] ∧ RdI ms st hm lim r kn.length 0 0 cr cb R bk kn [] ∧ r ≤ kn.length + 1
/-- between two methods -/
def CI2 (r Xr k0 cb : Nat) (rows : KP → Option RowC) (bk : KP → List Chn) (Fb : Nat) (k : Nat) (a : Act) (wr : World) : Prop := ∃ (ai : Nat) (R : Chn → Option Nat) (cr : Nat) (kn fr : List Chn) (A : Option Addr) (n c : Nat) (Ds : List Nat), k = nM - ai ∧ ai ≤ nM ∧ a.tmps.size = 101 ∧ a.tmps[0]? = some (.pointer (some ⟨Rb, 0, none⟩)) ∧ a.tmps[1]? = some (.pointer (some ⟨X1, 0, none⟩)) ∧ a.tmps[2]? = some (.pointer (some ⟨Xr, 0, none⟩)) ∧ a.tmps[3]? = some (.pointer (some ⟨Fb, 0, none⟩)) ∧ a.tmps[21]? = some (.slice M nM cM) ∧ a.tmps[22]? = some (.int .i64 (nM : Int)) ∧ a.tmps[23]? = some (.int .i64 (ai : Int)) ∧ a.defers = Ds.map markD ∧ ClB w0 Rb am rm bm vs st cr cb R rows bk Ds wr ∧ Blk 101 wr X1 [.pointer (some ⟨Rb, 0, none⟩)] ∧ Blk 3 wr Xr [.int .i64 (r : Int)] ∧ FrS w0.heap.size bm rows Fb A n c fr wr ∧ RdI ms st hm lim r k0 ai 0 cr cb R bk kn fr
/-- between two states -/
def CI3 (r Xr k0 cb : Nat) (rows : KP → Option RowC) (bk : KP → List Chn) (Fb ai Xm t : Nat) (A1 : Option Addr) (n1 c1 : Nat) (A2 : Option Addr) (n2 c2 : Nat) (k : Nat) (a : Act) (wr : World) : Prop := ∃ (b : Nat) (R : Chn → Option Nat) (cr : Nat) (kn fr : List Chn) (A : Option Addr) (n c : Nat) (Ds : List Nat), k = sn - b ∧ b ≤ sn ∧ a.tmps.size = 101 ∧ a.tmps[0]? = some (.pointer (some ⟨Rb, 0, none⟩)) ∧ a.tmps[1]? = some (.pointer (some ⟨X1, 0, none⟩)) ∧ a.tmps[2]? = some (.pointer (some ⟨Xr, 0, none⟩)) ∧ a.tmps[3]? = some (.pointer (some ⟨Fb, 0, none⟩)) ∧ a.tmps[5]? = some (.pointer (some ⟨Xm, 0, none⟩)) ∧ a.tmps[21]? = some (.slice M nM cM) ∧ a.tmps[22]? = some (.int .i64 (nM : Int)) ∧ a.tmps[23]? = some (.int .i64 (ai : Int)) ∧ a.tmps[30]? = some (.slice SA sn sc) ∧ a.tmps[31]? = some (.int .i64 (sn : Int)) ∧ a.tmps[32]? = some (.int .i64 (b : Int)) ∧ a.defers = Ds.map markD ∧ ClB w0 Rb am rm bm vs st cr cb R rows bk Ds wr ∧ Blk 101 wr X1 [.pointer (some ⟨Rb, 0, none⟩)] ∧ Blk 3 wr Xr [.int .i64 (r : Int)] ∧ FrS w0.heap.size bm rows Fb A n c fr wr ∧ Blk 116 wr Xm [.int .i64 (t : Int), .slice A1 n1 c1, .slice A2 n2 c2] ∧ RdI ms st hm lim r k0 ai b cr cb R bk kn fr
/-- between two fresh changes -/
def CI4 (r Xr k0 cr : Nat) (R : Chn → Option Nat) (fr : List Chn) (Fb : Nat) (A : Option Addr) (n c : Nat) (Ds : List Nat) (k : Nat) (a : Act) (wr : World) : Prop := ∃ (q cb : Nat) (rows : KP → Option RowC) (bk : KP → List Chn), k = n - q ∧ q ≤ n ∧ a.tmps.size = 101 ∧ a.tmps[0]? = some (.pointer (some ⟨Rb, 0, none⟩)) ∧ a.tmps[1]? = some (.pointer (some ⟨X1, 0, none⟩)) ∧ a.tmps[2]? = some (.pointer (some ⟨Xr, 0, none⟩)) ∧ a.tmps[3]? = some (.pointer (some ⟨Fb, 0, none⟩)) ∧ a.tmps[74]? = some (.slice A n c) ∧ a.tmps[75]? = some (.int .i64 (n : Int)) ∧ a.tmps[76]? = some (.int .i64 (q : Int)) ∧ a.defers = Ds.map markD ∧ ClB w0 Rb am rm bm vs st cr cb R rows bk Ds wr ∧ Blk 101 wr X1 [.pointer (some ⟨Rb, 0, none⟩)] ∧ Blk 3 wr Xr [.int .i64 (r : Int)] ∧ FrS w0.heap.size bm rows Fb A n c fr wr ∧ GoI r k0 q cb R bk fr
end
theorem resC (tmps : Array Value) (d : Nat) (v : Value) : results Tryz.f64 (tmps.setIfInBounds d v) = results Tryz.f64 tmps := by
  simp [results, Tryz.results64, go_sem]
theorem hQC {R : Ending → World → Prop} {v : Value} (d : Nat) (c : _) (a : Act) (w : World) (h : (bodyPostM Fence.wide 9 Tryz.prog Tryz.f64 R) (.panic c) (a.put (some d) v) w) : (bodyPostM Fence.wide 9 Tryz.prog Tryz.f64 R) (.panic c) a w :=
  leavesH (resC a.tmps d v) _ _ _ h
set_option maxRecDepth 100000 in
set_option maxHeartbeats 12800000 in
theorem close_ct (w0 W : World) (Rb g s0 gl : Nat) (ms : List Mk) (SA : Option Addr) (sn sc : Nat) (st : List Nat) (am rm bm : Nat) (v0 v1 v2 v3 v4 v6 : Value) (M : Option Addr) (nM cM : Nat) (hm : List Hm) (lim : Nat) (hb0 : Below w0.heap.size w0 W) (hwl : WordsR w0 g s0 gl ms) (hsl : Rd Enc.word w0 SA sn sc st) (hms : Rd Enc.me w0 M nM cM hm) (hlo : w0.heap.size ≤ am ∧ am < rm ∧ rm < bm ∧ bm < Rb)
    (h : RfS W Rb g s0 gl ms SA sn sc st am rm bm v0 v1 v2 v3 v4 (.slice M nM cM) v6 lim) (hk : KnS w0.heap.size W rm bm 0 0 (fun _ => none) (fun _ => none) (fun _ => []))
    (hmsr : ∀ m ∈ hm, 0 ≤ m.task ∧ m.task < 16 ∧ (∀ x ∈ m.pre, 0 ≤ x ∧ x < 32) ∧ (∀ x ∈ m.steps, -1000 ≤ x ∧ x < 1000) ∧ m.steps.length ≤ 1000) (hst : st.length ≤ 64) (hlim : lim ≤ 8) :
    Calls Tryz.prog 64 #[.pointer (some ⟨Rb, 0, none⟩)] W (fun e W' => e = .returned (.tuple #[]) ∧ Below w0.heap.size w0 W' ∧ RfS W' Rb g s0 gl ms SA sn sc st am rm bm v0 v1 v2 v3 v4 (.slice M nM cM) v6 lim ∧ ∃ (R : Chn → Option Nat) (r cr cb : Nat) (rows : KP → Option RowC) (bk : KP → List Chn), KnS w0.heap.size W' rm bm cr cb R rows bk ∧ InR (aftW ms st) (canS st) hm lim st.length R r hm.length 0 ∧ (∀ c, R c ≠ some r) ∧ r ≤ 1000000 ∧ (∀ c q, R c = some q → c ∈ bk (c.t, c.i)) ∧ ∀ c, (R c).isSome = true → ChIn st.length lim c) := by
  have H := hide h
  have Hms := hide hms
  have Hmsr := hide hmsr
  have Hsl := hide hsl
  have Hwl := hide hwl
  have hml := hms.len
  have hmlow := hms.low
  have hsn := hsl.len
  have hslow := hsl.low
  refine (callsIn_wide (n := 9)).1 (callsIn_of_wp_marks Tryz.func64 rfl trivial (wpIn_wide.2 ?_) rfl)
  simp only [Tryz.ntmps64, List.size_toArray, List.length_cons, List.length_nil, Nat.reduceAdd, Nat.reduceSub, Array.replicate_succ, Array.replicate_zero, List.push_toArray, List.append_toArray, List.nil_append, List.cons_append]
  obtain ⟨vs, hvs⟩ : ∃ vs, vs = [v0, v1, v2, v3, v4, .slice M nM cM, v6, .pointer (some ⟨g, 0, none⟩), .slice SA sn sc, .map (some am), .int .i64 lim, .map (some rm), .map (some bm)] := ⟨_, rfl⟩
  have hB : ClB w0 Rb am rm bm vs st 0 0 (fun _ => none) (fun _ => none) (fun _ => []) [] W := ⟨hb0, by rw [hvs]; exact h.blk, h.atm, hk, hlo, (fun D hD => by cases hD), List.nodup_nil⟩
  have e5 : vs[5]? = some (.slice M nM cM) := by rw [hvs]; rfl
  have e8 : vs[8]? = some (.slice SA sn sc) := by rw [hvs]; rfl
  have e11 : vs[11]? = some (.map (some rm)) := by rw [hvs]; rfl
  have e12 : vs[12]? = some (.map (some bm)) := by rw [hvs]; rfl
  have E := hide (And.intro e5 (And.intro e8 (And.intro e11 e12)))
  have Hvs := hide hvs
  clear hms hmsr hsl hwl h hk e5 e8 e11 e12 hvs
  go_wp2_with fail
  have bX := (Blk.new W 101 [.pointer (some ⟨Rb, 0, none⟩)]).alloc (.cells #[.int .i64 1] 3)
  have bR := Blk.new (W.alloc (.cells #[.pointer (some ⟨Rb, 0, none⟩)] 101)) 3 [.int .i64 1]
  have hbW : Below W.heap.size W ((W.alloc (.cells #[.pointer (some ⟨Rb, 0, none⟩)] 101)).alloc (.cells #[.int .i64 1] 3)) := ((Below.refl _ W).alloc (Nat.le_refl _) _).alloc (by simp only [World.size_alloc]; omega) _
  simp only [World.size_alloc] at bR
  change Blk 3 ((W.alloc (.cells #[.pointer (some ⟨Rb, 0, none⟩)] 101)).alloc (.cells #[.int .i64 1] 3)) (W.heap.size + 1) [.int .i64 ((1 : Nat) : Int)] at bR
  have hB2 := hB.keep hbW
  obtain ⟨W2, hW2⟩ : ∃ Z, Z = ((W.alloc (.cells #[.pointer (some ⟨Rb, 0, none⟩)] 101)).alloc (.cells #[.int .i64 1] 3)) := ⟨_, rfl⟩
  rw [← hW2] at bX bR hB2 ⊢
  clear hW2 hbW hB
  obtain ⟨X1, hX1⟩ : ∃ z, z = W.heap.size := ⟨_, rfl⟩
  rw [← hX1] at bX bR ⊢
  clear hX1
  have hR0 : RdI ms st hm lim 1 0 0 0 0 0 (fun _ => none) (fun _ => []) [] [] := ⟨.begin, .begin _ _ _, rfl, Nat.zero_le _, Nat.le_refl _, (fun _ => Nat.le_refl _), fun c q hq => by cases hq⟩
  refine wp_loop_ghost_k (CI1 w0 Rb am rm bm X1 vs ms st hm lim) 589825 ⟨1, X1 + 1, fun _ => none, fun _ => none, fun _ => [], 0, 0, [], [], rfl, rfl, rfl, rfl, rfl, rfl, hB2, bX, bR, hR0, by simp⟩ ?_
  clear hB2 bX bR hR0
  intro k1 a1 wr1 hI1 J1 K1 hJ1 hK1
  obtain ⟨r, Xr, R1, rows, bk, cr1, cb, kn1, Ds1, hk1, hs, h0, h1, h2, hd, hB1, bX, bR, hR1, hr1⟩ := hI1
  obtain ⟨tmps, dfs⟩ := a1
  simp only at hs h0 h1 h2 hd
  obtain ⟨z, e⟩ := lit101 tmps hs
  subst e
  replace h0 := Option.some.inj (show some (z 0) = some _ from h0)
  replace h1 := Option.some.inj (show some (z 1) = some _ from h1)
  replace h2 := Option.some.inj (show some (z 2) = some _ from h2)
  simp only [h0, h1, h2]
  clear h0 h1 h2
  subst hd
  have HB1 := hide hB1
  have HR1 := hide hR1
  have Hk1 := hide hk1
  have Hr1 := hide hr1
  have BX := hide bX
  have BR := hide bR
  clear hB1 hR1 hk1 hr1 bX bR
  go_upto_region 4 with (fail)
  have hal := (Below.refl wr1.heap.size wr1).alloc (Nat.le_refl _) (.cells #[.slice none 0 0] 172)
  have bF := Blk.new wr1 172 [.slice none 0 0]
  change Blk 172 (wr1.alloc (.cells #[.slice none 0 0] 172)) _ _ at bF
  have hB2 := HB1.out.keep hal
  have bX2 := BX.out.keep hal
  have bR2 := BR.out.keep hal
  have hFlo : w0.heap.size ≤ wr1.heap.size := HB1.out.low.size
  obtain ⟨V2, hV2⟩ : ∃ Z, Z = wr1.alloc (.cells #[.slice none 0 0] 172) := ⟨_, rfl⟩
  rw [← hV2] at bF hB2 bX2 bR2 ⊢
  clear hV2 hal
  obtain ⟨Fb, hFb⟩ : ∃ z, z = wr1.heap.size := ⟨_, rfl⟩
  rw [← hFb] at bF hFlo ⊢
  clear hFb
  have hF2 : FrS w0.heap.size bm rows Fb none 0 0 [] V2 := ⟨bF, .nil _ _, (fun g hg => by cases hg), hFlo⟩
  have x1 := bX2.cell 0
  have x5 := hB2.rf.cell 5
  rw [E.out.1] at x5
  simp only [List.getElem?_cons_zero] at x1
  have HB2 := hide hB2
  have BX2 := hide bX2
  have BR2 := hide bR2
  have HF2 := hide hF2
  clear hB2 bX2 bR2 hF2 bF hFlo BX BR HB1
  go_wp2_with fail
  refine wp_loop_ghost_k (CI2 w0 Rb am rm bm X1 vs ms st hm lim M nM cM r Xr kn1.length cb rows bk Fb) nM ⟨0, R1, cr1, kn1, [], none, 0, 0, Ds1, rfl, Nat.zero_le _, rfl, rfl, rfl, rfl, rfl, rfl, rfl, rfl, rfl, HB2.out, BX2.out, BR2.out, HF2.out, HR1.out⟩ ?_
  clear HB2 BX2 BR2 HF2 x1 x5
  intro k2 a2 wr2 hI2 J2 K2 hJ2 hK2
  obtain ⟨ai, R2, cr2, kn2, fr2, A, n, c, Ds2, hk2, hai, hs, h0, h1, h2, h3, h21, h22, h23, hd, hB2, bX2, bR2, hF2, hR2⟩ := hI2
  obtain ⟨tmps, dfs⟩ := a2
  simp only at hs h0 h1 h2 h3 h21 h22 h23 hd
  obtain ⟨z, e⟩ := lit101 tmps hs
  subst e
  replace h0 := Option.some.inj (show some (z 0) = some _ from h0)
  replace h1 := Option.some.inj (show some (z 1) = some _ from h1)
  replace h2 := Option.some.inj (show some (z 2) = some _ from h2)
  replace h3 := Option.some.inj (show some (z 3) = some _ from h3)
  replace h21 := Option.some.inj (show some (z 21) = some _ from h21)
  replace h22 := Option.some.inj (show some (z 22) = some _ from h22)
  replace h23 := Option.some.inj (show some (z 23) = some _ from h23)
  simp only [h0, h1, h2, h3, h21, h22, h23]
  clear h0 h1 h2 h3 h21 h22 h23
  subst hd
  have Hk2 := hide hk2
  have HB2 := hide hB2
  have BX2 := hide bX2
  have BR2 := hide bR2
  have HF2 := hide hF2
  have HR2 := hide hR2
  clear hk2 hB2 bX2 bR2 hF2 hR2
  by_cases hlt : ai < nM
  rotate_left
  · obtain rfl : ai = nM := by omega
    have f3 := HF2.out.fb.cell 0
    simp only [List.getElem?_cons_zero] at f3
    have hlenF := HF2.out.row.len
    go_wp2_with fail
    refine wp_loop_ghost_k (CI4 w0 Rb am rm bm X1 vs st r Xr kn1.length cr2 R2 fr2 Fb A n c Ds2) n ⟨0, cb, rows, bk, rfl, Nat.zero_le _, rfl, rfl, rfl, rfl, rfl, rfl, rfl, rfl, rfl, HB2.out, BX2.out, BR2.out, HF2.out, HR2.out.go⟩ ?_
    clear f3 HB2 BX2 BR2 HF2
    intro k4 a4 wr4 hI4 J4 K4 hJ4 hK4
    obtain ⟨q, cb4, rows4, bk4, hk4, hqn, hs, h0, h1, h2, h3, h74, h75, h76, hd, hB4, bX4, bR4, hF4, hG4⟩ := hI4
    obtain ⟨tmps, dfs⟩ := a4
    simp only at hs h0 h1 h2 h3 h74 h75 h76 hd
    obtain ⟨z, e⟩ := lit101 tmps hs
    subst e
    replace h0 := Option.some.inj (show some (z 0) = some _ from h0)
    replace h1 := Option.some.inj (show some (z 1) = some _ from h1)
    replace h2 := Option.some.inj (show some (z 2) = some _ from h2)
    replace h3 := Option.some.inj (show some (z 3) = some _ from h3)
    replace h74 := Option.some.inj (show some (z 74) = some _ from h74)
    replace h75 := Option.some.inj (show some (z 75) = some _ from h75)
    replace h76 := Option.some.inj (show some (z 76) = some _ from h76)
    simp only [h0, h1, h2, h3, h74, h75, h76]
    clear h0 h1 h2 h3 h74 h75 h76
    subst hd
    have Hk4 := hide hk4
    have HB4 := hide hB4
    have BX4 := hide bX4
    have BR4 := hide bR4
    have HF4 := hide hF4
    have HG4 := hide hG4
    clear hk4 hB4 bX4 bR4 hF4 hG4
    by_cases hlt4 : q < n
    rotate_left
    · obtain rfl : q = n := by omega
      have f3 := HF4.out.fb.cell 0
      have r3 := BR4.out.cell 0
      simp only [List.getElem?_cons_zero] at f3 r3
      have hk9 := HR1.out.few hst hlim
      have hr9 := Hr1.out
      have hrI : (r : Int) ≤ 1000000 := by omega
      by_cases hq0 : q = 0
      · have hqI : (q : Int) = 0 := by omega
        go_wp2_with fail
        have hfr : fr2 = [] := List.eq_nil_of_length_eq_zero (by omega)
        have hBn : ClB w0 Rb am rm bm vs st cr2 cb4 R2 rows4 bk4 [] wr4 := ⟨HB4.out.low, HB4.out.rf, HB4.out.atm, HB4.out.kn, HB4.out.lo, (fun D hD => by cases hD), List.nodup_nil⟩
        refine leaves_marks Ds2 _ (fun D hD => (HB4.out.mks D hD).2) HB4.out.nd fun W' hc => ?_
        have hB' := hBn.chg hc (fun i hi => (HB4.out.mks i hi).1) (fun e => mark_ne (HB4.out.mks _ e).2 HB4.out.rf.cells rfl) (fun e => mark_nm (HB4.out.mks _ e).2 HB4.out.atm.isMap rfl) (fun e => mark_nm (HB4.out.mks _ e).2 HB4.out.kn.rnd.isMap rfl) (fun b hb e => by
          rcases HB4.out.kn.by_.mcells hb with e2 | ⟨cs, mm, hcl⟩
          · exact mark_nm (HB4.out.mks _ e).2 HB4.out.kn.by_.map.isMap e2
          · exact mark_ne (HB4.out.mks _ e).2 ⟨_, _, _, hcl⟩ rfl) (fun D hD => by cases hD)
        refine ⟨.tuple #[], by simp [results, Tryz.results64, go_sem], rfl, hB'.low, ⟨by have := hB'.rf; rw [Hvs.out] at this; exact this, Hwl.out.keep hB'.low, Hsl.out.keep hB'.low, hB'.atm, H.out.once, H.out.few, H.out.all⟩, R2, r, cr2, cb4, rows4, bk4, hB'.kn, by have := HR2.out.inr; rwa [hsn] at this, fun c hc => ?_, by omega, fun c p hp => HG4.out.all HR2.out (by omega) c p hp, fun c hc => by have := HR2.out.hin c hc; rwa [hsn] at this⟩
        have := (HR2.out.kno.fresh c).2 hc
        rw [hfr] at this
        cases this
      · have hqI : ¬ (q : Int) = 0 := by omega
        go_wp2_with fail
        have hw64 : (r : Int) + 1 = ((r + 1 : Nat) : Int) := by omega
        rw [hw64]
        have hal := (Below.refl wr4.heap.size wr4).alloc (Nat.le_refl _) (.cells #[.int .i64 ((r + 1 : Nat) : Int)] 3)
        have hR2 := HR2.out
        rw [← hml] at hR2
        have hkk := hR2.few hst hlim
        have hkc := hR2.cnt
        refine Handed.intro (589825 - kn2.length) ?_ (hJ1 _ _ _ ⟨r + 1, wr4.heap.size, R2, rows4, bk4, cr2, cb4, kn2, Ds2, rfl, rfl, rfl, rfl, rfl, rfl, HB4.out.keep hal, BX4.out.keep hal, Blk.new _ _ _, HG4.out.next (cr0 := 0) hR2 (by omega), ?_⟩)
        · have := Hk1.out
          omega
        · omega
    · have hltQ : (q : Int) < (n : Int) := by omega
      obtain ⟨ab, ao, y, eA, hyq, hyok, y0, y1, y2, y3⟩ := HF4.out.row.rd.chn (k := q) hlt4
      subst eA
      have Hyq := hide hyq
      have Hyok := hide hyok
      clear hyq hyok
      go_upto_region 24 with (fail)
      have hk9 := HR1.out.few hst hlim
      have hal5 : Below wr4.heap.size wr4 ((wr4.alloc (.cells #[.int .i64 (y.t : Int), .int .i64 (y.i : Int), .int .i64 (y.j : Int), .int .i64 (y.n : Int)] 176)).alloc (.cells #[.int .i64 (y.t : Int), .int .i64 (y.i : Int)] 177)) := ((Below.refl wr4.heap.size wr4).alloc (Nat.le_refl _) _).alloc (by simp only [World.size_alloc]; omega) _
      have dC := (Blk.new wr4 176 [.int .i64 (y.t : Int), .int .i64 (y.i : Int), .int .i64 (y.j : Int), .int .i64 (y.n : Int)]).alloc (.cells #[.int .i64 (y.t : Int), .int .i64 (y.i : Int)] 177)
      have dK := Blk.new (wr4.alloc (.cells #[.int .i64 (y.t : Int), .int .i64 (y.i : Int), .int .i64 (y.j : Int), .int .i64 (y.n : Int)] 176)) 177 [.int .i64 (y.t : Int), .int .i64 (y.i : Int)]
      simp only [World.size_alloc] at dK
      change Blk 177 ((wr4.alloc (.cells #[.int .i64 (y.t : Int), .int .i64 (y.i : Int), .int .i64 (y.j : Int), .int .i64 (y.n : Int)] 176)).alloc (.cells #[.int .i64 (y.t : Int), .int .i64 (y.i : Int)] 177)) (wr4.heap.size + 1) [.int .i64 (y.t : Int), .int .i64 (y.i : Int)] at dK
      change Blk 176 ((wr4.alloc (.cells #[.int .i64 (y.t : Int), .int .i64 (y.i : Int), .int .i64 (y.j : Int), .int .i64 (y.n : Int)] 176)).alloc (.cells #[.int .i64 (y.t : Int), .int .i64 (y.i : Int)] 177)) wr4.heap.size [.int .i64 (y.t : Int), .int .i64 (y.i : Int), .int .i64 (y.j : Int), .int .i64 (y.n : Int)] at dC
      obtain ⟨V5, hV5⟩ : ∃ Z, Z = (wr4.alloc (.cells #[.int .i64 (y.t : Int), .int .i64 (y.i : Int), .int .i64 (y.j : Int), .int .i64 (y.n : Int)] 176)).alloc (.cells #[.int .i64 (y.t : Int), .int .i64 (y.i : Int)] 177) := ⟨_, rfl⟩
      rw [← hV5] at dC dK hal5 ⊢
      clear hV5 y0 y1 y2 y3
      obtain ⟨Bc, hBc⟩ : ∃ z, z = wr4.heap.size := ⟨_, rfl⟩
      rw [← hBc] at dC dK ⊢
      obtain ⟨V6, hV6⟩ : ∃ Z, Z = V5.drew := ⟨_, rfl⟩
      have hb6 : Below wr4.heap.size wr4 V6 := by rw [hV6]; exact hal5.drew
      have hb56 : Below V5.heap.size V5 V6 := by rw [hV6]; exact (Below.refl _ _).drew
      replace dC := dC.keep hb56
      replace dK := dK.keep hb56
      have k1 := HB4.out.keep hb6
      have k2 := HF4.out.keep hb6
      have kX := BX4.out.keep hb6
      have kR := BR4.out.keep hb6
      clear hb56 hal5
      obtain ⟨⟨rA, rn, rc⟩, hrow⟩ : ∃ z, rowAtC rows4 (y.t, y.i) = z := ⟨_, rfl⟩
      obtain ⟨us, hown⟩ := k1.kn.by_.at_ (y.t, y.i)
      rw [hrow] at hown
      simp only at hown
      have hrlt : ∀ g, blkA rA = some g → g < Bc := fun g hg => by
        obtain ⟨us0, hown0⟩ := HB4.out.kn.by_.at_ (y.t, y.i)
        rw [hrow] at hown0
        rw [hBc]
        exact (hown0.base hg).2
      have hrn : rn ≤ kn1.length + q := by
        have h1 := hown.len
        have h2 := HG4.out.blen (y.t, y.i)
        omega
      have hlt4b : q ≤ 1000000 := by
        have h1 := hlenF
        have h2 := HR2.out.few hst hlim
        have h3 := HR2.out.cnt
        omega
      have hcb4 : cb4 < 1000000000000 := by have := HG4.out.cbl; omega
      obtain ⟨kl, hkl⟩ := kpKey (p := (y.t, y.i)) ⟨Hyok.out.1, Hyok.out.2.1⟩
      obtain ⟨ti, hti, hz0, hz1, hz2⟩ := info_parts chInfo
      have hbmB : bm < Bc := by have := HB4.out.kn.by_.map.lt; omega
      have c1 := kX.cell 0
      have c12 := k1.rf.cell 12
      rw [E.out.2.2.2] at c12
      have cK0 := dK.cell 0
      have cK1 := dK.cell 1
      have cC0 := dC.cell 0
      have cC1 := dC.cell 1
      have cC2 := dC.cell 2
      have cC3 := dC.cell 3
      simp only [List.getElem?_cons_zero, List.getElem?_cons_succ] at c1 cK0 cK1 cC0 cC1 cC2 cC3
      have K1 := hide k1
      have K2 := hide k2
      have KX := hide kX
      have KR := hide kR
      have DC := hide dC
      have DK := hide dK
      have Hown := hide hown
      have Hrow := hide hrow
      have Hb6 := hide hb6
      have HBc := hide hBc
      have Hz0 := hide hz0
      have Hz1 := hide hz1
      have Hz2 := hide hz2
      have Hti := hide hti
      have Hkl := hide hkl
      have Hrlt := hide hrlt
      clear k1 k2 kX kR dC dK hown hrow hb6 hBc hz0 hz1 hz2 hti hkl hrlt
      refine wp_region_held_drew (S := (fun w' => w'.cell? ⟨X1, 0, none⟩ = some (.pointer (some ⟨Rb, 0, none⟩)) ∧ w'.cell? ⟨Rb, 12, none⟩ = some (.map (some bm)) ∧ w'.cell? ⟨Bc + 1, 0, none⟩ = some (.int .i64 (y.t : Int)) ∧ w'.cell? ⟨Bc + 1, 1, none⟩ = some (.int .i64 (y.i : Int)) ∧ w'.cell? ⟨Bc, 0, none⟩ = some (.int .i64 (y.t : Int)) ∧ w'.cell? ⟨Bc, 1, none⟩ = some (.int .i64 (y.i : Int)) ∧ w'.cell? ⟨Bc, 2, none⟩ = some (.int .i64 (y.j : Int)) ∧ w'.cell? ⟨Bc, 3, none⟩ = some (.int .i64 (y.n : Int)))) (by kernel_rfl) ?_ (fun hHeld => ?_)
      · rw [← hV6]; exact ⟨c1, c12, cK0, cK1, cC0, cC1, cC2, cC3⟩
      rw [← hV6] at hHeld ⊢
      clear hV6
      refine takeA (i := 0) (v := ?_) (some 85) rfl rfl (by kernel_rfl) (by kernel_rfl) (by kernel_rfl) (fun c a w h => hQC 85 c a w h) (Or.inl ⟨by rfl, ?_⟩) (by assumption) ?_
      rotate_left
      · intro w hSw; (try dsimp only at hSw); obtain ⟨s1, s2, s3, s4, s5, s6, s7, s8⟩ := hSw; first | (go_simp; done) | (go_simp; with_reducible rfl)
      try simp only [Act.put, List.setIfInBounds_toArray, List.set_cons_zero, List.set_cons_succ]
      refine takeA (i := 1) (v := ?_) (some 86) rfl rfl (by kernel_rfl) (by kernel_rfl) (by kernel_rfl) (fun c a w h => hQC 86 c a w h) (Or.inl ⟨by rfl, ?_⟩) (by assumption) ?_
      rotate_left
      · intro w hSw; (try dsimp only at hSw); obtain ⟨s1, s2, s3, s4, s5, s6, s7, s8⟩ := hSw; first | (go_simp; done) | (go_simp; with_reducible rfl)
      try simp only [Act.put, List.setIfInBounds_toArray, List.set_cons_zero, List.set_cons_succ]
      refine takeA (i := 2) (v := ?_) (some 87) rfl rfl (by kernel_rfl) (by kernel_rfl) (by kernel_rfl) (fun c a w h => hQC 87 c a w h) (Or.inl ⟨by rfl, ?_⟩) (by assumption) ?_
      rotate_left
      · intro w hSw; (try dsimp only at hSw); obtain ⟨s1, s2, s3, s4, s5, s6, s7, s8⟩ := hSw; first | (go_simp; done) | (go_simp; with_reducible rfl)
      try simp only [Act.put, List.setIfInBounds_toArray, List.set_cons_zero, List.set_cons_succ]
      refine takeA (i := 3) (v := ?_) (some 88) rfl rfl (by kernel_rfl) (by kernel_rfl) (by kernel_rfl) (fun c a w h => hQC 88 c a w h) (Or.inl ⟨by rfl, ?_⟩) (by assumption) ?_
      rotate_left
      · intro w hSw; (try dsimp only at hSw); obtain ⟨s1, s2, s3, s4, s5, s6, s7, s8⟩ := hSw; first | (go_simp; done) | (go_simp; with_reducible rfl)
      try simp only [Act.put, List.setIfInBounds_toArray, List.set_cons_zero, List.set_cons_succ]
      refine takeA (i := 4) (v := ?_) (some 89) rfl rfl (by kernel_rfl) (by kernel_rfl) (by kernel_rfl) (fun c a w h => hQC 89 c a w h) (Or.inl ⟨by rfl, ?_⟩) (by assumption) ?_
      rotate_left
      · intro w hSw; (try dsimp only at hSw); obtain ⟨s1, s2, s3, s4, s5, s6, s7, s8⟩ := hSw; first | (go_simp; done) | (go_simp; with_reducible rfl)
      try simp only [Act.put, List.setIfInBounds_toArray, List.set_cons_zero, List.set_cons_succ]
      refine takeA (i := 5) (v := ?_) (some 91) rfl rfl (by kernel_rfl) (by kernel_rfl) (by kernel_rfl) (fun c a w h => hQC 91 c a w h) (Or.inl ⟨by rfl, ?_⟩) (by assumption) ?_
      rotate_left
      · intro w hSw; (try dsimp only at hSw); obtain ⟨s1, s2, s3, s4, s5, s6, s7, s8⟩ := hSw; first | (go_simp; done) | (go_simp; with_reducible rfl)
      try simp only [Act.put, List.setIfInBounds_toArray, List.set_cons_zero, List.set_cons_succ]
      refine wpAnyH_ready (rs := [6]) (by kernel_rfl) (by simp) ?_
      refine AllReadyH.cons rfl (fun K hK => ?_) AllReadyH.nil
      go_simp
      have hba : Below V6.heap.size V6 (V6.alloc (.cells #[.int .i64 (y.t : Int), .int .i64 (y.i : Int), .int .i64 (y.j : Int), .int .i64 (y.n : Int)] 176)) := (Below.refl _ _).alloc (Nat.le_refl _) _
      have a1 := (KX.out.keep hba).cell 0
      have a12 := (K1.out.keep hba).rf.cell 12
      rw [E.out.2.2.2] at a12
      have aK0 := (DK.out.keep hba).cell 0
      have aK1 := (DK.out.keep hba).cell 1
      have aC0 := (DC.out.keep hba).cell 0
      have aC1 := (DC.out.keep hba).cell 1
      have aC2 := (DC.out.keep hba).cell 2
      have aC3 := (DC.out.keep hba).cell 3
      simp only [List.getElem?_cons_zero, List.getElem?_cons_succ] at a1 aK0 aK1 aC0 aC1 aC2 aC3
      refine hK.out _ _ ?_ (fun hHeld2 => ?_)
      · exact ⟨a1, a12, aK0, aK1, aC0, aC1, aC2, aC3⟩
      clear hK K hHeld c1 c12 cK0 cK1 cC0 cC1 cC2 cC3
      try simp only [Act.put, List.setIfInBounds_toArray, List.set_cons_zero, List.set_cons_succ]
      have hHeld := hHeld2; clear hHeld2
      have hL := Blk.new V6 176 [.int .i64 (y.t : Int), .int .i64 (y.i : Int), .int .i64 (y.j : Int), .int .i64 (y.n : Int)]
      change Blk 176 (V6.alloc (.cells #[.int .i64 (y.t : Int), .int .i64 (y.i : Int), .int .i64 (y.j : Int), .int .i64 (y.n : Int)] 176)) V6.heap.size [.int .i64 (y.t : Int), .int .i64 (y.i : Int), .int .i64 (y.j : Int), .int .i64 (y.n : Int)] at hL
      obtain ⟨Va, hVa⟩ : ∃ Z, Z = V6.alloc (.cells #[.int .i64 (y.t : Int), .int .i64 (y.i : Int), .int .i64 (y.j : Int), .int .i64 (y.n : Int)] 176) := ⟨_, rfl⟩
      rw [← hVa] at hba hL a1 a12 aK0 aK1 aC0 aC1 aC2 aC3 hHeld ⊢
      clear hVa
      obtain ⟨sti, w7, hent, hg7, hz7, hsto⟩ := (K1.out.keep hba).kn.by_.map.entry kpV_inj lawKp (T := 105) (E := 172) Tryz.underlying105 hcb4 zeroCs Hkl.out
      simp only [getD_vC, Hrow.out] at hent
      unfold kpV RowC.v at hent
      simp only at hent
      have hc7 : Chg (fun b => b = bm) Va w7 := (Chg.of_grown hg7).mono fun b e => by injection e with e; exact e.symm
      have nbR : Rb ≠ bm := by obtain ⟨_, _, _, l4⟩ := K1.out.lo; omega
      have nX1 : X1 ≠ bm := fun e => K1.out.kn.by_.map.ne KX.out e.symm
      have b1 := (hc7.blk (KX.out.keep hba) nX1).cell 0
      have b12 := (hc7.blk (K1.out.keep hba).rf nbR).cell 12
      rw [E.out.2.2.2] at b12
      have bK := hc7.blk (DK.out.keep hba) (by omega)
      have bC := hc7.blk (DC.out.keep hba) (by omega)
      have bL := hc7.blk hL (by have := Hb6.out.size; have := HBc.out; omega)
      have bX := hc7.blk (KX.out.keep hba) nX1
      have bRf := hc7.blk (K1.out.keep hba).rf nbR
      have bK0 := bK.cell 0
      have bK1 := bK.cell 1
      have bC0 := bC.cell 0
      have bC1 := bC.cell 1
      have bC2 := bC.cell 2
      have bC3 := bC.cell 3
      simp only [List.getElem?_cons_zero, List.getElem?_cons_succ] at b1 bK0 bK1 bC0 bC1 bC2 bC3
      have hown7 := (Hown.out.keep hba).chg hc7 (fun _ _ => trivial) (fun g hg e => by subst e; obtain ⟨cs, mm, hcl⟩ := RowCh.cells ⟨_, Hown.out⟩ hg; obtain ⟨es, kk, hmm⟩ := K1.out.kn.by_.map.isMap; rw [hmm] at hcl; cases hcl)
      have Hown7 := hide hown7
      have Hsto := hide hsto
      have Hc7 := hide hc7
      have HL := hide bL
      have BK7 := hide bK
      have BC7 := hide bC
      have BX7 := hide bX
      have BRf7 := hide bRf
      have Hba := hide hba
      have Hz7 := hide hz7
      clear hown7 hsto hc7 bL bK bC bX bRf hba hL hg7 hz7
      refine wpAnyH_ready (rs := [7]) (by kernel_rfl) (by simp) ?_
      refine AllReadyH.cons rfl (fun K hK => ?_) AllReadyH.nil
      go_simp
      refine hK.out _ _ ?_ (fun hHeld2 => ?_)
      · exact ⟨b1, b12, bK0, bK1, bC0, bC1, bC2, bC3⟩
      clear hK K hHeld a1 a12 aK0 aK1 aC0 aC1 aC2 aC3 hent
      try simp only [Act.put, List.setIfInBounds_toArray, List.set_cons_zero, List.set_cons_succ]
      have hHeld := hHeld2; clear hHeld2
      refine takeA (i := 8) (v := ?_) (some 90) rfl rfl (by kernel_rfl) (by kernel_rfl) (by kernel_rfl) (fun c a w h => hQC 90 c a w h) (Or.inl ⟨by rfl, ?_⟩) (by assumption) ?_
      rotate_left
      · intro w hSw; (try dsimp only at hSw); obtain ⟨s1, s2, s3, s4, s5, s6, s7, s8⟩ := hSw; first | (go_simp; done) | (go_simp; with_reducible rfl)
      try simp only [Act.put, List.setIfInBounds_toArray, List.set_cons_zero, List.set_cons_succ]
      refine takeA (i := 10) (v := ?_) (some 95) rfl rfl (by kernel_rfl) (by kernel_rfl) (by kernel_rfl) (fun c a w h => hQC 95 c a w h) (Or.inl ⟨by rfl, ?_⟩) (by assumption) ?_
      rotate_left
      · intro w hSw; (try dsimp only at hSw); obtain ⟨s1, s2, s3, s4, s5, s6, s7, s8⟩ := hSw; first | (go_simp; done) | (go_simp; with_reducible rfl)
      try simp only [Act.put, List.setIfInBounds_toArray, List.set_cons_zero, List.set_cons_succ]
      clear b1 b12 bK0 bK1 bC0 bC1 bC2 bC3
      have hlo7 : w0.heap.size ≤ w7.heap.size := by have := K1.out.low.size; have := Hba.out.size; have := Hz7.out; omega
      refine wpAnyH_ready (rs := [9]) (by kernel_rfl) (by simp) ?_
      refine AllReadyH.cons rfl (fun K hK => ?_) AllReadyH.nil
      refine step_pushG rfl _ _ 172 rfl w0.heap.size 176 ti (.agg #[.int .i64 0, .int .i64 0, .int .i64 0, .int .i64 0]) 32 Tryz.underlying172 Hti.out Hz0.out Hz1.out Hz2.out rfl (by decide) (A := rA) (n := rn) (c := rc) (by first | rfl | (go_simp; done)) Hown7.out (fun _ _ => trivial) V6.heap.size [.int .i64 (y.t : Int), .int .i64 (y.i : Int), .int .i64 (y.j : Int), .int .i64 (y.n : Int)] y HL.out (by intro u hu; simp only [List.mem_cons, List.not_mem_nil, or_false] at hu; rcases hu with rfl | rfl | rfl | rfl <;> rfl) (by first | rfl | (go_simp; done)) (firm_chn Hyok.out) (by omega) (by omega) hlo7 ?_
      intro O8 oc8 w8 hown8 hch8 hat8
      have hbm8 : w8.heap[bm]? = w7.heap[bm]? := hch8.block bm (by have := K1.out.kn.by_.map.lt; have := Hba.out.size; have := Hz7.out; omega) (fun e => by have := Hrlt.out bm e; obtain ⟨us0, hown0⟩ := HB4.out.kn.by_.at_ (y.t, y.i); rw [Hrow.out] at hown0; obtain ⟨cs, mm, hcl⟩ := RowCh.cells ⟨us0, hown0⟩ e; obtain ⟨es, kk, hmm⟩ := HB4.out.kn.by_.map.isMap; rw [hmm] at hcl; cases hcl)
      obtain ⟨w9, hput9, hmap9, hg9, hz9⟩ := Hsto.out w8 (.slice O8 (rn + 1) oc8) hbm8
      unfold goInt at hput9
      have n8 : ∀ {tt : TypeId} {g : Nat} {cs : List Value}, Blk tt w7 g cs → 176 ≠ tt → blkA rA ≠ some g := fun hb ht e => RowCh.neT ⟨_, Hown7.out⟩ hb ht e rfl
      have nC8 : blkA rA ≠ some Bc := fun e => by have := Hrlt.out Bc e; omega
      have e8X := hch8.blk BX7.out (n8 BX7.out (by decide))
      have e8R := hch8.blk BRf7.out (n8 BRf7.out (by decide))
      have e8K := hch8.blk BK7.out (n8 BK7.out (by decide))
      have e8C := hch8.blk BC7.out nC8
      have hc9 : Chg (fun b => b = bm) w8 w9 := (Chg.of_grown hg9).mono fun b e => by injection e with e; exact e.symm
      have e9X := hc9.blk e8X nX1
      have e9R := hc9.blk e8R nbR
      have e9K := hc9.blk e8K (by omega)
      have e9C := hc9.blk e8C (by omega)
      have g81 := e8X.cell 0
      have g812 := e8R.cell 12
      have g8K0 := e8K.cell 0
      have g8K1 := e8K.cell 1
      have g8C0 := e8C.cell 0
      have g8C1 := e8C.cell 1
      have g8C2 := e8C.cell 2
      have g8C3 := e8C.cell 3
      have g91 := e9X.cell 0
      have g912 := e9R.cell 12
      have g9K0 := e9K.cell 0
      have g9K1 := e9K.cell 1
      have g9C0 := e9C.cell 0
      have g9C1 := e9C.cell 1
      have g9C2 := e9C.cell 2
      have g9C3 := e9C.cell 3
      rw [E.out.2.2.2] at g812 g912
      simp only [List.getElem?_cons_zero, List.getElem?_cons_succ] at g81 g8K0 g8K1 g8C0 g8C1 g8C2 g8C3 g91 g9K0 g9K1 g9C0 g9C1 g9C2 g9C3
      have hrr := (HR2.out.kno.fresh y).1 (List.mem_of_getElem? Hyq.out)
      have hpush := ClB.push (w2 := w8) (w3 := w9) (O := O8) (oc := oc8) K1.out K2.out y (by rw [hrr]; rfl) (by rw [Hrow.out]; exact hown8.less (M' := fun _ => True) (fun i _ _ => .inl trivial)) (by
        rw [Hrow.out]
        exact ((Chg.of_below Hba.out _).trans (Hc7.out.mono fun b e => .inl e)).trans (hch8.mono fun b e => .inr e)) (by
        rw [Hrow.out]
        exact hat8.imp id (fun e => ⟨_, e, by have := Hba.out.size; have := Hz7.out; omega⟩)) (by rw [Hrow.out]; exact hmap9) hg9
      have Hpush := hide hpush
      clear hpush hown8 hch8 hat8 hmap9 hg9 hz9 n8 e8X e8R e8K e8C e9X e9R e9K e9C hc9 hbm8 nC8 hrr
      refine hK.out _ _ ?_ (fun hHeld2 => ?_)
      · exact ⟨g81, g812, g8K0, g8K1, g8C0, g8C1, g8C2, g8C3⟩
      clear hK K hHeld
      try simp only [Act.put, List.setIfInBounds_toArray, List.set_cons_zero, List.set_cons_succ]
      have hHeld := hHeld2; clear hHeld2
      refine wpAnyH_ready (rs := [11]) (by kernel_rfl) (by simp) ?_
      refine AllReadyH.cons rfl (fun K hK => ?_) AllReadyH.nil
      go_simp
      refine hK.out _ _ ?_ (fun hHeld2 => ?_)
      · exact ⟨g91, g912, g9K0, g9K1, g9C0, g9C1, g9C2, g9C3⟩
      clear hK K hHeld hHeld2 hput9 g81 g812 g8K0 g8K1 g8C0 g8C1 g8C2 g8C3 g91 g912 g9K0 g9K1 g9C0 g9C1 g9C2 g9C3
      try simp only [Act.put, List.setIfInBounds_toArray, List.set_cons_zero, List.set_cons_succ]
      refine wpAnyH_done (by kernel_rfl) ?_ _
      go_wp2_with fail
      obtain ⟨m1, m2, m3⟩ := Hpush.out
      refine Handed.intro (n - (q + 1)) ?_ (hJ4 _ _ _ ⟨q + 1, _, _, _, rfl, by omega, rfl, rfl, rfl, rfl, rfl, rfl, rfl, by go_num, rfl, m1, m3.blk KX.out (by decide) (by decide), m3.blk KR.out (by decide) (by decide), m2, HG4.out.push Hyq.out ?_⟩)
      · have := Hk4.out
        omega
      · split <;> omega
  · have hltI : (ai : Int) < (nM : Int) := by omega
    obtain ⟨mb, mo, m, A1, n1, c1, A2, n2, c2, eM, hma, m0, m1, m2, mi, mp, mst⟩ := Hms.out.me (k := ai) hlt
    replace m0 := (HB2.out.low.cell (p := ⟨mb, mo + ai * 3, none⟩) (World.block_lt_of_cell? w0 _ m0)).trans m0
    replace m1 := (HB2.out.low.cell (p := ⟨mb, mo + ai * 3 + 1, none⟩) (World.block_lt_of_cell? w0 _ m1)).trans m1
    replace m2 := (HB2.out.low.cell (p := ⟨mb, mo + ai * 3 + 2, none⟩) (World.block_lt_of_cell? w0 _ m2)).trans m2
    subst eM
    obtain ⟨t, ht⟩ : ∃ t : Nat, m.task = (t : Int) := ⟨m.task.toNat, by have := (Hmsr.out m (List.mem_of_getElem? hma)).1; omega⟩
    rw [ht] at m0
    have Hma := hide hma
    have Ht := hide ht
    have Hmp := hide mp
    have Hmst := hide mst
    clear hma ht mp mst mi
    go_upto_region 7 with (fail)
    have hal := (Below.refl wr2.heap.size wr2).alloc (Nat.le_refl _) (.cells #[.int .i64 (t : Int), .slice A1 n1 c1, .slice A2 n2 c2] 116)
    have bM := Blk.new wr2 116 [.int .i64 (t : Int), .slice A1 n1 c1, .slice A2 n2 c2]
    change Blk 116 (wr2.alloc (.cells #[.int .i64 (t : Int), .slice A1 n1 c1, .slice A2 n2 c2] 116)) _ _ at bM
    have hB3 := HB2.out.keep hal
    have bX3 := BX2.out.keep hal
    have bR3 := BR2.out.keep hal
    have hF3 := HF2.out.keep hal
    obtain ⟨V3, hV3⟩ : ∃ Z, Z = wr2.alloc (.cells #[.int .i64 (t : Int), .slice A1 n1 c1, .slice A2 n2 c2] 116) := ⟨_, rfl⟩
    rw [← hV3] at bM hB3 bX3 bR3 hF3 ⊢
    clear hV3 hal m0 m1 m2
    obtain ⟨Xm, hXm⟩ : ∃ z, z = wr2.heap.size := ⟨_, rfl⟩
    rw [← hXm] at bM ⊢
    clear hXm
    have x1 := bX3.cell 0
    have x8 := hB3.rf.cell 8
    rw [E.out.2.1] at x8
    simp only [List.getElem?_cons_zero] at x1
    have HB3 := hide hB3
    have BX3 := hide bX3
    have BR3 := hide bR3
    have HF3 := hide hF3
    have BM3 := hide bM
    clear hB3 bX3 bR3 hF3 bM HB2 BX2 BR2 HF2
    go_wp2_with fail
    refine wp_loop_ghost_k (CI3 w0 Rb am rm bm X1 vs ms st hm lim (some ⟨mb, mo, none⟩) nM cM SA sn sc r Xr kn1.length cb rows bk Fb ai Xm t A1 n1 c1 A2 n2 c2) sn ⟨0, R2, cr2, kn2, fr2, A, n, c, Ds2, rfl, Nat.zero_le _, rfl, rfl, rfl, rfl, rfl, rfl, rfl, rfl, rfl, rfl, rfl, rfl, rfl, HB3.out, BX3.out, BR3.out, HF3.out, BM3.out, HR2.out⟩ ?_
    clear HB3 BX3 BR3 HF3 BM3 x1 x8 HR2 A n c
    intro k3 a3 wr3 hI3 J3 K3 hJ3 hK3
    obtain ⟨b, R3, cr3, kn3, fr3, A, n, c, Ds3, hk3, hbs, hs, h0, h1, h2, h3, h5, h21, h22, h23, h30, h31, h32, hd, hB3, bX3, bR3, hF3, bM3, hR3⟩ := hI3
    obtain ⟨tmps, dfs⟩ := a3
    simp only at hs h0 h1 h2 h3 h5 h21 h22 h23 h30 h31 h32 hd
    obtain ⟨z, e⟩ := lit101 tmps hs
    subst e
    replace h0 := Option.some.inj (show some (z 0) = some _ from h0)
    replace h1 := Option.some.inj (show some (z 1) = some _ from h1)
    replace h2 := Option.some.inj (show some (z 2) = some _ from h2)
    replace h3 := Option.some.inj (show some (z 3) = some _ from h3)
    replace h5 := Option.some.inj (show some (z 5) = some _ from h5)
    replace h21 := Option.some.inj (show some (z 21) = some _ from h21)
    replace h22 := Option.some.inj (show some (z 22) = some _ from h22)
    replace h23 := Option.some.inj (show some (z 23) = some _ from h23)
    replace h30 := Option.some.inj (show some (z 30) = some _ from h30)
    replace h31 := Option.some.inj (show some (z 31) = some _ from h31)
    replace h32 := Option.some.inj (show some (z 32) = some _ from h32)
    simp only [h0, h1, h2, h3, h5, h21, h22, h23, h30, h31, h32]
    clear h0 h1 h2 h3 h5 h21 h22 h23 h30 h31 h32
    subst hd
    have Hk3 := hide hk3
    have HB3 := hide hB3
    have BX3 := hide bX3
    have BR3 := hide bR3
    have HF3 := hide hF3
    have BM3 := hide bM3
    have HR3 := hide hR3
    clear hk3 hB3 bX3 bR3 hF3 bM3 hR3
    by_cases hlt3 : b < sn
    rotate_left
    · obtain rfl : b = sn := by omega
      go_wp2_with fail
      refine Handed.intro (nM - (ai + 1)) ?_ (hJ2 _ _ _ ⟨ai + 1, R3, cr3, kn3, fr3, A, n, c, Ds3, rfl, by omega, rfl, rfl, rfl, rfl, rfl, rfl, rfl, by go_num, rfl, HB3.out, BX3.out, BR3.out, HF3.out, ?_⟩)
      · have := Hk2.out
        omega
      · have hR := HR3.out
        rw [← hsn] at hR
        exact hR.next
    · have hltJ : (b : Int) < (sn : Int) := by omega
      obtain ⟨sb, so, s, eA, hsb, hs32, hcS⟩ := Hsl.out.word (k := b) hlt3
      subst eA
      replace hcS := (HB3.out.low.cell (p := ⟨sb, so + b, none⟩) (World.block_lt_of_cell? w0 _ hcS)).trans hcS
      have xm1 := BM3.out.cell 1
      simp only [List.getElem?_cons_zero, List.getElem?_cons_succ] at xm1
      have Hwd := hide (Word_ct A1 n1 c1 m.pre wr3 (Hmp.out.keep HB3.out.low) (Hmsr.out m (List.mem_of_getElem? Hma.out)).2.2.1)
      have Hsb := hide hsb
      clear hsb
      go_upto_region 11 with (go_at_call 39; refine Hwd.out.mono ?_; rintro e w' ⟨rfl, rfl⟩)
      have hwp : wordF m.pre < 4294967296 := word_lt (Hmsr.out m (List.mem_of_getElem? Hma.out)).2.2.1
      have hbit : (bits BinOp.and IntKind.u32 (s : Int) ((wordF m.pre : Nat) : Int) != ((wordF m.pre : Nat) : Int)) = !goalW (wordF m.pre) s := by simp only [bne, goal_and hs32 hwp]
      by_cases hc : s &&& wordF m.pre = wordF m.pre
      rotate_left
      · have hg0 : goalW (wordF m.pre) s = false := by unfold goalW; exact decide_eq_false hc
        rw [hg0] at hbit
        have hbit2 : (bits BinOp.and IntKind.u32 (s : Int) ((wordF m.pre : Nat) : Int) != ((wordF m.pre : Nat) : Int)) = true := hbit
        clear hbit hg0 hwp
        have Hc := hide hc
        clear hc
        go_wp2_with fail
        refine Handed.intro (sn - (b + 1)) ?_ (hJ3 _ _ _ ⟨b + 1, R3, cr3, kn3, fr3, A, n, c, Ds3, rfl, by omega, rfl, rfl, rfl, rfl, rfl, rfl, rfl, rfl, rfl, rfl, rfl, by go_num, rfl, HB3.out, BX3.out, BR3.out, HF3.out, BM3.out, HR3.out.step Hma.out (fun hcan => ?_)⟩)
        · have := Hk3.out
          omega
        · obtain ⟨s', e1, e2⟩ := hcan
          obtain rfl : s = s' := Option.some.inj (Hsb.out.symm.trans e1)
          exact absurd e2 Hc.out
      · have hg0 : goalW (wordF m.pre) s = true := by unfold goalW; exact decide_eq_true hc
        rw [hg0] at hbit
        have hbit2 : (bits BinOp.and IntKind.u32 (s : Int) ((wordF m.pre : Nat) : Int) != ((wordF m.pre : Nat) : Int)) = false := hbit
        clear hbit hg0 hwp
        have Hc := hide hc
        clear hc
        have x1 := BX3.out.cell 0
        have xr := BR3.out.cell 0
        have xm0 := BM3.out.cell 0
        have xm2 := BM3.out.cell 2
        simp only [List.getElem?_cons_zero, List.getElem?_cons_succ] at x1 xr xm0 xm2
        go_wp2_with (go_at_call 110; refine (changes_ct Rb t b r A1 n1 c1 A2 n2 c2 wr3).mono ?_; rintro e w' ⟨rfl, rfl⟩)
        clear x1 xr xm0 xm1 xm2
        have d1 := (((Blk.new wr3 101 [.pointer (some ⟨Rb, 0, none⟩)]).alloc (.cells #[.int .i64 (t : Int), .slice A1 n1 c1, .slice A2 n2 c2] 116)).alloc (.cells #[.int .i64 (b : Int)] 3)).alloc (.cells #[.int .i64 (r : Int)] 3)
        have d2 := ((Blk.new (wr3.alloc (.cells #[.pointer (some ⟨Rb, 0, none⟩)] 101)) 116 [.int .i64 (t : Int), .slice A1 n1 c1, .slice A2 n2 c2]).alloc (.cells #[.int .i64 (b : Int)] 3)).alloc (.cells #[.int .i64 (r : Int)] 3)
        have d3 := (Blk.new ((wr3.alloc (.cells #[.pointer (some ⟨Rb, 0, none⟩)] 101)).alloc (.cells #[.int .i64 (t : Int), .slice A1 n1 c1, .slice A2 n2 c2] 116)) 3 [.int .i64 (b : Int)]).alloc (.cells #[.int .i64 (r : Int)] 3)
        have d4 := Blk.new (((wr3.alloc (.cells #[.pointer (some ⟨Rb, 0, none⟩)] 101)).alloc (.cells #[.int .i64 (t : Int), .slice A1 n1 c1, .slice A2 n2 c2] 116)).alloc (.cells #[.int .i64 (b : Int)] 3)) 3 [.int .i64 (r : Int)]
        simp only [World.size_alloc] at d2 d3 d4
        have hbL : Below wr3.heap.size wr3 ((((wr3.alloc (.cells #[.pointer (some ⟨Rb, 0, none⟩)] 101)).alloc (.cells #[.int .i64 (t : Int), .slice A1 n1 c1, .slice A2 n2 c2] 116)).alloc (.cells #[.int .i64 (b : Int)] 3)).alloc (.cells #[.int .i64 (r : Int)] 3)) := ((((Below.refl _ wr3).alloc (Nat.le_refl _) _).alloc (by simp only [World.size_alloc]; omega) _).alloc (by simp only [World.size_alloc]; omega) _).alloc (by simp only [World.size_alloc]; omega) _
        change Blk 3 ((((wr3.alloc (.cells #[.pointer (some ⟨Rb, 0, none⟩)] 101)).alloc (.cells #[.int .i64 (t : Int), .slice A1 n1 c1, .slice A2 n2 c2] 116)).alloc (.cells #[.int .i64 (b : Int)] 3)).alloc (.cells #[.int .i64 (r : Int)] 3)) (wr3.heap.size + 1 + 1 + 1) [.int .i64 (r : Int)] at d4
        obtain ⟨WL, hWL⟩ : ∃ Z, Z = (((wr3.alloc (.cells #[.pointer (some ⟨Rb, 0, none⟩)] 101)).alloc (.cells #[.int .i64 (t : Int), .slice A1 n1 c1, .slice A2 n2 c2] 116)).alloc (.cells #[.int .i64 (b : Int)] 3)).alloc (.cells #[.int .i64 (r : Int)] 3) := ⟨_, rfl⟩
        rw [← hWL] at d1 d2 d3 d4 hbL ⊢
        clear hWL
        have hBL := HB3.out.keep hbL
        have hFL := HF3.out.keep hbL
        have BXL := hide (BX3.out.keep hbL)
        have BRL := hide (BR3.out.keep hbL)
        have BML := hide (BM3.out.keep hbL)
        have hRf : RfS WL Rb g s0 gl ms (some ⟨sb, so, none⟩) sn sc st am rm bm v0 v1 v2 v3 v4 (.slice (some ⟨mb, mo, none⟩) nM cM) v6 lim := ⟨by rw [← Hvs.out]; exact hBL.rf, Hwl.out.keep hBL.low, Hsl.out.keep hBL.low, hBL.atm, H.out.once, H.out.few, H.out.all⟩
        have hbst : b < st.length := by omega
        obtain ⟨q1, q2, q3, q4, q5⟩ := Hmsr.out m (List.mem_of_getElem? Hma.out)
        have ht100 : t ≤ 100 := by have := Ht.out; omega
        have hn2 : n2 ≤ 1000 := by have := Hmst.out.len; omega
        have hR3 := HR3.out
        have hJ0 : CJ w0 Rb am rm bm vs ms st hm lim r kn1.length ai b cb R3 rows bk Fb Ds3 WL (t := t) (xs := m.steps) [] WL := ⟨R3, cr3, kn3, fr3, A, n, c, hBL, hFL, hR3, (fun _ => Iff.rfl), (fun x hx => by cases hx), KpC.refl _, (fun D hD => (Array.getElem?_eq_some_iff.1 (hBL.mks D hD).2).1), hBL.rf.lt⟩
        have hin3 : ∀ c, (R3 c).isSome = true → c.i < st.length ∧ c.j < st.length ∧ c.n ≤ lim := fun c hc => (hR3.hin c hc).2
        have HJ0 := hide hJ0
        have HRf := hide hRf
        have HBL := hide hBL
        have HFL := hide hFL
        have Q2 := hide q2
        clear hJ0 hRf hBL hFL q1 q2 q3 hbL HB3 BX3 BR3 HF3 BM3 HR3
        refine (wpIn_wide (n := 9)).1 (range_changesC (w := WL) (by omega) (gf := 142) (lb := #[.pointer (some ⟨wr3.heap.size, 0, none⟩), .pointer (some ⟨wr3.heap.size + 1, 0, none⟩), .pointer (some ⟨wr3.heap.size + 1 + 1, 0, none⟩), .pointer (some ⟨wr3.heap.size + 1 + 1 + 1, 0, none⟩)]) rfl (enters_of Tryz.func142 (by kernel_rfl) rfl)
          (changes_stops 8 (by omega) wr3.heap.size (wr3.heap.size + 1) (wr3.heap.size + 1 + 1) (wr3.heap.size + 1 + 1 + 1) WL Rb g s0 gl ms (some ⟨sb, so, none⟩) sn sc st am rm bm v0 v1 v2 v3 v4 (.slice (some ⟨mb, mo, none⟩) nM cM) v6 lim HRf.out w0.heap.size cr3 cb R3 rows bk HBL.out.kn hin3 hst hlim A2 n2 c2 m.steps (Hmst.out.keep HBL.out.low) hn2 q4 t b r ht100 hbst hR3.full A1 n1 c1 d1 d2 d3 d4)
          KpC.trans (fun W l o o' h1 h2 h3 h4 => KpC.obj (n₀ := WL) W l o o' h1 h2 h3 h4) (Below.refl _ _) (fun _ => rfl)
          (CJ w0 Rb am rm bm vs ms st hm lim r kn1.length ai b cb R3 rows bk Fb Ds3 WL) (fun _ _ _ => False) CJ.own (fun _ _ _ _ _ hs _ _ => hs) HJ0.out ?assign ?body ?done ?stop)
        case stop =>
          intro D cc pre W _ _ h _
          exact h.elim
        case assign =>
          intro l pre x Wa K hi hK
          have HK := hide hK
          have Hi := hide hi
          clear hK hi
          obtain ⟨⟨xt, xi, xj, xn⟩, hx⟩ := x
          unfold encCn chV
          dsimp only
          gi_wp2
          exact HK.out _ _ ((KeepsOthers.alloc _ _).from _) (KpC.below ((Below.refl _ _).alloc (Nat.le_refl _) _)) (Hi.out.keep ((Below.refl _ _).alloc (Nat.le_refl _) _)) ⟨Wa.heap.size, Blk.new _ _ _, rfl⟩
        case body =>
          rintro l pre x a' Wb hl ⟨rr, hrr⟩ ⟨R, cr, kn, fr, A', n', c', j1, j2, j3, j4, j5, j6, j7, j8⟩ ⟨Bx, hBx, rfl⟩ hlt
          have hx := x.2
          obtain ⟨y, hyx⟩ : ∃ y : Chn, y = x.1 := ⟨_, rfl⟩
          rw [← hyx] at hBx hx ⊢
          have Hyx := hide hyx
          clear hyx
          obtain ⟨xt, xi, xj, xn⟩ := y
          obtain ⟨hx1, hx2, hx3, hx4, hx5⟩ := hx
          dsimp only at hx1 hx2 hx3 hx4 hx5 hBx
          unfold chV
          have hst64 := hst
          have hok : ChOk ⟨xt, xi, xj, xn⟩ := ⟨by simp only; omega, by simp only; omega, by simp only; omega, by simp only; omega⟩
          obtain ⟨kl, hkl⟩ := chKey hok
          unfold chC at hBx
          have b1 := (j6.blk BXL.out (by decide) (by decide)).cell 0
          have bR11 := j1.rf.cell 11
          rw [E.out.2.2.1] at bR11
          have y0 := hBx.cell 0
          have y1 := hBx.cell 1
          have y2 := hBx.cell 2
          have y3 := hBx.cell 3
          simp only [List.getElem?_cons_zero, List.getElem?_cons_succ] at b1 y0 y1 y2 y3
          have hlow : w0.heap.size ≤ Wb.heap.size := j1.low.size
          have J1 := hide j1
          have J2 := hide j2
          have J3 := hide j3
          have J4 := hide j4
          have J5 := hide j5
          have J6 := hide j6
          have J7 := hide j7
          have J8 := hide j8
          have HBx := hide hBx
          have Hok := hide hok
          have Hkl := hide hkl
          have HX1 := hide hx1
          have HX2 := hide hx2
          have HX5 := hide hx5
          clear j1 j2 j3 j4 j5 j6 j7 j8 hBx hok hkl hx1 hx2 hx5 hrr
          cases hRy : R ⟨xt, xi, xj, xn⟩ with
          | some qy =>
            have hlook : ∀ W' : World, W'.heap[rm]? = Wb.heap[rm]? → (Instr.lookup 104 (.map (some rm)) (.agg #[.int .i64 (xt : Int), .int .i64 (xi : Int), .int .i64 (xj : Int), .int .i64 (xn : Int)]) true).run Tryz.prog W' = .ok (.tuple #[.int .i64 (qy : Int), .bool true]) W' := fun W' e => by
              have := J1.out.kn.rnd.look lawCh (T := 104) (E := 3) Tryz.underlying104 zeroIA (key := ⟨xt, xi, xj, xn⟩) Hkl.out W' e
              simpa [hRy, chV] using this
            have Hlook := hide hlook
            have HRy := hide hRy
            clear hlook hRy
            gi_upto_region 14 with (fail)
            obtain ⟨V2, hV2⟩ : ∃ Z, Z = Wb.drew := ⟨_, rfl⟩
            have hbV : Below Wb.heap.size Wb V2 := by rw [hV2]; exact (Below.refl _ _).drew
            have HbV := hide hbV
            clear hbV
            refine wpIn_region_round (S := (fun w' => w'.cell? ⟨X1, 0, none⟩ = some (.pointer (some ⟨Rb, 0, none⟩)) ∧ w'.cell? ⟨Rb, 11, none⟩ = some (.map (some rm)) ∧ w'.cell? ⟨Bx, 0, none⟩ = some (.int .i64 (xt : Int)) ∧ w'.cell? ⟨Bx, 1, none⟩ = some (.int .i64 (xi : Int)) ∧ w'.cell? ⟨Bx, 2, none⟩ = some (.int .i64 (xj : Int)) ∧ w'.cell? ⟨Bx, 3, none⟩ = some (.int .i64 (xn : Int)) ∧ w'.heap[rm]? = Wb.heap[rm]?)) (by kernel_rfl) ?_ (by kernel_rfl) ?_ (fun hHeld => ?_)
            · rintro ⟨_, _, h⟩; exact h
            · exact ⟨b1, bR11, y0, y1, y2, y3, rfl⟩
            rw [← hV2] at hHeld ⊢
            clear hV2
            refine takeA (i := 0) (v := ?_) (some 52) rfl rfl (by kernel_rfl) (by kernel_rfl) (by kernel_rfl) (fun _ _ _ h => h) (Or.inl ⟨by rfl, ?_⟩) (by assumption) ?_
            rotate_left
            · intro w hSw; (try dsimp only at hSw); obtain ⟨s1, s2, s3, s4, s5, s6, s7⟩ := hSw; first | (go_simp; done) | (go_simp; with_reducible rfl)
            try simp only [Act.put, List.setIfInBounds_toArray, List.set_cons_zero, List.set_cons_succ]
            refine takeA (i := 1) (v := ?_) (some 53) rfl rfl (by kernel_rfl) (by kernel_rfl) (by kernel_rfl) (fun _ _ _ h => h) (Or.inl ⟨by rfl, ?_⟩) (by assumption) ?_
            rotate_left
            · intro w hSw; (try dsimp only at hSw); obtain ⟨s1, s2, s3, s4, s5, s6, s7⟩ := hSw; first | (go_simp; done) | (go_simp; with_reducible rfl)
            try simp only [Act.put, List.setIfInBounds_toArray, List.set_cons_zero, List.set_cons_succ]
            refine takeA (i := 2) (v := ?_) (some 54) rfl rfl (by kernel_rfl) (by kernel_rfl) (by kernel_rfl) (fun _ _ _ h => h) (Or.inl ⟨by rfl, ?_⟩) (by assumption) ?_
            rotate_left
            · intro w hSw; (try dsimp only at hSw); obtain ⟨s1, s2, s3, s4, s5, s6, s7⟩ := hSw; first | (go_simp; done) | (go_simp; with_reducible rfl)
            try simp only [Act.put, List.setIfInBounds_toArray, List.set_cons_zero, List.set_cons_succ]
            refine takeA (i := 3) (v := ?_) (some 55) rfl rfl (by kernel_rfl) (by kernel_rfl) (by kernel_rfl) (fun _ _ _ h => h) (Or.inl ⟨by rfl, ?_⟩) (by assumption) ?_
            rotate_left
            · intro w hSw; (try dsimp only at hSw); obtain ⟨s1, s2, s3, s4, s5, s6, s7⟩ := hSw; first | (go_simp; done) | (go_simp; with_reducible rfl)
            try simp only [Act.put, List.setIfInBounds_toArray, List.set_cons_zero, List.set_cons_succ]
            refine takeA (i := 4) (v := ?_) (some 56) rfl rfl (by kernel_rfl) (by kernel_rfl) (by kernel_rfl) (fun _ _ _ h => h) (Or.inl ⟨by rfl, ?_⟩) (by assumption) ?_
            rotate_left
            · intro w hSw; (try dsimp only at hSw); obtain ⟨s1, s2, s3, s4, s5, s6, s7⟩ := hSw; first | (go_simp; done) | (go_simp; with_reducible rfl)
            try simp only [Act.put, List.setIfInBounds_toArray, List.set_cons_zero, List.set_cons_succ]
            refine takeA (i := 5) (v := ?_) (some 57) rfl rfl (by kernel_rfl) (by kernel_rfl) (by kernel_rfl) (fun _ _ _ h => h) (Or.inl ⟨by rfl, ?_⟩) (by assumption) ?_
            rotate_left
            · intro w hSw; (try dsimp only at hSw); obtain ⟨s1, s2, s3, s4, s5, s6, s7⟩ := hSw; have hlk := Hlook.out w s7; first | (go_simp; done) | (go_simp; with_reducible rfl)
            try simp only [Act.put, List.setIfInBounds_toArray, List.set_cons_zero, List.set_cons_succ]
            refine takeA (i := 6) (v := ?_) (some 51) rfl rfl (by kernel_rfl) (by kernel_rfl) (by kernel_rfl) (fun _ _ _ h => h) (Or.inl ⟨by rfl, ?_⟩) (by assumption) ?_
            rotate_left
            · intro w hSw; (try dsimp only at hSw); obtain ⟨s1, s2, s3, s4, s5, s6, s7⟩ := hSw; first | (go_simp; done) | (go_simp; with_reducible rfl)
            try simp only [Act.put, List.setIfInBounds_toArray, List.set_cons_zero, List.set_cons_succ]
            refine takeA (i := 7) (v := ?_) (some 58) rfl rfl (by kernel_rfl) (by kernel_rfl) (by kernel_rfl) (fun _ _ _ h => h) (Or.inl ⟨by rfl, ?_⟩) (by assumption) ?_
            rotate_left
            · intro w hSw; (try dsimp only at hSw); obtain ⟨s1, s2, s3, s4, s5, s6, s7⟩ := hSw; first | (go_simp; done) | (go_simp; with_reducible rfl)
            try simp only [Act.put, List.setIfInBounds_toArray, List.set_cons_zero, List.set_cons_succ]
            refine takeA (i := 8) (v := ?_) (some 59) rfl rfl (by kernel_rfl) (by kernel_rfl) (by kernel_rfl) (fun _ _ _ h => h) (Or.inl ⟨by rfl, ?_⟩) (by assumption) ?_
            rotate_left
            · intro w hSw; (try dsimp only at hSw); obtain ⟨s1, s2, s3, s4, s5, s6, s7⟩ := hSw; first | (go_simp; done) | (go_simp; with_reducible rfl)
            try simp only [Act.put, List.setIfInBounds_toArray, List.set_cons_zero, List.set_cons_succ]
            refine takeA (i := 9) (v := ?_) (some 10) rfl rfl (by kernel_rfl) (by kernel_rfl) (by kernel_rfl) (fun _ _ _ h => h) (Or.inl ⟨by rfl, ?_⟩) (by assumption) ?_
            rotate_left
            · intro w hSw; (try dsimp only at hSw); obtain ⟨s1, s2, s3, s4, s5, s6, s7⟩ := hSw; first | (go_simp; done) | (go_simp; with_reducible rfl)
            try simp only [Act.put, List.setIfInBounds_toArray, List.set_cons_zero, List.set_cons_succ]
            refine takeA (i := 10) (v := ?_) (some 11) rfl rfl (by kernel_rfl) (by kernel_rfl) (by kernel_rfl) (fun _ _ _ h => h) (Or.inl ⟨by rfl, ?_⟩) (by assumption) ?_
            rotate_left
            · intro w hSw; (try dsimp only at hSw); obtain ⟨s1, s2, s3, s4, s5, s6, s7⟩ := hSw; first | (go_simp; done) | (go_simp; with_reducible rfl)
            try simp only [Act.put, List.setIfInBounds_toArray, List.set_cons_zero, List.set_cons_succ]
            refine wpAnyH_done (by kernel_rfl) ?_ _
            gi_wp2
            refine ⟨(KeepsOthers.of_belowH HbV.out).from _, KpC.below HbV.out, ?_⟩
            refine ⟨R, cr, kn, fr, A', n', c', J1.out.keep HbV.out, J2.out.keep HbV.out, J3.out, J4.out, fun z hz => ?_, J6.out.trans (KpC.below HbV.out), J7.out, J8.out⟩
            rcases List.mem_append.1 hz with hz | hz
            · exact J5.out z hz
            · rw [List.mem_singleton] at hz
              subst hz
              rw [← Hyx.out, HRy.out]
              rfl
          | none =>
            have hlook : ∀ W' : World, W'.heap[rm]? = Wb.heap[rm]? → (Instr.lookup 104 (.map (some rm)) (.agg #[.int .i64 (xt : Int), .int .i64 (xi : Int), .int .i64 (xj : Int), .int .i64 (xn : Int)]) true).run Tryz.prog W' = .ok (.tuple #[.int .i64 0, .bool false]) W' := fun W' e => by
              have := J1.out.kn.rnd.look lawCh (T := 104) (E := 3) Tryz.underlying104 zeroIA (key := ⟨xt, xi, xj, xn⟩) Hkl.out W' e
              simpa [hRy, chV] using this
            have Hlook := hide hlook
            have HRy := hide hRy
            clear hlook hRy
            gi_upto_region 14 with (fail)
            obtain ⟨V2, hV2⟩ : ∃ Z, Z = Wb.drew := ⟨_, rfl⟩
            have hbV : Below Wb.heap.size Wb V2 := by rw [hV2]; exact (Below.refl _ _).drew
            have HbV := hide hbV
            clear hbV
            refine wpIn_region_round (S := (fun w' => w'.cell? ⟨X1, 0, none⟩ = some (.pointer (some ⟨Rb, 0, none⟩)) ∧ w'.cell? ⟨Rb, 11, none⟩ = some (.map (some rm)) ∧ w'.cell? ⟨Bx, 0, none⟩ = some (.int .i64 (xt : Int)) ∧ w'.cell? ⟨Bx, 1, none⟩ = some (.int .i64 (xi : Int)) ∧ w'.cell? ⟨Bx, 2, none⟩ = some (.int .i64 (xj : Int)) ∧ w'.cell? ⟨Bx, 3, none⟩ = some (.int .i64 (xn : Int)) ∧ w'.heap[rm]? = Wb.heap[rm]?)) (by kernel_rfl) ?_ (by kernel_rfl) ?_ (fun hHeld => ?_)
            · rintro ⟨_, _, h⟩; exact h
            · exact ⟨b1, bR11, y0, y1, y2, y3, rfl⟩
            rw [← hV2] at hHeld ⊢
            clear hV2
            refine takeA (i := 0) (v := ?_) (some 52) rfl rfl (by kernel_rfl) (by kernel_rfl) (by kernel_rfl) (fun _ _ _ h => h) (Or.inl ⟨by rfl, ?_⟩) (by assumption) ?_
            rotate_left
            · intro w hSw; (try dsimp only at hSw); obtain ⟨s1, s2, s3, s4, s5, s6, s7⟩ := hSw; first | (go_simp; done) | (go_simp; with_reducible rfl)
            try simp only [Act.put, List.setIfInBounds_toArray, List.set_cons_zero, List.set_cons_succ]
            refine takeA (i := 1) (v := ?_) (some 53) rfl rfl (by kernel_rfl) (by kernel_rfl) (by kernel_rfl) (fun _ _ _ h => h) (Or.inl ⟨by rfl, ?_⟩) (by assumption) ?_
            rotate_left
            · intro w hSw; (try dsimp only at hSw); obtain ⟨s1, s2, s3, s4, s5, s6, s7⟩ := hSw; first | (go_simp; done) | (go_simp; with_reducible rfl)
            try simp only [Act.put, List.setIfInBounds_toArray, List.set_cons_zero, List.set_cons_succ]
            refine takeA (i := 2) (v := ?_) (some 54) rfl rfl (by kernel_rfl) (by kernel_rfl) (by kernel_rfl) (fun _ _ _ h => h) (Or.inl ⟨by rfl, ?_⟩) (by assumption) ?_
            rotate_left
            · intro w hSw; (try dsimp only at hSw); obtain ⟨s1, s2, s3, s4, s5, s6, s7⟩ := hSw; first | (go_simp; done) | (go_simp; with_reducible rfl)
            try simp only [Act.put, List.setIfInBounds_toArray, List.set_cons_zero, List.set_cons_succ]
            refine takeA (i := 3) (v := ?_) (some 55) rfl rfl (by kernel_rfl) (by kernel_rfl) (by kernel_rfl) (fun _ _ _ h => h) (Or.inl ⟨by rfl, ?_⟩) (by assumption) ?_
            rotate_left
            · intro w hSw; (try dsimp only at hSw); obtain ⟨s1, s2, s3, s4, s5, s6, s7⟩ := hSw; first | (go_simp; done) | (go_simp; with_reducible rfl)
            try simp only [Act.put, List.setIfInBounds_toArray, List.set_cons_zero, List.set_cons_succ]
            refine takeA (i := 4) (v := ?_) (some 56) rfl rfl (by kernel_rfl) (by kernel_rfl) (by kernel_rfl) (fun _ _ _ h => h) (Or.inl ⟨by rfl, ?_⟩) (by assumption) ?_
            rotate_left
            · intro w hSw; (try dsimp only at hSw); obtain ⟨s1, s2, s3, s4, s5, s6, s7⟩ := hSw; first | (go_simp; done) | (go_simp; with_reducible rfl)
            try simp only [Act.put, List.setIfInBounds_toArray, List.set_cons_zero, List.set_cons_succ]
            refine takeA (i := 5) (v := ?_) (some 57) rfl rfl (by kernel_rfl) (by kernel_rfl) (by kernel_rfl) (fun _ _ _ h => h) (Or.inl ⟨by rfl, ?_⟩) (by assumption) ?_
            rotate_left
            · intro w hSw; (try dsimp only at hSw); obtain ⟨s1, s2, s3, s4, s5, s6, s7⟩ := hSw; have hlk := Hlook.out w s7; first | (go_simp; done) | (go_simp; with_reducible rfl)
            try simp only [Act.put, List.setIfInBounds_toArray, List.set_cons_zero, List.set_cons_succ]
            refine takeA (i := 6) (v := ?_) (some 51) rfl rfl (by kernel_rfl) (by kernel_rfl) (by kernel_rfl) (fun _ _ _ h => h) (Or.inl ⟨by rfl, ?_⟩) (by assumption) ?_
            rotate_left
            · intro w hSw; (try dsimp only at hSw); obtain ⟨s1, s2, s3, s4, s5, s6, s7⟩ := hSw; first | (go_simp; done) | (go_simp; with_reducible rfl)
            try simp only [Act.put, List.setIfInBounds_toArray, List.set_cons_zero, List.set_cons_succ]
            refine takeA (i := 7) (v := ?_) (some 58) rfl rfl (by kernel_rfl) (by kernel_rfl) (by kernel_rfl) (fun _ _ _ h => h) (Or.inl ⟨by rfl, ?_⟩) (by assumption) ?_
            rotate_left
            · intro w hSw; (try dsimp only at hSw); obtain ⟨s1, s2, s3, s4, s5, s6, s7⟩ := hSw; first | (go_simp; done) | (go_simp; with_reducible rfl)
            try simp only [Act.put, List.setIfInBounds_toArray, List.set_cons_zero, List.set_cons_succ]
            refine takeA (i := 8) (v := ?_) (some 59) rfl rfl (by kernel_rfl) (by kernel_rfl) (by kernel_rfl) (fun _ _ _ h => h) (Or.inl ⟨by rfl, ?_⟩) (by assumption) ?_
            rotate_left
            · intro w hSw; (try dsimp only at hSw); obtain ⟨s1, s2, s3, s4, s5, s6, s7⟩ := hSw; first | (go_simp; done) | (go_simp; with_reducible rfl)
            try simp only [Act.put, List.setIfInBounds_toArray, List.set_cons_zero, List.set_cons_succ]
            refine takeA (i := 9) (v := ?_) (some 10) rfl rfl (by kernel_rfl) (by kernel_rfl) (by kernel_rfl) (fun _ _ _ h => h) (Or.inl ⟨by rfl, ?_⟩) (by assumption) ?_
            rotate_left
            · intro w hSw; (try dsimp only at hSw); obtain ⟨s1, s2, s3, s4, s5, s6, s7⟩ := hSw; first | (go_simp; done) | (go_simp; with_reducible rfl)
            try simp only [Act.put, List.setIfInBounds_toArray, List.set_cons_zero, List.set_cons_succ]
            refine takeA (i := 10) (v := ?_) (some 11) rfl rfl (by kernel_rfl) (by kernel_rfl) (by kernel_rfl) (fun _ _ _ h => h) (Or.inl ⟨by rfl, ?_⟩) (by assumption) ?_
            rotate_left
            · intro w hSw; (try dsimp only at hSw); obtain ⟨s1, s2, s3, s4, s5, s6, s7⟩ := hSw; first | (go_simp; done) | (go_simp; with_reducible rfl)
            try simp only [Act.put, List.setIfInBounds_toArray, List.set_cons_zero, List.set_cons_succ]
            refine wpAnyH_done (by kernel_rfl) ?_ _
            gi_upto_region 16 with (fail)
            clear b1 bR11 y0 y1 y2 y3 hHeld
            obtain ⟨V3, hV3⟩ : ∃ Z, Z = V2.drew := ⟨_, rfl⟩
            have hbV3 : Below Wb.heap.size Wb V3 := by rw [hV3]; exact HbV.out.drew
            have HbV3 := hide hbV3
            clear hbV3 HbV
            have i1 := J1.out.keep HbV3.out
            have i2 := J2.out.keep HbV3.out
            have hkn8 := J3.out.few hst hlim
            have hcr8 : cr < 1000000000000 := by have := J3.out.crl; omega
            obtain ⟨W6, hput, g1, hg6, hk6⟩ := i1.know ⟨xt, xi, xj, xn⟩ r HRy.out Hok.out hcr8
            unfold chV at hput
            have g2 := i2.know hg6 i1.kn.rnd.isMap
            have pX := BXL.out
            have c1 := ((J6.out.blk BXL.out (by decide) (by decide)).keep HbV3.out).cell 0
            have c11 := i1.rf.cell 11
            rw [E.out.2.2.1] at c11
            have cr0 := ((J6.out.blk BRL.out (by decide) (by decide)).keep HbV3.out).cell 0
            have bB3 := HBx.out.keep HbV3.out
            have bB6 := bB3.grown hg6 (fun e => by injection e with e; exact i1.kn.rnd.ne bB3 e.symm)
            have y0 := bB3.cell 0
            have y1 := bB3.cell 1
            have y2 := bB3.cell 2
            have y3 := bB3.cell 3
            have c16 := (hk6.blk ((J6.out.blk BXL.out (by decide) (by decide)).keep HbV3.out) (by decide) (by decide)).cell 0
            have c116 := g1.rf.cell 11
            rw [E.out.2.2.1] at c116
            have cr06 := (hk6.blk ((J6.out.blk BRL.out (by decide) (by decide)).keep HbV3.out) (by decide) (by decide)).cell 0
            have y06 := bB6.cell 0
            have y16 := bB6.cell 1
            have y26 := bB6.cell 2
            have y36 := bB6.cell 3
            simp only [List.getElem?_cons_zero, List.getElem?_cons_succ] at c1 cr0 y0 y1 y2 y3 c16 cr06 y06 y16 y26 y36
            clear pX
            have I1 := hide i1
            have I2 := hide i2
            have G1 := hide g1
            have G2 := hide g2
            have Hg6 := hide hg6
            have Hk6 := hide hk6
            have HBx6 := hide bB6
            have Hkn8 := hide hkn8
            clear i1 i2 g1 g2 hg6 hk6 bB3 bB6 hkn8 hcr8
            refine wpIn_region_round (S := (fun w' => w'.cell? ⟨X1, 0, none⟩ = some (.pointer (some ⟨Rb, 0, none⟩)) ∧ w'.cell? ⟨Rb, 11, none⟩ = some (.map (some rm)) ∧ w'.cell? ⟨Bx, 0, none⟩ = some (.int .i64 (xt : Int)) ∧ w'.cell? ⟨Bx, 1, none⟩ = some (.int .i64 (xi : Int)) ∧ w'.cell? ⟨Bx, 2, none⟩ = some (.int .i64 (xj : Int)) ∧ w'.cell? ⟨Bx, 3, none⟩ = some (.int .i64 (xn : Int)) ∧ w'.cell? ⟨Xr, 0, none⟩ = some (.int .i64 (r : Int)))) (by kernel_rfl) ?_ (by kernel_rfl) ?_ (fun hHeld => ?_)
            · rintro ⟨_, _, h⟩; exact h
            · rw [← hV3]; exact ⟨c1, c11, y0, y1, y2, y3, cr0⟩
            rw [← hV3] at hHeld ⊢
            clear hV3
            refine takeA (i := 0) (v := ?_) (some 62) rfl rfl (by kernel_rfl) (by kernel_rfl) (by kernel_rfl) (fun _ _ _ h => h) (Or.inl ⟨by rfl, ?_⟩) (by assumption) ?_
            rotate_left
            · intro w hSw; (try dsimp only at hSw); obtain ⟨s1, s2, s3, s4, s5, s6, s7⟩ := hSw; first | (go_simp; done) | (go_simp; with_reducible rfl)
            try simp only [Act.put, List.setIfInBounds_toArray, List.set_cons_zero, List.set_cons_succ]
            refine takeA (i := 1) (v := ?_) (some 63) rfl rfl (by kernel_rfl) (by kernel_rfl) (by kernel_rfl) (fun _ _ _ h => h) (Or.inl ⟨by rfl, ?_⟩) (by assumption) ?_
            rotate_left
            · intro w hSw; (try dsimp only at hSw); obtain ⟨s1, s2, s3, s4, s5, s6, s7⟩ := hSw; first | (go_simp; done) | (go_simp; with_reducible rfl)
            try simp only [Act.put, List.setIfInBounds_toArray, List.set_cons_zero, List.set_cons_succ]
            refine takeA (i := 2) (v := ?_) (some 64) rfl rfl (by kernel_rfl) (by kernel_rfl) (by kernel_rfl) (fun _ _ _ h => h) (Or.inl ⟨by rfl, ?_⟩) (by assumption) ?_
            rotate_left
            · intro w hSw; (try dsimp only at hSw); obtain ⟨s1, s2, s3, s4, s5, s6, s7⟩ := hSw; first | (go_simp; done) | (go_simp; with_reducible rfl)
            try simp only [Act.put, List.setIfInBounds_toArray, List.set_cons_zero, List.set_cons_succ]
            refine takeA (i := 3) (v := ?_) (some 65) rfl rfl (by kernel_rfl) (by kernel_rfl) (by kernel_rfl) (fun _ _ _ h => h) (Or.inl ⟨by rfl, ?_⟩) (by assumption) ?_
            rotate_left
            · intro w hSw; (try dsimp only at hSw); obtain ⟨s1, s2, s3, s4, s5, s6, s7⟩ := hSw; first | (go_simp; done) | (go_simp; with_reducible rfl)
            try simp only [Act.put, List.setIfInBounds_toArray, List.set_cons_zero, List.set_cons_succ]
            refine takeA (i := 4) (v := ?_) (some 66) rfl rfl (by kernel_rfl) (by kernel_rfl) (by kernel_rfl) (fun _ _ _ h => h) (Or.inl ⟨by rfl, ?_⟩) (by assumption) ?_
            rotate_left
            · intro w hSw; (try dsimp only at hSw); obtain ⟨s1, s2, s3, s4, s5, s6, s7⟩ := hSw; first | (go_simp; done) | (go_simp; with_reducible rfl)
            try simp only [Act.put, List.setIfInBounds_toArray, List.set_cons_zero, List.set_cons_succ]
            refine takeA (i := 5) (v := ?_) (some 67) rfl rfl (by kernel_rfl) (by kernel_rfl) (by kernel_rfl) (fun _ _ _ h => h) (Or.inl ⟨by rfl, ?_⟩) (by assumption) ?_
            rotate_left
            · intro w hSw; (try dsimp only at hSw); obtain ⟨s1, s2, s3, s4, s5, s6, s7⟩ := hSw; first | (go_simp; done) | (go_simp; with_reducible rfl)
            try simp only [Act.put, List.setIfInBounds_toArray, List.set_cons_zero, List.set_cons_succ]
            refine wpAnyH_ready (rs := [6]) (by kernel_rfl) (by simp) ?_
            refine AllReadyH.cons rfl (fun K hK => ?_) AllReadyH.nil
            go_simp
            refine hK.out _ _ ?_ (fun hHeld2 => ?_)
            · exact ⟨c16, c116, y06, y16, y26, y36, cr06⟩
            clear hK K hHeld hHeld2
            try simp only [Act.put, List.setIfInBounds_toArray, List.set_cons_zero, List.set_cons_succ]
            refine wpAnyH_done (by kernel_rfl) ?_ _
            clear c1 c11 y0 y1 y2 y3 cr0 hput c116 c16 cr06
            have f6 := G2.out.fb.cell 0
            simp only [List.getElem?_cons_zero] at f6
            have row6 := hide G2.out.row
            have hlow6 : w0.heap.size ≤ W6.heap.size := G1.out.low.size
            have hn6 : n' ≤ 1000000 := by
              have h1 := G2.out.row.len
              have h2 := Hkn8.out
              have h3 := J3.out.cnt
              omega
            have nAF : blkA A' ≠ some Fb := fun e => G2.out.row.neT G2.out.fb (by decide) e rfl
            have FB6 := hide G2.out.fb
            gi_wp2_with
              (gi_at_builtin
               refine wpListIn_pushCh rfl _ _ rfl rfl row6.out ⟨xt, xi, xj, xn⟩ Hok.out rfl hn6 hlow6 ?_
               intro O7 oc7 W7 hrow7 hch7 hat7
               have fb7 := hch7.blk FB6.out nAF
               have fS7 := fb7.frozen 0
               have lS7 := fb7.lt
               have cS7 := fb7.cell 0
               simp only [List.getElem?_cons_zero] at cS7
               have Hrow7 := hide hrow7
               have Hch7 := hide hch7
               have Hat7 := hide hat7
               clear fb7 hrow7 hch7 hat7)
            obtain ⟨m1, m2, m3, m4⟩ := FrS.grow G1.out G2.out Hrow7.out Hch7.out (Hat7.out.imp id (fun e => ⟨_, e, by omega⟩))
            refine ⟨(((KeepsOthers.of_belowH HbV3.out).from _).trans (KeepsFrom.of_grownBy Hg6.out (fun j e => by injection e with e; obtain ⟨l1, l2, l3, l4⟩ := G1.out.lo; have := HBL.out.rf.lt; omega))).trans (keepsFrom_chg m4 (fun b hb => ?_)), ((KpC.below HbV3.out).trans Hk6.out).trans m3, putR R r ⟨xt, xi, xj, xn⟩, cr + 1, kn ++ [⟨xt, xi, xj, xn⟩], fr ++ [⟨xt, xi, xj, xn⟩], O7, n' + 1, oc7, m1, m2, ?_, ?_, fun z hz => ?_, ((J6.out.trans (KpC.below HbV3.out)).trans Hk6.out).trans m3, J7.out, J8.out⟩
            · rcases hb with e | e
              · obtain ⟨cs, mm, hcl⟩ := G2.out.row.cells e
                exact ⟨_, _, _, hcl⟩
              · subst e
                exact G2.out.fb.cells
            · have htt : m.task.toNat = t := by have := Ht.out; omega
              refine J3.out.put Hma.out (by have := Ht.out; omega) Q2.out ⟨s, Hsb.out, Hc.out⟩ hbst (by simp only; rw [htt]; exact HX1.out) HX2.out hx3 hx4 ?_ HRy.out
              exact HX5.out.mono (fun z hz => (J4.out z).2 hz)
            · intro z
              rw [ere_put HRy.out (Nat.le_refl _) z]
              exact J4.out z
            · unfold putR
              split
              · rfl
              · rename_i hne
                rcases List.mem_append.1 hz with hz | hz
                · exact J5.out z hz
                · rw [List.mem_singleton] at hz
                  subst hz
                  exact absurd Hyx.out.symm hne
        case done =>
          rintro D ys Wd hD hys ⟨R, cr, kn, fr, A', n', c', j1, j2, j3, j4, j5, j6, j7, j8⟩ hKD
          have J1 := hide j1
          have J2 := hide j2
          have J3 := hide j3
          have J4 := hide j4
          have J5 := hide j5
          have J6 := hide j6
          have J7 := hide j7
          have HKD := hide hKD
          have Hys := hide hys
          clear j1 j2 j3 j4 j5 j6 j7 hKD hys
          dsimp only
          have hB' : ClB w0 Rb am rm bm vs st cr cb R rows bk (D :: Ds3) Wd := ⟨J1.out.low, J1.out.rf, J1.out.atm, J1.out.kn, J1.out.lo, (fun E hE => by
            rcases List.mem_cons.1 hE with rfl | hE
            · exact ⟨Nat.le_trans HBL.out.low.size hD, HKD.out⟩
            · exact J1.out.mks E hE), List.nodup_cons.2 ⟨fun hm2 => by have := J7.out D hm2; omega, J1.out.nd⟩⟩
          have HB' := hide hB'
          clear hB'
          go_wp2_with fail
          refine Handed.intro (sn - (b + 1)) ?_ (hJ3 _ _ _ ⟨b + 1, R, cr, kn, fr, A', n', c', D :: Ds3, rfl, by omega, rfl, rfl, rfl, rfl, rfl, rfl, rfl, rfl, rfl, rfl, rfl, by go_num, rfl, HB'.out, J6.out.blk BXL.out (by decide) (by decide), J6.out.blk BRL.out (by decide) (by decide), J2.out, J6.out.blk BML.out (by decide) (by decide), J3.out.step Hma.out (fun hcan n2' j' hn' hsp => ?_)⟩)
          · have := Hk3.out
            omega
          · have htt : m.task.toNat = t := by have := Ht.out; omega
            rw [htt]
            obtain ⟨x, hx, e⟩ := List.mem_map.1 (Hys.out ⟨t, b, j', n2'⟩ rfl rfl hn' (hsp.mono (fun y hy => (J4.out y).1 hy)))
            have := J5.out x hx
            rw [e] at this
            exact this
end Go.Proofs.YtmjiiddncbhgpaaGreat
namespace Go.Proofs.YtmjiiddncbhgpaaGreat
set_option linter.unusedVariables false
set_option linter.unusedSimpArgs false
open Go.RowKit Go.Shelf Go.Maps
attribute [local go_sem] Oper.semAt_some
/-- a row of ints of the call's own -/
def RowZ (B : Nat) (w : World) (A : Option Addr) (n c : Nat) (xs : List Int) : Prop := ∃ vs, OwnE Enc.int 3 B (fun _ => True) w A n c vs xs
section
variable {B n c : Nat} {w w' : World} {A : Option Addr} {xs : List Int}
theorem RowZ.nil (B : Nat) (w : World) : RowZ B w none 0 0 [] := ⟨_, OwnE.nil _ _ _ _ _⟩
theorem RowZ.len (h : RowZ B w A n c xs) : xs.length = n := let ⟨_, k⟩ := h; k.len
theorem RowZ.rd (h : RowZ B w A n c xs) : Rd Enc.int w A n c xs := let ⟨_, k⟩ := h; k.rd
theorem RowZ.keep (h : RowZ B w A n c xs) (hb : Below w.heap.size w w') : RowZ B w' A n c xs := let ⟨_, k⟩ := h; ⟨_, k.keep hb⟩
theorem RowZ.base (h : RowZ B w A n c xs) {r : Nat} (hr : blkA A = some r) : B ≤ r ∧ r < w.heap.size := let ⟨_, k⟩ := h; k.base hr
end
theorem RowZ.mono {B B' n c : Nat} {w : World} {A : Option Addr} {xs : List Int} (h : RowZ B w A n c xs) (hB : B' ≤ B) : RowZ B' w A n c xs := by
  obtain ⟨vs, h⟩ := h
  refine ⟨vs, ⟨⟨h.own.1, ?_⟩, h.len, h.elem⟩⟩
  rcases h.own.2 with e | ⟨q, cap, cur, e, hq, rest⟩
  · exact .inl e
  · exact .inr ⟨q, cap, cur, e, Nat.le_trans hB hq, rest⟩
theorem intInfoZ : (Tryz.prog.info? 3).map (fun i => (i.zero, i.size, i.bytes)) = some (some (.int .i64 0), 1, 8) := by kernel_rfl
theorem rowZ_one (w : World) (x : Int) (h1 : -9223372036854775808 ≤ x) (h2 : x ≤ 9223372036854775807) : RowZ w.heap.size (w.alloc (.cells #[.int .i64 x] 3)) (some ⟨w.heap.size, 0, none⟩) 1 1 [x] := by
  refine ⟨[.int .i64 x], ⟨⟨rfl, .inr ⟨w.heap.size, 1, #[.int .i64 x], rfl, Nat.le_refl _, heap_alloc_new w _, by omega, by unfold maxLen; omega, rfl, rfl⟩⟩, rfl, fun i y hy => ?_⟩⟩
  cases i with
  | zero => simp at hy; subst hy; exact ⟨[.int .i64 x], fun j v h => by simpa using h, firm_int h1 h2⟩
  | succ i => simp at hy
/-- one row onto another -/
theorem wpList_appendZ {w : World} {ops : Array Oper} {rest : List Oper} {o : Oper} {a : Act} {Q : Exit → Act → World → Prop} (hgd : o.guard = none) (s x : Operand)
    (ho : o.op = .call { callee := .builtin .append, args := #[s, x], argTypes := #[22, 22] })
    {B : Nat} {A : Option Addr} {n c : Nat} {xs : List Int} (hs : a.eval s = .slice A n c) (hown : RowZ B w A n c xs) {Y : Option Addr} {m d : Nat} {ys : List Int} (hr : Rd Enc.int w Y m d ys) (hx : a.eval x = .slice Y m d) (hn : n + m ≤ 1000000) (hbase : B ≤ w.heap.size)
    (h : ∀ O oc w', RowZ B w' O (n + m) oc (xs ++ ys) → Chg (fun b => blkA A = some b) w w' → wpList Tryz.prog ops Q rest (a.put o.dst (.slice O (n + m) oc)) w') :
    wpList Tryz.prog ops Q (o :: rest) a w := by
  obtain ⟨i1, hi1, hz0, hz1, hz2⟩ := info_parts intInfoZ
  obtain ⟨vs, hown⟩ := hown
  exact wpList_appendE hgd s x 22 ho B 3 i1 (.int .i64 0) 8 Tryz.underlying22 hi1 hz0 hz1 hz2 rfl (by decide) (fun _ _ _ h => one_int h) hs hown (fun _ _ => trivial) hr (Below.refl _ _) (fun us y hok _ => by
    obtain ⟨e1, e2, e3⟩ := hok
    subst e1
    exact firm_int e2 e3) hx (by omega) (by omega) hbase
    fun O oc w' vs' hown' hch hat => h O oc w' ⟨_, hown'.less fun _ _ _ => .inl trivial⟩ hch
/-- what stays the same once all changes are known -/
structure FC where
  Rb : Nat
  g : Nat
  s0 : Nat
  gl : Nat
  ms : List Mk
  SA : Option Addr
  sn : Nat
  sc : Nat
  st : List Nat
  am : Nat
  rm : Nat
  bm : Nat
  v0 : Value
  v1 : Value
  v2 : Value
  v3 : Value
  v4 : Value
  v6 : Value
  lim : Nat
  B : Nat
  cr : Nat
  cb : Nat
  R : Chn → Option Nat
  rows : KP → Option RowC
  bk : KP → List Chn
  M : Option Addr
  nM : Nat
  cM : Nat
  hm : List Hm
structure FxS (f : FC) (W : World) : Prop where
  rf : RfS W f.Rb f.g f.s0 f.gl f.ms f.SA f.sn f.sc f.st f.am f.rm f.bm f.v0 f.v1 f.v2 f.v3 f.v4 (.slice f.M f.nM f.cM) f.v6 f.lim
  kn : KnS f.B W f.rm f.bm f.cr f.cb f.R f.rows f.bk
  me : Rd Enc.me W f.M f.nM f.cM f.hm
theorem FxS.keep {f : FC} {W W' : World} (h : FxS f W) (hb : Below W.heap.size W W') : FxS f W' := ⟨h.rf.keep hb, h.kn.keep hb, h.me.keep hb⟩
structure FxK (f : FC) : Prop where
  ins : ∀ c, (f.R c).isSome = true → ChIn f.st.length f.lim c
  full : ∀ c q, f.R c = some q → c ∈ f.bk (c.t, c.i)
  snd : ∀ c q, f.R c = some q → q ≤ 1000000 ∧ Found (aftW f.ms f.st) (canS f.st) f.hm f.lim (Ere f.R q) c
  mr : ∀ m ∈ f.hm, 0 ≤ m.task ∧ m.task < 16 ∧ (∀ x ∈ m.pre, 0 ≤ x ∧ x < 32) ∧ (∀ x ∈ m.steps, -1000 ≤ x ∧ x < 1000) ∧ m.steps.length ≤ 1000
  st64 : f.st.length ≤ 64
  lim8 : f.lim ≤ 8
/-- steps taken with just so many operators -/
def ExactP (f : FC) (G : Chn → Prop) (w : World) (xs : List Int) (i j n : Nat) (e : Ending) (w' : World) : Prop :=
  Below w.heap.size w w' ∧ ∃ (O : Option Addr) (m oc : Nat) (l : List Int) (ok : Bool), e = .returned (.tuple #[.slice O m oc, .bool ok]) ∧ RowZ w.heap.size w' O m oc l ∧ l.length ≤ xs.length + n ∧ (ok = true ↔ SpR (aftW f.ms f.st) G xs i n j) ∧ (ok = true → l.length = n ∧ SegI (aftW f.ms f.st) (canS f.st) f.hm xs i l j)
def ExactAt (f : FC) (r : Nat) (xs : List Int) : Prop := ∀ (W : World) (X : Option Addr) (nX cX i j n : Nat), FxS f W → Rd Enc.int W X nX cX xs → i < f.st.length → j < f.st.length → n ≤ f.lim →
  Calls Tryz.prog 67 #[.pointer (some ⟨f.Rb, 0, none⟩), .slice X nX cX, .int .i64 (i : Int), .int .i64 (j : Int), .int .i64 (n : Int), .int .i64 (r : Int)] W (ExactP f (Ere f.R r) W xs i j n)
/-- the operators of a change -/
def PlanP (f : FC) (c : Chn) (w : World) (e : Ending) (w' : World) : Prop :=
  Below w.heap.size w w' ∧ ∃ (O : Option Addr) (m oc : Nat) (l : List Int), e = .returned (.slice O m oc) ∧ RowZ w.heap.size w' O m oc l ∧ l.length = c.n ∧ ∃ m ∈ f.hm, m.task = (c.t : Int) ∧ canS f.st m c.i ∧ SegI (aftW f.ms f.st) (canS f.st) f.hm m.steps c.i l c.j
def PlanAt (f : FC) (c : Chn) : Prop := ∀ W : World, FxS f W → Calls Tryz.prog 113 #[.pointer (some ⟨f.Rb, 0, none⟩), chV c] W (PlanP f c W)
theorem spr_op {aft : Nat → Nat → Nat → Prop} {G : Chn → Prop} {x : Int} {xs : List Int} {i n j : Nat} (hx : 0 ≤ x) : SpR aft G (x :: xs) i n j ↔ ∃ k m, n = m + 1 ∧ aft x.toNat i k ∧ SpR aft G xs k m j := by
  rw [SpR, if_pos hx]
theorem spr_task {aft : Nat → Nat → Nat → Prop} {G : Chn → Prop} {x : Int} {xs : List Int} {i n j : Nat} (hx : x < 0) : SpR aft G (x :: xs) i n j ↔ ∃ k a b, n = a + b ∧ G ⟨(-1 - x).toNat, i, k, a⟩ ∧ SpR aft G xs k b j := by
  rw [SpR, if_neg (by omega)]
set_option maxRecDepth 100000 in
set_option maxHeartbeats 12800000 in
theorem exact_nil (f : FC) (r : Nat) : ExactAt f r [] := by
  intro W X nX cX i j n hF hX hi hj hn
  have hla := hX.len
  have h1 : nX = 0 := by simpa using hla.symm
  subst h1
  have Hij := hide (And.intro hi hj)
  clear hF hX hi hj hla
  by_cases e : i = j
  · subst e
    by_cases e0 : n = 0
    · subst e0
      go_enter Tryz.func67, Tryz.ntmps67
      go_wp2
      refine bodyPost_ret (v := .tuple #[.slice none 0 0, .bool true]) (by simp [results, Tryz.results67, go_sem]) rfl ?_
      exact ⟨Below.refl _ _, none, 0, 0, [], true, rfl, .nil _ _, by simp, by simp [SpR], fun _ => ⟨rfl, .nil⟩⟩
    · have e1 : ((n : Int) == 0) = false := by rw [beq_eq_false_iff_ne]; omega
      have e2 : ¬ (n : Int) = 0 := by omega
      have E0 := hide e0
      clear e0
      go_enter Tryz.func67, Tryz.ntmps67
      go_wp2
      refine bodyPost_ret (v := .tuple #[.slice none 0 0, .bool false]) (by simp [results, Tryz.results67, go_sem]) rfl ?_
      have e0 := E0.out
      exact ⟨Below.refl _ _, none, 0, 0, [], false, rfl, .nil _ _, by simp, by simp [SpR, e0], fun h => by cases h⟩
  · have e1 : ((i : Int) == (j : Int)) = false := by rw [beq_eq_false_iff_ne]; omega
    have e2 : ¬ (i : Int) = (j : Int) := by omega
    have E0 := hide e
    clear e
    go_enter Tryz.func67, Tryz.ntmps67
    go_wp2
    refine bodyPost_ret (v := .tuple #[.slice none 0 0, .bool false]) (by simp [results, Tryz.results67, go_sem]) rfl ?_
    have e0 := E0.out
    exact ⟨Below.refl _ _, none, 0, 0, [], false, rfl, .nil _ _, by simp, by simp [SpR, e0], fun h => by cases h⟩
set_option maxRecDepth 100000 in
set_option maxHeartbeats 12800000 in
theorem exact_op (f : FC) (K : FxK f) (r xn : Nat) (xs : List Int) (hx1 : xn < 1000) (hxl : xs.length ≤ 1000) (ih : ExactAt f r xs) : ExactAt f r ((xn : Int) :: xs) := by
  intro W X nX cX i j n hF hX hi hj hn
  have hla := hX.len
  have h1 : 0 < nX := by rw [← hla]; simp
  have hlow := hX.low
  have hl2 : nX - 1 = xs.length := by rw [← hla]; simp
  obtain ⟨A2, hA2⟩ : ∃ A2, A2 = (if cX = 1 then X else X.map (·.add 1)) := ⟨_, rfl⟩
  have hs1 : ∀ w, (Instr.sliceAt 22 (.slice X nX cX) (some (.int .i64 1)) none none).run Tryz.prog w = .ok (.slice A2 (nX - 1) (cX - 1)) w := fun w => by
    have := run_from (P := Tryz.prog) 22 Tryz.t3 Tryz.underlying22 (by kernel_rfl) X nX cX 1 (by omega) w
    rw [hA2]
    simpa [Tryz.t3] using this
  have hra : Rd Enc.int W A2 (nX - 1) (cX - 1) xs := by rw [hA2]; simpa [Enc.int] using hX.from_ (k := 1) (by omega)
  obtain ⟨b1, off1, x', rfl, hx, _, _, hcx⟩ := hX.int h1
  obtain rfl : (xn : Int) = x' := by simpa using hx
  rw [Nat.add_zero] at hcx
  have h4 : ((nX : Int) == 0) = false := by rw [beq_eq_false_iff_ne]; omega
  have h1i : (0 : Int) < (nX : Int) := by omega
  obtain ⟨s, hs⟩ : ∃ s, f.st[i]? = some s := ⟨_, List.getElem?_eq_getElem hi⟩
  have hx0 : (0 : Int) ≤ (xn : Int) := by omega
  have hst8 := K.lim8
  have HF := hide hF
  have Hra := hide hra
  have Hs := hide hs
  have Hij := hide (And.intro hi hj)
  have Hl2 := hide hl2
  have Ih := hide ih
  have HK := hide K
  clear hF hX hx hla hA2 hra hs hi hj hl2 ih K
  by_cases hex : ∃ k, aftW f.ms f.st xn i k
  · obtain ⟨k, hk⟩ := hex
    have hkl : k < f.st.length := let ⟨_, _, _, _, _, h4⟩ := hk; (List.getElem?_eq_some_iff.1 h4).1
    have Hk := hide hk
    have Hkl := hide hkl
    clear hk hkl
    have Haft := hide (fun (W' : World) (hF' : FxS f W') => (after_ct W' f.Rb f.g f.s0 f.gl f.ms f.SA f.sn f.sc f.st f.am f.rm f.bm f.v0 f.v1 f.v2 f.v3 f.v4 (.slice f.M f.nM f.cM) f.v6 f.lim i s xn hF'.rf Hs.out hx1).mono (R' := fun e w' => Below W'.heap.size W' w' ∧ e = .returned (.tuple #[.int .i64 (k : Int), .bool true])) (by
      rintro e w' ⟨hb, ⟨k', rfl, _, h'⟩ | ⟨rfl, hno⟩⟩
      · obtain rfl := aftW_one hF'.rf.once Hk.out h'
        exact ⟨hb, rfl⟩
      · exact absurd Hk.out (hno k)))
    cases n with
    | zero =>
      go_enter Tryz.func67, Tryz.ntmps67
      go_wp2
      go_quiet (fail)
      obtain ⟨w1, hW⟩ : ∃ Z, Z = W.drewN nq := ⟨_, rfl⟩
      have hb1 : Below W.heap.size W w1 := by rw [hW]; exact (show Qt W (W.drewN nq) from ⟨_, rfl⟩).below _
      rw [← hW]
      have Hb1 := hide hb1
      clear hW hcx hb1
      go_wp2_with (go_at_call 112; refine (Haft.out w1 (HF.out.keep Hb1.out)).mono ?_; rintro e w5 ⟨hb5, rfl⟩; have Hb5 := hide hb5; clear hb5)
      refine bodyPost_ret (v := .tuple #[.slice none 0 0, .bool false]) (by simp [results, Tryz.results67, go_sem]) rfl ?_
      refine ⟨Hb1.out.trans (Hb5.out.mono Hb1.out.size), none, 0, 0, [], false, rfl, .nil _ _, by simp, ?_, fun h => by cases h⟩
      rw [spr_op (by omega)]
      simp
    | succ n =>
      have hnI : ((n + 1 : Nat) : Int) - 1 = (n : Int) := by omega
      have hnw : IntKind.i64.wrap (((n + 1 : Nat) : Int) - 1) = (n : Int) := by rw [IntWalk.i64_in _ (by omega)]; omega
      have hn0 : ¬ ((n + 1 : Nat) : Int) = 0 := by omega
      have hn1 : (((n + 1 : Nat) : Int) == 0) = false := by rw [beq_eq_false_iff_ne]; omega
      have Hih := hide (fun (W' : World) (hF' : FxS f W') (hX' : Rd Enc.int W' A2 (nX - 1) (cX - 1) xs) => Ih.out W' A2 (nX - 1) (cX - 1) k j n hF' hX' Hkl.out Hij.out.2 (by omega))
      clear Ih
      go_enter Tryz.func67, Tryz.ntmps67
      go_wp2
      go_quiet (fail)
      obtain ⟨w1, hW⟩ : ∃ Z, Z = W.drewN nq := ⟨_, rfl⟩
      have hb1 : Below W.heap.size W w1 := by rw [hW]; exact (show Qt W (W.drewN nq) from ⟨_, rfl⟩).below _
      rw [← hW]
      have Hb1 := hide hb1
      clear hW hcx hb1
      go_wp2_with (first
        | (go_at_call 112
           refine (Haft.out w1 (HF.out.keep Hb1.out)).mono ?_
           rintro e w5 ⟨hb5, rfl⟩
           have Hb5 := hide (Hb1.out.trans (hb5.mono Hb1.out.size))
           clear hb5)
        | (go_at_call 67
           refine (Hih.out w5 (HF.out.keep Hb5.out) (Hra.out.keep Hb5.out)).mono ?_
           rintro e w6 ⟨hb6, O6, m6, oc6, l6, ok6, rfl, hrow6, hll6, hiff6, hseg6⟩
           have Hb6 := hide (Hb5.out.trans (hb6.mono Hb5.out.size))
           have Hrow6 := hide hrow6
           have Hiff6 := hide hiff6
           have Hseg6 := hide hseg6
           have Hll6 := hide hll6
           have hm6 := hrow6.len
           have hl2 := Hl2.out
           have hmm6 : 1 + m6 ≤ 1000000 := by omega
           have Hm6 := hide hm6
           clear hb6 hrow6 hll6 hiff6 hseg6 hm6 hl2)
        | (at_builtin
           refine wpList_appendZ rfl _ _ rfl rfl (rowZ_one w6 (xn : Int) (by omega) (by omega)) (Hrow6.out.rd.keep ((Below.refl _ _).alloc (Nat.le_refl _) _)) rfl hmm6 (by simp only [World.size_alloc]; omega) ?_
           intro O7 oc7 w7 hrow7 hch7
           have Hrow7 := hide hrow7
           have Hb7 := hide (((Below.refl w6.heap.size w6).alloc (Nat.le_refl _) (.cells #[.int .i64 (xn : Int)] 3)).trans (hch7.below (B := w6.heap.size) (fun b e => by simp [blkA] at e; omega) (by simp only [World.size_alloc]; omega)))
           clear hrow7 hch7))
      refine bodyPost_ret (v := .tuple #[.slice O7 (1 + m6) oc7, .bool ok6]) (by simp [results, Tryz.results67, go_sem]) rfl ?_
      have hb7 := Hb6.out.trans (Hb7.out.mono Hb6.out.size)
      refine ⟨hb7, O7, 1 + m6, oc7, [(xn : Int)] ++ l6, ok6, rfl, Hrow7.out.mono Hb6.out.size, ?_, ?_, fun h => ?_⟩
      · have := Hll6.out
        simp only [List.length_append, List.length_cons, List.length_nil]
        omega
      · rw [spr_op (by omega), Hiff6.out]
        constructor
        · exact fun h => ⟨k, n, rfl, Hk.out, h⟩
        · rintro ⟨k', m, e, h1, h2⟩
          obtain rfl := aftW_one HF.out.rf.once Hk.out h1
          obtain rfl : n = m := by omega
          exact h2
      · obtain ⟨e1, e2⟩ := Hseg6.out h
        exact ⟨by simp only [List.length_append, List.length_cons, List.length_nil]; omega, .op (by omega) Hk.out e2⟩
  · have Hno := hide hex
    clear hex
    have Haft := hide (fun (W' : World) (hF' : FxS f W') => (after_ct W' f.Rb f.g f.s0 f.gl f.ms f.SA f.sn f.sc f.st f.am f.rm f.bm f.v0 f.v1 f.v2 f.v3 f.v4 (.slice f.M f.nM f.cM) f.v6 f.lim i s xn hF'.rf Hs.out hx1).mono (R' := fun e w' => Below W'.heap.size W' w' ∧ e = .returned (.tuple #[.int .i64 0, .bool false])) (by
      rintro e w' ⟨hb, ⟨k', rfl, _, h'⟩ | ⟨rfl, hno⟩⟩
      · exact absurd ⟨k', h'⟩ Hno.out
      · exact ⟨hb, rfl⟩))
    go_enter Tryz.func67, Tryz.ntmps67
    go_wp2
    go_quiet (fail)
    obtain ⟨w1, hW⟩ : ∃ Z, Z = W.drewN nq := ⟨_, rfl⟩
    have hb1 : Below W.heap.size W w1 := by rw [hW]; exact (show Qt W (W.drewN nq) from ⟨_, rfl⟩).below _
    rw [← hW]
    have Hb1 := hide hb1
    clear hW hcx hb1
    go_wp2_with (go_at_call 112; refine (Haft.out w1 (HF.out.keep Hb1.out)).mono ?_; rintro e w5 ⟨hb5, rfl⟩; have Hb5 := hide hb5; clear hb5)
    refine bodyPost_ret (v := .tuple #[.slice none 0 0, .bool false]) (by simp [results, Tryz.results67, go_sem]) rfl ?_
    refine ⟨Hb1.out.trans (Hb5.out.mono Hb1.out.size), none, 0, 0, [], false, rfl, .nil _ _, by simp, ?_, fun h => by cases h⟩
    rw [spr_op (by omega)]
    refine ⟨fun h => (by cases h), ?_⟩
    rintro ⟨k, m, _, h, _⟩
    exact absurd ⟨k, h⟩ Hno.out
set_option maxRecDepth 100000 in
set_option maxHeartbeats 12800000 in
theorem exact_task (f : FC) (K : FxK f) (r x : Nat) (xs : List Int) (hr : r ≤ 2000000000) (hx1 : x < 1000) (hxl : xs.length ≤ 1000) (hp : ∀ c q, f.R c = some q → q < r → PlanAt f c) (ih : ExactAt f r xs) : ExactAt f r ((-1 - (x : Int)) :: xs) := by
  intro W X nX cX i j n hF hX hi hj hn
  obtain ⟨y, hy⟩ : ∃ y : Int, y = -1 - (x : Int) := ⟨_, rfl⟩
  rw [← hy] at hX ⊢
  have hyn : ¬ (0 ≤ y) := by omega
  have hyx : -1 - y = (x : Int) := by omega
  have hyw : IntKind.i64.wrap (-1 - y) = (x : Int) := by rw [IntWalk.i64_in _ (by omega)]; omega
  have hla := hX.len
  have h1 : 0 < nX := by rw [← hla]; simp
  have hlow := hX.low
  have hl2 : nX - 1 = xs.length := by rw [← hla]; simp
  obtain ⟨A2, hA2⟩ : ∃ A2, A2 = (if cX = 1 then X else X.map (·.add 1)) := ⟨_, rfl⟩
  have hs1 : ∀ w, (Instr.sliceAt 22 (.slice X nX cX) (some (.int .i64 1)) none none).run Tryz.prog w = .ok (.slice A2 (nX - 1) (cX - 1)) w := fun w => by
    have := run_from (P := Tryz.prog) 22 Tryz.t3 Tryz.underlying22 (by kernel_rfl) X nX cX 1 (by omega) w
    rw [hA2]
    simpa [Tryz.t3] using this
  have hra : Rd Enc.int W A2 (nX - 1) (cX - 1) xs := by rw [hA2]; simpa [Enc.int] using hX.from_ (k := 1) (by omega)
  obtain ⟨b1, off1, x', rfl, hx, _, _, hcx⟩ := hX.int h1
  obtain rfl : y = x' := by simpa using hx
  rw [Nat.add_zero] at hcx
  have h4 : ((nX : Int) == 0) = false := by rw [beq_eq_false_iff_ne]; omega
  have h1i : (0 : Int) < (nX : Int) := by omega
  have hst8 := K.lim8
  have hst64 := K.st64
  obtain ⟨kl, hkl⟩ := kpKey (p := (x, i)) ⟨by simp only; omega, by simp only; omega⟩
  obtain ⟨⟨rA, rn, rc⟩, hrow⟩ : ∃ z, rowAtC f.rows (x, i) = z := ⟨_, rfl⟩
  obtain ⟨us, hown⟩ := hF.kn.by_.at_ (x, i)
  rw [hrow] at hown
  simp only at hown
  have hrd := hown.rd
  have hrlow := hrd.low
  have HF := hide hF
  have Hra := hide hra
  have Hij := hide (And.intro hi hj)
  have Hl2 := hide hl2
  have Ih := hide ih
  have HK := hide K
  have Hp := hide hp
  have Hy := hide hy
  have Hrd := hide hrd
  have Hrow := hide hrow
  have Hkl := hide hkl
  clear hF hX hx hla hA2 hra hi hj hl2 ih K hp hy hown hrd hrow hkl
  go_enter Tryz.func67, Tryz.ntmps67
  go_wp2
  go_quiet (fail)
  obtain ⟨w1, hW⟩ : ∃ Z, Z = W.drewN nq := ⟨_, rfl⟩
  have hb1 : Below W.heap.size W w1 := by rw [hW]; exact (show Qt W (W.drewN nq) from ⟨_, rfl⟩).below _
  rw [← hW]
  have Hb1 := hide hb1
  clear hW hcx hb1
  have hF1 := HF.out.keep Hb1.out
  have r12 := hF1.rf.blk.cell 12
  simp only [List.getElem?_cons_zero, List.getElem?_cons_succ] at r12
  have hlook : (Instr.lookup 105 (.map (some f.bm)) (.agg #[.int .i64 (x : Int), .int .i64 (i : Int)]) false).run Tryz.prog w1 = .ok (.slice rA rn rc) w1 := by
    have := hF1.kn.by_.map.look1 lawKp (T := 105) (E := 172) Tryz.underlying105 zeroCs (key := (x, i)) Hkl.out w1 rfl
    rw [getD_vC, Hrow.out] at this
    exact this
  have HF1 := hide hF1
  clear hF1
  go_wp2_with fail
  clear hlook r12
  go_loopw [79] (fun o wr => ∃ k : Nat, k ≤ rn ∧ o = .int .i64 k ∧ Below w1.heap.size w1 wr ∧ ∀ c ∈ (f.bk (x, i)).take k, ∀ m, n = c.n + m → Ere f.R r c → ¬ SpR (aftW f.ms f.st) (Ere f.R r) xs c.j m j) (fun o _ => rn - (intOf o).toNat)
  case atStart => exact ⟨0, by omega, rfl, Below.refl _ _, fun c hc => by simp at hc⟩
  case round =>
    obtain ⟨k, hkn, rfl, hbw, hno⟩ := hrel
    have Hbw := hide hbw
    have Hno := hide hno
    clear hbw hno
    by_cases hlt : k < rn
    rotate_left
    · obtain rfl : k = rn := by omega
      go_wp2_with fail
      refine bodyPost_ret (v := .tuple #[.slice none 0 0, .bool false]) (by simp [results, Tryz.results67, go_sem]) rfl ?_
      refine ⟨Hb1.out.trans (Hbw.out.mono Hb1.out.size), none, 0, 0, [], false, rfl, .nil _ _, by simp, ?_, fun h => by cases h⟩
      rw [spr_task (by omega)]
      refine ⟨fun h => (by cases h), ?_⟩
      rintro ⟨k', a, b, e, hG, hS⟩
      obtain ⟨q, hq, hqr⟩ := hG
      have hyt : (-1 - y).toNat = x := by omega
      have hm := HK.out.full _ q hq
      simp only [hyt] at hm hq
      have hlen := Hrd.out.len
      exact absurd hS (Hno.out _ (by rw [List.take_of_length_le (by omega)]; exact hm) b e ⟨q, hq, hqr⟩)
    · have hki : (k : Int) < (rn : Int) := by omega
      obtain ⟨ab, ao, c, eA, hck, hcok, y0, y1, y2, y3⟩ := ((Hrd.out.keep Hb1.out).keep Hbw.out).chn (k := k) hlt
      subst eA
      have hcm := List.mem_of_getElem? hck
      obtain ⟨ct, ci, cR⟩ := HF.out.kn.own x i c hcm
      obtain ⟨q, hq⟩ := Option.isSome_iff_exists.1 cR
      have hch := HK.out.ins c cR
      have hcn := hch.2.2.2
      have hcj := hch.2.2.1
      have hqs := (HK.out.snd c q hq).1
      have Hck := hide hck
      have Hcok := hide hcok
      have Hct := hide (And.intro ct ci)
      have Hq := hide hq
      have Hcj := hide hcj
      clear hck hcok hcm ct ci cR hq hch hcj
      go_upto_region 13 with (fail)
      have hal := (Below.refl wr.heap.size wr).alloc (Nat.le_refl _) (.cells #[.int .i64 (c.t : Int), .int .i64 (c.i : Int), .int .i64 (c.j : Int), .int .i64 (c.n : Int)] 176)
      have dC := Blk.new wr 176 [.int .i64 (c.t : Int), .int .i64 (c.i : Int), .int .i64 (c.j : Int), .int .i64 (c.n : Int)]
      change Blk 176 (wr.alloc (.cells #[.int .i64 (c.t : Int), .int .i64 (c.i : Int), .int .i64 (c.j : Int), .int .i64 (c.n : Int)] 176)) wr.heap.size [.int .i64 (c.t : Int), .int .i64 (c.i : Int), .int .i64 (c.j : Int), .int .i64 (c.n : Int)] at dC
      obtain ⟨V2, hV2⟩ : ∃ Z, Z = wr.alloc (.cells #[.int .i64 (c.t : Int), .int .i64 (c.i : Int), .int .i64 (c.j : Int), .int .i64 (c.n : Int)] 176) := ⟨_, rfl⟩
      rw [← hV2] at hal dC ⊢
      clear hV2 y0 y1 y2 y3
      obtain ⟨Bc, hBc⟩ : ∃ z, z = wr.heap.size := ⟨_, rfl⟩
      rw [← hBc] at dC ⊢
      clear hBc
      obtain ⟨V3, hV3⟩ : ∃ Z, Z = V2.drew := ⟨_, rfl⟩
      have hb3 : Below wr.heap.size wr V3 := by rw [hV3]; exact hal.drew
      replace dC := dC.keep (show Below V2.heap.size V2 V3 by rw [hV3]; exact (Below.refl _ _).drew)
      have hF3 := (HF1.out.keep Hbw.out).keep hb3
      have r11 := hF3.rf.blk.cell 11
      have z0 := dC.cell 0
      have z1 := dC.cell 1
      have z2 := dC.cell 2
      have z3 := dC.cell 3
      simp only [List.getElem?_cons_zero, List.getElem?_cons_succ] at r11 z0 z1 z2 z3
      obtain ⟨kc, hkc⟩ := chKey Hcok.out
      have hlk0 : ∀ W' : World, W'.heap[f.rm]? = V3.heap[f.rm]? → (Instr.lookup 104 (.map (some f.rm)) (.agg #[.int .i64 (c.t : Int), .int .i64 (c.i : Int), .int .i64 (c.j : Int), .int .i64 (c.n : Int)]) false).run Tryz.prog W' = .ok (.int .i64 (q : Int)) W' := fun W' e => by
        have := hF3.kn.rnd.look1 lawCh (T := 104) (E := 3) Tryz.underlying104 zeroIA (key := c) hkc W' e
        simpa [Hq.out, chV] using this
      have Hlk := hide hlk0
      have Hb3 := hide hb3
      have DC := hide dC
      clear hal dC hF3 hkc hlk0 hb3
      refine wp_region_held_drew (S := (fun w' => w'.cell? ⟨Bc, 0, none⟩ = some (.int .i64 (c.t : Int)) ∧ w'.cell? ⟨Bc, 1, none⟩ = some (.int .i64 (c.i : Int)) ∧ w'.cell? ⟨Bc, 2, none⟩ = some (.int .i64 (c.j : Int)) ∧ w'.cell? ⟨Bc, 3, none⟩ = some (.int .i64 (c.n : Int)) ∧ w'.cell? ⟨f.Rb, 11, none⟩ = some (.map (some f.rm)) ∧ w'.heap[f.rm]? = V3.heap[f.rm]?)) (by kernel_rfl) ?_ (fun hHeld => ?_)
      · rw [← hV3]; exact ⟨z0, z1, z2, z3, r11, rfl⟩
      rw [← hV3] at hHeld ⊢
      clear hV3 z0 z1 z2 z3 r11
      by_cases hgt : n < c.n
      · have hgI : (n : Int) < (c.n : Int) := by omega
        refine takeA (i := 0) (v := ?_) (some 83) rfl rfl (by kernel_rfl) (by kernel_rfl) (by kernel_rfl) (fun _ _ _ h => h) (Or.inl ⟨by rfl, ?_⟩) (by assumption) ?_
        rotate_left
        · intro w hSw; (try dsimp only at hSw); obtain ⟨s1, s2, s3, s4, s5, s6⟩ := hSw; first | (go_simp; done) | (go_simp; with_reducible rfl)
        try simp only [Act.put, List.setIfInBounds_toArray, List.set_cons_zero, List.set_cons_succ]
        refine takeA (i := 1) (v := ?_) (some 84) rfl rfl (by kernel_rfl) (by kernel_rfl) (by kernel_rfl) (fun _ _ _ h => h) (Or.inl ⟨by rfl, ?_⟩) (by assumption) ?_
        rotate_left
        · intro w hSw; (try dsimp only at hSw); obtain ⟨s1, s2, s3, s4, s5, s6⟩ := hSw; first | (go_simp; done) | (go_simp; with_reducible rfl)
        try simp only [Act.put, List.setIfInBounds_toArray, List.set_cons_zero, List.set_cons_succ]
        refine takeA (i := 2) (v := ?_) (some 85) rfl rfl (by kernel_rfl) (by kernel_rfl) (by kernel_rfl) (fun _ _ _ h => h) (Or.inl ⟨by rfl, ?_⟩) (by assumption) ?_
        rotate_left
        · intro w hSw; (try dsimp only at hSw); obtain ⟨s1, s2, s3, s4, s5, s6⟩ := hSw; first | (go_simp; done) | (go_simp; with_reducible rfl)
        try simp only [Act.put, List.setIfInBounds_toArray, List.set_cons_zero, List.set_cons_succ]
        refine takeA (i := 3) (v := ?_) (some 86) rfl rfl (by kernel_rfl) (by kernel_rfl) (by kernel_rfl) (fun _ _ _ h => h) (Or.inl ⟨by rfl, ?_⟩) (by assumption) ?_
        rotate_left
        · intro w hSw; (try dsimp only at hSw); obtain ⟨s1, s2, s3, s4, s5, s6⟩ := hSw; first | (go_simp; done) | (go_simp; with_reducible rfl)
        try simp only [Act.put, List.setIfInBounds_toArray, List.set_cons_zero, List.set_cons_succ]
        refine takeA (i := 4) (v := ?_) (some 87) rfl rfl (by kernel_rfl) (by kernel_rfl) (by kernel_rfl) (fun _ _ _ h => h) (Or.inl ⟨by rfl, ?_⟩) (by assumption) ?_
        rotate_left
        · intro w hSw; (try dsimp only at hSw); obtain ⟨s1, s2, s3, s4, s5, s6⟩ := hSw; first | (go_simp; done) | (go_simp; with_reducible rfl)
        try simp only [Act.put, List.setIfInBounds_toArray, List.set_cons_zero, List.set_cons_succ]
        refine takeA (i := 5) (v := undef) (some 88) rfl rfl (by kernel_rfl) (by kernel_rfl) (by kernel_rfl) (fun _ _ _ h => h) (Or.inr ⟨by rfl, rfl⟩) (by assumption) ?_
        try simp only [Act.put, List.setIfInBounds_toArray, List.set_cons_zero, List.set_cons_succ]
        refine takeA (i := 6) (v := undef) (some 89) rfl rfl (by kernel_rfl) (by kernel_rfl) (by kernel_rfl) (fun _ _ _ h => h) (Or.inr ⟨by rfl, rfl⟩) (by assumption) ?_
        try simp only [Act.put, List.setIfInBounds_toArray, List.set_cons_zero, List.set_cons_succ]
        refine takeA (i := 7) (v := undef) (some 90) rfl rfl (by kernel_rfl) (by kernel_rfl) (by kernel_rfl) (fun _ _ _ h => h) (Or.inr ⟨by rfl, rfl⟩) (by assumption) ?_
        try simp only [Act.put, List.setIfInBounds_toArray, List.set_cons_zero, List.set_cons_succ]
        refine takeA (i := 8) (v := undef) (some 91) rfl rfl (by kernel_rfl) (by kernel_rfl) (by kernel_rfl) (fun _ _ _ h => h) (Or.inr ⟨by rfl, rfl⟩) (by assumption) ?_
        try simp only [Act.put, List.setIfInBounds_toArray, List.set_cons_zero, List.set_cons_succ]
        refine takeA (i := 9) (v := undef) (some 92) rfl rfl (by kernel_rfl) (by kernel_rfl) (by kernel_rfl) (fun _ _ _ h => h) (Or.inr ⟨by rfl, rfl⟩) (by assumption) ?_
        try simp only [Act.put, List.setIfInBounds_toArray, List.set_cons_zero, List.set_cons_succ]
        refine takeA (i := 10) (v := undef) (some 93) rfl rfl (by kernel_rfl) (by kernel_rfl) (by kernel_rfl) (fun _ _ _ h => h) (Or.inr ⟨by rfl, rfl⟩) (by assumption) ?_
        try simp only [Act.put, List.setIfInBounds_toArray, List.set_cons_zero, List.set_cons_succ]
        refine takeA (i := 11) (v := undef) (some 94) rfl rfl (by kernel_rfl) (by kernel_rfl) (by kernel_rfl) (fun _ _ _ h => h) (Or.inr ⟨by rfl, rfl⟩) (by assumption) ?_
        try simp only [Act.put, List.setIfInBounds_toArray, List.set_cons_zero, List.set_cons_succ]
        refine takeA (i := 12) (v := undef) (some 95) rfl rfl (by kernel_rfl) (by kernel_rfl) (by kernel_rfl) (fun _ _ _ h => h) (Or.inr ⟨by rfl, rfl⟩) (by assumption) ?_
        try simp only [Act.put, List.setIfInBounds_toArray, List.set_cons_zero, List.set_cons_succ]
        refine takeA (i := 13) (v := ?_) (some 96) rfl rfl (by kernel_rfl) (by kernel_rfl) (by kernel_rfl) (fun _ _ _ h => h) (Or.inl ⟨by rfl, ?_⟩) (by assumption) ?_
        rotate_left
        · intro w hSw; (try dsimp only at hSw); obtain ⟨s1, s2, s3, s4, s5, s6⟩ := hSw; first | (go_simp; done) | (go_simp; with_reducible rfl)
        try simp only [Act.put, List.setIfInBounds_toArray, List.set_cons_zero, List.set_cons_succ]
        refine wpAnyH_done (by kernel_rfl) ?_ _
        go_wp2_with fail
        go_roundw
        case rel => exact ⟨k + 1, by omega, by go_num, Hbw.out.trans (Hb3.out.mono Hbw.out.size), fun c' hc' m e hG => by
          rcases (take_one Hck.out c').1 hc' with hc' | rfl
          · exact Hno.out c' hc' m e hG
          · omega⟩
        case measure => simp [intOf]; omega
      · have hgI : ¬ (n : Int) < (c.n : Int) := by omega
        by_cases hqr : r ≤ q
        · have hqI : (r : Int) ≤ (q : Int) := by omega
          refine takeA (i := 0) (v := ?_) (some 83) rfl rfl (by kernel_rfl) (by kernel_rfl) (by kernel_rfl) (fun _ _ _ h => h) (Or.inl ⟨by rfl, ?_⟩) (by assumption) ?_
          rotate_left
          · intro w hSw; (try dsimp only at hSw); obtain ⟨s1, s2, s3, s4, s5, s6⟩ := hSw; first | (go_simp; done) | (go_simp; with_reducible rfl)
          try simp only [Act.put, List.setIfInBounds_toArray, List.set_cons_zero, List.set_cons_succ]
          refine takeA (i := 1) (v := ?_) (some 84) rfl rfl (by kernel_rfl) (by kernel_rfl) (by kernel_rfl) (fun _ _ _ h => h) (Or.inl ⟨by rfl, ?_⟩) (by assumption) ?_
          rotate_left
          · intro w hSw; (try dsimp only at hSw); obtain ⟨s1, s2, s3, s4, s5, s6⟩ := hSw; first | (go_simp; done) | (go_simp; with_reducible rfl)
          try simp only [Act.put, List.setIfInBounds_toArray, List.set_cons_zero, List.set_cons_succ]
          refine takeA (i := 2) (v := ?_) (some 85) rfl rfl (by kernel_rfl) (by kernel_rfl) (by kernel_rfl) (fun _ _ _ h => h) (Or.inl ⟨by rfl, ?_⟩) (by assumption) ?_
          rotate_left
          · intro w hSw; (try dsimp only at hSw); obtain ⟨s1, s2, s3, s4, s5, s6⟩ := hSw; first | (go_simp; done) | (go_simp; with_reducible rfl)
          try simp only [Act.put, List.setIfInBounds_toArray, List.set_cons_zero, List.set_cons_succ]
          refine takeA (i := 3) (v := ?_) (some 86) rfl rfl (by kernel_rfl) (by kernel_rfl) (by kernel_rfl) (fun _ _ _ h => h) (Or.inl ⟨by rfl, ?_⟩) (by assumption) ?_
          rotate_left
          · intro w hSw; (try dsimp only at hSw); obtain ⟨s1, s2, s3, s4, s5, s6⟩ := hSw; first | (go_simp; done) | (go_simp; with_reducible rfl)
          try simp only [Act.put, List.setIfInBounds_toArray, List.set_cons_zero, List.set_cons_succ]
          refine takeA (i := 4) (v := ?_) (some 87) rfl rfl (by kernel_rfl) (by kernel_rfl) (by kernel_rfl) (fun _ _ _ h => h) (Or.inl ⟨by rfl, ?_⟩) (by assumption) ?_
          rotate_left
          · intro w hSw; (try dsimp only at hSw); obtain ⟨s1, s2, s3, s4, s5, s6⟩ := hSw; first | (go_simp; done) | (go_simp; with_reducible rfl)
          try simp only [Act.put, List.setIfInBounds_toArray, List.set_cons_zero, List.set_cons_succ]
          refine takeA (i := 5) (v := ?_) (some 88) rfl rfl (by kernel_rfl) (by kernel_rfl) (by kernel_rfl) (fun _ _ _ h => h) (Or.inl ⟨by rfl, ?_⟩) (by assumption) ?_
          rotate_left
          · intro w hSw; (try dsimp only at hSw); obtain ⟨s1, s2, s3, s4, s5, s6⟩ := hSw; first | (go_simp; done) | (go_simp; with_reducible rfl)
          try simp only [Act.put, List.setIfInBounds_toArray, List.set_cons_zero, List.set_cons_succ]
          refine takeA (i := 6) (v := ?_) (some 89) rfl rfl (by kernel_rfl) (by kernel_rfl) (by kernel_rfl) (fun _ _ _ h => h) (Or.inl ⟨by rfl, ?_⟩) (by assumption) ?_
          rotate_left
          · intro w hSw; (try dsimp only at hSw); obtain ⟨s1, s2, s3, s4, s5, s6⟩ := hSw; first | (go_simp; done) | (go_simp; with_reducible rfl)
          try simp only [Act.put, List.setIfInBounds_toArray, List.set_cons_zero, List.set_cons_succ]
          refine takeA (i := 7) (v := ?_) (some 90) rfl rfl (by kernel_rfl) (by kernel_rfl) (by kernel_rfl) (fun _ _ _ h => h) (Or.inl ⟨by rfl, ?_⟩) (by assumption) ?_
          rotate_left
          · intro w hSw; (try dsimp only at hSw); obtain ⟨s1, s2, s3, s4, s5, s6⟩ := hSw; first | (go_simp; done) | (go_simp; with_reducible rfl)
          try simp only [Act.put, List.setIfInBounds_toArray, List.set_cons_zero, List.set_cons_succ]
          refine takeA (i := 8) (v := ?_) (some 91) rfl rfl (by kernel_rfl) (by kernel_rfl) (by kernel_rfl) (fun _ _ _ h => h) (Or.inl ⟨by rfl, ?_⟩) (by assumption) ?_
          rotate_left
          · intro w hSw; (try dsimp only at hSw); obtain ⟨s1, s2, s3, s4, s5, s6⟩ := hSw; first | (go_simp; done) | (go_simp; with_reducible rfl)
          try simp only [Act.put, List.setIfInBounds_toArray, List.set_cons_zero, List.set_cons_succ]
          refine takeA (i := 9) (v := ?_) (some 92) rfl rfl (by kernel_rfl) (by kernel_rfl) (by kernel_rfl) (fun _ _ _ h => h) (Or.inl ⟨by rfl, ?_⟩) (by assumption) ?_
          rotate_left
          · intro w hSw; (try dsimp only at hSw); obtain ⟨s1, s2, s3, s4, s5, s6⟩ := hSw; first | (go_simp; done) | (go_simp; with_reducible rfl)
          try simp only [Act.put, List.setIfInBounds_toArray, List.set_cons_zero, List.set_cons_succ]
          refine takeA (i := 10) (v := ?_) (some 93) rfl rfl (by kernel_rfl) (by kernel_rfl) (by kernel_rfl) (fun _ _ _ h => h) (Or.inl ⟨by rfl, ?_⟩) (by assumption) ?_
          rotate_left
          · intro w hSw; (try dsimp only at hSw); obtain ⟨s1, s2, s3, s4, s5, s6⟩ := hSw; have hlk := Hlk.out w s6; first | (go_simp; done) | (go_simp; with_reducible rfl)
          try simp only [Act.put, List.setIfInBounds_toArray, List.set_cons_zero, List.set_cons_succ]
          refine takeA (i := 11) (v := ?_) (some 94) rfl rfl (by kernel_rfl) (by kernel_rfl) (by kernel_rfl) (fun _ _ _ h => h) (Or.inl ⟨by rfl, ?_⟩) (by assumption) ?_
          rotate_left
          · intro w hSw; (try dsimp only at hSw); obtain ⟨s1, s2, s3, s4, s5, s6⟩ := hSw; first | (go_simp; done) | (go_simp; with_reducible rfl)
          try simp only [Act.put, List.setIfInBounds_toArray, List.set_cons_zero, List.set_cons_succ]
          refine takeA (i := 12) (v := ?_) (some 95) rfl rfl (by kernel_rfl) (by kernel_rfl) (by kernel_rfl) (fun _ _ _ h => h) (Or.inl ⟨by rfl, ?_⟩) (by assumption) ?_
          rotate_left
          · intro w hSw; (try dsimp only at hSw); obtain ⟨s1, s2, s3, s4, s5, s6⟩ := hSw; first | (go_simp; done) | (go_simp; with_reducible rfl)
          try simp only [Act.put, List.setIfInBounds_toArray, List.set_cons_zero, List.set_cons_succ]
          refine takeA (i := 13) (v := ?_) (some 96) rfl rfl (by kernel_rfl) (by kernel_rfl) (by kernel_rfl) (fun _ _ _ h => h) (Or.inl ⟨by rfl, ?_⟩) (by assumption) ?_
          rotate_left
          · intro w hSw; (try dsimp only at hSw); obtain ⟨s1, s2, s3, s4, s5, s6⟩ := hSw; first | (go_simp; done) | (go_simp; with_reducible rfl)
          try simp only [Act.put, List.setIfInBounds_toArray, List.set_cons_zero, List.set_cons_succ]
          refine wpAnyH_done (by kernel_rfl) ?_ _
          go_wp2_with fail
          go_roundw
          case rel => exact ⟨k + 1, by omega, by go_num, Hbw.out.trans (Hb3.out.mono Hbw.out.size), fun c' hc' m e hG => by
            rcases (take_one Hck.out c').1 hc' with hc' | rfl
            · exact Hno.out c' hc' m e hG
            · obtain ⟨q', hq', hlt'⟩ := hG
              rw [Hq.out] at hq'
              injection hq' with hq'
              omega⟩
          case measure => simp [intOf]; omega
        · have hqI : ¬ (r : Int) ≤ (q : Int) := by omega
          refine takeA (i := 0) (v := ?_) (some 83) rfl rfl (by kernel_rfl) (by kernel_rfl) (by kernel_rfl) (fun _ _ _ h => h) (Or.inl ⟨by rfl, ?_⟩) (by assumption) ?_
          rotate_left
          · intro w hSw; (try dsimp only at hSw); obtain ⟨s1, s2, s3, s4, s5, s6⟩ := hSw; first | (go_simp; done) | (go_simp; with_reducible rfl)
          try simp only [Act.put, List.setIfInBounds_toArray, List.set_cons_zero, List.set_cons_succ]
          refine takeA (i := 1) (v := ?_) (some 84) rfl rfl (by kernel_rfl) (by kernel_rfl) (by kernel_rfl) (fun _ _ _ h => h) (Or.inl ⟨by rfl, ?_⟩) (by assumption) ?_
          rotate_left
          · intro w hSw; (try dsimp only at hSw); obtain ⟨s1, s2, s3, s4, s5, s6⟩ := hSw; first | (go_simp; done) | (go_simp; with_reducible rfl)
          try simp only [Act.put, List.setIfInBounds_toArray, List.set_cons_zero, List.set_cons_succ]
          refine takeA (i := 2) (v := ?_) (some 85) rfl rfl (by kernel_rfl) (by kernel_rfl) (by kernel_rfl) (fun _ _ _ h => h) (Or.inl ⟨by rfl, ?_⟩) (by assumption) ?_
          rotate_left
          · intro w hSw; (try dsimp only at hSw); obtain ⟨s1, s2, s3, s4, s5, s6⟩ := hSw; first | (go_simp; done) | (go_simp; with_reducible rfl)
          try simp only [Act.put, List.setIfInBounds_toArray, List.set_cons_zero, List.set_cons_succ]
          refine takeA (i := 3) (v := ?_) (some 86) rfl rfl (by kernel_rfl) (by kernel_rfl) (by kernel_rfl) (fun _ _ _ h => h) (Or.inl ⟨by rfl, ?_⟩) (by assumption) ?_
          rotate_left
          · intro w hSw; (try dsimp only at hSw); obtain ⟨s1, s2, s3, s4, s5, s6⟩ := hSw; first | (go_simp; done) | (go_simp; with_reducible rfl)
          try simp only [Act.put, List.setIfInBounds_toArray, List.set_cons_zero, List.set_cons_succ]
          refine takeA (i := 4) (v := ?_) (some 87) rfl rfl (by kernel_rfl) (by kernel_rfl) (by kernel_rfl) (fun _ _ _ h => h) (Or.inl ⟨by rfl, ?_⟩) (by assumption) ?_
          rotate_left
          · intro w hSw; (try dsimp only at hSw); obtain ⟨s1, s2, s3, s4, s5, s6⟩ := hSw; first | (go_simp; done) | (go_simp; with_reducible rfl)
          try simp only [Act.put, List.setIfInBounds_toArray, List.set_cons_zero, List.set_cons_succ]
          refine takeA (i := 5) (v := ?_) (some 88) rfl rfl (by kernel_rfl) (by kernel_rfl) (by kernel_rfl) (fun _ _ _ h => h) (Or.inl ⟨by rfl, ?_⟩) (by assumption) ?_
          rotate_left
          · intro w hSw; (try dsimp only at hSw); obtain ⟨s1, s2, s3, s4, s5, s6⟩ := hSw; first | (go_simp; done) | (go_simp; with_reducible rfl)
          try simp only [Act.put, List.setIfInBounds_toArray, List.set_cons_zero, List.set_cons_succ]
          refine takeA (i := 6) (v := ?_) (some 89) rfl rfl (by kernel_rfl) (by kernel_rfl) (by kernel_rfl) (fun _ _ _ h => h) (Or.inl ⟨by rfl, ?_⟩) (by assumption) ?_
          rotate_left
          · intro w hSw; (try dsimp only at hSw); obtain ⟨s1, s2, s3, s4, s5, s6⟩ := hSw; first | (go_simp; done) | (go_simp; with_reducible rfl)
          try simp only [Act.put, List.setIfInBounds_toArray, List.set_cons_zero, List.set_cons_succ]
          refine takeA (i := 7) (v := ?_) (some 90) rfl rfl (by kernel_rfl) (by kernel_rfl) (by kernel_rfl) (fun _ _ _ h => h) (Or.inl ⟨by rfl, ?_⟩) (by assumption) ?_
          rotate_left
          · intro w hSw; (try dsimp only at hSw); obtain ⟨s1, s2, s3, s4, s5, s6⟩ := hSw; first | (go_simp; done) | (go_simp; with_reducible rfl)
          try simp only [Act.put, List.setIfInBounds_toArray, List.set_cons_zero, List.set_cons_succ]
          refine takeA (i := 8) (v := ?_) (some 91) rfl rfl (by kernel_rfl) (by kernel_rfl) (by kernel_rfl) (fun _ _ _ h => h) (Or.inl ⟨by rfl, ?_⟩) (by assumption) ?_
          rotate_left
          · intro w hSw; (try dsimp only at hSw); obtain ⟨s1, s2, s3, s4, s5, s6⟩ := hSw; first | (go_simp; done) | (go_simp; with_reducible rfl)
          try simp only [Act.put, List.setIfInBounds_toArray, List.set_cons_zero, List.set_cons_succ]
          refine takeA (i := 9) (v := ?_) (some 92) rfl rfl (by kernel_rfl) (by kernel_rfl) (by kernel_rfl) (fun _ _ _ h => h) (Or.inl ⟨by rfl, ?_⟩) (by assumption) ?_
          rotate_left
          · intro w hSw; (try dsimp only at hSw); obtain ⟨s1, s2, s3, s4, s5, s6⟩ := hSw; first | (go_simp; done) | (go_simp; with_reducible rfl)
          try simp only [Act.put, List.setIfInBounds_toArray, List.set_cons_zero, List.set_cons_succ]
          refine takeA (i := 10) (v := ?_) (some 93) rfl rfl (by kernel_rfl) (by kernel_rfl) (by kernel_rfl) (fun _ _ _ h => h) (Or.inl ⟨by rfl, ?_⟩) (by assumption) ?_
          rotate_left
          · intro w hSw; (try dsimp only at hSw); obtain ⟨s1, s2, s3, s4, s5, s6⟩ := hSw; have hlk := Hlk.out w s6; first | (go_simp; done) | (go_simp; with_reducible rfl)
          try simp only [Act.put, List.setIfInBounds_toArray, List.set_cons_zero, List.set_cons_succ]
          refine takeA (i := 11) (v := ?_) (some 94) rfl rfl (by kernel_rfl) (by kernel_rfl) (by kernel_rfl) (fun _ _ _ h => h) (Or.inl ⟨by rfl, ?_⟩) (by assumption) ?_
          rotate_left
          · intro w hSw; (try dsimp only at hSw); obtain ⟨s1, s2, s3, s4, s5, s6⟩ := hSw; first | (go_simp; done) | (go_simp; with_reducible rfl)
          try simp only [Act.put, List.setIfInBounds_toArray, List.set_cons_zero, List.set_cons_succ]
          refine takeA (i := 12) (v := ?_) (some 95) rfl rfl (by kernel_rfl) (by kernel_rfl) (by kernel_rfl) (fun _ _ _ h => h) (Or.inl ⟨by rfl, ?_⟩) (by assumption) ?_
          rotate_left
          · intro w hSw; (try dsimp only at hSw); obtain ⟨s1, s2, s3, s4, s5, s6⟩ := hSw; first | (go_simp; done) | (go_simp; with_reducible rfl)
          try simp only [Act.put, List.setIfInBounds_toArray, List.set_cons_zero, List.set_cons_succ]
          refine takeA (i := 13) (v := ?_) (some 96) rfl rfl (by kernel_rfl) (by kernel_rfl) (by kernel_rfl) (fun _ _ _ h => h) (Or.inl ⟨by rfl, ?_⟩) (by assumption) ?_
          rotate_left
          · intro w hSw; (try dsimp only at hSw); obtain ⟨s1, s2, s3, s4, s5, s6⟩ := hSw; first | (go_simp; done) | (go_simp; with_reducible rfl)
          try simp only [Act.put, List.setIfInBounds_toArray, List.set_cons_zero, List.set_cons_succ]
          refine wpAnyH_done (by kernel_rfl) ?_ _
          obtain ⟨m, hnm⟩ : ∃ m, n = c.n + m := ⟨n - c.n, by omega⟩
          have hnI : (n : Int) - (c.n : Int) = (m : Int) := by omega
          have hnw : IntKind.i64.wrap ((n : Int) - (c.n : Int)) = (m : Int) := by rw [IntWalk.i64_in _ (by omega)]; omega
          have Hnm := hide hnm
          clear hnm
          have cC2 := DC.out.cell 2
          have cC3 := DC.out.cell 3
          have cC0 := DC.out.cell 0
          have cC1 := DC.out.cell 1
          simp only [List.getElem?_cons_zero, List.getElem?_cons_succ] at cC0 cC1 cC2 cC3
          have HbW := hide (Hb1.out.trans ((Hbw.out.trans (Hb3.out.mono Hbw.out.size)).mono Hb1.out.size))
          have Hih := hide (Ih.out V3 A2 (nX - 1) (cX - 1) c.j j m (HF.out.keep HbW.out) (Hra.out.keep HbW.out) Hcj.out Hij.out.2 (by have := Hnm.out; omega))
          by_cases hsp : SpR (aftW f.ms f.st) (Ere f.R r) xs c.j m j
          · skip
            have Hsp := hide hsp
            clear hsp
            have Hpl := hide (Hp.out c q Hq.out (by omega))
            go_wp2_with (first
              | (go_at_call 67
                 refine Hih.out.mono ?_
                 rintro e w6 ⟨hb6, O6, m6, oc6, l6, ok6, rfl, hrow6, hll6, hiff6, hseg6⟩
                 obtain rfl : ok6 = true := hiff6.2 Hsp.out
                 have Hb6 := hide hb6
                 have Hrow6 := hide hrow6
                 have Hseg6 := hide (hseg6 rfl)
                 have dC0 := (DC.out.keep hb6).cell 0
                 have dC1 := (DC.out.keep hb6).cell 1
                 have dC2 := (DC.out.keep hb6).cell 2
                 have dC3 := (DC.out.keep hb6).cell 3
                 simp only [List.getElem?_cons_zero, List.getElem?_cons_succ] at dC0 dC1 dC2 dC3
                 have HbW6 := hide (HbW.out.trans (hb6.mono HbW.out.size))
                 clear hb6 hrow6 hll6 hiff6 hseg6)
              | (go_at_call 113
                 refine (Hpl.out w6 (HF.out.keep HbW6.out)).mono ?_
                 rintro e w7 ⟨hb7, O7, m7, oc7, l7, rfl, hrow7, hl7, hm7⟩
                 have Hb7 := hide hb7
                 have Hrow7 := hide hrow7
                 have Hl7 := hide hl7
                 have Hm7 := hide hm7
                 have hmm7 : m7 + m6 ≤ 1000000 := by
                   have h1 := hrow7.len
                   have h2 := Hrow6.out.len
                   have h3 := Hseg6.out.1
                   omega
                 have hsz7 := hb7.size
                 clear hb7 hrow7 hl7 hm7)
              | (at_builtin
                 refine wpList_appendZ rfl _ _ rfl rfl Hrow7.out (Hrow6.out.rd.keep Hb7.out) rfl hmm7 hsz7 ?_
                 intro O8 oc8 w8 hrow8 hch8
                 have Hrow8 := hide hrow8
                 have Hch8 := hide hch8
                 clear hrow8 hch8))
            refine bodyPost_ret (v := .tuple #[.slice O8 (m7 + m6) oc8, .bool true]) (by simp [results, Tryz.results67, go_sem]) rfl ?_
            have h6 := HbW6.out.size
            have hbb := (HbW6.out.trans (Hb7.out.mono h6)).trans (Hch8.out.below (B := W.heap.size) (fun b e => Nat.le_trans h6 (Hrow7.out.base e).1) (Nat.le_trans h6 hsz7))
            obtain ⟨mm, g1, g2, g3, g4⟩ := Hm7.out
            obtain ⟨e1, e2⟩ := Hct.out
            have hyt : (-1 - y).toNat = x := by omega
            have hce : (⟨(-1 - y).toNat, i, c.j, c.n⟩ : Chn) = c := by
              obtain ⟨c1, c2, c3, c4⟩ := c
              simp only at e1 e2
              rw [hyt, e1, e2]
            refine ⟨hbb, O8, m7 + m6, oc8, l7 ++ l6, true, rfl, Hrow8.out.mono h6, ?_, ?_, fun _ => ⟨?_, ?_⟩⟩
            · have h1 := Hl7.out
              have h2 := Hseg6.out.1
              have h3 := Hnm.out
              simp only [List.length_append, List.length_cons]
              omega
            · rw [spr_task (by omega)]
              exact ⟨fun _ => ⟨c.j, c.n, m, Hnm.out, by rw [hce]; exact ⟨q, Hq.out, by omega⟩, Hsp.out⟩, fun _ => rfl⟩
            · have h1 := Hl7.out
              have h2 := Hseg6.out.1
              have h3 := Hnm.out
              simp only [List.length_append]
              omega
            · exact .task (by omega) g1 (by rw [g2]; omega) (by rw [← e2]; exact g3) (by rw [← e2]; exact g4) Hseg6.out.2
          · have Hsp := hide hsp
            clear hsp
            go_wp2_with (go_at_call 67; refine Hih.out.mono ?_; rintro e w6 ⟨hb6, O6, m6, oc6, l6, ok6, rfl, hrow6, hll6, hiff6, hseg6⟩; (obtain rfl : ok6 = false := by cases ok6 with | true => exact absurd (hiff6.1 rfl) Hsp.out | false => rfl); have Hb6 := hide hb6; clear hb6 hrow6 hll6 hiff6 hseg6)
            go_roundw
            case rel => exact ⟨k + 1, by omega, by go_num, (Hbw.out.trans (Hb3.out.mono Hbw.out.size)).trans (Hb6.out.mono (by have := Hbw.out.size; have := Hb3.out.size; omega)), fun c' hc' m' e hG => by
              rcases (take_one Hck.out c').1 hc' with hc' | rfl
              · exact Hno.out c' hc' m' e hG
              · obtain rfl : m = m' := by have := Hnm.out; omega
                exact Hsp.out⟩
            case measure => simp [intOf]; omega
end Go.Proofs.YtmjiiddncbhgpaaGreat
namespace Go.Proofs.YtmjiiddncbhgpaaGreat
set_option linter.unusedVariables false
set_option linter.unusedSimpArgs false
open Go.RowKit Go.Shelf Go.Maps
attribute [local go_sem] Oper.semAt_some
set_option maxRecDepth 100000 in
set_option maxHeartbeats 12800000 in
theorem plan_at (f : FC) (K : FxK f) (q : Nat) (c : Chn) (hc : f.R c = some q) (ih : ∀ m ∈ f.hm, ExactAt f q m.steps) : PlanAt f c := by
  intro W hF
  have hch := K.ins c (by rw [hc]; rfl)
  obtain ⟨h16, hci, hcj, hcn⟩ := hch
  have hst8 := K.lim8
  have hst64 := K.st64
  obtain ⟨hqs, hfit, m0, hm0, ht0, hcan0, hsp0⟩ := K.snd c q hc
  have hok : ChOk c := ⟨by omega, by omega, by omega, by omega⟩
  have hsl := hF.rf.sts.len
  have hslow := hF.rf.sts.low
  have hml := hF.me.len
  have hmlow := hF.me.low
  obtain ⟨sb, so, s, eA, hsb, hs32, hcS⟩ := hF.rf.sts.word (k := c.i) (by omega)
  have hciI : (c.i : Int) < (f.sn : Int) := by omega
  obtain ⟨kc, hkc⟩ := chKey hok
  have r8 := hF.rf.blk.cell 8
  simp only [List.getElem?_cons_zero, List.getElem?_cons_succ] at r8
  rw [eA] at r8
  have HF := hide hF
  have HK := hide K
  have Ih := hide ih
  have Hc := hide hc
  have Hm0 := hide (And.intro hm0 (And.intro ht0 (And.intro hcan0 hsp0)))
  have Hsb := hide hsb
  have Hci := hide (And.intro hci hcj)
  have HcS := hide hcS
  have R8 := hide r8
  have HeA := hide eA
  have Hkc := hide hkc
  have Hml := hide hml
  have Hsl := hide hsl
  clear hF K ih hc hm0 ht0 hcan0 hsp0 hsb hci hcj hcS r8 eA hkc hok hfit hml hsl
  unfold chV
  go_enter Tryz.func113, Tryz.ntmps113
  go_upto_region 1 with (fail)
  have hal := (Below.refl W.heap.size W).alloc (Nat.le_refl _) (.cells #[.int .i64 (c.t : Int), .int .i64 (c.i : Int), .int .i64 (c.j : Int), .int .i64 (c.n : Int)] 176)
  have dC := Blk.new W 176 [.int .i64 (c.t : Int), .int .i64 (c.i : Int), .int .i64 (c.j : Int), .int .i64 (c.n : Int)]
  change Blk 176 (W.alloc (.cells #[.int .i64 (c.t : Int), .int .i64 (c.i : Int), .int .i64 (c.j : Int), .int .i64 (c.n : Int)] 176)) W.heap.size [.int .i64 (c.t : Int), .int .i64 (c.i : Int), .int .i64 (c.j : Int), .int .i64 (c.n : Int)] at dC
  obtain ⟨V2, hV2⟩ : ∃ Z, Z = W.alloc (.cells #[.int .i64 (c.t : Int), .int .i64 (c.i : Int), .int .i64 (c.j : Int), .int .i64 (c.n : Int)] 176) := ⟨_, rfl⟩
  rw [← hV2] at hal dC ⊢
  clear hV2
  obtain ⟨Bc, hBc⟩ : ∃ z, z = W.heap.size := ⟨_, rfl⟩
  rw [← hBc] at dC ⊢
  clear hBc
  obtain ⟨w1, hV3⟩ : ∃ Z, Z = V2.drew := ⟨_, rfl⟩
  have hb3 : Below W.heap.size W w1 := by rw [hV3]; exact hal.drew
  replace dC := dC.keep (show Below V2.heap.size V2 w1 by rw [hV3]; exact (Below.refl _ _).drew)
  have hF3 := HF.out.keep hb3
  have r11 := hF3.rf.blk.cell 11
  have z0 := dC.cell 0
  have z1 := dC.cell 1
  have z2 := dC.cell 2
  have z3 := dC.cell 3
  simp only [List.getElem?_cons_zero, List.getElem?_cons_succ] at r11 z0 z1 z2 z3
  have hlk0 : ∀ W' : World, W'.heap[f.rm]? = w1.heap[f.rm]? → (Instr.lookup 104 (.map (some f.rm)) (.agg #[.int .i64 (c.t : Int), .int .i64 (c.i : Int), .int .i64 (c.j : Int), .int .i64 (c.n : Int)]) false).run Tryz.prog W' = .ok (.int .i64 (q : Int)) W' := fun W' e => by
    have := hF3.kn.rnd.look1 lawCh (T := 104) (E := 3) Tryz.underlying104 zeroIA (key := c) Hkc.out W' e
    simpa [Hc.out, chV] using this
  have Hlk := hide hlk0
  have Hb1 := hide hb3
  have DC := hide dC
  clear hal dC hF3 hlk0 hb3
  refine wp_region_held_drew (S := (fun w' => w'.cell? ⟨Bc, 0, none⟩ = some (.int .i64 (c.t : Int)) ∧ w'.cell? ⟨Bc, 1, none⟩ = some (.int .i64 (c.i : Int)) ∧ w'.cell? ⟨Bc, 2, none⟩ = some (.int .i64 (c.j : Int)) ∧ w'.cell? ⟨Bc, 3, none⟩ = some (.int .i64 (c.n : Int)) ∧ w'.cell? ⟨f.Rb, 11, none⟩ = some (.map (some f.rm)) ∧ w'.heap[f.rm]? = w1.heap[f.rm]?)) (by kernel_rfl) ?_ (fun hHeld => ?_)
  · rw [← hV3]; exact ⟨z0, z1, z2, z3, r11, rfl⟩
  rw [← hV3] at hHeld ⊢
  clear hV3 z0 z1 z2 z3 r11
  refine takeA (i := 0) (v := ?_) (some 11) rfl rfl (by kernel_rfl) (by kernel_rfl) (by kernel_rfl) (fun _ _ _ h => h) (Or.inl ⟨by rfl, ?_⟩) (by assumption) ?_
  rotate_left
  · intro w hSw; (try dsimp only at hSw); obtain ⟨s1, s2, s3, s4, s5, s6⟩ := hSw; first | (go_simp; done) | (go_simp; with_reducible rfl)
  try simp only [Act.put, List.setIfInBounds_toArray, List.set_cons_zero, List.set_cons_succ]
  refine takeA (i := 1) (v := ?_) (some 12) rfl rfl (by kernel_rfl) (by kernel_rfl) (by kernel_rfl) (fun _ _ _ h => h) (Or.inl ⟨by rfl, ?_⟩) (by assumption) ?_
  rotate_left
  · intro w hSw; (try dsimp only at hSw); obtain ⟨s1, s2, s3, s4, s5, s6⟩ := hSw; first | (go_simp; done) | (go_simp; with_reducible rfl)
  try simp only [Act.put, List.setIfInBounds_toArray, List.set_cons_zero, List.set_cons_succ]
  refine takeA (i := 2) (v := ?_) (some 13) rfl rfl (by kernel_rfl) (by kernel_rfl) (by kernel_rfl) (fun _ _ _ h => h) (Or.inl ⟨by rfl, ?_⟩) (by assumption) ?_
  rotate_left
  · intro w hSw; (try dsimp only at hSw); obtain ⟨s1, s2, s3, s4, s5, s6⟩ := hSw; first | (go_simp; done) | (go_simp; with_reducible rfl)
  try simp only [Act.put, List.setIfInBounds_toArray, List.set_cons_zero, List.set_cons_succ]
  refine takeA (i := 3) (v := ?_) (some 14) rfl rfl (by kernel_rfl) (by kernel_rfl) (by kernel_rfl) (fun _ _ _ h => h) (Or.inl ⟨by rfl, ?_⟩) (by assumption) ?_
  rotate_left
  · intro w hSw; (try dsimp only at hSw); obtain ⟨s1, s2, s3, s4, s5, s6⟩ := hSw; first | (go_simp; done) | (go_simp; with_reducible rfl)
  try simp only [Act.put, List.setIfInBounds_toArray, List.set_cons_zero, List.set_cons_succ]
  refine takeA (i := 4) (v := ?_) (some 15) rfl rfl (by kernel_rfl) (by kernel_rfl) (by kernel_rfl) (fun _ _ _ h => h) (Or.inl ⟨by rfl, ?_⟩) (by assumption) ?_
  rotate_left
  · intro w hSw; (try dsimp only at hSw); obtain ⟨s1, s2, s3, s4, s5, s6⟩ := hSw; first | (go_simp; done) | (go_simp; with_reducible rfl)
  try simp only [Act.put, List.setIfInBounds_toArray, List.set_cons_zero, List.set_cons_succ]
  refine takeA (i := 5) (v := ?_) (some 16) rfl rfl (by kernel_rfl) (by kernel_rfl) (by kernel_rfl) (fun _ _ _ h => h) (Or.inl ⟨by rfl, ?_⟩) (by assumption) ?_
  rotate_left
  · intro w hSw; (try dsimp only at hSw); obtain ⟨s1, s2, s3, s4, s5, s6⟩ := hSw; have hlk := Hlk.out w s6; first | (go_simp; done) | (go_simp; with_reducible rfl)
  try simp only [Act.put, List.setIfInBounds_toArray, List.set_cons_zero, List.set_cons_succ]
  refine takeA (i := 6) (v := ?_) (some 5) rfl rfl (by kernel_rfl) (by kernel_rfl) (by kernel_rfl) (fun _ _ _ h => h) (Or.inl ⟨by rfl, ?_⟩) (by assumption) ?_
  rotate_left
  · intro w hSw; (try dsimp only at hSw); obtain ⟨s1, s2, s3, s4, s5, s6⟩ := hSw; first | (go_simp; done) | (go_simp; with_reducible rfl)
  try simp only [Act.put, List.setIfInBounds_toArray, List.set_cons_zero, List.set_cons_succ]
  refine wpAnyH_done (by kernel_rfl) ?_ _
  have hF1 := HF.out.keep Hb1.out
  have r5 := hF1.rf.blk.cell 5
  simp only [List.getElem?_cons_zero, List.getElem?_cons_succ] at r5
  have HF1 := hide hF1
  clear hF1 hHeld
  go_wp2_with fail
  clear r5
  go_loopw [23] (fun o wr => ∃ k : Nat, k ≤ f.nM ∧ o = .int .i64 k ∧ Below w1.heap.size w1 wr ∧ ∀ m ∈ f.hm.take k, m.task = (c.t : Int) → canS f.st m c.i → ¬ SpR (aftW f.ms f.st) (Ere f.R q) m.steps c.i c.n c.j) (fun o _ => f.nM - (intOf o).toNat)
  case atStart => exact ⟨0, by omega, rfl, Below.refl _ _, fun c hc => by simp at hc⟩
  case round =>
    obtain ⟨k, hkn, rfl, hbw, hno⟩ := hrel
    have Hbw := hide hbw
    have Hno := hide hno
    clear hbw hno
    by_cases hlt : k < f.nM
    rotate_left
    · have hkk : k = f.nM := by omega
      obtain ⟨hm0, ht0, hcan0, hsp0⟩ := Hm0.out
      exact absurd hsp0 (Hno.out m0 (by rw [List.take_of_length_le (by have := Hml.out; omega)]; exact hm0) ht0 hcan0)
    · have hki : (k : Int) < (f.nM : Int) := by omega
      obtain ⟨mb, mo, m, A1, n1, c1, A2, n2, c2, eM, hma, y0, y1, y2, mi, mp, mst⟩ := (HF1.out.keep Hbw.out).me.me (k := k) hlt
      obtain ⟨p1, p2, p3, p4, p5⟩ := HK.out.mr m (List.mem_of_getElem? hma)
      obtain ⟨t, ht⟩ : ∃ t : Nat, m.task = (t : Int) := ⟨m.task.toNat, by omega⟩
      rw [ht] at y0
      have Hma := hide hma
      have Ht := hide ht
      have Hmp := hide mp
      have Hmst := hide mst
      have P3 := hide p3
      clear hma ht mp mst mi p3 p4 p1 p2
      rw [eM]
      go_upto_region 5 with (fail)
      have hal := (Below.refl wr.heap.size wr).alloc (Nat.le_refl _) (.cells #[.int .i64 (t : Int), .slice A1 n1 c1, .slice A2 n2 c2] 116)
      have bM := Blk.new wr 116 [.int .i64 (t : Int), .slice A1 n1 c1, .slice A2 n2 c2]
      change Blk 116 (wr.alloc (.cells #[.int .i64 (t : Int), .slice A1 n1 c1, .slice A2 n2 c2] 116)) _ _ at bM
      obtain ⟨V4, hV4⟩ : ∃ Z, Z = wr.alloc (.cells #[.int .i64 (t : Int), .slice A1 n1 c1, .slice A2 n2 c2] 116) := ⟨_, rfl⟩
      rw [← hV4] at bM hal ⊢
      clear hV4 y0 y1 y2
      obtain ⟨B7, hB7⟩ : ∃ z, z = wr.heap.size := ⟨_, rfl⟩
      rw [← hB7] at bM ⊢
      clear hB7
      have b71 := bM.cell 1
      simp only [List.getElem?_cons_zero, List.getElem?_cons_succ] at b71
      have Hwd := hide (Word_ct A1 n1 c1 m.pre V4 (Hmp.out.keep hal) P3.out)
      have hwp : wordF m.pre < 4294967296 := word_lt P3.out
      have hbit : (bits BinOp.and IntKind.u32 (s : Int) ((wordF m.pre : Nat) : Int) != ((wordF m.pre : Nat) : Int)) = !goalW (wordF m.pre) s := by simp only [bne, goal_and hs32 hwp]
      have Hbit := hide hbit
      clear hbit
      go_upto_region 6 with (go_at_call 39; refine Hwd.out.mono ?_; rintro e w' ⟨rfl, rfl⟩)
      obtain ⟨V5, hV5⟩ : ∃ Z, Z = V4.drew := ⟨_, rfl⟩
      have hb5 : Below wr.heap.size wr V5 := by rw [hV5]; exact hal.drew
      have BM := hide (bM.keep (show Below V4.heap.size V4 V5 by rw [hV5]; exact (Below.refl _ _).drew))
      have hbW5 : Below W.heap.size W V5 := (Hb1.out.trans (Hbw.out.mono Hb1.out.size)).trans (hb5.mono (Nat.le_trans Hb1.out.size Hbw.out.size))
      have DC5 := hide ((DC.out.keep Hbw.out).keep hb5)
      have z0 := BM.out.cell 0
      have u0 := DC5.out.cell 0
      have u1 := DC5.out.cell 1
      have q8 := (hbW5.cell (p := ⟨f.Rb, 8, none⟩) (World.block_lt_of_cell? W _ R8.out)).trans R8.out
      have qS := (hbW5.cell (p := ⟨sb, so + c.i, none⟩) (World.block_lt_of_cell? W _ HcS.out)).trans HcS.out
      simp only [List.getElem?_cons_zero, List.getElem?_cons_succ] at z0 u0 u1
      have HbW5 := hide hbW5
      have Hb5 := hide hb5
      clear hbW5 hb5 hal bM b71
      refine wp_region_held_drew (S := (fun w' => w'.cell? ⟨B7, 0, none⟩ = some (.int .i64 (t : Int)) ∧ w'.cell? ⟨Bc, 0, none⟩ = some (.int .i64 (c.t : Int)) ∧ w'.cell? ⟨Bc, 1, none⟩ = some (.int .i64 (c.i : Int)) ∧ w'.cell? ⟨f.Rb, 8, none⟩ = some (.slice (some ⟨sb, so, none⟩) f.sn f.sc) ∧ w'.cell? ⟨sb, so + c.i, none⟩ = some (.int .u32 (s : Int)))) (by kernel_rfl) ?_ (fun hHeld => ?_)
      · rw [← hV5]; exact ⟨z0, u0, u1, q8, qS⟩
      rw [← hV5] at hHeld ⊢
      clear hV5 z0 u0 u1 q8 qS
      by_cases htc : t = c.t
      rotate_left
      · have hne : ((t : Int) == (c.t : Int)) = false := by rw [beq_eq_false_iff_ne]; omega
        have hnI : ¬ (t : Int) = (c.t : Int) := by omega
        have hbne : ((t : Int) != (c.t : Int)) = true := by simp only [bne, hne]; rfl
        have Htc := hide htc
        clear htc
        refine takeA (i := 0) (v := ?_) (some 30) rfl rfl (by kernel_rfl) (by kernel_rfl) (by kernel_rfl) (fun _ _ _ h => h) (Or.inl ⟨by rfl, ?_⟩) (by assumption) ?_
        rotate_left
        · intro w hSw; (try dsimp only at hSw); obtain ⟨s1, s2, s3, s4, s5⟩ := hSw; first | (go_simp; done) | (go_simp; with_reducible rfl)
        try simp only [Act.put, List.setIfInBounds_toArray, List.set_cons_zero, List.set_cons_succ]
        refine takeA (i := 1) (v := ?_) (some 31) rfl rfl (by kernel_rfl) (by kernel_rfl) (by kernel_rfl) (fun _ _ _ h => h) (Or.inl ⟨by rfl, ?_⟩) (by assumption) ?_
        rotate_left
        · intro w hSw; (try dsimp only at hSw); obtain ⟨s1, s2, s3, s4, s5⟩ := hSw; first | (go_simp; done) | (go_simp; with_reducible rfl)
        try simp only [Act.put, List.setIfInBounds_toArray, List.set_cons_zero, List.set_cons_succ]
        refine takeA (i := 2) (v := ?_) (some 32) rfl rfl (by kernel_rfl) (by kernel_rfl) (by kernel_rfl) (fun _ _ _ h => h) (Or.inl ⟨by rfl, ?_⟩) (by assumption) ?_
        rotate_left
        · intro w hSw; (try dsimp only at hSw); obtain ⟨s1, s2, s3, s4, s5⟩ := hSw; first | (go_simp; done) | (go_simp; with_reducible rfl)
        try simp only [Act.put, List.setIfInBounds_toArray, List.set_cons_zero, List.set_cons_succ]
        refine takeA (i := 3) (v := ?_) (some 33) rfl rfl (by kernel_rfl) (by kernel_rfl) (by kernel_rfl) (fun _ _ _ h => h) (Or.inl ⟨by rfl, ?_⟩) (by assumption) ?_
        rotate_left
        · intro w hSw; (try dsimp only at hSw); obtain ⟨s1, s2, s3, s4, s5⟩ := hSw; first | (go_simp; done) | (go_simp; with_reducible rfl)
        try simp only [Act.put, List.setIfInBounds_toArray, List.set_cons_zero, List.set_cons_succ]
        refine takeA (i := 4) (v := ?_) (some 34) rfl rfl (by kernel_rfl) (by kernel_rfl) (by kernel_rfl) (fun _ _ _ h => h) (Or.inl ⟨by rfl, ?_⟩) (by assumption) ?_
        rotate_left
        · intro w hSw; (try dsimp only at hSw); obtain ⟨s1, s2, s3, s4, s5⟩ := hSw; first | (go_simp; done) | (go_simp; with_reducible rfl)
        try simp only [Act.put, List.setIfInBounds_toArray, List.set_cons_zero, List.set_cons_succ]
        refine takeA (i := 5) (v := ?_) (some 35) rfl rfl (by kernel_rfl) (by kernel_rfl) (by kernel_rfl) (fun _ _ _ h => h) (Or.inl ⟨by rfl, ?_⟩) (by assumption) ?_
        rotate_left
        · intro w hSw; (try dsimp only at hSw); obtain ⟨s1, s2, s3, s4, s5⟩ := hSw; first | (go_simp; done) | (go_simp; with_reducible rfl)
        try simp only [Act.put, List.setIfInBounds_toArray, List.set_cons_zero, List.set_cons_succ]
        refine takeA (i := 6) (v := undef) (some 36) rfl rfl (by kernel_rfl) (by kernel_rfl) (by kernel_rfl) (fun _ _ _ h => h) (Or.inr ⟨by rfl, rfl⟩) (by assumption) ?_
        try simp only [Act.put, List.setIfInBounds_toArray, List.set_cons_zero, List.set_cons_succ]
        refine takeA (i := 7) (v := undef) (some 37) rfl rfl (by kernel_rfl) (by kernel_rfl) (by kernel_rfl) (fun _ _ _ h => h) (Or.inr ⟨by rfl, rfl⟩) (by assumption) ?_
        try simp only [Act.put, List.setIfInBounds_toArray, List.set_cons_zero, List.set_cons_succ]
        refine takeA (i := 8) (v := undef) (some 38) rfl rfl (by kernel_rfl) (by kernel_rfl) (by kernel_rfl) (fun _ _ _ h => h) (Or.inr ⟨by rfl, rfl⟩) (by assumption) ?_
        try simp only [Act.put, List.setIfInBounds_toArray, List.set_cons_zero, List.set_cons_succ]
        refine takeA (i := 9) (v := undef) (some 39) rfl rfl (by kernel_rfl) (by kernel_rfl) (by kernel_rfl) (fun _ _ _ h => h) (Or.inr ⟨by rfl, rfl⟩) (by assumption) ?_
        try simp only [Act.put, List.setIfInBounds_toArray, List.set_cons_zero, List.set_cons_succ]
        refine takeA (i := 10) (v := undef) (some 40) rfl rfl (by kernel_rfl) (by kernel_rfl) (by kernel_rfl) (fun _ _ _ h => h) (Or.inr ⟨by rfl, rfl⟩) (by assumption) ?_
        try simp only [Act.put, List.setIfInBounds_toArray, List.set_cons_zero, List.set_cons_succ]
        refine takeA (i := 11) (v := undef) (some 41) rfl rfl (by kernel_rfl) (by kernel_rfl) (by kernel_rfl) (fun _ _ _ h => h) (Or.inr ⟨by rfl, rfl⟩) (by assumption) ?_
        try simp only [Act.put, List.setIfInBounds_toArray, List.set_cons_zero, List.set_cons_succ]
        refine takeA (i := 12) (v := undef) (some 42) rfl rfl (by kernel_rfl) (by kernel_rfl) (by kernel_rfl) (fun _ _ _ h => h) (Or.inr ⟨by rfl, rfl⟩) (by assumption) ?_
        try simp only [Act.put, List.setIfInBounds_toArray, List.set_cons_zero, List.set_cons_succ]
        refine takeA (i := 13) (v := undef) (some 43) rfl rfl (by kernel_rfl) (by kernel_rfl) (by kernel_rfl) (fun _ _ _ h => h) (Or.inr ⟨by rfl, rfl⟩) (by assumption) ?_
        try simp only [Act.put, List.setIfInBounds_toArray, List.set_cons_zero, List.set_cons_succ]
        refine takeA (i := 14) (v := undef) (some 44) rfl rfl (by kernel_rfl) (by kernel_rfl) (by kernel_rfl) (fun _ _ _ h => h) (Or.inr ⟨by rfl, rfl⟩) (by assumption) ?_
        try simp only [Act.put, List.setIfInBounds_toArray, List.set_cons_zero, List.set_cons_succ]
        refine takeA (i := 15) (v := undef) (some 45) rfl rfl (by kernel_rfl) (by kernel_rfl) (by kernel_rfl) (fun _ _ _ h => h) (Or.inr ⟨by rfl, rfl⟩) (by assumption) ?_
        try simp only [Act.put, List.setIfInBounds_toArray, List.set_cons_zero, List.set_cons_succ]
        refine takeA (i := 16) (v := undef) (some 46) rfl rfl (by kernel_rfl) (by kernel_rfl) (by kernel_rfl) (fun _ _ _ h => h) (Or.inr ⟨by rfl, rfl⟩) (by assumption) ?_
        try simp only [Act.put, List.setIfInBounds_toArray, List.set_cons_zero, List.set_cons_succ]
        refine takeA (i := 17) (v := undef) (some 47) rfl rfl (by kernel_rfl) (by kernel_rfl) (by kernel_rfl) (fun _ _ _ h => h) (Or.inr ⟨by rfl, rfl⟩) (by assumption) ?_
        try simp only [Act.put, List.setIfInBounds_toArray, List.set_cons_zero, List.set_cons_succ]
        refine takeA (i := 18) (v := ?_) (some 48) rfl rfl (by kernel_rfl) (by kernel_rfl) (by kernel_rfl) (fun _ _ _ h => h) (Or.inl ⟨by rfl, ?_⟩) (by assumption) ?_
        rotate_left
        · intro w hSw; (try dsimp only at hSw); obtain ⟨s1, s2, s3, s4, s5⟩ := hSw; first | (go_simp; done) | (go_simp; with_reducible rfl)
        try simp only [Act.put, List.setIfInBounds_toArray, List.set_cons_zero, List.set_cons_succ]
        refine wpAnyH_done (by kernel_rfl) ?_ _
        go_wp2_with fail
        go_roundw
        case rel => exact ⟨k + 1, by omega, by go_num, Hbw.out.trans (Hb5.out.mono Hbw.out.size), fun m' hm' e => by
          rcases (take_one Hma.out m').1 hm' with hm' | rfl
          · exact Hno.out m' hm' e
          · exact absurd (by have := Ht.out; omega) Htc.out⟩
        case measure => simp [intOf]; omega
      · subst htc
        refine takeA (i := 0) (v := ?_) (some 30) rfl rfl (by kernel_rfl) (by kernel_rfl) (by kernel_rfl) (fun _ _ _ h => h) (Or.inl ⟨by rfl, ?_⟩) (by assumption) ?_
        rotate_left
        · intro w hSw; (try dsimp only at hSw); obtain ⟨s1, s2, s3, s4, s5⟩ := hSw; first | (go_simp; done) | (go_simp; with_reducible rfl)
        try simp only [Act.put, List.setIfInBounds_toArray, List.set_cons_zero, List.set_cons_succ]
        refine takeA (i := 1) (v := ?_) (some 31) rfl rfl (by kernel_rfl) (by kernel_rfl) (by kernel_rfl) (fun _ _ _ h => h) (Or.inl ⟨by rfl, ?_⟩) (by assumption) ?_
        rotate_left
        · intro w hSw; (try dsimp only at hSw); obtain ⟨s1, s2, s3, s4, s5⟩ := hSw; first | (go_simp; done) | (go_simp; with_reducible rfl)
        try simp only [Act.put, List.setIfInBounds_toArray, List.set_cons_zero, List.set_cons_succ]
        refine takeA (i := 2) (v := ?_) (some 32) rfl rfl (by kernel_rfl) (by kernel_rfl) (by kernel_rfl) (fun _ _ _ h => h) (Or.inl ⟨by rfl, ?_⟩) (by assumption) ?_
        rotate_left
        · intro w hSw; (try dsimp only at hSw); obtain ⟨s1, s2, s3, s4, s5⟩ := hSw; first | (go_simp; done) | (go_simp; with_reducible rfl)
        try simp only [Act.put, List.setIfInBounds_toArray, List.set_cons_zero, List.set_cons_succ]
        refine takeA (i := 3) (v := ?_) (some 33) rfl rfl (by kernel_rfl) (by kernel_rfl) (by kernel_rfl) (fun _ _ _ h => h) (Or.inl ⟨by rfl, ?_⟩) (by assumption) ?_
        rotate_left
        · intro w hSw; (try dsimp only at hSw); obtain ⟨s1, s2, s3, s4, s5⟩ := hSw; first | (go_simp; done) | (go_simp; with_reducible rfl)
        try simp only [Act.put, List.setIfInBounds_toArray, List.set_cons_zero, List.set_cons_succ]
        refine takeA (i := 4) (v := ?_) (some 34) rfl rfl (by kernel_rfl) (by kernel_rfl) (by kernel_rfl) (fun _ _ _ h => h) (Or.inl ⟨by rfl, ?_⟩) (by assumption) ?_
        rotate_left
        · intro w hSw; (try dsimp only at hSw); obtain ⟨s1, s2, s3, s4, s5⟩ := hSw; first | (go_simp; done) | (go_simp; with_reducible rfl)
        try simp only [Act.put, List.setIfInBounds_toArray, List.set_cons_zero, List.set_cons_succ]
        refine takeA (i := 5) (v := ?_) (some 35) rfl rfl (by kernel_rfl) (by kernel_rfl) (by kernel_rfl) (fun _ _ _ h => h) (Or.inl ⟨by rfl, ?_⟩) (by assumption) ?_
        rotate_left
        · intro w hSw; (try dsimp only at hSw); obtain ⟨s1, s2, s3, s4, s5⟩ := hSw; first | (go_simp; done) | (go_simp; with_reducible rfl)
        try simp only [Act.put, List.setIfInBounds_toArray, List.set_cons_zero, List.set_cons_succ]
        refine takeA (i := 6) (v := ?_) (some 36) rfl rfl (by kernel_rfl) (by kernel_rfl) (by kernel_rfl) (fun _ _ _ h => h) (Or.inl ⟨by rfl, ?_⟩) (by assumption) ?_
        rotate_left
        · intro w hSw; (try dsimp only at hSw); obtain ⟨s1, s2, s3, s4, s5⟩ := hSw; first | (go_simp; done) | (go_simp; with_reducible rfl)
        try simp only [Act.put, List.setIfInBounds_toArray, List.set_cons_zero, List.set_cons_succ]
        refine takeA (i := 7) (v := ?_) (some 37) rfl rfl (by kernel_rfl) (by kernel_rfl) (by kernel_rfl) (fun _ _ _ h => h) (Or.inl ⟨by rfl, ?_⟩) (by assumption) ?_
        rotate_left
        · intro w hSw; (try dsimp only at hSw); obtain ⟨s1, s2, s3, s4, s5⟩ := hSw; first | (go_simp; done) | (go_simp; with_reducible rfl)
        try simp only [Act.put, List.setIfInBounds_toArray, List.set_cons_zero, List.set_cons_succ]
        refine takeA (i := 8) (v := ?_) (some 38) rfl rfl (by kernel_rfl) (by kernel_rfl) (by kernel_rfl) (fun _ _ _ h => h) (Or.inl ⟨by rfl, ?_⟩) (by assumption) ?_
        rotate_left
        · intro w hSw; (try dsimp only at hSw); obtain ⟨s1, s2, s3, s4, s5⟩ := hSw; first | (go_simp; done) | (go_simp; with_reducible rfl)
        try simp only [Act.put, List.setIfInBounds_toArray, List.set_cons_zero, List.set_cons_succ]
        refine takeA (i := 9) (v := ?_) (some 39) rfl rfl (by kernel_rfl) (by kernel_rfl) (by kernel_rfl) (fun _ _ _ h => h) (Or.inl ⟨by rfl, ?_⟩) (by assumption) ?_
        rotate_left
        · intro w hSw; (try dsimp only at hSw); obtain ⟨s1, s2, s3, s4, s5⟩ := hSw; first | (go_simp; done) | (go_simp; with_reducible rfl)
        try simp only [Act.put, List.setIfInBounds_toArray, List.set_cons_zero, List.set_cons_succ]
        refine takeA (i := 10) (v := ?_) (some 40) rfl rfl (by kernel_rfl) (by kernel_rfl) (by kernel_rfl) (fun _ _ _ h => h) (Or.inl ⟨by rfl, ?_⟩) (by assumption) ?_
        rotate_left
        · intro w hSw; (try dsimp only at hSw); obtain ⟨s1, s2, s3, s4, s5⟩ := hSw; first | (go_simp; done) | (go_simp; with_reducible rfl)
        try simp only [Act.put, List.setIfInBounds_toArray, List.set_cons_zero, List.set_cons_succ]
        refine takeA (i := 11) (v := ?_) (some 41) rfl rfl (by kernel_rfl) (by kernel_rfl) (by kernel_rfl) (fun _ _ _ h => h) (Or.inl ⟨by rfl, ?_⟩) (by assumption) ?_
        rotate_left
        · intro w hSw; (try dsimp only at hSw); obtain ⟨s1, s2, s3, s4, s5⟩ := hSw; first | (go_simp; done) | (go_simp; with_reducible rfl)
        try simp only [Act.put, List.setIfInBounds_toArray, List.set_cons_zero, List.set_cons_succ]
        refine takeA (i := 12) (v := ?_) (some 42) rfl rfl (by kernel_rfl) (by kernel_rfl) (by kernel_rfl) (fun _ _ _ h => h) (Or.inl ⟨by rfl, ?_⟩) (by assumption) ?_
        rotate_left
        · intro w hSw; (try dsimp only at hSw); obtain ⟨s1, s2, s3, s4, s5⟩ := hSw; first | (go_simp; done) | (go_simp; with_reducible rfl)
        try simp only [Act.put, List.setIfInBounds_toArray, List.set_cons_zero, List.set_cons_succ]
        refine takeA (i := 13) (v := ?_) (some 43) rfl rfl (by kernel_rfl) (by kernel_rfl) (by kernel_rfl) (fun _ _ _ h => h) (Or.inl ⟨by rfl, ?_⟩) (by assumption) ?_
        rotate_left
        · intro w hSw; (try dsimp only at hSw); obtain ⟨s1, s2, s3, s4, s5⟩ := hSw; first | (go_simp; done) | (go_simp; with_reducible rfl)
        try simp only [Act.put, List.setIfInBounds_toArray, List.set_cons_zero, List.set_cons_succ]
        refine takeA (i := 14) (v := ?_) (some 44) rfl rfl (by kernel_rfl) (by kernel_rfl) (by kernel_rfl) (fun _ _ _ h => h) (Or.inl ⟨by rfl, ?_⟩) (by assumption) ?_
        rotate_left
        · intro w hSw; (try dsimp only at hSw); obtain ⟨s1, s2, s3, s4, s5⟩ := hSw; first | (go_simp; done) | (go_simp; with_reducible rfl)
        try simp only [Act.put, List.setIfInBounds_toArray, List.set_cons_zero, List.set_cons_succ]
        by_cases hc : s &&& wordF m.pre = wordF m.pre
        rotate_left
        · have hbit2 : (bits BinOp.and IntKind.u32 (s : Int) ((wordF m.pre : Nat) : Int) != ((wordF m.pre : Nat) : Int)) = true := by rw [Hbit.out]; unfold goalW; rw [decide_eq_false hc]; rfl
          have Hnc := hide hc
          clear hc
          refine takeA (i := 15) (v := ?_) (some 45) rfl rfl (by kernel_rfl) (by kernel_rfl) (by kernel_rfl) (fun _ _ _ h => h) (Or.inl ⟨by rfl, ?_⟩) (by assumption) ?_
          rotate_left
          · intro w hSw; (try dsimp only at hSw); obtain ⟨s1, s2, s3, s4, s5⟩ := hSw; first | (go_simp; done) | (go_simp; with_reducible rfl)
          try simp only [Act.put, List.setIfInBounds_toArray, List.set_cons_zero, List.set_cons_succ]
          refine takeA (i := 16) (v := ?_) (some 46) rfl rfl (by kernel_rfl) (by kernel_rfl) (by kernel_rfl) (fun _ _ _ h => h) (Or.inl ⟨by rfl, ?_⟩) (by assumption) ?_
          rotate_left
          · intro w hSw; (try dsimp only at hSw); obtain ⟨s1, s2, s3, s4, s5⟩ := hSw; first | (go_simp; done) | (go_simp; with_reducible rfl)
          try simp only [Act.put, List.setIfInBounds_toArray, List.set_cons_zero, List.set_cons_succ]
          refine takeA (i := 17) (v := ?_) (some 47) rfl rfl (by kernel_rfl) (by kernel_rfl) (by kernel_rfl) (fun _ _ _ h => h) (Or.inl ⟨by rfl, ?_⟩) (by assumption) ?_
          rotate_left
          · intro w hSw; (try dsimp only at hSw); obtain ⟨s1, s2, s3, s4, s5⟩ := hSw; first | (go_simp; done) | (go_simp; with_reducible rfl)
          try simp only [Act.put, List.setIfInBounds_toArray, List.set_cons_zero, List.set_cons_succ]
          refine takeA (i := 18) (v := ?_) (some 48) rfl rfl (by kernel_rfl) (by kernel_rfl) (by kernel_rfl) (fun _ _ _ h => h) (Or.inl ⟨by rfl, ?_⟩) (by assumption) ?_
          rotate_left
          · intro w hSw; (try dsimp only at hSw); obtain ⟨s1, s2, s3, s4, s5⟩ := hSw; first | (go_simp; done) | (go_simp; with_reducible rfl)
          try simp only [Act.put, List.setIfInBounds_toArray, List.set_cons_zero, List.set_cons_succ]
          refine wpAnyH_done (by kernel_rfl) ?_ _
          go_wp2_with fail
          go_roundw
          case rel => exact ⟨k + 1, by omega, by go_num, Hbw.out.trans (Hb5.out.mono Hbw.out.size), fun m' hm' e hcan => by
            rcases (take_one Hma.out m').1 hm' with hm' | rfl
            · exact Hno.out m' hm' e hcan
            · obtain ⟨s', e1, e2⟩ := hcan
              obtain rfl : s = s' := Option.some.inj (Hsb.out.symm.trans e1)
              exact absurd e2 Hnc.out⟩
          case measure => simp [intOf]; omega
        · have hbit2 : (bits BinOp.and IntKind.u32 (s : Int) ((wordF m.pre : Nat) : Int) != ((wordF m.pre : Nat) : Int)) = false := by rw [Hbit.out]; unfold goalW; rw [decide_eq_true hc]; rfl
          have Hyc := hide hc
          clear hc
          refine takeA (i := 15) (v := ?_) (some 45) rfl rfl (by kernel_rfl) (by kernel_rfl) (by kernel_rfl) (fun _ _ _ h => h) (Or.inl ⟨by rfl, ?_⟩) (by assumption) ?_
          rotate_left
          · intro w hSw; (try dsimp only at hSw); obtain ⟨s1, s2, s3, s4, s5⟩ := hSw; first | (go_simp; done) | (go_simp; with_reducible rfl)
          try simp only [Act.put, List.setIfInBounds_toArray, List.set_cons_zero, List.set_cons_succ]
          refine takeA (i := 16) (v := ?_) (some 46) rfl rfl (by kernel_rfl) (by kernel_rfl) (by kernel_rfl) (fun _ _ _ h => h) (Or.inl ⟨by rfl, ?_⟩) (by assumption) ?_
          rotate_left
          · intro w hSw; (try dsimp only at hSw); obtain ⟨s1, s2, s3, s4, s5⟩ := hSw; first | (go_simp; done) | (go_simp; with_reducible rfl)
          try simp only [Act.put, List.setIfInBounds_toArray, List.set_cons_zero, List.set_cons_succ]
          refine takeA (i := 17) (v := ?_) (some 47) rfl rfl (by kernel_rfl) (by kernel_rfl) (by kernel_rfl) (fun _ _ _ h => h) (Or.inl ⟨by rfl, ?_⟩) (by assumption) ?_
          rotate_left
          · intro w hSw; (try dsimp only at hSw); obtain ⟨s1, s2, s3, s4, s5⟩ := hSw; first | (go_simp; done) | (go_simp; with_reducible rfl)
          try simp only [Act.put, List.setIfInBounds_toArray, List.set_cons_zero, List.set_cons_succ]
          refine takeA (i := 18) (v := ?_) (some 48) rfl rfl (by kernel_rfl) (by kernel_rfl) (by kernel_rfl) (fun _ _ _ h => h) (Or.inl ⟨by rfl, ?_⟩) (by assumption) ?_
          rotate_left
          · intro w hSw; (try dsimp only at hSw); obtain ⟨s1, s2, s3, s4, s5⟩ := hSw; first | (go_simp; done) | (go_simp; with_reducible rfl)
          try simp only [Act.put, List.setIfInBounds_toArray, List.set_cons_zero, List.set_cons_succ]
          refine wpAnyH_done (by kernel_rfl) ?_ _
          clear hHeld hbit2
          have z2 := BM.out.cell 2
          have u1 := DC5.out.cell 1
          have u2 := DC5.out.cell 2
          have u3 := DC5.out.cell 3
          simp only [List.getElem?_cons_zero, List.getElem?_cons_succ] at z2 u1 u2 u3
          have Hex := hide (Ih.out m (List.mem_of_getElem? Hma.out) V5 A2 n2 c2 c.i c.j c.n (HF.out.keep HbW5.out) (Hmst.out.keep Hb5.out) Hci.out.1 Hci.out.2 hcn)
          by_cases hsp : SpR (aftW f.ms f.st) (Ere f.R q) m.steps c.i c.n c.j
          · have Hsp := hide hsp
            clear hsp
            go_wp2_with (go_at_call 67; refine Hex.out.mono ?_; rintro e w6 ⟨hb6, O6, m6, oc6, l6, ok6, rfl, hrow6, hll6, hiff6, hseg6⟩; (obtain rfl : ok6 = true := hiff6.2 Hsp.out); have Hb6 := hide hb6; have Hrow6 := hide hrow6; have Hseg6 := hide (hseg6 rfl); clear hb6 hrow6 hll6 hiff6 hseg6)
            go_ret
            have h6 := HbW5.out.size
            exact ⟨HbW5.out.trans (Hb6.out.mono h6), O6, m6, oc6, l6, rfl, Hrow6.out.mono h6, Hseg6.out.1, m, List.mem_of_getElem? Hma.out, Ht.out, ⟨s, Hsb.out, Hyc.out⟩, Hseg6.out.2⟩
          · have Hsp := hide hsp
            clear hsp
            go_wp2_with (go_at_call 67; refine Hex.out.mono ?_; rintro e w6 ⟨hb6, O6, m6, oc6, l6, ok6, rfl, hrow6, hll6, hiff6, hseg6⟩; (obtain rfl : ok6 = false := by cases ok6 with | true => exact absurd (hiff6.1 rfl) Hsp.out | false => rfl); have Hb6 := hide hb6; clear hb6 hrow6 hll6 hiff6 hseg6)
            go_roundw
            case rel => exact ⟨k + 1, by omega, by go_num, (Hbw.out.trans (Hb5.out.mono Hbw.out.size)).trans (Hb6.out.mono (by have := Hbw.out.size; have := Hb5.out.size; omega)), fun m' hm' e hcan => by
              rcases (take_one Hma.out m').1 hm' with hm' | rfl
              · exact Hno.out m' hm' e hcan
              · exact Hsp.out⟩
            case measure => simp [intOf]; omega
/-- all steps, all rounds -/
theorem exact_all (f : FC) (K : FxK f) : ∀ (r : Nat), r ≤ 2000000000 → ∀ (xs : List Int), (∀ x ∈ xs, -1000 ≤ x ∧ x < 1000) → xs.length ≤ 1000 → ExactAt f r xs := by
  intro r
  induction r using Nat.strongRecOn with
  | _ r ihr =>
    intro hr
    have hp : ∀ c q, f.R c = some q → q < r → PlanAt f c := fun c q hc hq => plan_at f K q c hc (fun m hm => ihr q hq (by omega) m.steps (K.mr m hm).2.2.2.1 (K.mr m hm).2.2.2.2)
    intro xs
    induction xs with
    | nil => intro _ _; exact exact_nil f r
    | cons x xs ih =>
      intro hx hl
      rw [List.length_cons] at hl
      have h1 := hx x List.mem_cons_self
      have h2 := ih (fun y hy => hx y (List.mem_cons_of_mem _ hy)) (by omega)
      rcases (by omega : x < 0 ∨ 0 ≤ x) with h0 | h0
      · obtain ⟨k, rfl⟩ : ∃ k : Nat, x = -1 - (k : Int) := ⟨(-1 - x).toNat, by omega⟩
        exact exact_task f K r k xs hr (by omega) (by omega) hp h2
      · obtain ⟨k, rfl⟩ : ∃ k : Nat, x = (k : Int) := ⟨x.toNat, by omega⟩
        exact exact_op f K r k xs (by omega) (by omega) h2
end Go.Proofs.YtmjiiddncbhgpaaGreat
