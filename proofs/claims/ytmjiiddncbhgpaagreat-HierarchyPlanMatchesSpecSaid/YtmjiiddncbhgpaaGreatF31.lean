/- The law HierarchyPlanMatchesSpec of the package hierarchy holds, without a condition., part 31: TkOpen HyOpen. -/
import Derived.Test.YtmjiiddncbhgpaaGreatF1
import Derived.Test.YtmjiiddncbhgpaaGreatF2
import Derived.Test.YtmjiiddncbhgpaaGreatF3
import Derived.Test.YtmjiiddncbhgpaaGreatF13
import Derived.Test.YtmjiiddncbhgpaaGreatF14
import Derived.Test.YtmjiiddncbhgpaaGreatF30
import Derived.BigQuiet
import Derived.ChangeOld
import Derived.Deep.AppendLies
import Derived.Deep.Draws
import Derived.Deep.Fields
import Derived.Deep.LoopGhost
import Derived.Deep.QuietTactic
import Derived.Deep.Slices
import Derived.Ground.Names2Prog
import Derived.Ground.SlgnProg
import Derived.Ground.SlsfProg
import Derived.IntWalk
import Derived.Laws.AppendOwnNone
import Derived.Laws.OwnMore
import Derived.Lib.Hide
import Derived.Lib.SlicesCompact
import Derived.Maps.AppendAt
import Derived.OpenShut
import Derived.ProofKit
import Derived.Shelf.Slices.Cells
import Derived.Shelf.Slices.Clone
import Derived.Shelf.Slices.CompactI
import Derived.Shelf.Slices.Empties
import Derived.Shelf.Slices.In.SortNone
import Derived.Shelf.Slices.SearchI
import Derived.Shelf.Sort.Plain
import Derived.Sort.OwnSortedInts
import Derived.Test.YtmjiiddncbhgpaaGreatProg
import Derived.Test.YtmjiiddncbhgpaaGreatRows
import Derived.WalkKit
namespace Go.Proofs.YtmjiiddncbhgpaaGreat
open Go.ChangeShapes Go.WideShapes Go.ChangeAt Go.RowKit
theorem opens_struct4 {P : Program} {α β γ δ : Type} {E : Enc α} {F : Enc β} {G : Enc γ} {K : Enc δ} {t : TypeId} {f0 f1 f2 f3 : Field} (ht : P.underlying t = some (.struct #[f0, f1, f2, f3])) (hc : P.cellsOf t = E.size + (F.size + (G.size + K.size)))
    (h0 : Opens E P f0.type) (h1 : Opens F P f1.type) (h2 : Opens G P f2.type) (h3 : Opens K P f3.type) (o0 : f0.offset = 0) (o1 : f1.offset = E.size) (o2 : f2.offset = E.size + F.size) (o3 : f3.offset = E.size + F.size + G.size) : Opens (E.pair (F.pair (G.pair K))) P t :=
  ⟨hc, fun H enc w base spare held fuel cs x h => by
    obtain ⟨xs, n, _, _, hl, hxl, hf⟩ := DataW.trod_struct ht h
    have g0 := hf 0 f0 rfl
    have g1 := hf 1 f1 rfl
    have g2 := hf 2 f2 rfl
    have g3 := hf 3 f3 rfl
    rw [o0, h0.1, List.drop_zero] at g0
    rw [o1, h1.1] at g1
    rw [o2, h2.1] at g2
    rw [o3, h3.1] at g3
    rw [hc] at hl
    have e0 : xs[0]? = some (xs[0]'(by rw [hxl]; simp)) := List.getElem?_eq_getElem _
    have e1 : xs[1]? = some (xs[1]'(by rw [hxl]; simp)) := List.getElem?_eq_getElem _
    have e2 : xs[2]? = some (xs[2]'(by rw [hxl]; simp)) := List.getElem?_eq_getElem _
    have e3 : xs[3]? = some (xs[3]'(by rw [hxl]; simp)) := List.getElem?_eq_getElem _
    obtain ⟨a, ha⟩ := h0.2 _ _ _ _ _ _ _ _ _ (g0.trans e0)
    obtain ⟨b, hb⟩ := h1.2 _ _ _ _ _ _ _ _ _ (g1.trans e1)
    obtain ⟨c, hd⟩ := h2.2 _ _ _ _ _ _ _ _ _ (g2.trans e2)
    obtain ⟨k, hk⟩ := h3.2 _ _ _ _ _ _ _ _ _ (g3.trans e3)
    rw [List.take_of_length_le (by rw [List.length_drop]; omega)] at hk
    refine ⟨(a, b, c, k), _, _, (List.take_append_drop E.size cs).symm, ha, _, _, (List.take_append_drop F.size _).symm, hb, _, _, (List.take_append_drop G.size _).symm, ?_, ?_⟩
    · rwa [List.drop_drop]
    · rwa [List.drop_drop, List.drop_drop, ← Nat.add_assoc]⟩
theorem opens_op4 : Opens ((Enc.sl Enc.int).pair ((Enc.sl Enc.int).pair ((Enc.sl Enc.int).pair Enc.int))) Tryz.prog 81 :=
  opens_struct4 Tryz.underlying81 (by kernel_rfl) opens_ints opens_ints opens_ints (opens_int Tryz.underlying3 (by kernel_rfl)) rfl rfl rfl rfl
set_option maxRecDepth 100000 in
theorem opens_op : Opens Enc.op Tryz.prog 81 :=
  ⟨opens_op4.1, fun H enc w base spare held fuel cs x h => by
    obtain ⟨⟨a, b, c, k⟩, us, vs, rfl, ⟨A, n, e, rfl, ha⟩, us2, vs2, rfl, ⟨A2, n2, e2, rfl, hb⟩, us3, vs3, rfl, ⟨A3, n3, e3, rfl, hc⟩, rfl, hk⟩ := opens_op4.2 H enc w base spare held fuel cs x h
    exact ⟨⟨a, b, c, k⟩, A, n, e, A2, n2, e2, A3, n3, e3, rfl, ha, hb, hc, hk⟩⟩
theorem opens_ops : Opens (Enc.sl Enc.op) Tryz.prog 23 := opens_sl Tryz.underlying23 (by kernel_rfl) opens_op (by decide)
theorem opens_task : Opens (Enc.int.pair ((Enc.sl Enc.int).pair ((Enc.sl Enc.int).pair (Enc.sl Enc.op)))) Tryz.prog 25 :=
  opens_struct4 Tryz.underlying25 (by kernel_rfl) (opens_int Tryz.underlying3 (by kernel_rfl)) opens_ints opens_ints opens_ops rfl rfl rfl rfl
end Go.Proofs.YtmjiiddncbhgpaaGreat
namespace Go.Proofs.YtmjiiddncbhgpaaGreat
open Go.ChangeShapes Go.WideShapes Go.ChangeAt Go.RowKit
theorem opens_struct3 {P : Program} {α β γ : Type} {E : Enc α} {F : Enc β} {G : Enc γ} {t : TypeId} {f0 f1 f2 : Field} (ht : P.underlying t = some (.struct #[f0, f1, f2])) (hc : P.cellsOf t = E.size + (F.size + G.size))
    (h0 : Opens E P f0.type) (h1 : Opens F P f1.type) (h2 : Opens G P f2.type) (o0 : f0.offset = 0) (o1 : f1.offset = E.size) (o2 : f2.offset = E.size + F.size) : Opens (E.pair (F.pair G)) P t :=
  ⟨hc, fun H enc w base spare held fuel cs x h => by
    obtain ⟨xs, n, _, _, hl, hxl, hf⟩ := DataW.trod_struct ht h
    have g0 := hf 0 f0 rfl
    have g1 := hf 1 f1 rfl
    have g2 := hf 2 f2 rfl
    rw [o0, h0.1, List.drop_zero] at g0
    rw [o1, h1.1] at g1
    rw [o2, h2.1] at g2
    rw [hc] at hl
    have e0 : xs[0]? = some (xs[0]'(by rw [hxl]; simp)) := List.getElem?_eq_getElem _
    have e1 : xs[1]? = some (xs[1]'(by rw [hxl]; simp)) := List.getElem?_eq_getElem _
    have e2 : xs[2]? = some (xs[2]'(by rw [hxl]; simp)) := List.getElem?_eq_getElem _
    obtain ⟨a, ha⟩ := h0.2 _ _ _ _ _ _ _ _ _ (g0.trans e0)
    obtain ⟨b, hb⟩ := h1.2 _ _ _ _ _ _ _ _ _ (g1.trans e1)
    obtain ⟨c, hd⟩ := h2.2 _ _ _ _ _ _ _ _ _ (g2.trans e2)
    rw [List.take_of_length_le (by rw [List.length_drop]; omega)] at hd
    refine ⟨(a, b, c), _, _, (List.take_append_drop E.size cs).symm, ha, _, _, (List.take_append_drop F.size _).symm, hb, ?_⟩
    rwa [List.drop_drop]⟩
theorem opens_me3 : Opens (Enc.int.pair ((Enc.sl Enc.int).pair (Enc.sl Enc.int))) Tryz.prog 116 :=
  opens_struct3 Tryz.underlying116 (by kernel_rfl) (opens_int Tryz.underlying3 (by kernel_rfl)) opens_ints opens_ints rfl rfl rfl
set_option maxRecDepth 100000 in
theorem opens_me : Opens Enc.me Tryz.prog 116 :=
  ⟨opens_me3.1, fun H enc w base spare held fuel cs x h => by
    obtain ⟨⟨f, a, k⟩, us, vs, rfl, ⟨rfl, hx⟩, us2, vs2, rfl, ⟨A, n, e, rfl, ha⟩, ⟨B, m, d, rfl, hb⟩⟩ := opens_me3.2 H enc w base spare held fuel cs x h
    exact ⟨⟨f, a, k⟩, A, n, e, B, m, d, rfl, hx, ha, hb⟩⟩
theorem opens_mes : Opens (Enc.sl Enc.me) Tryz.prog 48 := opens_sl Tryz.underlying48 (by kernel_rfl) opens_me (by decide)
theorem opens_hier : Opens ((Enc.int.pair ((Enc.sl Enc.int).pair ((Enc.sl Enc.int).pair (Enc.sl Enc.op)))).pair (Enc.int.pair ((Enc.sl Enc.me).pair (Enc.sl Enc.int)))) Tryz.prog 50 :=
  opens_struct4 Tryz.underlying50 (by kernel_rfl) opens_task (opens_int Tryz.underlying3 (by kernel_rfl)) opens_mes opens_ints rfl rfl rfl rfl
set_option maxRecDepth 100000 in
theorem open_hier {H : Type} {enc : TypeId × Value → H} {W : World} {sp : Nat → Bool} {hd : Bool} {v : Value} {d : DataW H} {p : List MemPlace} {base : Nat} (hv : Value.okWide Tryz.prog W .any base 50 v) (h : DataW.Trod enc Tryz.prog W 0 sp hd 50 v d p) :
    ∃ (h : Hy) (b : HA), v = .agg #[.int .i64 h.T.facts, .slice b.a.I b.a.nI b.a.cI, .slice b.a.G b.a.nG b.a.cG, .slice b.a.O b.a.nO b.a.cO, .int .i64 h.tasks, .slice b.M b.nM b.cM, .slice b.L b.nL b.cL] ∧ HyR W b h := by
  obtain ⟨cs, rfl, _⟩ := okWide_struct Tryz.underlying50 hv
  obtain ⟨⟨⟨f, i, g, os⟩, k, ms, li⟩, us0, vs0, e1, ⟨us, vs, rfl, ⟨rfl, hx⟩, us2, vs2, rfl, ⟨A, n, c, rfl, hr⟩, us3, vs3, rfl, ⟨A2, n2, c2, rfl, hr2⟩, ⟨A3, n3, c3, rfl, hr3⟩⟩, us4, vs4, rfl, ⟨rfl, hk⟩, us5, vs5, rfl, ⟨A5, n5, c5, rfl, hr5⟩, ⟨A6, n6, c6, rfl, hr6⟩⟩ := arg_of opens_hier h
  refine ⟨⟨⟨f, i, g, os⟩, k, ms, li⟩, ⟨⟨A, n, c, A2, n2, c2, A3, n3, c3⟩, A5, n5, c5, A6, n6, c6⟩, ?_, ⟨⟨hx, hr, hr2, hr3⟩, hk, hr5, hr6⟩⟩
  congr 1
  apply Array.ext'
  simpa [Value.cells] using e1
end Go.Proofs.YtmjiiddncbhgpaaGreat
