/- What the law of made tables' costs asks for, part 18: Lo1 Lr1. -/
import Derived.Test.YtliggcmohcdchaaV1
import Derived.Test.YtliggcmohcdchaaV2
import Derived.Test.YtliggcmohcdchaaV3
import Derived.Test.YtliggcmohcdchaaV4
import Derived.Test.YtliggcmohcdchaaV5
import Derived.Test.YtliggcmohcdchaaV6
import Derived.Test.YtliggcmohcdchaaV7
import Derived.Test.YtliggcmohcdchaaV8
import Derived.Test.YtliggcmohcdchaaV16
import Derived.Test.YtliggcmohcdchaaV17
import Derived.BigQuiet
import Derived.Deep.AppendLies
import Derived.Deep.Draws
import Derived.Deep.Fields
import Derived.Deep.LoopGhost
import Derived.Deep.QuietTactic
import Derived.Deep.Slices
import Derived.DeepKeys4
import Derived.Ground.Names2Prog
import Derived.Ground.SlgnProg
import Derived.Ground.SlsfProg
import Derived.IntWalk
import Derived.Laws.AppendOwnNone
import Derived.Laws.BitsAllLaws
import Derived.Laws.OwnMore
import Derived.Lib.Hide
import Derived.Lib.SlicesCompact
import Derived.LoopIn
import Derived.LoopNIn
import Derived.Maps.AppendAt
import Derived.Maps.OwnIn
import Derived.Maps.OwnOps
import Derived.Maps.OwnSet
import Derived.OwnWalkIn
import Derived.RangeFuncBound
import Derived.RangeFuncCalls
import Derived.RangeFuncLeaves
import Derived.RangeFuncNested
import Derived.Shelf.Abstract
import Derived.Shelf.RegionOpen
import Derived.Shelf.Slices.Cells
import Derived.Shelf.Slices.Clone
import Derived.Shelf.Slices.CompactI
import Derived.Shelf.Slices.Empties
import Derived.Shelf.Slices.In.SortNone
import Derived.Shelf.Slices.SearchI
import Derived.Shelf.Sort.Plain
import Derived.Sort.OwnSortedInts
import Derived.TacticsInMore
import Derived.Test.YtliggcmohcdchaaProg
import Derived.WalkKit
namespace Go.Proofs.Ytliggcmohcdchaa
set_option linter.unusedVariables false
open Go.RowKit
def Enc.ent : Enc Ent where
  size := 2
  ok := fun w vs e => ∃ A n c, vs = [.slice A n c, .int .i64 e.val] ∧ Rd Enc.int w A n c e.st ∧ I64s e.val
  len := fun ⟨_, _, _, h, _⟩ => by rw [h]; rfl
  keep := fun ⟨A, n, c, h, h1, h2⟩ hb => ⟨A, n, c, h, h1.keep hb, h2⟩
theorem Rd.ent {w : World} {A : Option Addr} {n c k : Nat} {es : List Ent} (h : Rd Enc.ent w A n c es) (hk : k < n) :
    ∃ b off e A1 n1 c1, A = some ⟨b, off, none⟩ ∧ es[k]? = some e ∧ w.cell? ⟨b, off + k * 2, none⟩ = some (.slice A1 n1 c1) ∧ w.cell? ⟨b, off + k * 2 + 1, none⟩ = some (.int .i64 e.val) ∧ Rd Enc.int w A1 n1 c1 e.st ∧ I64s e.val := by
  obtain ⟨b, off, e, vs, ha, he, ⟨A1, n1, c1, hvs, h1, h2⟩, hv⟩ := h.get hk
  subst hvs
  exact ⟨b, off, e, A1, n1, c1, ha, he, hv 0 _ rfl, hv 1 _ rfl, h1, h2⟩
end Go.Proofs.Ytliggcmohcdchaa
namespace Go.Proofs.Ytliggcmohcdchaa
set_option linter.unusedVariables false
set_option linter.unusedSimpArgs false
open Go.RowKit
set_option maxRecDepth 100000 in
set_option maxHeartbeats 3200000 in
theorem RLess_ct : ∀ (a b : List Int) (A B : Option Addr) (n c m d : Nat) (w : World) (ha : Rd Enc.int w A n c a) (hb : Rd Enc.int w B m d b),
    Calls Try.prog 33 #[.slice A n c, .slice B m d] w (Quiet w (.bool (lessL a b))) := by
  intro a
  induction a with
  | nil =>
    intro b A B n c m d w ha hb
    have hla := ha.len
    have hlb := hb.len
    have h0 : n = 0 := by simpa using hla.symm
    subst h0
    have hlow := hb.low
    cases b with
    | nil =>
      have h1 : m = 0 := by simpa using hlb.symm
      subst h1
      clear ha hb
      go_enter Try.func33, Try.ntmps33
      go_wp2
      go_ret
      exact ⟨ret_bool rfl, Qt.refl _⟩
    | cons y b =>
      have h1 : 0 < m := by rw [← hlb]; simp
      have h1i : (0 : Int) < (m : Int) := by omega
      have h2 : ((m : Int) == 0) = false := by rw [beq_eq_false_iff_ne]; omega
      clear ha hb
      go_enter Try.func33, Try.ntmps33
      go_wp2
      go_quiet (fail)
      go_wp2
      go_ret
      exact ⟨ret_bool rfl, _, rfl⟩
  | cons x a ih =>
    intro b A B n c m d w ha hb
    have hla := ha.len
    have hlb := hb.len
    cases b with
    | nil =>
      have h1 : m = 0 := by simpa using hlb.symm
      subst h1
      clear ha hb
      go_enter Try.func33, Try.ntmps33
      go_wp2
      go_ret
      exact ⟨ret_bool rfl, Qt.refl _⟩
    | cons y b =>
      have h1 : 0 < n := by rw [← hla]; simp
      have h3 : 0 < m := by rw [← hlb]; simp
      have hlow := ha.low
      have hlow2 := hb.low
      obtain ⟨A2, hA2⟩ : ∃ A2, A2 = (if c = 1 then A else A.map (·.add 1)) := ⟨_, rfl⟩
      obtain ⟨B2, hB2⟩ : ∃ B2, B2 = (if d = 1 then B else B.map (·.add 1)) := ⟨_, rfl⟩
      have hs1 : ∀ w, (Instr.sliceAt 22 (.slice A n c) (some (.int .i64 1)) none none).run Try.prog w = .ok (.slice A2 (n - 1) (c - 1)) w := fun w => by
        have := run_from (P := Try.prog) 22 Try.t3 Try.underlying22 (by kernel_rfl) A n c 1 (by omega) w
        rw [hA2]
        simpa [Try.t3] using this
      have hs2 : ∀ w, (Instr.sliceAt 22 (.slice B m d) (some (.int .i64 1)) none none).run Try.prog w = .ok (.slice B2 (m - 1) (d - 1)) w := fun w => by
        have := run_from (P := Try.prog) 22 Try.t3 Try.underlying22 (by kernel_rfl) B m d 1 (by omega) w
        rw [hB2]
        simpa [Try.t3] using this
      have hra : Rd Enc.int w A2 (n - 1) (c - 1) a := by rw [hA2]; simpa [Enc.int] using ha.from_ (k := 1) (by omega)
      have hrb : Rd Enc.int w B2 (m - 1) (d - 1) b := by rw [hB2]; simpa [Enc.int] using hb.from_ (k := 1) (by omega)
      have Hih := hide (fun W (hW : Qt w W) => ih b _ _ _ _ _ _ W (hra.qt hW) (hrb.qt hW))
      obtain ⟨b1, off1, x', rfl, hx, _, _, hcx⟩ := ha.int h1
      obtain ⟨b2, off2, y', rfl, hy, _, _, hcy⟩ := hb.int h3
      obtain rfl : x = x' := by simpa using hx
      obtain rfl : y = y' := by simpa using hy
      rw [Nat.add_zero] at hcx hcy
      have h2 : ((m : Int) == 0) = false := by rw [beq_eq_false_iff_ne]; omega
      have h4 : ((n : Int) == 0) = false := by rw [beq_eq_false_iff_ne]; omega
      have h1i : (0 : Int) < (n : Int) := by omega
      have h3i : (0 : Int) < (m : Int) := by omega
      clear ih ha hb hra hrb hA2 hB2 hx hy hla hlb
      by_cases hlt : x < y
      · go_enter Try.func33, Try.ntmps33
        go_wp2
        go_quiet (fail)
        go_wp2
        go_ret
        exact ⟨ret_bool (by simp [lessL, hlt]), _, rfl⟩
      · by_cases he : x = y
        · have heb : (x == y) = true := by simpa using he
          obtain ⟨v, hv⟩ : ∃ v, v = lessL a b := ⟨_, rfl⟩
          rw [← hv] at Hih
          have Hv := hide hv
          have Hlt := hide hlt
          have Hr := hide (show lessL (x :: a) (y :: b) = v by rw [hv]; simp [lessL, he])
          clear he hv
          go_enter Try.func33, Try.ntmps33
          go_wp2
          go_quiet (fail)
          obtain ⟨w1, hW⟩ : ∃ W, W = w.drewN nq := ⟨_, rfl⟩
          have hq1 : Qt w w1 := ⟨_, hW⟩
          rw [← hW]
          have hcx1 : w1.cell? ⟨b1, off1, none⟩ = some (.int .i64 x) := by rw [hW]; exact hcx
          have hcy1 : w1.cell? ⟨b2, off2, none⟩ = some (.int .i64 y) := by rw [hW]; exact hcy
          clear hW hcx hcy
          go_wp2
          go_quiet ((go_at_call 33; exact quiet_call (Hih.out _ (hq1.trans ⟨_, rfl⟩))))
          go_wp2
          go_ret
          exact ⟨ret_bool Hr.out.symm, hq1.drewN _⟩
        · have heb : (x == y) = false := by rw [beq_eq_false_iff_ne]; exact he
          have Hr := hide (show lessL (x :: a) (y :: b) = false by simp [lessL, he, hlt])
          clear he
          go_enter Try.func33, Try.ntmps33
          go_wp2
          go_quiet (fail)
          go_wp2
          go_quiet (fail)
          go_wp2
          go_ret
          exact ⟨ret_bool Hr.out.symm, ((Qt.refl _).drewN _).drewN _⟩
set_option maxRecDepth 100000 in
set_option maxHeartbeats 3200000 in
theorem RBoundOf_ct (A B : Option Addr) (n c m d : Nat) (l : List Ent) (s : List Int) (w : World) (hl : Rd Enc.ent w A n c l) (hs : Rd Enc.int w B m d s) :
    Calls Try.prog 17 #[.slice A n c, .slice B m d] w (Quiet w (.int .i64 (bOf l s))) := by
  have hlow := hl.low
  have Hlen := hide hl.len
  have Hl := hide hl
  have Hs := hide hs
  have hres : bOf l s = bOf (l.drop 0) s := by simp
  obtain ⟨R, hR⟩ : ∃ R, R = bOf l s := ⟨_, rfl⟩
  rw [← hR] at hres ⊢
  have HR := hide hres
  clear hl hs hR hres
  go_enter Try.func17, Try.ntmps17
  go_wp2
  go_loopw [5] (fun i wr => ∃ k : Nat, k ≤ n ∧ i = .int .i64 k ∧ Qt w wr ∧ R = bOf (l.drop k) s) (fun i _ => n - (intOf i).toNat)
  case atStart => exact ⟨0, by omega, rfl, Qt.refl _, HR.out⟩
  case round =>
    obtain ⟨k, hk, rfl, hq, hrk⟩ := hrel
    by_cases hlt : k < n
    · obtain ⟨b, off, e, A1, n1, c1, rfl, he, g0, g1, r1, r2⟩ := (Hl.out.qt hq).ent hlt
      rw [drop_cons he, bOf_cons] at hrk
      have hct := fun W (hW : Qt wr W) => Ints_ct A1 B n1 c1 m d e.st s W (r1.qt hW) ((Hs.out.qt hq).qt hW)
      obtain ⟨v, hv⟩ : ∃ v, v = intsB e.st s := ⟨_, rfl⟩
      simp only [← hv] at hct
      have hv2 : v = true ↔ e.st = s := by rw [hv]; simp [intsB]
      have Hct := hide hct
      have Hrk := hide hrk
      have Hq := hide hq
      have Hv := hide hv2
      have hki : (k : Int) < (n : Int) := by omega
      clear hct hrk hq he r1 r2 hv hv2
      go_wp2_with fail
      with_reducible refine (Hct.out wr (Qt.refl _)).mono ?_
      rintro e1 w1 ⟨rfl, hq1⟩
      have Hq2 := hide (Hq.out.trans hq1)
      have g1b : w1.cell? ⟨b, off + k * 2 + 1, none⟩ = some (.int .i64 e.val) := ((hq1.below wr.heap.size).cell (p := ⟨b, off + k * 2 + 1, none⟩) (World.block_lt_of_cell? wr _ g1)).trans g1
      clear hq1 g0 g1
      cases v with
      | true =>
        have hr := Hrk.out
        rw [if_pos (Hv.out.1 rfl)] at hr
        replace Hrk := hide hr
        clear hr
        go_wp2
        go_ret
        exact ⟨ret_int Hrk.out.symm, Hq2.out⟩
      | false =>
        have hr := Hrk.out
        rw [if_neg (fun e => by have := Hv.out.2 e; cases this)] at hr
        replace Hrk := hide hr
        clear hr
        go_wp2
        go_roundw
        case rel => exact ⟨k + 1, by omega, by go_num, Hq2.out, Hrk.out⟩
        case measure => simp [intOf]; omega
    · have Hrk := hide hrk
      have Hq := hide hq
      clear hrk hq
      go_wp2
      go_ret
      refine ⟨ret_int ?_, Hq.out⟩
      rw [Hrk.out, List.drop_of_length_le (by rw [Hlen.out]; omega), bOf_nil]
end Go.Proofs.Ytliggcmohcdchaa
