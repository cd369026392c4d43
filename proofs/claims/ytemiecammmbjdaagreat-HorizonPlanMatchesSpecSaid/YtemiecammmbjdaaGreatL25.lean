/- What the law asks for, part 25: Ap. -/
import Derived.Test.YtemiecammmbjdaaGreatL2
import Derived.Test.YtemiecammmbjdaaGreatL3
import Derived.Test.YtemiecammmbjdaaGreatL4
import Derived.Test.YtemiecammmbjdaaGreatL6
import Derived.Test.YtemiecammmbjdaaGreatL7
import Derived.Test.YtemiecammmbjdaaGreatL22
import Derived.Test.YtemiecammmbjdaaGreatL24
import Derived.BigQuiet
import Derived.Deep.AppendLies
import Derived.Deep.DeepCutAuto
import Derived.Deep.Draws
import Derived.Deep.Fields
import Derived.Deep.LoopGhost
import Derived.Deep.QuietTactic
import Derived.Deep.Slices
import Derived.DeepKeys4
import Derived.Ground.Names2Prog
import Derived.Ground.SlgnProg
import Derived.Ground.SlsfProg
import Derived.IntWalk
import Derived.Laws.AppendOwnNone
import Derived.Laws.OwnMore
import Derived.Lib.Hide
import Derived.Lib.SlicesCompact
import Derived.Maps.AppendAt
import Derived.Maps.OwnOps
import Derived.Maps.OwnSet
import Derived.Shelf.Slices.Cells
import Derived.Shelf.Slices.Clone
import Derived.Shelf.Slices.CompactI
import Derived.Shelf.Slices.Empties
import Derived.Shelf.Slices.In.SortNone
import Derived.Shelf.Slices.Reverse
import Derived.Shelf.Slices.SearchI
import Derived.Shelf.Sort.Plain
import Derived.Sort.OwnSortedInts
import Derived.Test.YtemiecammmbjdaaGreatProg
import Derived.WalkKit
namespace Go.Proofs.YtemiecammmbjdaaGreat
set_option linter.unusedVariables false
set_option linter.unusedSimpArgs false
open Go.RowKit Go.Maps
/-- slices.Reverse on a row of the call's own -/
theorem ReverseOwn_ct {B : Nat} {A : Option Addr} {n c : Nat} {l : List Int} {w : World} (ho : w.ownsRow B 3 1 (.slice A n c) n (l.map (Value.int .i64))) (hl : l.length = n) (hn : n ≤ 1000000000000) :
    Calls Tryz.prog 92 #[.slice A n c] w (fun e w' => e = .returned (.tuple #[]) ∧ Chg (fun b => blkA A = some b) w w' ∧ w'.ownsRow B 3 1 (.slice A n c) n (l.reverse.map (Value.int .i64))) := by
  rcases Nat.eq_zero_or_pos n with h0 | h0
  · subst h0
    obtain rfl : l = [] := List.eq_nil_of_length_eq_zero hl
    refine (Tryz.slices_Reverse_int_empty A c w).mono ?_
    rintro e w' ⟨rfl, rfl⟩
    exact ⟨rfl, Chg.refl _ _, ho⟩
  · rcases ho.2 with ⟨_, h2⟩ | ⟨g, cap, cur, hv, hg, hb, hnc, hcm, hcs, htake⟩
    · omega
    injection hv with hv1 hv2 hv3
    subst hv1 hv3
    rw [Nat.mul_one] at htake
    have hH := holds_of_blockI (ss := l) hb (by rw [hl]; exact htake)
    have hcon := Tryz.slices_Reverse_int g 0 c l w hH (by omega)
    rw [hl] at hcon
    refine hcon.mono ?_
    rintro e w' ⟨rfl, m, rfl⟩
    have e0 : Go.Sort.putRow (Value.int .i64) (Go.Sort.ahead w m) g 0 l.reverse.toArray = Go.Sort.grow (Go.Sort.putRow (Value.int .i64) (Go.Sort.ahead w m) g 0 l.reverse.toArray) #[] := by simp
    rw [e0]
    refine ⟨rfl, (Chg.of_grown (grownBy_sortedI _)).mono (fun i e => e), ?_⟩
    have := ownsRow_sortedI (n := m) (os := #[]) (ss := l) (ts := l.reverse) List.length_reverse hg hb (by omega) hcm hcs
    rw [hl] at this
    exact this
def backV (x : Nat × Nat) : Value := .agg #[.int .u32 x.1, .int .i64 x.2]
theorem zeroBack (w : World) : (zeroValue 107).run Tryz.prog w = .ok (.agg #[.int .u32 0, .int .i64 0]) w := by kernel_rfl
/-- parents along which prices fall -/
structure BackOk (ms : List Mk) (s0 : Nat) (pr : Nat → Option Int) (pa : Nat → Option (Nat × Nat)) : Prop where
  start : pr s0 = some 0
  low : ∀ s p, pr s = some p → 0 ≤ p ∧ (s ≠ s0 → 1 ≤ p) ∧ p ≤ 1000000000
  par : ∀ s p, pr s = some p → s ≠ s0 → ∃ f op c pf, pa s = some (f, op) ∧ (op, c, s) ∈ stepsW 0 ms f ∧ pr f = some pf ∧ pf + prc c ≤ p
  word : ∀ s, (pr s).isSome = true → s < 4294967296
  ops : ms.length ≤ 1000
def opsV (l : List Nat) : List Value := l.map fun o : Nat => Value.int .i64 (o : Int)
theorem opsV_map (l : List Nat) : opsV l = (l.map fun o : Nat => (o : Int)).map (Value.int .i64) := by simp [opsV]
/-- the operators of a path, as they are returned -/
def APathP (ms : List Mk) (s0 g : Nat) (p : Int) (w : World) (e : Ending) (w' : World) : Prop :=
  Below w.heap.size w w' ∧ ∃ (O : Option Addr) (oc : Nat) (l : List Nat) (n : Int), e = .returned (.slice O l.length oc) ∧ PathW ms s0 l g n ∧ 4096 * n + l.length ≤ p ∧ l.length ≤ 1000000000 ∧ w'.ownsRow w.heap.size 3 1 (.slice O l.length oc) l.length (opsV l)
theorem PathW.pos {ms : List Mk} {s t : Nat} {l : List Nat} {n : Int} (h : PathW ms s l t n) (hm : ∀ m ∈ ms, 0 ≤ m.cost) : 0 ≤ n := by
  induction h with
  | nil => omega
  | cons hx _ ih =>
    obtain ⟨k, m, h1, _, h3⟩ := (stepsW_mem _ _ _ _).1 hx
    have := hm m (List.mem_of_getElem? h1)
    injection h3 with _ h3
    injection h3 with h3 _
    omega
theorem intInfoP : (Tryz.prog.info? 3).map (fun i => (i.zero, i.size, i.bytes)) = some (some (.int .i64 0), 1, 8) := by kernel_rfl
set_option maxRecDepth 100000 in
set_option maxHeartbeats 6400000 in
theorem Path_ct {ms : List Mk} {s0 g : Nat} {pr : Nat → Option Int} {pa : Nat → Option (Nat × Nat)} {am cnt : Nat} {p : Int} (w : World) (hB : BackOk ms s0 pr pa) (hm : ∀ m ∈ ms, 0 ≤ m.cost) (hmap : MapV Tryz.prog 69 encW w am cnt (fun s => (pa s).map backV)) (hp : pr g = some p) :
    Calls Tryz.prog 58 #[.map (some am), .int .u32 s0, .int .u32 g] w (APathP ms s0 g p w) := by
  obtain ⟨i1, hi1, hy0, hy1, hy2⟩ := info_parts intInfoP
  have hs0 := hB.word s0 (by rw [hB.start]; rfl)
  have HB := hide hB
  have Hm := hide hm
  have Hmap := hide hmap
  have Hp := hide hp
  have hpp := (hB.low g p hp).2.2
  clear hB hm hmap hp
  go_enter Tryz.func58, Tryz.ntmps58
  go_wp2_with fail
  go_loopw [2, 7] (fun sv ov wr => ∃ (cur : Nat) (O : Option Addr) (oc : Nat) (r : List Nat) (n pc : Int), sv = .int .u32 cur ∧ ov = .slice O r.length oc ∧ pr cur = some pc ∧ PathW ms cur r.reverse g n ∧ 4096 * n + r.length + pc ≤ p ∧ Below w.heap.size w wr ∧ wr.ownsRow w.heap.size 3 1 (.slice O r.length oc) r.length (opsV r)) (fun sv _ _ => ((pr (intOf sv).toNat).getD 0).toNat)
  case atStart => exact ⟨g, none, 0, [], 0, p, rfl, rfl, Hp.out, .nil, by simp, Below.refl _ _, World.ownsRow_nil _ _ _ _⟩
  case round =>
    obtain ⟨cur, O, oc, r, n, pc, rfl, rfl, hpc, hpw, hle, hb, hown⟩ := hrel
    have Hpc := hide hpc
    have Hpw := hide hpw
    have Hb := hide hb
    have Hown := hide hown
    have hn0 := hpw.pos Hm.out
    obtain ⟨hl0, hl1, hl2⟩ := HB.out.low cur pc hpc
    have hcur := HB.out.word cur (by rw [hpc]; rfl)
    clear hpc hpw hb hown
    by_cases he : cur = s0
    · subst he
      have hne : ((cur : Int) != (cur : Int)) = false := by simp
      obtain rfl : pc = 0 := by
        have := HB.out.start
        rw [Hpc.out] at this
        exact Option.some.inj this
      have hown2 := Hown.out
      rw [opsV_map] at hown2
      have hct := ReverseOwn_ct hown2 (by simp) (by omega)
      have Hct := hide hct
      clear hct hown2
      obtain ⟨rn, hrn⟩ : ∃ z, z = r.length := ⟨_, rfl⟩
      rw [← hrn] at Hct hle ⊢
      have Hrn := hide hrn
      clear hrn
      go_wp2_with fail
      with_reducible refine Hct.out.mono ?_
      rintro e w1 ⟨rfl, hch, hown3⟩
      have Hch := hide hch
      have Hown3 := hide hown3
      clear hch hown3
      go_wp2_with fail
      go_ret
      have hown4 := Hown.out
      refine ⟨Hb.out.trans (Hch.out.below (fun i hi => ?_) Hb.out.size), O, oc, r.reverse, n, by rw [List.length_reverse, ← Hrn.out]; rfl, Hpw.out, by rw [List.length_reverse, ← Hrn.out]; omega, by rw [List.length_reverse, ← Hrn.out]; omega, ?_⟩
      · exact own_base hown4 (by rw [own_blkA]; exact hi)
      · rw [List.length_reverse, opsV_map, ← Hrn.out, List.map_reverse]
        exact Hown3.out
    · have hne : ((cur : Int) != (s0 : Int)) = true := by simp; omega
      obtain ⟨f, op, c, pf, h1, h2, h3, h4⟩ := HB.out.par cur pc Hpc.out he
      have hlook := fun W e => Hmap.out.look1 (int_keyed Tryz.underlying69) (T := 108) (E := 107) Tryz.underlying108 zeroBack (keyW Tryz.underlying69 hcur) W e
      have hlook0 := hlook wr (Hb.out.block am Hmap.out.lt)
      rw [h1] at hlook0
      simp only [Option.map_some, Option.getD_some, encW, backV] at hlook0
      have hopl : op < 1000 := by
        obtain ⟨k, m, hk, _, hx⟩ := (stepsW_mem _ _ _ _).1 h2
        injection hx with hx _
        have := (List.getElem?_eq_some_iff.1 hk).1
        have := HB.out.ops
        omega
      have hpw2 := PathW.cons h2 Hpw.out
      have hc0 : 0 ≤ c := by
        obtain ⟨k, m, hk, _, hx⟩ := (stepsW_mem _ _ _ _).1 h2
        injection hx with _ hx
        injection hx with hx _
        rw [hx]
        exact Hm.out m (List.mem_of_getElem? hk)
      have hprc : prc c = 4096 * c + 1 := rfl
      have H3 := hide h3
      have Hpw2 := hide hpw2
      have Hhl := hide hlook0
      have hmeas : pf.toNat < pc.toNat := by
        have := (HB.out.low f pf h3).1
        omega
      have hle2 : 4096 * (c + n) + (r.length + 1 : Nat) + pf ≤ p := by omega
      have hrl : r.length ≤ 1000000000 := by omega
      obtain ⟨rn, hrn⟩ : ∃ z, z = r.length := ⟨_, rfl⟩
      have hown5 := Hown.out
      rw [← hrn] at hown5 hle2 hrl ⊢
      replace Hown := hide hown5
      have Hrn := hide hrn
      have hlk := Hhl.out
      clear hlook hlook0 h1 h2 h3 hpw2 hown5 hrn hle hprc h4
      go_upto_region 4 with (fail)
      have hbx := Blk.new wr 107 [.int .u32 f, .int .i64 op]
      have hb1 := (Below.refl wr.heap.size wr).alloc (Nat.le_refl _) (.cells #[.int .u32 f, .int .i64 op] 107)
      have hown1 := Hown.out.alloc (.cells #[.int .u32 f, .int .i64 op] 107)
      obtain ⟨w1, hw1⟩ : ∃ W, W = wr.alloc (.cells #[.int .u32 f, .int .i64 op] 107) := ⟨_, rfl⟩
      rw [← hw1] at hbx hb1 hown1 ⊢
      obtain ⟨Bx, hBx⟩ : ∃ z, z = wr.heap.size := ⟨_, rfl⟩
      rw [← hBx] at hbx ⊢
      have hbw := Hb.out.size
      have hwx : w.heap.size ≤ Bx := by omega
      have hz1 : Bx < w1.heap.size := hbx.lt
      have hrow : ∀ q, blkA O = some q → q ≠ Bx := fun q hq e => by
        have := (own_block Hown.out (by rw [own_blkA]; exact hq)).1
        omega
      have hbase1 : w.heap.size ≤ w1.heap.size := by omega
      have Hbx := hide hbx
      have Hb1 := hide (Hb.out.trans (hb1.mono Hb.out.size))
      have Hown1 := hide hown1
      have x0 := hbx.cell 0
      have x1 := hbx.cell 1
      simp only [List.getElem?_cons_zero, List.getElem?_cons_succ] at x0 x1
      clear hw1 hBx hb1 hbx hown1 hlk
      go_wp2_with
        (at_builtin
         refine wpList_pushA rfl _ _ 22 rfl w.heap.size 3 i1 (.int .i64 0) 1 8 Tryz.underlying22 hi1 hy0 hy1 hy2 rfl (by decide) _ _ _ rfl Hown1.out [.int .i64 op] rfl (by intro u hu; simp at hu; subst hu; rfl) rfl (by omega) (by omega) hbase1 ?_
         intro O2 oc2 w2 hown2 hg2 hat2
         have hg3 : World.grownBy (w1.alloc (.cells [Value.int .i64 (op : Int)].toArray 3)) w2 (blkA O) := by rw [← own_blkA O rn oc]; exact hg2
         have hbx2 := (Hbx.out.alloc (.cells [Value.int .i64 op].toArray 3)).grown hg3 (fun e => hrow Bx e.symm rfl)
         have y0 := hbx2.cell 0
         simp only [List.getElem?_cons_zero] at y0
         have Hown2 := hide hown2
         have Hb2 := hide (Hb1.out.trans ((((Below.refl w.heap.size w1).alloc hbase1 (.cells [Value.int .i64 op].toArray 3)).grown hg3 (by simp; omega) (fun k e => own_base Hown1.out (by rw [own_blkA]; exact e)))))
         clear hown2 hg2 hg3 hat2 hbx2 x0 x1)
      go_roundw
      case rel => exact ⟨f, O2, oc2, r ++ [op], c + n, pf, rfl, by rw [List.length_append, ← Hrn.out]; rfl, H3.out, by rw [List.reverse_append]; exact Hpw2.out, by rw [List.length_append, ← Hrn.out]; simpa using hle2, Hb2.out, by rw [List.length_append, ← Hrn.out, opsV, List.map_append]; exact Hown2.out⟩
      case measure => simp only [intOf, Int.toNat_natCast, H3.out, Hpc.out, Option.getD_some]; omega
end Go.Proofs.YtemiecammmbjdaaGreat
