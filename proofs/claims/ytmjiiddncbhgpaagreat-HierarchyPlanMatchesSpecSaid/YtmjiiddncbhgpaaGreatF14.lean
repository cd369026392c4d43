/- The law HierarchyPlanMatchesSpec of the package hierarchy holds, without a condition., part 14: Tk1 Tk2 Tk3 Tk4 Hi0 Tk5 On Tk6 Cp1. -/
import Derived.Test.YtmjiiddncbhgpaaGreatF1
import Derived.Test.YtmjiiddncbhgpaaGreatF2
import Derived.Test.YtmjiiddncbhgpaaGreatF3
import Derived.Test.YtmjiiddncbhgpaaGreatF13
import Derived.BigQuiet
import Derived.Deep.AppendLies
import Derived.Deep.Draws
import Derived.Deep.Fields
import Derived.Deep.LoopGhost
import Derived.Deep.QuietTactic
import Derived.Deep.Slices
import Derived.Ground.Names2Prog
import Derived.Ground.SlgnProg
import Derived.Ground.SlsfProg
import Derived.IntWalk
import Derived.Laws.AppendOwnNone
import Derived.Laws.OwnMore
import Derived.Lib.Hide
import Derived.Lib.SlicesCompact
import Derived.Maps.AppendAt
import Derived.Shelf.Slices.Cells
import Derived.Shelf.Slices.Clone
import Derived.Shelf.Slices.CompactI
import Derived.Shelf.Slices.Empties
import Derived.Shelf.Slices.In.SortNone
import Derived.Shelf.Slices.SearchI
import Derived.Shelf.Sort.Plain
import Derived.Sort.OwnSortedInts
import Derived.Test.YtmjiiddncbhgpaaGreatProg
import Derived.WalkKit
namespace Go.Proofs.YtmjiiddncbhgpaaGreat
set_option linter.unusedVariables false
set_option linter.unusedSimpArgs false
open Go.RowKit
theorem intInfoT : (Tryz.prog.info? 3).map (fun i => (i.zero, i.size, i.bytes)) = some (some (.int .i64 0), 1, 8) := by kernel_rfl
set_option maxHeartbeats 1600000 in
theorem SIsSet_ct (A : Option Addr) (m c : Nat) (l : List Int) (n : Int) (w : World) (h : Rd Enc.int w A m c l) :
    Calls Tryz.prog 43 #[.slice A m c, .int .i64 n] w (Same w (.bool (setB n l))) := by
  have hsm := h.low
  have Hl := hide h.len
  go_enter Tryz.func43, Tryz.ntmps43
  go_wp2_with fail
  go_loop [9] (fun i => ∃ k : Nat, k ≤ m ∧ i = .int .i64 k ∧ setB n (l.take k) = true) (fun i => m - (intOf i).toNat)
  case atStart => exact ⟨0, by omega, rfl, by simp [setB]⟩
  case round =>
    obtain ⟨k, hk, rfl, hset⟩ := hrel
    have Hset := hide hset
    clear hset
    by_cases hlt : k < m
    · obtain ⟨b, off, x, rfl, hx, hx1, hx2, hcx⟩ := h.int hlt
      have Hx := hide hx
      clear hx
      by_cases h0 : x < 0
      · go_wp2
        go_ret
        refine ⟨ret_bool ?_, rfl⟩
        rw [eq_comm, ← Bool.not_eq_true]
        intro hs
        have := (setB_at hs Hx.out).1
        omega
      · by_cases h2 : n ≤ x
        · go_wp2
          go_ret
          refine ⟨ret_bool ?_, rfl⟩
          rw [eq_comm, ← Bool.not_eq_true]
          intro hs
          have := (setB_at hs Hx.out).2.1
          omega
        · cases k with
          | zero =>
            rw [Nat.add_zero] at hcx
            go_wp2
            go_round
            case rel => exact ⟨1, by omega, by go_num, setB_succ (by omega) Hset.out Hx.out (by omega) (by omega) (fun y h => by omega)⟩
            case measure => simp [intOf]; omega
          | succ j =>
            obtain ⟨b', off', y, e, hy, hy1, hy2, hcy⟩ := h.int (show j < m by omega)
            injection e with e
            injection e with e1 e2
            subst e1 e2
            have Hy := hide hy
            clear hy
            by_cases hxy : x ≤ y
            · go_wp2
              go_ret
              refine ⟨ret_bool ?_, rfl⟩
              rw [eq_comm, ← Bool.not_eq_true]
              intro hs
              have := (setB_at hs Hx.out).2.2 y (by omega) Hy.out
              omega
            · go_wp2
              go_round
              case rel => exact ⟨j + 2, by omega, by go_num, setB_succ (by rw [Hl.out]; omega) Hset.out Hx.out (by omega) (by omega) (fun z _ hz => by
                have e := Hy.out.symm.trans hz
                injection e with e
                omega)⟩
              case measure => simp [intOf]; omega
    · obtain rfl : k = m := by omega
      go_wp2
      go_ret
      refine ⟨ret_bool ?_, rfl⟩
      have := Hset.out
      rw [List.take_of_length_le (by rw [Hl.out]; omega)] at this
      exact this.symm

def SearchP (w : World) (b : Bool) (e : Ending) (w' : World) : Prop := ∃ p : Int, e = .returned (.tuple #[.int .i64 p, .bool b]) ∧ Qt w w'
theorem Search_ct (A : Option Addr) (n c : Nat) (l : List Int) (x : Int) (w : World) (h : Rd Enc.int w A n c l) (hs : l.Pairwise (· ≤ ·)) (hn : n ≤ 1000000000000) :
    Calls Tryz.prog 89 #[.slice A n c, .int .i64 x] w (SearchP w (hasB l x)) := by
  have hl := h.len
  rcases Nat.eq_zero_or_pos n with h0 | h0
  · subst h0
    obtain rfl : l = [] := List.eq_nil_of_length_eq_zero hl
    refine (Tryz.slices_BinarySearch_int_empty A c x w).mono ?_
    rintro e w' ⟨rfl, rfl⟩
    exact ⟨0, rfl, Qt.refl _⟩
  · obtain ⟨b, off, rfl, _⟩ := h.at_ h0
    refine (Tryz.slices_BinarySearch_int b off n c l x w (by omega) (by omega) (fun j hj => ?_) (by rw [List.take_of_length_le (by omega)]; exact hs)).mono ?_
    · obtain ⟨b', off', y, e, hy, _, _, hc⟩ := h.int (show j < n by omega)
      injection e with e
      injection e with e1 e2
      subst e1 e2
      rw [hc, List.getD_eq_getElem?_getD, hy]
      rfl
    · rintro e w' ⟨rfl, q, rfl⟩
      rw [List.take_of_length_le (by omega)]
      exact ⟨_, rfl, q, rfl⟩
theorem up_le {l : List Int} (h : l.Pairwise (· < ·)) : l.Pairwise (· ≤ ·) := h.imp (fun {a b} hab => by omega)
/-- slices.IndexFunc: the first place where it holds -/
def firstP (p : Int → Bool) : Nat → List Int → Int
  | _, [] => -1
  | k, x :: xs => if p x = true then k else firstP p (k + 1) xs
theorem firstP_sign (p : Int → Bool) (k : Nat) (xs : List Int) : decide (0 ≤ firstP p k xs) = xs.any p := by
  induction xs generalizing k with
  | nil => simp [firstP]
  | cons x xs ih =>
    unfold firstP
    by_cases h : p x = true
    · simp [h]
    · rw [if_neg h, ih]
      simp [h]
set_option maxRecDepth 100000 in
set_option maxHeartbeats 800000 in
theorem IndexMeets_ct (g : Nat) (p : Int → Bool) (B : Option Addr) (n c : Nat) (xs : List Int) (w : World) (hx : Rd Enc.int w B n c xs)
    (hf : ∀ x ∈ xs, ∀ d, Calls Tryz.prog 88 #[.int .i64 x, .pointer (some ⟨g, 0, none⟩)] (w.drewN d) (Quiet (w.drewN d) (.bool (p x)))) :
    Calls Tryz.prog 129 #[.slice B n c, .func (.func 88) #[] #[.pointer (some ⟨g, 0, none⟩)]] w (Quiet w (.int .i64 (firstP p 0 xs))) := by
  have hsm := hx.low
  have Hl := hide hx.len
  have Hf := hide hf
  clear hf
  go_enter Tryz.func129, Tryz.ntmps129
  go_wp2
  go_loopw [8] (fun i wr => ∃ k : Nat, k ≤ n ∧ i = .int .i64 k ∧ Qt w wr ∧ firstP p 0 xs = firstP p k (xs.drop k)) (fun i _ => n - (intOf i).toNat)
  case atStart => exact ⟨0, by omega, rfl, Qt.refl _, by simp⟩
  case round =>
    obtain ⟨k, hk, rfl, ⟨d, rfl⟩, hrel⟩ := hrel
    by_cases hlt : k < n
    · obtain ⟨b, off, x, rfl, hxx, hxl, hxh, hcx⟩ := hx.int hlt
      rw [drop_cons hxx] at hrel
      have Hfx := hide (Hf.out x (List.mem_of_getElem? hxx) d)
      have Hrel := hide hrel
      clear hrel hxx
      obtain ⟨b, hb⟩ : ∃ b, b = p x := ⟨_, rfl⟩
      rw [← hb] at Hfx
      have Hb := hide hb
      clear hb
      go_wp2_with fail
      refine (Hfx.out).mono ?_
      rintro e w1 ⟨rfl, d1, rfl⟩
      cases b with
      | true =>
        go_wp2
        go_ret
        exact ⟨ret_int (by rw [Hrel.out, firstP, if_pos Hb.out.symm]), d + d1, rfl⟩
      | false =>
        go_wp2
        go_roundw
        case rel => exact ⟨k + 1, by omega, by go_num, ⟨d + d1, rfl⟩, by rw [Hrel.out, firstP, if_neg (by rw [← Hb.out]; simp)]⟩
        case measure => simp [intOf]; omega
    · have Hrel := hide hrel
      clear hrel
      go_wp2
      go_ret
      refine ⟨ret_int ?_, d, rfl⟩
      rw [Hrel.out, List.drop_of_length_le (by rw [Hl.out]; omega), firstP]
set_option maxHeartbeats 400000 in
theorem ContainsMeets_ct (g : Nat) (p : Int → Bool) (B : Option Addr) (n c : Nat) (xs : List Int) (w : World) (hx : Rd Enc.int w B n c xs)
    (hf : ∀ x ∈ xs, ∀ d, Calls Tryz.prog 88 #[.int .i64 x, .pointer (some ⟨g, 0, none⟩)] (w.drewN d) (Quiet (w.drewN d) (.bool (p x)))) :
    Calls Tryz.prog 87 #[.slice B n c, .func (.func 88) #[] #[.pointer (some ⟨g, 0, none⟩)]] w (Quiet w (.bool (xs.any p))) := by
  have Hf := hide hf
  clear hf
  go_enter Tryz.func87, Tryz.ntmps87
  go_wp2_with fail
  refine (IndexMeets_ct g p B n c xs _ hx Hf.out).mono ?_
  rintro e w1 ⟨rfl, d1, rfl⟩
  go_wp2
  go_ret
  exact ⟨ret_bool (firstP_sign p 0 xs), d1, rfl⟩
theorem meets1_ct (g : Nat) (B : Option Addr) (n c : Nat) (l : List Int) (x : Int) (w : World) (hc : w.cell? ⟨g, 0, none⟩ = some (.slice B n c)) (h : Rd Enc.int w B n c l) (hs : l.Pairwise (· ≤ ·)) (hn : n ≤ 1000000000000) :
    Calls Tryz.prog 88 #[.int .i64 x, .pointer (some ⟨g, 0, none⟩)] w (Quiet w (.bool (hasB l x))) := by
  have Hs := hide hs
  clear hs
  go_enter Tryz.func88, Tryz.ntmps88
  go_wp2_with fail
  refine (Search_ct B n c l x w h Hs.out hn).mono ?_
  rintro e w1 ⟨p, rfl, hq⟩
  go_wp2
  go_ret
  exact ⟨rfl, hq⟩
set_option maxHeartbeats 400000 in
theorem Meets_ct (A B : Option Addr) (n c n' c' : Nat) (a b : List Int) (w : World) (ha : Rd Enc.int w A n c a) (hb : Rd Enc.int w B n' c' b) (hs : b.Pairwise (· ≤ ·)) (hn : n' ≤ 1000000000000) :
    Calls Tryz.prog 40 #[.slice A n c, .slice B n' c'] w (Gives w (.bool (meetB a b))) := by
  have Hs := hide hs
  clear hs
  have hw2 : Below w.heap.size w (w.alloc (.cells #[.slice B n' c'] 22)) := (Below.refl _ _).alloc (Nat.le_refl _) _
  have Hw2 := hide hw2
  have HB := hide (Blk.new w 22 [.slice B n' c'])
  have hmf : ∀ (fn : Fn) (first cap : Array Value) (w : World), (Instr.makeFunc fn first cap).run Tryz.prog w = .ok (.func fn first cap) w := fun _ _ _ _ => rfl
  clear hw2
  go_enter Tryz.func40, Tryz.ntmps40
  go_wp2_with fail
  refine (ContainsMeets_ct w.heap.size (hasB b) A n c a _ (ha.keep Hw2.out) (fun x _ d => meets1_ct w.heap.size B n' c' b x _ (by rw [World.cell?_drewN]; exact HB.out.cell 0) (hb.keep (below_drewN Hw2.out d)) Hs.out hn)).mono ?_
  rintro e w1 ⟨rfl, hq⟩
  go_wp2
  go_ret
  exact ⟨rfl, Hw2.out.trans (hq.below _)⟩

/-- slices.Sort on a row of the call's own -/
def SortP (w : World) (B : Nat) (A : Option Addr) (n c : Nat) (l : List Int) (e : Ending) (w' : World) : Prop :=
  e = .returned (.tuple #[]) ∧ Chg (fun b => blkA A = some b) w w' ∧ w'.ownsRow B 3 1 (.slice A n c) n ((l.mergeSort fun x y => decide (x ≤ y)).map (Value.int .i64))
theorem SortOwn_ct {B : Nat} {A : Option Addr} {n c : Nat} {l : List Int} {w : World} (ho : w.ownsRow B 3 1 (.slice A n c) n (l.map (Value.int .i64))) (hl : l.length = n) (hn : n ≤ 1000000000000) :
    Calls Tryz.prog 132 #[.slice A n c] w (SortP w B A n c l) := by
  rcases Nat.eq_zero_or_pos n with h0 | h0
  · subst h0
    obtain rfl : l = [] := List.eq_nil_of_length_eq_zero hl
    refine (Tryz.slices_Sort_int_none A c w).mono ?_
    rintro e w' ⟨rfl, rfl⟩
    refine ⟨rfl, Chg.refl _ _, ?_⟩
    rw [List.Perm.eq_nil (List.mergeSort_perm [] _)]
    exact ho
  · rcases ho.2 with ⟨_, h2⟩ | ⟨g, cap, cur, hv, hg, hb, hnc, hcm, hcs, htake⟩
    · omega
    injection hv with hv1 hv2 hv3
    subst hv1 hv3
    rw [Nat.mul_one] at htake
    have hH := holds_of_blockI (ss := l) hb (by rw [hl]; exact htake)
    have hgl : g < w.heap.size := (Array.getElem?_eq_some_iff.1 hb).1
    have hcon := Tryz.slices_Sort_int g 0 c l w hH hgl (by omega)
    rw [hl] at hcon
    refine hcon.mono ?_
    rintro e w' ⟨rfl, m, os, rfl⟩
    refine ⟨rfl, (Chg.of_grown (grownBy_sortedI _)).mono (fun i e => e), ?_⟩
    have := ownsRow_sortedI (n := m) (os := os) (ss := l) (ts := l.mergeSort fun x y => decide (x ≤ y)) (List.mergeSort_perm _ _).length_eq hg hb (by omega) hcm hcs
    rw [hl] at this
    exact this
/-- slices.Compact on a row of the call's own -/
def CompactP (w : World) (B : Nat) (A : Option Addr) (c : Nat) (l : List Int) (e : Ending) (w' : World) : Prop :=
  e = .returned (.slice A (Go.Lib.compact l).length c) ∧ Chg (fun b => blkA A = some b) w w' ∧ w'.ownsRow B 3 1 (.slice A (Go.Lib.compact l).length c) (Go.Lib.compact l).length ((Go.Lib.compact l).map (Value.int .i64))
theorem CompactOwn_ct {B : Nat} {A : Option Addr} {n c : Nat} {l : List Int} {w : World} (ho : w.ownsRow B 3 1 (.slice A n c) n (l.map (Value.int .i64))) (hl : l.length = n) (hn : n ≤ 1000000000000) :
    Calls Tryz.prog 133 #[.slice A n c] w (CompactP w B A c l) := by
  rcases Nat.eq_zero_or_pos n with h0 | h0
  · subst h0
    obtain rfl : l = [] := List.eq_nil_of_length_eq_zero hl
    refine (Tryz.slices_Compact_int_empty A c w).mono ?_
    rintro e w' ⟨rfl, rfl⟩
    exact ⟨rfl, Chg.refl _ _, ho⟩
  · rcases ho.2 with ⟨_, h2⟩ | ⟨g, cap, cur, hv, hg, hb, hnc, hcm, hcs, htake⟩
    · omega
    injection hv with hv1 hv2 hv3
    subst hv1 hv3
    rw [Nat.mul_one] at htake
    have hH := holds_of_blockI (ss := l) hb (by rw [hl]; exact htake)
    have hle := Go.Lib.compact_length_le l
    have hcon := Tryz.slices_Compact_int g 0 c l w hH (by omega) (by omega)
    rw [hl] at hcon
    refine hcon.mono ?_
    rintro e w' ⟨rfl, m, rfl⟩
    have e0 : Go.Sort.putRow (Value.int .i64) (Go.Sort.ahead w m) g 0 (Go.Lib.compact l ++ List.replicate (n - (Go.Lib.compact l).length) 0).toArray = Go.Sort.grow (Go.Sort.putRow (Value.int .i64) (Go.Sort.ahead w m) g 0 (Go.Lib.compact l ++ List.replicate (n - (Go.Lib.compact l).length) 0).toArray) #[] := by simp
    rw [e0]
    refine ⟨rfl, (Chg.of_grown (grownBy_sortedI _)).mono (fun i e => e), ?_⟩
    have h1 := ownsRow_sortedI (n := m) (os := #[]) (ss := l) (ts := Go.Lib.compact l ++ List.replicate (n - (Go.Lib.compact l).length) 0) (by rw [List.length_append, List.length_replicate]; omega) hg hb (by omega) hcm hcs
    have h2 := own_cut h1 (m := (Go.Lib.compact l).length) (by omega)
    rw [← List.map_take, List.take_left' rfl] at h2
    exact h2
end Go.Proofs.YtmjiiddncbhgpaaGreat
namespace Go.Proofs.YtmjiiddncbhgpaaGreat
set_option linter.unusedVariables false
set_option linter.unusedSimpArgs false
open Go.RowKit
theorem OwnE.ints {t : TypeId} {B n c : Nat} {M : Nat → Prop} {w : World} {A : Option Addr} {vs : List Value} {xs : List Int} (h : OwnE Enc.int t B M w A n c vs xs) : w.ownsRow B t 1 (.slice A n c) n (xs.map (Value.int .i64)) := by
  have hv : vs = xs.map (Value.int .i64) := by
    apply List.ext_getElem?
    intro i
    have hl : vs.length = n * 1 := h.vlen
    rcases Nat.lt_or_ge i n with hi | hi
    · have hil : i < xs.length := by rw [h.len]; exact hi
      have hx : xs[i]? = some xs[i] := List.getElem?_eq_getElem _
      obtain ⟨us, h1, h2⟩ := h.elem i _ hx
      have hok := h2.ok
      have h3 : us = [.int .i64 xs[i]] := hok.1
      have h4 := h1 0 (.int .i64 xs[i]) (by rw [h3]; rfl)
      simp only [Enc.int, Nat.mul_one, Nat.add_zero] at h4
      rw [h4, List.getElem?_map, hx]
      rfl
    · rw [List.getElem?_eq_none (by omega), List.getElem?_eq_none (by rw [List.length_map, h.len]; exact hi)]
  have := h.own
  rw [hv] at this
  exact this
/-- a list of ints in a row of the call's own -/
def MadeI (w : World) (l : List Int) (e : Ending) (w' : World) : Prop :=
  Below w.heap.size w w' ∧ ∃ A c, e = .returned (.slice A l.length c) ∧ w'.ownsRow w.heap.size 3 1 (.slice A l.length c) l.length (l.map (Value.int .i64))
theorem filter_take {α : Type} {p : α → Bool} {l : List α} {k : Nat} {x : α} (h : l[k]? = some x) : (l.take (k + 1)).filter p = (l.take k).filter p ++ (if p x = true then [x] else []) := by
  rw [List.take_add_one, h, List.filter_append]
  congr 1
  simp [List.filter_cons]
set_option maxRecDepth 100000 in
set_option maxHeartbeats 3200000 in
theorem Update_ct (A B D : Option Addr) (n c n' c' n2 c2 : Nat) (s add del : List Int) (w : World) (hs : Rd Enc.int w A n c s) (ha : Rd Enc.int w B n' c' add) (hd : Rd Enc.int w D n2 c2 del) (hn : n ≤ 1000000) (hn' : n' ≤ 1000000) (hn2 : n2 ≤ 1000000)
    (hup : del.Pairwise (· ≤ ·)) :
    Calls Tryz.prog 90 #[.slice A n c, .slice B n' c', .slice D n2 c2] w (MadeI w (updF s add del)) := by
  obtain ⟨i1, hi1, hy0, hy1, hy2⟩ := info_parts intInfoT
  have hsm := hs.low
  have Hls := hide hs.len
  have Hs := hide hs
  have Ha := hide ha
  have Hd := hide hd
  have Hup := hide hup
  have Hla := hide ha.len
  clear hs ha hd hup
  go_enter Tryz.func90, Tryz.ntmps90
  go_wp2_with fail
  go_loopw [7, 14] (fun o i wr => ∃ (k : Nat) (O : Option Addr) (q oc : Nat) (vs : List Value), k ≤ n ∧ i = .int .i64 k ∧ o = .slice O q oc ∧ OwnE Enc.int 3 w.heap.size (fun b => w.heap.size ≤ b) wr O q oc vs ((s.take k).filter (fun x => !hasB del x)) ∧ Below w.heap.size w wr) (fun _ i _ => n - (intOf i).toNat)
  case atStart => exact ⟨0, none, 0, 0, [], by omega, rfl, rfl, OwnE.nil _ _ _ _ _, Below.refl _ _⟩
  case round =>
    obtain ⟨k, O, q, oc, vs, hk, rfl, rfl, hown, hb⟩ := hrel
    have hqk : q ≤ k := by
      rw [← hown.len]
      exact Nat.le_trans (List.length_filter_le _ _) (by rw [List.length_take]; omega)
    have hsz := hb.size
    have Hown := hide hown
    have Hb := hide hb
    clear hown hb
    by_cases hlt : k < n
    · obtain ⟨b, off, x, rfl, hx, hx1, hx2, hcx⟩ := (Hs.out.keep Hb.out).int hlt
      have hft := filter_take (p := fun x => !hasB del x) hx
      have Hft := hide hft
      clear hx hft
      obtain ⟨hf, hhf⟩ : ∃ hf, hf = hasB del x := ⟨_, rfl⟩
      have hse := Search_ct D n2 c2 del x wr (Hd.out.keep Hb.out) Hup.out (by omega)
      simp only [← hhf] at Hft
      rw [← hhf] at hse
      have Hse := hide hse
      clear hse hhf
      go_wp2_with fail
      refine Hse.out.mono ?_
      rintro e w1 ⟨p, rfl, hq⟩
      have Hown1 := hide (Hown.out.qt hq)
      have Hb1 := hide (Hb.out.trans (hq.below _))
      have hsz1 : w.heap.size ≤ w1.heap.size := Hb1.out.size
      clear hq Hown Hb
      cases hf with
      | true =>
        go_wp2_with fail
        go_roundw
        case rel => exact ⟨k + 1, O, q, oc, vs, by omega, by go_num, rfl, by rw [Hft.out]; simpa using Hown1.out, Hb1.out⟩
        case measure => simp [intOf]; omega
      | false =>
        go_wp2_with
          (at_builtin
           refine wpList_pushE rfl _ _ 22 rfl w.heap.size 3 i1 (.int .i64 0) 8 Tryz.underlying22 hi1 hy0 hy1 hy2 rfl (by decide) rfl Hown1.out (fun r hr => (Hown1.out.base hr).1) [.int .i64 x] x (by intro u hu; simp at hu; subst hu; rfl) rfl (firm_int (by omega) (by omega)) (by omega) (by omega) hsz1 ?_
           intro O6 oc6 w6 hown6 hch6 hat6
           have hown6 := hown6.less (M' := fun b => w.heap.size ≤ b) (fun i _ e => .inl e)
           have hb6 := row_below Hb1.out hsz1 hch6 (fun r hr => (Hown1.out.base hr).1)
           have Hown6 := hide hown6
           have Hb6 := hide hb6
           clear hown6 hch6 hat6 hb6)
        go_roundw
        case rel => exact ⟨k + 1, O6, q + 1, oc6, _, by omega, by go_num, rfl, by rw [Hft.out]; simpa using Hown6.out, Hb6.out⟩
        case measure => simp [intOf]; omega
    · obtain rfl : k = n := by omega
      have hall : (s.take k).filter (fun x => !hasB del x) = s.filter (fun x => !hasB del x) := by rw [List.take_of_length_le (by rw [Hls.out]; omega)]
      rw [hall] at Hown
      clear hall
      go_wp2_with
        (at_builtin
         refine wpList_appendE rfl _ _ 22 rfl w.heap.size 3 i1 (.int .i64 0) 8 Tryz.underlying22 hi1 hy0 hy1 hy2 rfl (by decide) (fun _ _ _ h => one_int h) rfl Hown.out (fun r hr => (Hown.out.base hr).1) Ha.out Hb.out (fun us y hok _ => firm_old hok Hb.out (fun i hi => hi)) rfl (by omega) (by omega) hsz ?_
         intro O6 oc6 w6 vs6 hown6 hch6 hat6
         have hb6 := row_below Hb.out hsz hch6 (fun r hr => (Hown.out.base hr).1)
         have hl6 := hown6.len
         have hi6 := hown6.ints
         have Hi6 := hide hi6
         have Hl6 := hide hl6
         have Hb6 := hide hb6
         clear hown6 hch6 hat6 hb6 hi6 hl6)
      generalize hm : q + n' = m at *
      have hmm : m ≤ 1000000000000 := by omega
      clear hm
      with_reducible refine (SortOwn_ct Hi6.out Hl6.out hmm).mono ?_
      rintro e w7 ⟨rfl, hch7, hown7⟩
      have hb7 := Hb6.out.trans (hch7.below (B := w.heap.size) (fun i e => own_base Hi6.out (by rw [own_blkA]; exact e)) Hb6.out.size)
      have Hown7 := hide hown7
      have Hb7 := hide hb7
      clear hch7 hown7 hb7
      go_wp2_with fail
      with_reducible refine (CompactOwn_ct Hown7.out (by rw [(List.mergeSort_perm _ _).length_eq]; exact Hl6.out) hmm).mono ?_
      rintro e w8 ⟨rfl, hch8, hown8⟩
      have hb8 := Hb7.out.trans (hch8.below (B := w.heap.size) (fun i e => own_base Hown7.out (by rw [own_blkA]; exact e)) Hb7.out.size)
      have Hown8 := hide hown8
      have Hb8 := hide hb8
      clear hch8 hown8 hb8
      go_wp2_with fail
      go_ret
      exact ⟨Hb8.out, O6, oc6, rfl, Hown8.out⟩
theorem take_mem' {α : Type} {l : List α} {n : Nat} {x : α} : x ∈ l.take n ↔ ∃ j, j < n ∧ l[j]? = some x := by
  constructor
  · intro h
    obtain ⟨j, hj⟩ := List.getElem?_of_mem h
    rw [List.getElem?_take] at hj
    split at hj
    · exact ⟨j, by assumption, hj⟩
    · cases hj
  · rintro ⟨j, h1, h2⟩
    exact List.mem_of_getElem? (i := j) (by rw [List.getElem?_take, if_pos h1]; exact h2)
theorem drop_mem' {α : Type} {l : List α} {n : Nat} {x : α} : x ∈ l.drop n ↔ ∃ j, n ≤ j ∧ l[j]? = some x := by
  constructor
  · intro h
    obtain ⟨j, hj⟩ := List.getElem?_of_mem h
    rw [List.getElem?_drop] at hj
    exact ⟨n + j, by omega, hj⟩
  · rintro ⟨j, h1, h2⟩
    exact List.mem_of_getElem? (i := j - n) (by rw [List.getElem?_drop, show n + (j - n) = j by omega]; exact h2)
theorem up_get {l : List Int} (h : l.Pairwise (· < ·)) {i j : Nat} {x y : Int} (hx : l[i]? = some x) (hy : l[j]? = some y) (hij : i < j) : x < y := by
  obtain ⟨a1, a2⟩ := List.getElem?_eq_some_iff.1 hx
  obtain ⟨b1, b2⟩ := List.getElem?_eq_some_iff.1 hy
  have := List.pairwise_iff_getElem.1 h i j a1 b1 hij
  omega
set_option maxRecDepth 100000 in
set_option maxHeartbeats 1600000 in
theorem Contains_ct (A B : Option Addr) (n c m d : Nat) (s part : List Int) (w : World) (hs : Rd Enc.int w A n c s) (hp : Rd Enc.int w B m d part) (us : s.Pairwise (· < ·)) (up : part.Pairwise (· < ·)) :
    Calls Tryz.prog 46 #[.slice A n c, .slice B m d] w (Same w (.bool (subsetB part s))) := by
  have hsm := hs.low
  have hsm2 := hp.low
  have Hls := hide hs.len
  have Hlp := hide hp.len
  have Us := hide us
  have Up := hide up
  clear us up
  go_enter Tryz.func46, Tryz.ntmps46
  go_wp2_with fail
  go_loop [5, 10] (fun i k => ∃ (p q : Nat), p ≤ n ∧ q ≤ m ∧ i = .int .i64 p ∧ k = .int .i64 q ∧ (∀ x ∈ part.take q, x ∈ s) ∧ (∀ y ∈ s.take p, ∀ x ∈ part.drop q, y < x)) (fun _ k => m - (intOf k).toNat)
  case atStart => exact ⟨0, 0, by omega, by omega, rfl, rfl, by simp, by simp⟩
  case round =>
    obtain ⟨p, q, hp1, hq1, rfl, rfl, h1, h2⟩ := hrel
    have H1 := hide h1
    clear h1
    by_cases hlt : q < m
    · obtain ⟨b, off, x, rfl, hx, hx1, hx2, hcx⟩ := hp.int hlt
      have Hx := hide hx
      have H2 := hide h2
      clear h2 hx
      go_wp2_with fail
      go_loop [5] (fun i => ∃ (p : Nat), p ≤ n ∧ i = .int .i64 p ∧ (∀ y ∈ s.take p, ∀ x ∈ part.drop q, y < x)) (fun i => n - (intOf i).toNat)
      case atStart => exact ⟨p, hp1, rfl, H2.out⟩
      case round =>
        clear H2 hp1
        obtain ⟨p, hp1, rfl, h2⟩ := hrel
        have H2 := hide h2
        clear h2
        have hxd : x ∈ part.drop q := drop_mem'.2 ⟨q, Nat.le_refl _, Hx.out⟩
        have hno : (∀ y, s[p]? = some y → x < y) → x ∉ s := fun h hm => by
          obtain ⟨j, hj⟩ := List.getElem?_of_mem hm
          rcases Nat.lt_or_ge j p with h3 | h3
          · have := H2.out x (take_mem'.2 ⟨j, h3, hj⟩) x hxd
            omega
          · have hpl : p < s.length := by have := (List.getElem?_eq_some_iff.1 hj).1; omega
            have hy := List.getElem?_eq_getElem hpl
            have h4 := h _ hy
            rcases Nat.lt_or_ge p j with h5 | h5
            · have := up_get Us.out hy hj h5
              omega
            · obtain rfl : j = p := by omega
              rw [hj] at hy
              injection hy with hy
              omega
        have hbad : (∀ y, s[p]? = some y → x < y) → subsetB part s = false := fun h => by
          rw [← Bool.not_eq_true, subsetB_iff]
          exact fun hh => hno h (hh x (List.mem_of_getElem? Hx.out))
        have Hbad := hide hbad
        clear hno hbad hxd
        by_cases hpn : p < n
        · obtain ⟨b', off', y, rfl, hy, hy1, hy2, hcy⟩ := hs.int hpn
          have Hy := hide hy
          clear hy
          by_cases hyx : y < x
          · go_wp2_with fail
            go_round
            case rel =>
              refine ⟨p + 1, by omega, by go_num, fun z hz x' hx' => ?_⟩
              obtain ⟨j, hj1, hj2⟩ := take_mem'.1 hz
              rcases Nat.lt_or_ge j p with h3 | h3
              · exact H2.out z (take_mem'.2 ⟨j, h3, hj2⟩) x' hx'
              · obtain rfl : j = p := by omega
                rw [Hy.out] at hj2
                injection hj2 with hj2
                subst hj2
                obtain ⟨i, hi1, hi2⟩ := drop_mem'.1 hx'
                rcases Nat.lt_or_ge q i with h5 | h5
                · have := up_get Up.out Hx.out hi2 h5
                  omega
                · obtain rfl : i = q := by omega
                  rw [Hx.out] at hi2
                  injection hi2 with hi2
                  omega
            case measure => simp [intOf]; omega
          · by_cases hxy : y = x
            · subst hxy
              have hne : ((p : Int) == (n : Int)) = false := by rw [beq_eq_false_iff_ne]; omega
              have hne2 : (y != y) = false := by simp
              go_wp2_with fail
              go_round
              case rel =>
                refine ⟨p, q + 1, by omega, by omega, rfl, by go_num, fun z hz => ?_, fun z hz x' hx' => ?_⟩
                · obtain ⟨j, hj1, hj2⟩ := take_mem'.1 hz
                  rcases Nat.lt_or_ge j q with h3 | h3
                  · exact H1.out z (take_mem'.2 ⟨j, h3, hj2⟩)
                  · obtain rfl : j = q := by omega
                    rw [Hx.out] at hj2
                    injection hj2 with hj2
                    subst hj2
                    exact List.mem_of_getElem? Hy.out
                · obtain ⟨i, hi1, hi2⟩ := drop_mem'.1 hx'
                  exact H2.out z hz x' (drop_mem'.2 ⟨i, by omega, hi2⟩)
              case measure => simp [intOf]; omega
            · have hne : ((p : Int) == (n : Int)) = false := by rw [beq_eq_false_iff_ne]; omega
              have hne2 : (y != x) = true := by simpa using hxy
              go_wp2_with fail
              go_ret
              refine ⟨ret_bool (Hbad.out (fun z hz => ?_)).symm, rfl⟩
              have e := Hy.out.symm.trans hz
              injection e with e
              omega
        · obtain rfl : p = n := by omega
          have hne : ((p : Int) == (p : Int)) = true := by simp
          go_wp2_with fail
          go_ret
          refine ⟨ret_bool (Hbad.out (fun z hz => ?_)).symm, rfl⟩
          have := (List.getElem?_eq_some_iff.1 hz).1
          have := Hls.out
          omega
    · obtain rfl : q = m := by omega
      go_wp2_with fail
      go_ret
      refine ⟨ret_bool ?_, rfl⟩
      rw [eq_comm, subsetB_iff]
      have := H1.out
      rwa [List.take_of_length_le (by rw [Hlp.out]; omega)] at this
end Go.Proofs.YtmjiiddncbhgpaaGreat
namespace Go.Proofs.YtmjiiddncbhgpaaGreat
set_option linter.unusedVariables false
set_option linter.unusedSimpArgs false
open Go.RowKit
/-- an operator's cells -/
def Enc.op : Enc Opr where
  size := 4
  ok := fun w vs o => ∃ A n c B n' c' D n2 c2, vs = [.slice A n c, .slice B n' c', .slice D n2 c2, .int .i64 o.cost] ∧ Rd Enc.int w A n c o.pre ∧ Rd Enc.int w B n' c' o.add ∧ Rd Enc.int w D n2 c2 o.del ∧ I64s o.cost
  len := fun ⟨_, _, _, _, _, _, _, _, _, h, _⟩ => by rw [h]; rfl
  keep := fun ⟨A, n, c, B, n', c', D, n2, c2, h, h1, h2, h3, h4⟩ hb => ⟨A, n, c, B, n', c', D, n2, c2, h, h1.keep hb, h2.keep hb, h3.keep hb, h4⟩
theorem Rd.op {w : World} {A : Option Addr} {n c k : Nat} {os : List Opr} (h : Rd Enc.op w A n c os) (hk : k < n) :
    ∃ b off o A1 n1 c1 A2 n2 c2 A3 n3 c3, A = some ⟨b, off, none⟩ ∧ os[k]? = some o ∧ w.cell? ⟨b, off + k * 4, none⟩ = some (.slice A1 n1 c1) ∧ w.cell? ⟨b, off + k * 4 + 1, none⟩ = some (.slice A2 n2 c2) ∧ w.cell? ⟨b, off + k * 4 + 2, none⟩ = some (.slice A3 n3 c3) ∧
      w.cell? ⟨b, off + k * 4 + 3, none⟩ = some (.int .i64 o.cost) ∧ Rd Enc.int w A1 n1 c1 o.pre ∧ Rd Enc.int w A2 n2 c2 o.add ∧ Rd Enc.int w A3 n3 c3 o.del ∧ I64s o.cost := by
  obtain ⟨b, off, o, vs, e, ho, ⟨A1, n1, c1, A2, n2, c2, A3, n3, c3, hvs, h1, h2, h3, h4⟩, hv⟩ := h.get hk
  subst hvs
  exact ⟨b, off, o, A1, n1, c1, A2, n2, c2, A3, n3, c3, e, ho, hv 0 _ rfl, hv 1 _ rfl, hv 2 _ rfl, hv 3 _ rfl, h1, h2, h3, h4⟩
/-- where a task's rows lie -/
structure TA where
  I : Option Addr
  nI : Nat
  cI : Nat
  G : Option Addr
  nG : Nat
  cG : Nat
  O : Option Addr
  nO : Nat
  cO : Nat
structure TkR (w : World) (a : TA) (T : Tsk) : Prop where
  facts : I64s T.facts
  init : Rd Enc.int w a.I a.nI a.cI T.init
  goal : Rd Enc.int w a.G a.nG a.cG T.goal
  ops : Rd Enc.op w a.O a.nO a.cO T.ops
theorem TkR.keep {w w' : World} {a : TA} {T : Tsk} (h : TkR w a T) (hb : Below w.heap.size w w') : TkR w' a T := ⟨h.facts, h.init.keep hb, h.goal.keep hb, h.ops.keep hb⟩
/-- a boxed value and a fault's variable behind it -/
structure BxF (t : TypeId) (w : World) (g : Nat) (cs : List Value) (y0 y1 : Value) : Prop where
  par : Blk t w g cs
  res : Blk 29 w (g + 1) [y0, y1]
theorem BxF.new (w : World) (t : TypeId) (cs : List Value) (y0 y1 : Value) : BxF t ((w.alloc (.cells cs.toArray t)).alloc (.cells #[y0, y1] 29)) w.heap.size cs y0 y1 :=
  ⟨(boxed2 w t 29 cs [y0, y1]).1, (boxed2 w t 29 cs [y0, y1]).2.1⟩
section
variable {t : TypeId} {w w' : World} {g B : Nat} {cs : List Value} {y0 y1 : Value}
theorem BxF.low (h : BxF t w g cs y0 y1) (hb : Below B w w') (hg : g + 1 < B) : BxF t w' g cs y0 y1 := ⟨h.par.below hb (by omega), h.res.below hb hg⟩
theorem BxF.keep (h : BxF t w g cs y0 y1) (hb : Below w.heap.size w w') : BxF t w' g cs y0 y1 := ⟨h.par.keep hb, h.res.keep hb⟩
theorem BxF.qt (h : BxF t w g cs y0 y1) (hb : Qt w w') : BxF t w' g cs y0 y1 := ⟨h.par.qt hb, h.res.qt hb⟩
theorem BxF.resf (h : BxF t w g cs y0 y1) : w.cell? ⟨g + 1, 0, none⟩ = some y0 ∧ w.cell? ⟨g + 1, 1, none⟩ = some y1 ∧ w.frozen? ⟨g + 1, 0, none⟩ = false ∧ w.frozen? ⟨g + 1, 1, none⟩ = false ∧ g < w.heap.size ∧ g + 1 < w.heap.size :=
  ⟨h.res.cell 0, h.res.cell 1, h.res.frozen 0, h.res.frozen 1, h.par.lt, h.res.lt⟩
theorem BxF.cell4 {x0 x1 x2 x3 : Value} (h : BxF t w g [x0, x1, x2, x3] y0 y1) : w.cell? ⟨g, 0, none⟩ = some x0 ∧ w.cell? ⟨g, 1, none⟩ = some x1 ∧ w.cell? ⟨g, 2, none⟩ = some x2 ∧ w.cell? ⟨g, 3, none⟩ = some x3 := ⟨h.par.cell 0, h.par.cell 1, h.par.cell 2, h.par.cell 3⟩
end
theorem Blk.cell4 {t : TypeId} {w : World} {g : Nat} {x0 x1 x2 x3 : Value} (h : Blk t w g [x0, x1, x2, x3]) : w.cell? ⟨g, 0, none⟩ = some x0 ∧ w.cell? ⟨g, 1, none⟩ = some x1 ∧ w.cell? ⟨g, 2, none⟩ = some x2 ∧ w.cell? ⟨g, 3, none⟩ = some x3 := ⟨h.cell 0, h.cell 1, h.cell 2, h.cell 3⟩

theorem opCode_bad1 {n : Int} {o : Opr} (h : setB n o.pre = false) : opCode n o = 5 := by unfold opCode; rw [if_neg (by simp [h])]
theorem opCode_bad2 {n : Int} {o : Opr} (h : setB n o.add = false) : opCode n o = 5 := by unfold opCode; rw [if_neg (by simp [h])]
theorem opCode_bad3 {n : Int} {o : Opr} (h : setB n o.del = false) : opCode n o = 5 := by unfold opCode; rw [if_neg (by simp [h])]
theorem opCode_bad4 {n : Int} {o : Opr} (h : meetB o.add o.del = true) : opCode n o = 5 := by unfold opCode; rw [if_neg (by simp [h])]
theorem opCode_set {n : Int} {o : Opr} (h1 : setB n o.pre = true) (h2 : setB n o.add = true) (h3 : setB n o.del = true) (h4 : meetB o.add o.del = false) : opCode n o = if inB o.cost 0 100 = true then 0 else 3 := by unfold opCode; rw [if_pos ⟨h1, h2, h3, h4⟩]
set_option maxRecDepth 100000 in
set_option maxHeartbeats 3200000 in
theorem operator_ct (A1 A2 A3 : Option Addr) (n1 c1 n2 c2 n3 c3 : Nat) (o : Opr) (n : Nat) (w : World) (h1 : Rd Enc.int w A1 n1 c1 o.pre) (h2 : Rd Enc.int w A2 n2 c2 o.add) (h3 : Rd Enc.int w A3 n3 c3 o.del) (h4 : I64s o.cost) (hn : n ≤ 1000) :
    Calls Tryz.prog 124 #[.agg #[.slice A1 n1 c1, .slice A2 n2 c2, .slice A3 n3 c3, .int .i64 o.cost], .int .i64 n] w (Gives w (.int .i64 (opCode n o))) := by
  unfold I64s at h4
  obtain ⟨h41, h42⟩ := h4
  have hbW : Below w.heap.size w (w.alloc (.cells #[.slice A1 n1 c1, .slice A2 n2 c2, .slice A3 n3 c3, .int .i64 o.cost] 81)) := (Below.refl _ _).alloc (Nat.le_refl _) _
  have hB := Blk.new w 81 [.slice A1 n1 c1, .slice A2 n2 c2, .slice A3 n3 c3, .int .i64 o.cost]
  have C1 := hide (fun W hb => SIsSet_ct A1 n1 c1 o.pre n W (h1.keep (hbW.trans hb)))
  have C2 := hide (fun W hb => SIsSet_ct A2 n2 c2 o.add n W (h2.keep (hbW.trans hb)))
  have C3 := hide (fun W hb => SIsSet_ct A3 n3 c3 o.del n W (h3.keep (hbW.trans hb)))
  have C4 := hide (fun hs hl => Meets_ct A2 A3 n2 c2 n3 c3 o.add o.del _ (h2.keep hbW) (h3.keep hbW) hs hl)
  have Hl3 := hide h3.len
  have HbW := hide hbW
  have HB := hide hB
  clear hbW hB h1 h2 h3
  rcases e1 : setB n o.pre with _ | _
  · simp only [e1] at C1
    rw [opCode_bad1 e1]
    clear e1
    go_enter Tryz.func124, Tryz.ntmps124
    go_wp2_with (go_at_call 43; refine (C1.out _ (Below.refl _ _)).mono ?_; rintro e w1 ⟨rfl, rfl⟩)
    go_ret
    exact ⟨rfl, HbW.out⟩
  rcases e2 : setB n o.add with _ | _
  · simp only [e1] at C1
    simp only [e2] at C2
    rw [opCode_bad2 e2]
    clear e1 e2
    go_enter Tryz.func124, Tryz.ntmps124
    go_wp2_with (go_at_call 43; (first | (with_reducible refine (C1.out _ (Below.refl _ _)).mono ?_) | (with_reducible refine (C2.out _ (Below.refl _ _)).mono ?_)); rintro e w1 ⟨rfl, rfl⟩)
    go_ret
    exact ⟨rfl, HbW.out⟩
  rcases e3 : setB n o.del with _ | _
  · simp only [e1] at C1
    simp only [e2] at C2
    simp only [e3] at C3
    rw [opCode_bad3 e3]
    clear e1 e2 e3
    go_enter Tryz.func124, Tryz.ntmps124
    go_wp2_with (go_at_call 43; (first | (with_reducible refine (C1.out _ (Below.refl _ _)).mono ?_) | (with_reducible refine (C2.out _ (Below.refl _ _)).mono ?_) | (with_reducible refine (C3.out _ (Below.refl _ _)).mono ?_)); rintro e w1 ⟨rfl, rfl⟩)
    go_ret
    exact ⟨rfl, HbW.out⟩
  have hm := C4.out (up_le (setB_iff.1 e3).1) (by have := setB_len e3; have := Hl3.out; omega)
  rcases e4 : meetB o.add o.del with _ | _
  · rw [e4] at hm
    simp only [e1] at C1
    simp only [e2] at C2
    simp only [e3] at C3
    rw [opCode_set e1 e2 e3 e4]
    have Hm := hide hm
    clear e1 e2 e3 e4 hm C4
    by_cases hc : o.cost < 0 ∨ 100 < o.cost
    · have hin : inB o.cost 0 100 = false := inB_no.2 hc
      rw [hin]
      clear hin
      by_cases hc0 : o.cost < 0
      · go_enter Tryz.func124, Tryz.ntmps124
        go_wp2_with (go_at_call 43; (first | (with_reducible refine (C1.out _ (Below.refl _ _)).mono ?_) | (with_reducible refine (C2.out _ (Below.refl _ _)).mono ?_) | (with_reducible refine (C3.out _ (Below.refl _ _)).mono ?_)); rintro e w1 ⟨rfl, rfl⟩)
        with_reducible refine Hm.out.mono ?_
        rintro e w1 ⟨rfl, hb⟩
        obtain ⟨f0, f1, f2, f3⟩ := (HB.out.keep hb).cell4
        have Hb := hide (HbW.out.trans (hb.mono HbW.out.size))
        clear f0 f1 f2 hb
        go_wp2_with fail
        go_ret
        exact ⟨rfl, Hb.out⟩
      · have hc1 : 100 < o.cost := by omega
        clear hc
        go_enter Tryz.func124, Tryz.ntmps124
        go_wp2_with (go_at_call 43; (first | (with_reducible refine (C1.out _ (Below.refl _ _)).mono ?_) | (with_reducible refine (C2.out _ (Below.refl _ _)).mono ?_) | (with_reducible refine (C3.out _ (Below.refl _ _)).mono ?_)); rintro e w1 ⟨rfl, rfl⟩)
        with_reducible refine Hm.out.mono ?_
        rintro e w1 ⟨rfl, hb⟩
        obtain ⟨f0, f1, f2, f3⟩ := (HB.out.keep hb).cell4
        have Hb := hide (HbW.out.trans (hb.mono HbW.out.size))
        clear f0 f1 f2 hb
        go_wp2_with fail
        go_ret
        exact ⟨rfl, Hb.out⟩
    · have hin : inB o.cost 0 100 = true := inB_iff.2 (by omega)
      rw [hin]
      have hc0 : ¬ o.cost < 0 := by omega
      have hc1 : ¬ 100 < o.cost := by omega
      clear hin hc
      go_enter Tryz.func124, Tryz.ntmps124
      go_wp2_with (go_at_call 43; (first | (with_reducible refine (C1.out _ (Below.refl _ _)).mono ?_) | (with_reducible refine (C2.out _ (Below.refl _ _)).mono ?_) | (with_reducible refine (C3.out _ (Below.refl _ _)).mono ?_)); rintro e w1 ⟨rfl, rfl⟩)
      with_reducible refine Hm.out.mono ?_
      rintro e w1 ⟨rfl, hb⟩
      obtain ⟨f0, f1, f2, f3⟩ := (HB.out.keep hb).cell4
      have Hb := hide (HbW.out.trans (hb.mono HbW.out.size))
      clear f0 f1 f2 hb
      go_wp2_with fail
      go_ret
      exact ⟨rfl, Hb.out⟩
  · rw [opCode_bad4 e4]
    rw [e4] at hm
    simp only [e1] at C1
    simp only [e2] at C2
    simp only [e3] at C3
    have Hm := hide hm
    clear e1 e2 e3 e4 hm C4
    go_enter Tryz.func124, Tryz.ntmps124
    go_wp2_with (go_at_call 43; (first | (with_reducible refine (C1.out _ (Below.refl _ _)).mono ?_) | (with_reducible refine (C2.out _ (Below.refl _ _)).mono ?_) | (with_reducible refine (C3.out _ (Below.refl _ _)).mono ?_)); rintro e w1 ⟨rfl, rfl⟩)
    with_reducible refine Hm.out.mono ?_
    rintro e w1 ⟨rfl, hb⟩
    have Hb := hide (HbW.out.trans (hb.mono HbW.out.size))
    clear hb
    go_wp2_with fail
    go_ret
    exact ⟨rfl, Hb.out⟩
end Go.Proofs.YtmjiiddncbhgpaaGreat
namespace Go.Proofs.YtmjiiddncbhgpaaGreat
set_option linter.unusedVariables false
set_option linter.unusedSimpArgs false
open Go.RowKit
theorem tf1 {T : Tsk} (h : T.facts < 0 ∨ 24 < T.facts) : taskFault T = (3, -1) := by unfold taskFault; rw [if_pos (inB_no.2 h)]
theorem tf2 {T : Tsk} (h : 0 ≤ T.facts ∧ T.facts ≤ 24) (h2 : setB T.facts T.init = false) : taskFault T = (5, -2) := by unfold taskFault; rw [inB_iff.2 h, if_neg (by simp), if_pos h2]
theorem tf3 {T : Tsk} (h : 0 ≤ T.facts ∧ T.facts ≤ 24) (h2 : setB T.facts T.init = true) (h3 : setB T.facts T.goal = false) : taskFault T = (5, -3) := by unfold taskFault; rw [inB_iff.2 h, if_neg (by simp), if_neg (by simp [h2]), if_pos h3]
theorem tf4 {T : Tsk} (h : 0 ≤ T.facts ∧ T.facts ≤ 24) (h2 : setB T.facts T.init = true) (h3 : setB T.facts T.goal = true) (h4 : 40 < T.ops.length) : taskFault T = (2, -1) := by unfold taskFault; rw [inB_iff.2 h, if_neg (by simp), if_neg (by simp [h2]), if_neg (by simp [h3]), if_pos h4]
theorem tf5 {T : Tsk} (h : 0 ≤ T.facts ∧ T.facts ≤ 24) (h2 : setB T.facts T.init = true) (h3 : setB T.facts T.goal = true) (h4 : ¬ 40 < T.ops.length) : taskFault T = opsFault T.facts 0 T.ops := by unfold taskFault; rw [inB_iff.2 h, if_neg (by simp), if_neg (by simp [h2]), if_neg (by simp [h3]), if_neg h4]
set_option maxRecDepth 100000 in
set_option maxHeartbeats 3200000 in
theorem SValidate_ct (a : TA) (T : Tsk) (w : World) (h : TkR w a T) :
    Calls Tryz.prog 83 #[.agg #[.int .i64 T.facts, .slice a.I a.nI a.cI, .slice a.G a.nG a.cG, .slice a.O a.nO a.cO]] w (Gives w (fault (taskFault T).1 (taskFault T).2)) := by
  obtain ⟨I, nI, cI, G, nG, cG, O, nO, cO⟩ := a
  obtain ⟨⟨hf1, hf2⟩, hi, hg, ho⟩ := h
  simp only at hi hg ho ⊢
  have hlo := ho.low
  have hbw := below_two w (.cells #[.int .i64 T.facts, .slice I nI cI, .slice G nG cG, .slice O nO cO] 25) (.cells #[.int .i64 0, .int .i64 0] 29)
  have hX := BxF.new w 25 [.int .i64 T.facts, .slice I nI cI, .slice G nG cG, .slice O nO cO] (.int .i64 0) (.int .i64 0)
  have C1 := hide (SIsSet_ct I nI cI T.init T.facts _ (hi.keep hbw))
  have C2 := hide (SIsSet_ct G nG cG T.goal T.facts _ (hg.keep hbw))
  have Hlo := hide ho.len
  have Ho := hide ho
  have Hb := hide hbw
  have HX := hide hX
  obtain ⟨T0, T1, T2, T3⟩ := T
  simp only at *
  clear hi hg ho hbw hX
  by_cases hr : T0 < 0 ∨ 24 < T0
  · rw [tf1 hr]
    clear C1 C2
    by_cases h0 : T0 < 0
    · clear hr
      go_enter Tryz.func83, Tryz.ntmps83
      go_wp2_with fail
      exact bodyPost_ret (v := fault 3 (-1)) (by simp [results, Tryz.results83, go_sem, fault]) rfl ⟨rfl, below_two _ _ _⟩
    · have h1 : 24 < T0 := by omega
      clear hr
      go_enter Tryz.func83, Tryz.ntmps83
      go_wp2_with fail
      exact bodyPost_ret (v := fault 3 (-1)) (by simp [results, Tryz.results83, go_sem, fault]) rfl ⟨rfl, below_two _ _ _⟩
  have h0 : 0 ≤ T0 := by omega
  have h1 : T0 ≤ 24 := by omega
  clear hr
  rcases e1 : setB T0 T1 with _ | _
  · rw [tf2 ⟨h0, h1⟩ e1]
    rw [e1] at C1
    clear C2 e1
    go_enter Tryz.func83, Tryz.ntmps83
    go_wp2_with (go_at_call 43; refine C1.out.mono ?_; rintro e w1 ⟨rfl, rfl⟩)
    exact bodyPost_ret (v := fault 5 (-2)) (by simp [results, Tryz.results83, go_sem, fault]) rfl ⟨rfl, below_two _ _ _⟩
  rcases e2 : setB T0 T2 with _ | _
  · rw [tf3 ⟨h0, h1⟩ e1 e2]
    rw [e1] at C1
    rw [e2] at C2
    clear e1 e2
    go_enter Tryz.func83, Tryz.ntmps83
    go_wp2_with (go_at_call 43; (first | (with_reducible refine C1.out.mono ?_) | (with_reducible refine C2.out.mono ?_)); rintro e w1 ⟨rfl, rfl⟩)
    exact bodyPost_ret (v := fault 5 (-3)) (by simp [results, Tryz.results83, go_sem, fault]) rfl ⟨rfl, below_two _ _ _⟩
  by_cases h4 : 40 < nO
  · rw [tf4 ⟨h0, h1⟩ e1 e2 (by simpa [Hlo.out] using h4)]
    rw [e1] at C1
    rw [e2] at C2
    clear e1 e2
    go_enter Tryz.func83, Tryz.ntmps83
    go_wp2_with (go_at_call 43; (first | (with_reducible refine C1.out.mono ?_) | (with_reducible refine C2.out.mono ?_)); rintro e w1 ⟨rfl, rfl⟩)
    exact bodyPost_ret (v := fault 2 (-1)) (by simp [results, Tryz.results83, go_sem, fault]) rfl ⟨rfl, below_two _ _ _⟩
  have hres := tf5 (T := ⟨T0, T1, T2, T3⟩) ⟨h0, h1⟩ e1 e2 (by simpa [Hlo.out] using h4)
  simp only at hres
  have Hres := hide hres
  rw [e1] at C1
  rw [e2] at C2
  obtain ⟨n, rfl⟩ : ∃ n : Nat, T0 = (n : Int) := ⟨T0.toNat, by omega⟩
  clear e1 e2 hres
  have hXl := HX.out.resf
  go_enter Tryz.func83, Tryz.ntmps83
  go_wp2_with (go_at_call 43; (first | (with_reducible refine C1.out.mono ?_) | (with_reducible refine C2.out.mono ?_)); rintro e w1 ⟨rfl, rfl⟩)
  obtain ⟨W0, hW0⟩ : ∃ W0, W0 = (w.alloc (.cells #[.int .i64 n, .slice I nI cI, .slice G nG cG, .slice O nO cO] 25)).alloc (.cells #[.int .i64 0, .int .i64 0] 29) := ⟨_, rfl⟩
  rw [← hW0] at HX Hb hXl ⊢
  clear hW0 C1 C2
  obtain ⟨gb, hgb⟩ : ∃ gb, gb = w.heap.size := ⟨_, rfl⟩
  rw [← hgb] at HX hXl ⊢
  have Hgb := hide hgb
  clear hgb
  obtain ⟨_, _, _, _, hX1, hX2⟩ := hXl
  go_loopw [41] (fun i wr => ∃ k : Nat, k ≤ nO ∧ i = .int .i64 k ∧ Below W0.heap.size W0 wr ∧ opsFault (n : Int) 0 T3 = opsFault (n : Int) k (T3.drop k)) (fun i _ => nO - (intOf i).toNat)
  case atStart => exact ⟨0, by omega, rfl, Below.refl _ _, by simp⟩
  case round =>
    obtain ⟨k, hk, rfl, hbr, hrel⟩ := hrel
    have hX := HX.out.keep hbr
    obtain ⟨f0, f1, f2, f3⟩ := hX.cell4
    obtain ⟨y0, y1, y2, y3, y4, y5⟩ := hX.resf
    have HXr := hide hX
    have Hbr := hide hbr
    have Hrel := hide hrel
    have Hbw := hide (Hb.out.trans (hbr.mono Hb.out.size))
    clear hX hbr hrel
    by_cases hlt : k < nO
    · obtain ⟨b, off, o, A1, n1, c1, A2, n2, c2, A3, n3, c3, rfl, ho, g0, g1, g2, g3, r1, r2, r3, r4⟩ := (Ho.out.keep Hbw.out).op hlt
      have HO := hide ho
      clear ho
      have hop := fun W hW => operator_ct A1 A2 A3 n1 c1 n2 c2 n3 c3 o n W (r1.keep hW) (r2.keep hW) (r3.keep hW) r4 (by omega)
      have hrange := opCode_range (n : Int) o
      obtain ⟨ec, hec⟩ : ∃ ec, ec = opCode (n : Int) o := ⟨_, rfl⟩
      rw [← hec] at hop hrange
      have Hec := hide hec
      have Hop := hide hop
      clear hec hop r1 r2 r3 r4
      go_wp2_with fail
      with_reducible refine (Hop.out _ ((Below.refl _ _).alloc (Nat.le_refl _) _)).mono ?_
      rintro e w1 ⟨rfl, hb1⟩
      have hba := ((Below.refl wr.heap.size wr).alloc (Nat.le_refl _) (.cells #[.slice A1 n1 c1, .slice A2 n2 c2, .slice A3 n3 c3, .int .i64 o.cost] 81)).trans (hb1.mono (by simp))
      have hX := HXr.out.keep hba
      have Hbr1 := hide (Hbr.out.trans (hba.mono Hbr.out.size))
      have Hbw1 := hide (Hbw.out.trans (hba.mono Hbw.out.size))
      clear f0 f1 f2 f3 y0 y1 y2 y3 y4 y5 hb1 hba g0 g1 g2 g3
      obtain ⟨f0, f1, f2, f3⟩ := hX.cell4
      obtain ⟨y0, y1, y2, y3, y4, y5⟩ := hX.resf
      clear hX HXr Hbr Hbw Hop
      by_cases he : ec = 0
      · subst he
        go_wp2_with fail
        go_roundw
        case rel => exact ⟨k + 1, by omega, by go_num, Hbr1.out, by rw [Hrel.out, drop_cons HO.out, opsFault, if_pos Hec.out.symm]⟩
        case measure => simp [intOf]; omega
      · have hne : (ec != 0) = true := by simpa using he
        go_wp2_with fail
        refine bodyPost_ret (v := fault ec k) (by simp [results, Tryz.results83, go_sem, fault, y0, y1, y5]) rfl ⟨?_, below_res2 Hbw1.out (by have := Hgb.out; omega) _ _⟩
        rw [Hres.out, Hrel.out, drop_cons HO.out, opsFault, if_neg (by rw [← Hec.out]; exact he), ← Hec.out]
    · obtain rfl : k = nO := by omega
      go_wp2_with fail
      refine bodyPost_ret (v := fault 0 0) (by simp [results, Tryz.results83, go_sem, fault, y0, y1, y5]) rfl ⟨?_, below_res2 Hbw.out (by have := Hgb.out; omega) _ _⟩
      rw [Hres.out, Hrel.out, List.drop_of_length_le (by rw [Hlo.out]; omega), opsFault]
end Go.Proofs.YtmjiiddncbhgpaaGreat
namespace Go.Proofs.YtmjiiddncbhgpaaGreat
set_option linter.unusedVariables false
set_option linter.unusedSimpArgs false
open Go.RowKit
/-- where a hierarchy's rows lie -/
structure HA where
  a : TA
  M : Option Addr
  nM : Nat
  cM : Nat
  L : Option Addr
  nL : Nat
  cL : Nat
structure HyR (w : World) (b : HA) (h : Hy) : Prop where
  task : TkR w b.a h.T
  tasks : I64s h.tasks
  ms : Rd Enc.me w b.M b.nM b.cM h.ms
  list : Rd Enc.int w b.L b.nL b.cL h.list
theorem HyR.keep {w w' : World} {b : HA} {h : Hy} (k : HyR w b h) (hb : Below w.heap.size w w') : HyR w' b h := ⟨k.task.keep hb, k.tasks, k.ms.keep hb, k.list.keep hb⟩
end Go.Proofs.YtmjiiddncbhgpaaGreat
namespace Go.Proofs.YtmjiiddncbhgpaaGreat
set_option linter.unusedVariables false
set_option linter.unusedSimpArgs false
open Go.RowKit
set_option maxHeartbeats 1600000 in
theorem RIsSet_ct (A : Option Addr) (m c : Nat) (set : List Int) (n : Int) (w : World) (h : Rd Enc.int w A m c set) (hn : -9223372036854775807 ≤ n ∧ n ≤ 9223372036854775807) :
    Calls Tryz.prog 47 #[.slice A m c, .int .i64 n] w (Quiet w (.bool (setB n set))) := by
  have hsm := h.low
  have hcap := h.cap
  have Hl := hide h.len
  go_enter Tryz.func47, Tryz.ntmps47
  go_wp2
  go_loopw [5] (fun i wr => ∃ k : Nat, k ≤ m ∧ i = .int .i64 k ∧ Qt w wr ∧ setB n (set.take k) = true) (fun i _ => m - (intOf i).toNat)
  case atStart => exact ⟨0, by omega, rfl, Qt.refl _, by simp [setB]⟩
  case round =>
    obtain ⟨k, hk, rfl, hq, hset⟩ := hrel
    have Hset := hide hset
    clear hset
    have hc : ∀ (x : Int) (b : Bool), inB x 0 (n - 1) = b → ∀ W, Calls Tryz.prog 24 #[.int .i64 x, .int .i64 0, .int .i64 (n - 1)] W (Same W (.bool b)) := by
      intro x b hb W
      have := In_ct x 0 (n - 1) W
      rwa [hb] at this
    have Hc := hide hc
    clear hc
    by_cases hlt : k < m
    · obtain ⟨b, off, x, rfl, hx, hxl, hxh, hcx⟩ := (h.qt hq).int hlt
      have Hx := hide hx
      clear hx
      have hwr : IntKind.i64.wrap (n - 1) = n - 1 := by rw [IntWalk.i64_in _ (by omega)]
      cases hin : inB x 0 (n - 1) with
      | false =>
        have hi := inB_no.1 hin
        have Hin := hide hin
        have Hi := hide hi
        clear hin hi
        rcases Nat.eq_zero_or_pos k with hk0 | hk0
        · subst hk0
          rw [Nat.add_zero] at hcx
          go_wp2
          go_quiet ((go_at_call 24; exact same_call (Hc.out _ _ Hin.out _)))
          go_wp2
          go_ret
          refine ⟨ret_bool ?_, hq.drewN _⟩
          rw [eq_comm, ← Bool.not_eq_true]
          intro hs
          have := setB_at hs Hx.out
          have := Hi.out
          omega
        · obtain ⟨j, rfl⟩ : ∃ j, k = j + 1 := ⟨k - 1, by omega⟩
          obtain ⟨b', off', y, e, hy, hyl, hyh, hcy⟩ := (h.qt hq).int (show j < m by omega)
          injection e with e
          injection e with e1 e2
          subst e1 e2
          clear hy
          go_wp2
          go_quiet ((go_at_call 24; exact same_call (Hc.out _ _ Hin.out _)))
          go_wp2
          go_ret
          refine ⟨ret_bool ?_, hq.drewN _⟩
          rw [eq_comm, ← Bool.not_eq_true]
          intro hs
          have := setB_at hs Hx.out
          have := Hi.out
          omega
      | true =>
        have hi := inB_iff.1 hin
        have Hin := hide hin
        have Hi := hide hi
        clear hin hi
        rcases Nat.eq_zero_or_pos k with hk0 | hk0
        · subst hk0
          rw [Nat.add_zero] at hcx
          go_wp2
          go_quiet ((go_at_call 24; exact same_call (Hc.out _ _ Hin.out _)))
          go_wp2
          go_roundw
          case rel => exact ⟨1, by omega, by go_num, hq.drewN _, setB_succ (by omega) Hset.out Hx.out (by have := Hi.out; omega) (by have := Hi.out; omega) (fun y h => by omega)⟩
          case measure => simp [intOf]; omega
        · obtain ⟨j, rfl⟩ : ∃ j, k = j + 1 := ⟨k - 1, by omega⟩
          obtain ⟨b', off', y, e, hy, hyl, hyh, hcy⟩ := (h.qt hq).int (show j < m by omega)
          injection e with e
          injection e with e1 e2
          subst e1 e2
          have Hy := hide hy
          clear hy
          by_cases hxy : x ≤ y
          · go_wp2
            go_quiet ((go_at_call 24; exact same_call (Hc.out _ _ Hin.out _)))
            go_wp2
            go_ret
            refine ⟨ret_bool ?_, hq.drewN _⟩
            rw [eq_comm, ← Bool.not_eq_true]
            intro hs
            have := (setB_at hs Hx.out).2.2 y (by omega) Hy.out
            omega
          · go_wp2
            go_quiet ((go_at_call 24; exact same_call (Hc.out _ _ Hin.out _)))
            go_wp2
            go_roundw
            case rel => exact ⟨j + 2, by omega, by go_num, hq.drewN _, setB_succ (by rw [Hl.out]; omega) Hset.out Hx.out (by have := Hi.out; omega) (by have := Hi.out; omega) (fun z _ hz => by
              have e := Hy.out.symm.trans hz
              injection e with e
              omega)⟩
            case measure => simp [intOf]; omega
    · obtain rfl : k = m := by omega
      go_wp2
      go_ret
      refine ⟨ret_bool ?_, hq⟩
      have := Hset.out
      rw [List.take_of_length_le (by rw [Hl.out]; omega)] at this
      exact this.symm
set_option maxHeartbeats 800000 in
theorem RDisjoint_ct (A B : Option Addr) (n c m d : Nat) (xs ys : List Int) (w : World) (h : Rd Enc.int w A n c xs) (g : Rd Enc.int w B m d ys) :
    Calls Tryz.prog 48 #[.slice A n c, .slice B m d] w (Same w (.bool (!meetB xs ys))) := by
  have hsm := h.low
  have Hl := hide h.len
  go_enter Tryz.func48, Tryz.ntmps48
  go_wp2
  go_loop [5] (fun i => ∃ k : Nat, k ≤ n ∧ i = .int .i64 k ∧ meetB xs ys = meetB (xs.drop k) ys) (fun i => n - (intOf i).toNat)
  case atStart => exact ⟨0, by omega, rfl, by simp⟩
  case round =>
    obtain ⟨k, hk, rfl, hrel⟩ := hrel
    have Hrel := hide hrel
    clear hrel
    by_cases hlt : k < n
    · obtain ⟨b, off, x, rfl, hx, hx1, hx2, hcx⟩ := h.int hlt
      have Hd := hide (drop_cons hx)
      clear hx
      obtain ⟨hb, hhb⟩ : ∃ hb, hb = hasB ys x := ⟨_, rfl⟩
      have hct := Has_ct B m d ys x w g
      rw [← hhb] at hct
      have Hct := hide hct
      have Hhb := hide hhb
      clear hct hhb
      cases hb with
      | true =>
        go_wp2_with (go_at_call 58; refine Hct.out.mono ?_; rintro e w1 ⟨rfl, rfl⟩)
        go_ret
        refine ⟨ret_bool ?_, rfl⟩
        rw [Hrel.out, Hd.out, meetB, List.any_cons, ← Hhb.out]
        rfl
      | false =>
        go_wp2_with (go_at_call 58; refine Hct.out.mono ?_; rintro e w1 ⟨rfl, rfl⟩)
        go_round
        case rel =>
          refine ⟨k + 1, by omega, by go_num, ?_⟩
          rw [Hrel.out, Hd.out, meetB, List.any_cons, ← Hhb.out, Bool.false_or]
          rfl
        case measure => simp [intOf]; omega
    · go_wp2
      go_ret
      refine ⟨ret_bool ?_, rfl⟩
      rw [Hrel.out, List.drop_of_length_le (by rw [Hl.out]; omega)]
      rfl
end Go.Proofs.YtmjiiddncbhgpaaGreat
namespace Go.Proofs.YtmjiiddncbhgpaaGreat
set_option linter.unusedVariables false
set_option linter.unusedSimpArgs false
open Go.RowKit
theorem one_lowo {w : World} {g : Nat} {x : Int} (hb : Blk 3 w g [.int .i64 x]) (hx : -1000 ≤ x ∧ x ≤ 1000) : Rd Enc.int w (some ⟨g, 0, none⟩) 1 1 [x] :=
  Rd.lit_ints [x] hb (by simp) (fun y hy => by simp at hy; subst hy; exact hx)
def taskVo (T : Tsk) (a : TA) : Value := .agg #[.int .i64 T.facts, .slice a.I a.nI a.cI, .slice a.G a.nG a.cG, .slice a.O a.nO a.cO]
def oneT : Tsk := ⟨1, [], [0], [⟨[], [0], [], 3⟩]⟩
def OneP (w : World) (e : Ending) (w' : World) : Prop := Below w.heap.size w w' ∧ ∃ a : TA, e = .returned (taskVo oneT a) ∧ a.nO = 1 ∧ TkR w' a oneT
theorem one_mem (w : World) (X0 : Obj) : OneP w (.returned (.agg #[.int .i64 1, .slice none 0 0, .slice (some ⟨w.heap.size + 1, 0, none⟩) 1 1, .slice (some ⟨w.heap.size + 1 + 1 + 1, 0, none⟩) 1 1]))
    ((((w.alloc X0).alloc (.cells #[.int .i64 0] 3)).alloc (.cells #[.int .i64 0] 3)).alloc (.cells #[.slice none 0 0, .slice (some ⟨w.heap.size + 1 + 1, 0, none⟩) 1 1, .slice none 0 0, .int .i64 3] 81)) := by
  have b1 := Blk.new (w.alloc X0) 3 [.int .i64 0]
  have b2 := Blk.new ((w.alloc X0).alloc (.cells #[.int .i64 0] 3)) 3 [.int .i64 0]
  have b3 := Blk.new (((w.alloc X0).alloc (.cells #[.int .i64 0] 3)).alloc (.cells #[.int .i64 0] 3)) 81 [.slice none 0 0, .slice (some ⟨w.heap.size + 1 + 1, 0, none⟩) 1 1, .slice none 0 0, .int .i64 3]
  simp only [World.size_alloc] at b1 b2 b3
  have d1 := (b1.alloc (.cells #[.int .i64 0] 3)).alloc (.cells #[.slice none 0 0, .slice (some ⟨w.heap.size + 1 + 1, 0, none⟩) 1 1, .slice none 0 0, .int .i64 3] 81)
  have d2 := b2.alloc (.cells #[.slice none 0 0, .slice (some ⟨w.heap.size + 1 + 1, 0, none⟩) 1 1, .slice none 0 0, .int .i64 3] 81)
  have hb : Below w.heap.size w ((((w.alloc X0).alloc (.cells #[.int .i64 0] 3)).alloc (.cells #[.int .i64 0] 3)).alloc (.cells #[.slice none 0 0, .slice (some ⟨w.heap.size + 1 + 1, 0, none⟩) 1 1, .slice none 0 0, .int .i64 3] 81)) :=
    (((((Below.refl w.heap.size w).alloc (Nat.le_refl _) X0).alloc (by simp only [World.size_alloc]; omega) _).alloc (by simp only [World.size_alloc]; omega) _).alloc (by simp only [World.size_alloc]; omega) _)
  have r1 := one_lowo d1 (by omega)
  have r2 := one_lowo d2 (by omega)
  refine ⟨hb, ⟨none, 0, 0, some ⟨w.heap.size + 1, 0, none⟩, 1, 1, some ⟨w.heap.size + 1 + 1 + 1, 0, none⟩, 1, 1⟩, rfl, rfl, ⟨by unfold oneT I64s; simp, Rd.nil_ _ _, r1, ?_⟩⟩
  refine ⟨rfl, Nat.le_refl _, (show (1 : Nat) ≤ 9223372036854775807 by omega), fun h => (by cases h), fun _ => ⟨w.heap.size + 1 + 1 + 1, 0, rfl, fun j o hj => ?_⟩⟩
  match j, hj with
  | 0, hj =>
    obtain rfl := Option.some.inj hj
    refine ⟨[.slice none 0 0, .slice (some ⟨w.heap.size + 1 + 1, 0, none⟩) 1 1, .slice none 0 0, .int .i64 3], ⟨none, 0, 0, _, 1, 1, none, 0, 0, rfl, Rd.nil_ _ _, r2, Rd.nil_ _ _, by unfold I64s; simp⟩, fun i v hi => ?_⟩
    match i, hi with
    | 0, hi => obtain rfl := Option.some.inj hi; exact b3.cell 0
    | 1, hi => obtain rfl := Option.some.inj hi; exact b3.cell 1
    | 2, hi => obtain rfl := Option.some.inj hi; exact b3.cell 2
    | 3, hi => obtain rfl := Option.some.inj hi; exact b3.cell 3
    | i + 4, hi => simp at hi
  | j + 1, hj => simp [oneT] at hj
end Go.Proofs.YtmjiiddncbhgpaaGreat
namespace Go.Proofs.YtmjiiddncbhgpaaGreat
set_option linter.unusedVariables false
set_option linter.unusedSimpArgs false
open Go.RowKit
set_option maxRecDepth 100000 in
set_option maxHeartbeats 6400000 in
theorem RTaskFault_ct (a : TA) (T : Tsk) (w : World) (h : TkR w a T) :
    Calls Tryz.prog 17 #[.agg #[.int .i64 T.facts, .slice a.I a.nI a.cI, .slice a.G a.nG a.cG, .slice a.O a.nO a.cO]] w (Gives w (fault (taskFault T).1 (taskFault T).2)) := by
  obtain ⟨I, nI, cI, G, nG, cG, O, nO, cO⟩ := a
  obtain ⟨⟨hf1, hf2⟩, hi, hg, ho⟩ := h
  simp only at hi hg ho ⊢
  have hlo := ho.low
  have hbw := below_two w (.cells #[.int .i64 T.facts, .slice I nI cI, .slice G nG cG, .slice O nO cO] 25) (.cells #[.int .i64 0, .int .i64 0] 29)
  have hX := BxF.new w 25 [.int .i64 T.facts, .slice I nI cI, .slice G nG cG, .slice O nO cO] (.int .i64 0) (.int .i64 0)
  have Hlo := hide ho.len
  have Hi := hide hi
  have Hg := hide hg
  have Ho := hide ho
  have Hbl := hide hbw
  have HX := hide hX
  obtain ⟨T0, T1, T2, T3⟩ := T
  simp only at *
  clear hi hg ho hbw hX
  obtain ⟨f0, f1, f2, f3⟩ := HX.out.cell4
  obtain ⟨y0, y1, y2, y3, y4, y5⟩ := HX.out.resf
  go_enter Tryz.func17, Tryz.ntmps17
  go_upto_region 1 with (fail)
  obtain ⟨W0, hW0⟩ : ∃ W0, W0 = (w.alloc (.cells #[.int .i64 T0, .slice I nI cI, .slice G nG cG, .slice O nO cO] 25)).alloc (.cells #[.int .i64 0, .int .i64 0] 29) := ⟨_, rfl⟩
  rw [← hW0] at HX Hbl f0 f1 f2 f3 y0 y1 y2 y3 y4 y5 ⊢
  clear hW0
  obtain ⟨gb, hgb⟩ : ∃ gb, gb = w.heap.size := ⟨_, rfl⟩
  rw [← hgb] at HX f0 f1 f2 f3 y0 y1 y2 y3 y4 y5 ⊢
  have Hgb := hide hgb
  clear hgb
  rcases e0 : inB T0 0 24 with _ | _
  · have hct := In_ct T0 0 24 W0
    rw [e0] at hct
    have hres := tf1 (T := ⟨T0, T1, T2, T3⟩) (inB_no.1 e0)
    have Hres := hide hres
    clear e0 hres
    go_wp2_with fail
    refine hct.mono ?_
    rintro e w1 ⟨rfl, rfl⟩
    clear hct
    go_wp2_with fail
    refine (At_ct 3 (-1) _).mono ?_
    rintro e w9 ⟨rfl, hb⟩
    unfold fault
    replace HX := hide (HX.out.keep hb)
    replace Hbl := hide (Hbl.out.trans (hb.mono Hbl.out.size))
    clear hb f0 f1 f2 f3 y0 y1 y2 y3 y4 y5
    obtain ⟨f0, f1, f2, f3⟩ := HX.out.cell4
    obtain ⟨y0, y1, y2, y3, y4, y5⟩ := HX.out.resf
    go_wp2_with fail
    refine bodyPost_ret (v := fault 3 (-1)) (by simp [results, Tryz.results17, go_sem, fault, y0, y1, y5]) rfl ⟨by rw [Hres.out], below_res2 Hbl.out (by have := Hgb.out; omega) _ _⟩
  have hct := In_ct T0 0 24 W0
  rw [e0] at hct
  have h01 := inB_iff.1 e0
  obtain ⟨h0, h1⟩ := h01
  clear e0
  go_wp2_with fail
  refine hct.mono ?_
  rintro e w1 ⟨rfl, rfl⟩
  clear hct
  have hs1 := RIsSet_ct I nI cI T1 T0 W0 (Hi.out.keep Hbl.out) (by omega)
  rcases e1 : setB T0 T1 with _ | _
  · rw [e1] at hs1
    have hres := tf2 (T := ⟨T0, T1, T2, T3⟩) ⟨h0, h1⟩ e1
    have Hres := hide hres
    clear e1 hres
    go_wp2_with fail
    refine (hs1).mono ?_
    rintro e w1 ⟨rfl, hq⟩
    have hb := hq.below W0.heap.size
    clear hq
    replace HX := hide (HX.out.keep hb)
    replace Hbl := hide (Hbl.out.trans (hb.mono Hbl.out.size))
    clear hb f0 f1 f2 f3 y0 y1 y2 y3 y4 y5
    obtain ⟨f0, f1, f2, f3⟩ := HX.out.cell4
    obtain ⟨y0, y1, y2, y3, y4, y5⟩ := HX.out.resf
    clear hs1
    go_wp2_with fail
    refine (At_ct 5 (-2) _).mono ?_
    rintro e w9 ⟨rfl, hb⟩
    unfold fault
    replace HX := hide (HX.out.keep hb)
    replace Hbl := hide (Hbl.out.trans (hb.mono Hbl.out.size))
    clear hb f0 f1 f2 f3 y0 y1 y2 y3 y4 y5
    obtain ⟨f0, f1, f2, f3⟩ := HX.out.cell4
    obtain ⟨y0, y1, y2, y3, y4, y5⟩ := HX.out.resf
    go_wp2_with fail
    refine bodyPost_ret (v := fault 5 (-2)) (by simp [results, Tryz.results17, go_sem, fault, y0, y1, y5]) rfl ⟨by rw [Hres.out], below_res2 Hbl.out (by have := Hgb.out; omega) _ _⟩
  rw [e1] at hs1
  have He1 := hide e1
  clear e1
  go_wp2_with fail
  refine (hs1).mono ?_
  rintro e w1 ⟨rfl, hq⟩
  have hb := hq.below W0.heap.size
  clear hq
  replace HX := hide (HX.out.keep hb)
  replace Hbl := hide (Hbl.out.trans (hb.mono Hbl.out.size))
  clear hb f0 f1 f2 f3 y0 y1 y2 y3 y4 y5
  obtain ⟨f0, f1, f2, f3⟩ := HX.out.cell4
  obtain ⟨y0, y1, y2, y3, y4, y5⟩ := HX.out.resf
  clear hs1
  have hs2 := RIsSet_ct G nG cG T2 T0 w1 (Hg.out.keep Hbl.out) (by omega)
  rcases e2 : setB T0 T2 with _ | _
  · rw [e2] at hs2
    have hres := tf3 (T := ⟨T0, T1, T2, T3⟩) ⟨h0, h1⟩ He1.out e2
    have Hres := hide hres
    clear e2 hres
    go_wp2_with fail
    refine (hs2).mono ?_
    rintro e w2 ⟨rfl, hq⟩
    have hb := hq.below w1.heap.size
    clear hq
    replace HX := hide (HX.out.keep hb)
    replace Hbl := hide (Hbl.out.trans (hb.mono Hbl.out.size))
    clear hb f0 f1 f2 f3 y0 y1 y2 y3 y4 y5
    obtain ⟨f0, f1, f2, f3⟩ := HX.out.cell4
    obtain ⟨y0, y1, y2, y3, y4, y5⟩ := HX.out.resf
    clear hs2
    go_wp2_with fail
    refine (At_ct 5 (-3) _).mono ?_
    rintro e w9 ⟨rfl, hb⟩
    unfold fault
    replace HX := hide (HX.out.keep hb)
    replace Hbl := hide (Hbl.out.trans (hb.mono Hbl.out.size))
    clear hb f0 f1 f2 f3 y0 y1 y2 y3 y4 y5
    obtain ⟨f0, f1, f2, f3⟩ := HX.out.cell4
    obtain ⟨y0, y1, y2, y3, y4, y5⟩ := HX.out.resf
    go_wp2_with fail
    refine bodyPost_ret (v := fault 5 (-3)) (by simp [results, Tryz.results17, go_sem, fault, y0, y1, y5]) rfl ⟨by rw [Hres.out], below_res2 Hbl.out (by have := Hgb.out; omega) _ _⟩
  rw [e2] at hs2
  have He2 := hide e2
  clear e2
  go_wp2_with fail
  refine (hs2).mono ?_
  rintro e w2 ⟨rfl, hq⟩
  have hb := hq.below w1.heap.size
  clear hq
  replace HX := hide (HX.out.keep hb)
  replace Hbl := hide (Hbl.out.trans (hb.mono Hbl.out.size))
  clear hb f0 f1 f2 f3 y0 y1 y2 y3 y4 y5
  obtain ⟨f0, f1, f2, f3⟩ := HX.out.cell4
  obtain ⟨y0, y1, y2, y3, y4, y5⟩ := HX.out.resf
  clear hs2
  by_cases h4 : 40 < nO
  · have hres := tf4 (T := ⟨T0, T1, T2, T3⟩) ⟨h0, h1⟩ He1.out He2.out (by show 40 < T3.length; rw [Hlo.out]; exact h4)
    have Hres := hide hres
    clear hres
    go_wp2_with fail
    refine (At_ct 2 (-1) _).mono ?_
    rintro e w9 ⟨rfl, hb⟩
    unfold fault
    replace HX := hide (HX.out.keep hb)
    replace Hbl := hide (Hbl.out.trans (hb.mono Hbl.out.size))
    clear hb f0 f1 f2 f3 y0 y1 y2 y3 y4 y5
    obtain ⟨f0, f1, f2, f3⟩ := HX.out.cell4
    obtain ⟨y0, y1, y2, y3, y4, y5⟩ := HX.out.resf
    go_wp2_with fail
    refine bodyPost_ret (v := fault 2 (-1)) (by simp [results, Tryz.results17, go_sem, fault, y0, y1, y5]) rfl ⟨by rw [Hres.out], below_res2 Hbl.out (by have := Hgb.out; omega) _ _⟩
  have hres := tf5 (T := ⟨T0, T1, T2, T3⟩) ⟨h0, h1⟩ He1.out He2.out (by show ¬ 40 < T3.length; rw [Hlo.out]; exact h4)
  simp only at hres
  have Hres := hide hres
  obtain ⟨n, rfl⟩ : ∃ n : Nat, T0 = (n : Int) := ⟨T0.toNat, by omega⟩
  clear hres He1 He2
  go_wp2_with fail
  go_loopw [3] (fun i wr => ∃ k : Nat, k ≤ nO ∧ i = .int .i64 k ∧ Below w.heap.size w wr ∧ BxF 25 wr gb [.int .i64 n, .slice I nI cI, .slice G nG cG, .slice O nO cO] (.int .i64 0) (.int .i64 0) ∧ opsFault (n : Int) 0 T3 = opsFault (n : Int) k (T3.drop k)) (fun i _ => nO - (intOf i).toNat)
  case atStart => exact ⟨0, by omega, rfl, Hbl.out, HX.out, by simp⟩
  case round =>
    clear HX Hbl f0 f1 f2 f3 y0 y1 y2 y3 y4 y5
    obtain ⟨k, hk, rfl, hbr, hX, hrel⟩ := hrel
    obtain ⟨f0, f1, f2, f3⟩ := hX.cell4
    obtain ⟨y0, y1, y2, y3, y4, y5⟩ := hX.resf
    have HX := hide hX
    have Hbl := hide hbr
    have Hrel := hide hrel
    clear hX hbr hrel
    by_cases hlt : k < nO
    · obtain ⟨b, off, o, A1, n1, c1, A2, n2, c2, A3, n3, c3, rfl, ho, g0, g1, g2, g3, r1, r2, r3, r4⟩ := (Ho.out.keep Hbl.out).op hlt
      obtain ⟨r41, r42⟩ := r4
      have HO := hide ho
      have R1 := hide r1
      have R2 := hide r2
      have R3 := hide r3
      clear ho r1 r2 r3
      go_upto_region 13 with (fail)
      have hY := Blk.new wr 81 [.slice A1 n1 c1, .slice A2 n2 c2, .slice A3 n3 c3, .int .i64 o.cost]
      have hb := (Below.refl wr.heap.size wr).alloc (Nat.le_refl _) (.cells #[.slice A1 n1 c1, .slice A2 n2 c2, .slice A3 n3 c3, .int .i64 o.cost] 81)
      obtain ⟨w3, hw3⟩ : ∃ w3, w3 = wr.alloc (.cells #[.slice A1 n1 c1, .slice A2 n2 c2, .slice A3 n3 c3, .int .i64 o.cost] 81) := ⟨_, rfl⟩
      rw [← hw3] at hY hb ⊢
      replace R1 := hide (R1.out.keep hb)
      replace R2 := hide (R2.out.keep hb)
      replace R3 := hide (R3.out.keep hb)
      clear hw3 g0 g1 g2 g3
      replace HX := hide (HX.out.keep hb)
      replace Hbl := hide (Hbl.out.trans (hb.mono Hbl.out.size))
      clear hb f0 f1 f2 f3 y0 y1 y2 y3 y4 y5
      obtain ⟨f0, f1, f2, f3⟩ := HX.out.cell4
      obtain ⟨y0, y1, y2, y3, y4, y5⟩ := HX.out.resf
      generalize wr.heap.size = gy at *
      have HY := hide hY
      clear hY
      obtain ⟨z0, z1, z2, z3⟩ := HY.out.cell4
      have zl := HY.out.lt
      have hs := RIsSet_ct A1 n1 c1 o.pre n w3 R1.out (by omega)
      rcases e1 : setB (n : Int) o.pre with _ | _
      · rw [e1] at hs
        have Hc := hide (opCode_bad1 e1)
        clear e1
        go_wp2_with fail
        refine (hs).mono ?_
        rintro e w4 ⟨rfl, hq⟩
        have hb := hq.below w3.heap.size
        clear hq
        replace HY := hide (HY.out.keep hb)
        replace R1 := hide (R1.out.keep hb)
        replace R2 := hide (R2.out.keep hb)
        replace R3 := hide (R3.out.keep hb)
        replace HX := hide (HX.out.keep hb)
        replace Hbl := hide (Hbl.out.trans (hb.mono Hbl.out.size))
        clear hb f0 f1 f2 f3 y0 y1 y2 y3 y4 y5 z0 z1 z2 z3 zl
        obtain ⟨f0, f1, f2, f3⟩ := HX.out.cell4
        obtain ⟨y0, y1, y2, y3, y4, y5⟩ := HX.out.resf
        obtain ⟨z0, z1, z2, z3⟩ := HY.out.cell4
        have zl := HY.out.lt
        clear hs
        clear z0 z1 z2 z3 zl HY
        go_wp2_with fail
        refine (At_ct 5 k _).mono ?_
        rintro e w9 ⟨rfl, hb⟩
        unfold fault
        replace HX := hide (HX.out.keep hb)
        replace Hbl := hide (Hbl.out.trans (hb.mono Hbl.out.size))
        clear hb f0 f1 f2 f3 y0 y1 y2 y3 y4 y5
        obtain ⟨f0, f1, f2, f3⟩ := HX.out.cell4
        obtain ⟨y0, y1, y2, y3, y4, y5⟩ := HX.out.resf
        go_wp2_with fail
        refine bodyPost_ret (v := fault 5 k) (by simp [results, Tryz.results17, go_sem, fault, y0, y1, y5]) rfl ⟨by rw [Hres.out, Hrel.out, drop_cons HO.out, opsFault, Hc.out]; simp [fault], below_res2 Hbl.out (by have := Hgb.out; omega) _ _⟩
      rw [e1] at hs
      have E1 := hide e1
      clear e1
      go_wp2_with fail
      refine (hs).mono ?_
      rintro e w4 ⟨rfl, hq⟩
      have hb := hq.below w3.heap.size
      clear hq
      replace HY := hide (HY.out.keep hb)
      replace R1 := hide (R1.out.keep hb)
      replace R2 := hide (R2.out.keep hb)
      replace R3 := hide (R3.out.keep hb)
      replace HX := hide (HX.out.keep hb)
      replace Hbl := hide (Hbl.out.trans (hb.mono Hbl.out.size))
      clear hb f0 f1 f2 f3 y0 y1 y2 y3 y4 y5 z0 z1 z2 z3 zl
      obtain ⟨f0, f1, f2, f3⟩ := HX.out.cell4
      obtain ⟨y0, y1, y2, y3, y4, y5⟩ := HX.out.resf
      obtain ⟨z0, z1, z2, z3⟩ := HY.out.cell4
      have zl := HY.out.lt
      clear hs
      have hs := RIsSet_ct A2 n2 c2 o.add n w4 R2.out (by omega)
      rcases e2 : setB (n : Int) o.add with _ | _
      · rw [e2] at hs
        have Hc := hide (opCode_bad2 e2)
        clear e2
        go_wp2_with fail
        refine (hs).mono ?_
        rintro e w5 ⟨rfl, hq⟩
        have hb := hq.below w4.heap.size
        clear hq
        replace HY := hide (HY.out.keep hb)
        replace R1 := hide (R1.out.keep hb)
        replace R2 := hide (R2.out.keep hb)
        replace R3 := hide (R3.out.keep hb)
        replace HX := hide (HX.out.keep hb)
        replace Hbl := hide (Hbl.out.trans (hb.mono Hbl.out.size))
        clear hb f0 f1 f2 f3 y0 y1 y2 y3 y4 y5 z0 z1 z2 z3 zl
        obtain ⟨f0, f1, f2, f3⟩ := HX.out.cell4
        obtain ⟨y0, y1, y2, y3, y4, y5⟩ := HX.out.resf
        obtain ⟨z0, z1, z2, z3⟩ := HY.out.cell4
        have zl := HY.out.lt
        clear hs
        clear z0 z1 z2 z3 zl HY
        go_wp2_with fail
        refine (At_ct 5 k _).mono ?_
        rintro e w9 ⟨rfl, hb⟩
        unfold fault
        replace HX := hide (HX.out.keep hb)
        replace Hbl := hide (Hbl.out.trans (hb.mono Hbl.out.size))
        clear hb f0 f1 f2 f3 y0 y1 y2 y3 y4 y5
        obtain ⟨f0, f1, f2, f3⟩ := HX.out.cell4
        obtain ⟨y0, y1, y2, y3, y4, y5⟩ := HX.out.resf
        go_wp2_with fail
        refine bodyPost_ret (v := fault 5 k) (by simp [results, Tryz.results17, go_sem, fault, y0, y1, y5]) rfl ⟨by rw [Hres.out, Hrel.out, drop_cons HO.out, opsFault, Hc.out]; simp [fault], below_res2 Hbl.out (by have := Hgb.out; omega) _ _⟩
      rw [e2] at hs
      have E2 := hide e2
      clear e2
      go_wp2_with fail
      refine (hs).mono ?_
      rintro e w5 ⟨rfl, hq⟩
      have hb := hq.below w4.heap.size
      clear hq
      replace HY := hide (HY.out.keep hb)
      replace R1 := hide (R1.out.keep hb)
      replace R2 := hide (R2.out.keep hb)
      replace R3 := hide (R3.out.keep hb)
      replace HX := hide (HX.out.keep hb)
      replace Hbl := hide (Hbl.out.trans (hb.mono Hbl.out.size))
      clear hb f0 f1 f2 f3 y0 y1 y2 y3 y4 y5 z0 z1 z2 z3 zl
      obtain ⟨f0, f1, f2, f3⟩ := HX.out.cell4
      obtain ⟨y0, y1, y2, y3, y4, y5⟩ := HX.out.resf
      obtain ⟨z0, z1, z2, z3⟩ := HY.out.cell4
      have zl := HY.out.lt
      clear hs
      have hs := RIsSet_ct A3 n3 c3 o.del n w5 R3.out (by omega)
      rcases e3 : setB (n : Int) o.del with _ | _
      · rw [e3] at hs
        have Hc := hide (opCode_bad3 e3)
        clear e3
        go_wp2_with fail
        refine (hs).mono ?_
        rintro e w6 ⟨rfl, hq⟩
        have hb := hq.below w5.heap.size
        clear hq
        replace HY := hide (HY.out.keep hb)
        replace R1 := hide (R1.out.keep hb)
        replace R2 := hide (R2.out.keep hb)
        replace R3 := hide (R3.out.keep hb)
        replace HX := hide (HX.out.keep hb)
        replace Hbl := hide (Hbl.out.trans (hb.mono Hbl.out.size))
        clear hb f0 f1 f2 f3 y0 y1 y2 y3 y4 y5 z0 z1 z2 z3 zl
        obtain ⟨f0, f1, f2, f3⟩ := HX.out.cell4
        obtain ⟨y0, y1, y2, y3, y4, y5⟩ := HX.out.resf
        obtain ⟨z0, z1, z2, z3⟩ := HY.out.cell4
        have zl := HY.out.lt
        clear hs
        clear z0 z1 z2 z3 zl HY
        go_wp2_with fail
        refine (At_ct 5 k _).mono ?_
        rintro e w9 ⟨rfl, hb⟩
        unfold fault
        replace HX := hide (HX.out.keep hb)
        replace Hbl := hide (Hbl.out.trans (hb.mono Hbl.out.size))
        clear hb f0 f1 f2 f3 y0 y1 y2 y3 y4 y5
        obtain ⟨f0, f1, f2, f3⟩ := HX.out.cell4
        obtain ⟨y0, y1, y2, y3, y4, y5⟩ := HX.out.resf
        go_wp2_with fail
        refine bodyPost_ret (v := fault 5 k) (by simp [results, Tryz.results17, go_sem, fault, y0, y1, y5]) rfl ⟨by rw [Hres.out, Hrel.out, drop_cons HO.out, opsFault, Hc.out]; simp [fault], below_res2 Hbl.out (by have := Hgb.out; omega) _ _⟩
      rw [e3] at hs
      have E3 := hide e3
      clear e3
      go_wp2_with fail
      refine (hs).mono ?_
      rintro e w6 ⟨rfl, hq⟩
      have hb := hq.below w5.heap.size
      clear hq
      replace HY := hide (HY.out.keep hb)
      replace R1 := hide (R1.out.keep hb)
      replace R2 := hide (R2.out.keep hb)
      replace R3 := hide (R3.out.keep hb)
      replace HX := hide (HX.out.keep hb)
      replace Hbl := hide (Hbl.out.trans (hb.mono Hbl.out.size))
      clear hb f0 f1 f2 f3 y0 y1 y2 y3 y4 y5 z0 z1 z2 z3 zl
      obtain ⟨f0, f1, f2, f3⟩ := HX.out.cell4
      obtain ⟨y0, y1, y2, y3, y4, y5⟩ := HX.out.resf
      obtain ⟨z0, z1, z2, z3⟩ := HY.out.cell4
      have zl := HY.out.lt
      clear hs
      have hs := RDisjoint_ct A2 A3 n2 c2 n3 c3 o.add o.del w6 R2.out R3.out
      rcases e4 : meetB o.add o.del with _ | _
      · rw [e4] at hs
        have hop := opCode_set E1.out E2.out E3.out e4
        have Hop := hide hop
        clear e4 hop
        go_wp2_with fail
        refine hs.mono ?_
        rintro e w7 ⟨rfl, rfl⟩
        clear hs
        rcases e5 : inB o.cost 0 100 with _ | _
        · have hct := In_ct o.cost 0 100 w6
          rw [e5] at hct
          have hc3 : opCode (n : Int) o = 3 := by rw [Hop.out, e5]; rfl
          have Hc := hide hc3
          clear e5 hc3
          go_wp2_with fail
          refine hct.mono ?_
          rintro e w8 ⟨rfl, rfl⟩
          clear hct
          clear z0 z1 z2 z3 zl HY
          go_wp2_with fail
          refine (At_ct 3 k _).mono ?_
          rintro e w9 ⟨rfl, hb⟩
          unfold fault
          replace HX := hide (HX.out.keep hb)
          replace Hbl := hide (Hbl.out.trans (hb.mono Hbl.out.size))
          clear hb f0 f1 f2 f3 y0 y1 y2 y3 y4 y5
          obtain ⟨f0, f1, f2, f3⟩ := HX.out.cell4
          obtain ⟨y0, y1, y2, y3, y4, y5⟩ := HX.out.resf
          go_wp2_with fail
          refine bodyPost_ret (v := fault 3 k) (by simp [results, Tryz.results17, go_sem, fault, y0, y1, y5]) rfl ⟨by rw [Hres.out, Hrel.out, drop_cons HO.out, opsFault, Hc.out]; simp [fault], below_res2 Hbl.out (by have := Hgb.out; omega) _ _⟩
        · have hct := In_ct o.cost 0 100 w6
          rw [e5] at hct
          have hc3 : opCode (n : Int) o = 0 := by rw [Hop.out, e5]; rfl
          have Hc := hide hc3
          clear e5 hc3
          go_wp2_with fail
          refine hct.mono ?_
          rintro e w8 ⟨rfl, rfl⟩
          clear hct
          go_wp2_with fail
          go_roundw
          case rel => exact ⟨k + 1, by omega, by go_num, Hbl.out, HX.out, by rw [Hrel.out, drop_cons HO.out, opsFault, if_pos Hc.out]⟩
          case measure => simp [intOf]; omega
      · rw [e4] at hs
        have Hc := hide (opCode_bad4 (n := (n : Int)) e4)
        clear e4
        go_wp2_with fail
        refine hs.mono ?_
        rintro e w7 ⟨rfl, rfl⟩
        clear hs
        clear z0 z1 z2 z3 zl HY
        go_wp2_with fail
        refine (At_ct 5 k _).mono ?_
        rintro e w9 ⟨rfl, hb⟩
        unfold fault
        replace HX := hide (HX.out.keep hb)
        replace Hbl := hide (Hbl.out.trans (hb.mono Hbl.out.size))
        clear hb f0 f1 f2 f3 y0 y1 y2 y3 y4 y5
        obtain ⟨f0, f1, f2, f3⟩ := HX.out.cell4
        obtain ⟨y0, y1, y2, y3, y4, y5⟩ := HX.out.resf
        go_wp2_with fail
        refine bodyPost_ret (v := fault 5 k) (by simp [results, Tryz.results17, go_sem, fault, y0, y1, y5]) rfl ⟨by rw [Hres.out, Hrel.out, drop_cons HO.out, opsFault, Hc.out]; simp [fault], below_res2 Hbl.out (by have := Hgb.out; omega) _ _⟩
    · obtain rfl : k = nO := by omega
      go_wp2_with fail
      refine bodyPost_ret (v := fault 0 0) (by simp [results, Tryz.results17, go_sem, fault, y0, y1, y5]) rfl ⟨?_, below_res2 Hbl.out (by have := Hgb.out; omega) _ _⟩
      rw [Hres.out, Hrel.out, List.drop_of_length_le (by rw [Hlo.out]; omega), opsFault]
end Go.Proofs.YtmjiiddncbhgpaaGreat
namespace Go.Proofs.YtmjiiddncbhgpaaGreat
set_option linter.unusedVariables false
open Go.RowKit
theorem RCopy_ct (A : Option Addr) (n c : Nat) (xs : List Int) (w : World) (h : Rd Enc.int w A n c xs) (hn : n ≤ 1000000) :
    Calls Tryz.prog 73 #[.slice A n c] w (MadeI w xs) := by
  obtain ⟨i0, hi0, hz0, hz1, hz2⟩ := info_parts intInfoT
  have Hl := hide h.len
  go_enter Tryz.func73, Tryz.ntmps73
  go_wp2_with
    (at_builtin
     refine wpList_append_rd rfl _ _ 22 rfl w.heap.size 3 i0 (.int .i64 0) 8 Tryz.underlying22 hi0 hz0 hz1 hz2 rfl _ 0 [] rfl (World.ownsRow_nil _ _ _ _) A n c xs h rfl (by omega) (by omega) (Nat.le_refl _) ?_
     intro O oc w1 hown hb)
  go_ret
  refine ⟨hb, O, oc, ?_, ?_⟩
  · rw [Hl.out]
    simp
  · rw [Hl.out]
    simpa using hown
end Go.Proofs.YtmjiiddncbhgpaaGreat
