/- The law HierarchyPlanMatchesSpec of the package hierarchy holds, without a condition., part 27: Sw10. -/
import Derived.Test.YtmjiiddncbhgpaaGreatF1
import Derived.Test.YtmjiiddncbhgpaaGreatF2
import Derived.Test.YtmjiiddncbhgpaaGreatF3
import Derived.Test.YtmjiiddncbhgpaaGreatF4
import Derived.Test.YtmjiiddncbhgpaaGreatF5
import Derived.Test.YtmjiiddncbhgpaaGreatF6
import Derived.Test.YtmjiiddncbhgpaaGreatF7
import Derived.Test.YtmjiiddncbhgpaaGreatF8
import Derived.Test.YtmjiiddncbhgpaaGreatF9
import Derived.Test.YtmjiiddncbhgpaaGreatF26
import Derived.BigQuiet
import Derived.Deep.AppendLies
import Derived.Deep.DeepCutAuto
import Derived.Deep.Draws
import Derived.Deep.Fields
import Derived.Deep.LoopGhost
import Derived.Deep.QuietTactic
import Derived.Deep.RegionHeld3
import Derived.Deep.Slices
import Derived.DeepKeys4
import Derived.Ground.Names2Prog
import Derived.Ground.SlgnProg
import Derived.Ground.SlsfProg
import Derived.Laws.AppendOwnNone
import Derived.Laws.BitsAllLaws
import Derived.Laws.OwnMore
import Derived.Lib.Hide
import Derived.Lib.SlicesCompact
import Derived.LoopIn
import Derived.LoopNIn
import Derived.Maps.AppendAt
import Derived.Maps.OwnIn
import Derived.Maps.OwnOps
import Derived.Maps.OwnSet
import Derived.OwnWalkIn
import Derived.RangeFuncBound
import Derived.RangeFuncCalls
import Derived.RangeFuncLeaves
import Derived.RangeFuncNested
import Derived.Shelf.Abstract
import Derived.Shelf.RegionOpen
import Derived.Shelf.SlSortCmp.Whole1
import Derived.Sort.OwnSortedInts
import Derived.TacticsInMore
import Derived.Test.YtmjiiddncbhgpaaGreatProg
import Derived.WalkKit
namespace Go.Proofs.YtmjiiddncbhgpaaGreat
set_option linter.unusedVariables false
set_option linter.unusedSimpArgs false
open Go.RowKit
theorem drewN_drawn (w : World) (q : Nat) : w.drewN q = { w with drawn := w.drawn + q } := by
  induction q with
  | zero => rfl
  | succ q ih =>
    show (w.drewN q).drew = _
    rw [ih]
    rfl
theorem grow_of_below {w w' : World} (h : Below w.heap.size w w') (hd : w.drawn ≤ w'.drawn) : ∃ q os', w' = Go.Sort.grow (w.drewN q) os' := by
  refine ⟨w'.drawn - w.drawn, w'.heap.extract w.heap.size w'.heap.size, ?_⟩
  rw [drewN_drawn]
  obtain ⟨heap', tape', drawn', os', output'⟩ := w'
  have e1 : os' = w.os := h.os
  have e2 : tape' = w.tape := h.tape
  have e3 : output' = w.output := h.output
  have hs : w.heap.size ≤ heap'.size := h.size
  have hb : ∀ k, k < w.heap.size → heap'[k]? = w.heap[k]? := h.block
  have hd' : w.drawn ≤ drawn' := hd
  subst e1 e2 e3
  have eh : heap' = w.heap ++ heap'.extract w.heap.size heap'.size := by
    apply Array.ext_getElem?
    intro k
    by_cases hk : k < w.heap.size
    · rw [Array.getElem?_append_left hk]; exact hb k hk
    · rw [Array.getElem?_append_right (by omega), Array.getElem?_extract]
      by_cases hk2 : k < heap'.size
      · rw [if_pos (by omega)]; congr 1; omega
      · rw [if_neg (by omega), Array.getElem?_eq_none (by omega)]
  have ed : drawn' = w.drawn + (drawn' - w.drawn) := by omega
  simp only [Go.Sort.grow]
  congr 1
abbrev W32 : Type := { x : Nat // x < 4294967296 }
instance : Inhabited W32 := ⟨⟨0, by omega⟩⟩
def encR (x : W32) : Value := .int .u32 x.1
def cfW (x y : W32) : Int := cmpL (factsF x.1) (factsF y.1)
section
open Go.Sort Go.Proofs
variable {α : Type} [Inhabited α] (enc : α → Value)
theorem holds_of_blockE {w : World} {g : Nat} {cur : Array Value} {e : TypeId} {ss : List α} (hb : w.heap[g]? = some (.cells cur e (0, 0))) (ht : cur.toList.take ss.length = ss.map enc) : Go.Sort.Holds enc w g 0 ss.toArray := by
  intro j hj
  have hj' : j < ss.length := by simpa using hj
  refine ⟨?_, by simp [World.frozen?, hb]⟩
  have h1 : (cur.toList.take ss.length)[j]? = (ss.map enc)[j]? := by rw [ht]
  rw [List.getElem?_take_of_lt hj'] at h1
  simp only [World.cell?, hb, Nat.zero_add]
  simp only [Option.isSome_none, Bool.false_eq_true, if_false]
  rw [← Array.getElem?_toList, h1]
  simp [hj']
theorem heap_sortedE {w : World} {g n : Nat} {os : Array Obj} {cur : Array Value} {e : TypeId} {fr : Nat × Nat} (d : Array α) (hb : w.heap[g]? = some (.cells cur e fr)) :
    (Go.Sort.grow (Go.Sort.putRow enc (Go.Sort.ahead w n) g 0 d) os).heap[g]? = some (.cells (Go.Sort.putCells enc 0 d cur) e fr) := by
  have hg : g < w.heap.size := (Array.getElem?_eq_some_iff.1 hb).1
  rw [heap_grow_old _ _ (by simpa using hg)]
  simp [putRow, mapBlock, Sort.ahead, Array.getElem?_modify, hb, onCells]
theorem grownBy_sortedE {w : World} {g n : Nat} {os : Array Obj} (d : Array α) : w.grownBy (Go.Sort.grow (Go.Sort.putRow enc (Go.Sort.ahead w n) g 0 d) os) (some g) := by
  refine ⟨rfl, rfl, rfl, by simp, fun k hk hne => ?_⟩
  rw [heap_grow_old _ _ (by simpa using hk)]
  have : g ≠ k := fun e => hne (by rw [e])
  simp [putRow, mapBlock, Sort.ahead, Array.getElem?_modify, this]
theorem take_putCellsE (cur : Array Value) (ts : List α) (h : ts.length ≤ cur.size) : (Go.Sort.putCells enc 0 ts.toArray cur).toList.take ts.length = ts.map enc := by
  apply List.ext_getElem?
  intro j
  by_cases hj : j < ts.length
  · rw [List.getElem?_take_of_lt hj, Array.getElem?_toList]
    simp [putCells, hj, show j < cur.size by omega]
  · rw [List.getElem?_take_eq_none (by omega), List.getElem?_eq_none (by simp; omega)]
theorem ownsRow_sortedE {w : World} {base g cap n : Nat} {e : TypeId} {os : Array Obj} {cur : Array Value} {ss ts : List α} (hl : ts.length = ss.length) (hbase : base ≤ g) (hb : w.heap[g]? = some (.cells cur e (0, 0)))
    (h1 : ss.length ≤ cap) (h2 : cap ≤ maxLen) (h3 : cur.size = cap * 1) :
    (Go.Sort.grow (Go.Sort.putRow enc (Go.Sort.ahead w n) g 0 ts.toArray) os).ownsRow base e 1 (.slice (some ⟨g, 0, none⟩) ss.length cap) ss.length (ts.map enc) :=
  ⟨by simp [hl], .inr ⟨g, cap, _, rfl, hbase, heap_sortedE enc _ hb, h1, h2, by simp [putCells, h3], by rw [Nat.mul_one, ← hl]; exact take_putCellsE enc cur ts (by omega)⟩⟩
end
theorem lt_less (x y : W32) : Go.Proofs.ltOf cfW x y = lessL (factsF x.1) (factsF y.1) := cmpL_less _ _
theorem swoW : Go.Sort.SWO (Go.Proofs.ltOf cfW) where
  irrefl x := by rw [lt_less]; exact lessL_irrefl _
  trans x y z h1 h2 := by rw [lt_less] at *; exact lessL_trans _ _ _ h1 h2
  ntrans x y z h1 h2 := by
    rw [lt_less] at *
    by_cases e : factsF x.1 = factsF y.1
    · rw [e]; exact h2
    · by_cases e2 : factsF y.1 = factsF z.1
      · rw [← e2]; exact h1
      · have a1 := (lessL_total _ _ e).resolve_left (by simp [h1])
        have a2 := (lessL_total _ _ e2).resolve_left (by simp [h2])
        have a3 := lessL_trans _ _ _ a2 a1
        cases h : lessL (factsF x.1) (factsF z.1) with
        | false => rfl
        | true =>
          have := lessL_trans _ _ _ a3 h
          rw [lessL_irrefl] at this
          cases this
/-- rows of words and rows of their values -/
theorem RowW.own {B n c : Nat} {w : World} {A : Option Addr} {xs : List Nat} (h : RowW B w A n c xs) : w.ownsRow B 78 1 (.slice A n c) n (xs.map fun x : Nat => Value.int .u32 x) := by
  obtain ⟨vs, k⟩ := h
  have hv : vs = xs.map fun x : Nat => Value.int .u32 x := by
    apply List.ext_getElem?
    intro i
    have hl : vs.length = n * 1 := k.vlen
    rcases Nat.lt_or_ge i n with hi | hi
    · have hil : i < xs.length := by rw [k.len]; exact hi
      have hx : xs[i]? = some xs[i] := List.getElem?_eq_getElem _
      obtain ⟨us, h1, h2⟩ := k.elem i _ hx
      have h3 : us = [.int .u32 xs[i]] := h2.ok.1
      have h4 := h1 0 (.int .u32 xs[i]) (by rw [h3]; rfl)
      simp only [Enc.word, Nat.mul_one, Nat.add_zero] at h4
      rw [h4, List.getElem?_map, hx]
      rfl
    · rw [List.getElem?_eq_none (by omega), List.getElem?_eq_none (by rw [List.length_map, k.len]; exact hi)]
  rw [← hv]
  exact k.own
theorem RowW.of_own {B n c : Nat} {w : World} {A : Option Addr} {xs : List Nat} (h : w.ownsRow B 78 1 (.slice A n c) n (xs.map fun x : Nat => Value.int .u32 x)) (hl : xs.length = n) (hx : ∀ x ∈ xs, x < 4294967296) : RowW B w A n c xs :=
  ⟨_, h, hl, fun i x hi => ⟨[.int .u32 x], fun j v hj => by
    cases j with
    | zero =>
      have hv : v = .int .u32 x := by simpa using hj.symm
      have e : i * Enc.word.size + 0 = i := by show i * 1 + 0 = i; omega
      rw [e, List.getElem?_map, hi, hv]
      rfl
    | succ j => simp at hj, firm_word (hx x (List.mem_of_getElem? hi))⟩⟩
def SortWP (w : World) (B : Nat) (A : Option Addr) (n c : Nat) (l : List Nat) (e : Ending) (w' : World) : Prop :=
  e = .returned (.tuple #[]) ∧ ∃ l', l'.Perm l ∧ SortedW l' ∧ RowW B w' A n c l' ∧ Chg (fun b => blkA A = some b) w w'
theorem SortW_ct {B n c : Nat} {A : Option Addr} {l : List Nat} {w : World} (h : RowW B w A n c l) (hnd : l.Nodup) (hn : 0 < n) (hn2 : n ≤ 1000000) :
    Calls Tryz.prog 97 #[.slice A n c, .func (.func 98) #[] #[]] w (SortWP w B A n c l) := by
  have ho := h.own
  have hx := h.rd.words
  have hlen := h.len
  obtain ⟨d0, hd0⟩ : ∃ d0 : List W32, d0.map (·.1) = l := ⟨l.pmap Subtype.mk hx, by rw [List.map_pmap]; simp⟩
  have hd0l : d0.length = n := by rw [← hlen, ← hd0]; simp
  rcases ho.2 with ⟨_, h0⟩ | ⟨g, cap, cur, hv, hg, hb, hnc, hcm, hcs, htake⟩
  · omega
  injection hv with hv1 hv2 hv3
  subst hv1 hv3
  rw [Nat.mul_one] at htake
  have hmap : (l.map fun x : Nat => Value.int .u32 x) = d0.map encR := by rw [← hd0, List.map_map]; rfl
  rw [hmap] at htake
  have hH : Go.Sort.Holds encR w g 0 d0.toArray := holds_of_blockE encR hb (by rw [hd0l]; exact htake)
  have hgl : g < w.heap.size := (Array.getElem?_eq_some_iff.1 hb).1
  have hcon := Tryz.slices_SortFunc encR (fun _ => rfl) cfW swoW 98 #[] g 0 c d0.toArray w (Go.Proofs.enters_of Tryz.func98 (by kernel_rfl) rfl)
    (fun m os dk _ x y => (Checked1_ct x.1 y.1 x.2 y.2 _).mono fun e w' h => ⟨h.1, grow_of_below h.2.1 h.2.2⟩) hH hgl (by simp; omega)
  have hds : d0.toArray.size = n := by simpa using hd0l
  rw [hds] at hcon
  refine hcon.mono ?_
  rintro e w' ⟨rfl, d', m, os, hp, hs, rfl⟩
  obtain ⟨hp1, _, hp2⟩ := hp
  obtain ⟨ts, hts⟩ : ∃ ts : List W32, ts = d'.toList := ⟨_, rfl⟩
  have hda : d' = ts.toArray := by rw [hts]
  have hd'n : d'.size = n := by rw [hp1]; exact hds
  have hperm : ts.Perm d0 := by
    have e1 : d'.extract 0 n = d' := by rw [show n = d'.size from hd'n.symm]; simp
    have e2 : d0.toArray.extract 0 n = d0.toArray := by rw [← hds]; simp
    rw [e1, e2] at hp2
    rw [hts]
    simpa using hp2
  have hpl : (ts.map (·.1)).Perm l := by rw [← hd0]; exact hperm.map _
  have hnd' : (ts.map (·.1)).Nodup := hpl.nodup_iff.2 hnd
  refine ⟨rfl, ts.map (·.1), hpl, ?_, ?_, ?_⟩
  · unfold SortedW
    rw [List.pairwise_iff_getElem]
    intro i j hi hj hij
    have hti : i < ts.length := by simpa using hi
    have htj : j < ts.length := by simpa using hj
    have h1 := hs i j (Nat.zero_le _) hij (by rw [← hd'n, hda]; simpa using htj)
    rw [lt_less, hda] at h1
    rw [getElem!_pos _ i (by simpa using hti), getElem!_pos _ j (by simpa using htj)] at h1
    simp only [List.getElem_toArray] at h1
    rw [List.getElem_map, List.getElem_map]
    refine (lessL_total _ _ fun e => ?_).resolve_right (by simp [h1])
    have h2 : (ts.map (·.1))[i] = (ts.map (·.1))[j] := by
      rw [List.getElem_map, List.getElem_map, ← word_facts ts[i].2, ← word_facts ts[j].2, e]
    exact List.pairwise_iff_getElem.1 hnd' i j hi hj hij h2
  · refine RowW.of_own ?_ (by rw [hpl.length_eq]; exact hlen) (fun x hx2 => hx x (hpl.mem_iff.1 hx2))
    have := ownsRow_sortedE encR (n := m) (os := os) (ss := d0) (ts := ts) hperm.length_eq hg hb (by omega) hcm hcs
    rw [hd0l] at this
    rw [hda, List.map_map]
    exact this
  · rw [hda]
    exact (Chg.of_grown (grownBy_sortedE encR (w := w) (g := g) (n := m) (os := os) ts.toArray)).mono fun b e => by simpa [blkA] using e
end Go.Proofs.YtmjiiddncbhgpaaGreat
