/- Dead ends: the law that a proof excludes plans and covers all reachable states. No condition., part 37: Co3. -/
import Derived.Test.YtmjiiddncbhgpaaGreatC1
import Derived.Test.YtmjiiddncbhgpaaGreatC2
import Derived.Test.YtmjiiddncbhgpaaGreatC3
import Derived.Test.YtmjiiddncbhgpaaGreatC4
import Derived.Test.YtmjiiddncbhgpaaGreatC5
import Derived.Test.YtmjiiddncbhgpaaGreatC6
import Derived.Test.YtmjiiddncbhgpaaGreatC7
import Derived.Test.YtmjiiddncbhgpaaGreatC8
import Derived.Test.YtmjiiddncbhgpaaGreatC9
import Derived.Test.YtmjiiddncbhgpaaGreatC20
import Derived.Test.YtmjiiddncbhgpaaGreatC21
import Derived.Test.YtmjiiddncbhgpaaGreatC24
import Derived.Test.YtmjiiddncbhgpaaGreatC27
import Derived.Test.YtmjiiddncbhgpaaGreatC32
import Derived.Test.YtmjiiddncbhgpaaGreatC33
import Derived.Test.YtmjiiddncbhgpaaGreatC34
import Derived.Test.YtmjiiddncbhgpaaGreatC35
import Derived.Test.YtmjiiddncbhgpaaGreatC36
import Derived.BigQuiet
import Derived.BigRegion
import Derived.Deep.AppendLies
import Derived.Deep.DeepCutAuto
import Derived.Deep.Draws
import Derived.Deep.Fields
import Derived.Deep.LoopGhost
import Derived.Deep.QuietTactic
import Derived.Deep.RegionHeld3
import Derived.Deep.Slices
import Derived.DeepKeys4
import Derived.Ground.Names2Prog
import Derived.Ground.SlgnProg
import Derived.IntWalk
import Derived.Laws.AppendOwnNone
import Derived.Laws.BitsAllLaws
import Derived.Laws.EntriesVeiled
import Derived.Laws.OwnMore
import Derived.Lib.Hide
import Derived.Lib.SlicesCompact
import Derived.LoopIn
import Derived.LoopNIn
import Derived.Maps.AppendAt
import Derived.Maps.OwnIn
import Derived.Maps.OwnOps
import Derived.Maps.OwnSet
import Derived.OrdersHeld
import Derived.OrdersIn
import Derived.OwnWalkIn
import Derived.RangeFuncBound
import Derived.RangeFuncCalls
import Derived.RangeFuncLeaves
import Derived.RangeFuncNested
import Derived.Shelf.Abstract
import Derived.Shelf.RegionOpen
import Derived.Shelf.Slices.Cells
import Derived.Shelf.Slices.Clone
import Derived.Shelf.Slices.CompactI
import Derived.Shelf.Slices.Empties
import Derived.Shelf.Slices.In.SortNone
import Derived.Shelf.Slices.SearchI
import Derived.Shelf.Sort.Plain
import Derived.Sort.OwnSortedInts
import Derived.StillTail
import Derived.StillTailTactics
import Derived.TacticsInMore
import Derived.Test.YtmjiiddncbhgpaaGreatProg
import Derived.WalkKit
namespace Go.Proofs.YtmjiiddncbhgpaaGreat
set_option linter.unusedVariables false
set_option linter.unusedSimpArgs false
open Go.RowKit Go.Shelf Go.Maps
attribute [local go_sem] Oper.semAt_some
theorem zeroArc (w : World) : (zeroValue 194).run Tryz.prog w = .ok (.slice none 0 0) w := by kernel_rfl
def infW : Int := 1000000000
def CostsP (w : World) (L : List Nat) (gl : Nat) (ms : List Mk) (e : Ending) (w' : World) : Prop :=
  Below w.heap.size w w' ∧ ∃ ob f, e = .returned (.map (some ob)) ∧ w.heap.size ≤ ob ∧ MapV Tryz.prog 78 encW w' ob L.length (outM L f) ∧ Least (arcW ms) (goalW gl) infW (· ∈ L) f
theorem nodup_take {L : List Nat} (hnd : L.Nodup) {i s : Nat} (hs : L[i]? = some s) : s ∉ L.take i := fun hm => by
  obtain ⟨hi, rfl⟩ := List.getElem?_eq_some_iff.1 hs
  rw [← List.take_append_drop i L] at hnd
  exact (List.nodup_append.1 hnd).2.2 _ hm _ (by rw [List.drop_eq_getElem_cons hi]; exact List.mem_cons_self) rfl
def f1 (gl : Nat) (x : Nat) : Int := if goalW gl x = true then 0 else infW
/-- what holds between two steps of a state -/
def CoJ (w : World) (gl : Nat) (ms : List Mk) (L : List Nat) (i s : Nat) (Bp bb ob Q mb : Nat) (QA : Option Addr) (qn qc : Nat) (qes : List En) (tm : Int) (Bs Bs2 BL : Nat) (Ds : List Nat) (pre : List (Stp ms s)) (W : World) : Prop :=
  ∃ (cnt : Nat) (rows : Nat → Option RowH), CsS w W Bp bb ob Q mb QA qn qc qes tm cnt rows (fun t => bkF ms (L.take i) t ++ bkS s (pre.map (·.1)) t) (L.take (i + 1)) (f1 gl) ∧ cnt ≤ i * 1000 + pre.length ∧ Blk 78 W Bs [.int .u32 s] ∧ ¬ BackM bb rows Bs ∧ (∀ D ∈ Ds, D < BL ∧ W.heap[D]? = some (.deferred (some []))) ∧ Bs2 < W.heap.size ∧ ¬ BackM bb rows Bs2
theorem CoJ.own {w : World} {gl : Nat} {ms : List Mk} {L : List Nat} {i s Bp bb ob Q mb : Nat} {QA : Option Addr} {qn qc : Nat} {qes : List En} {tm : Int} {Bs Bs2 BL : Nat} {Ds : List Nat} (hB : w.heap.size ≤ BL) (h1 : mb < BL) (h2 : bb < BL) (h3 : ob < BL) : OwnFrom BL (CoJ w gl ms L i s Bp bb ob Q mb QA qn qc qes tm Bs Bs2 BL Ds) := by
  rintro pre X Y row ⟨cnt, rows, j1, j2, j3, j4, j5, j6, j7⟩ hg hr
  exact ⟨cnt, rows, j1.turn hg hr hB h1 h2 h3, j2, j3.grown hg (turn_ne hr j3.cells), j4, fun D hD => ⟨(j5 D hD).1, (hg.block D (Array.getElem?_eq_some_iff.1 (j5 D hD).2).1 (fun e => by have := (hr D e.symm).1; have := (j5 D hD).1; omega)).trans (j5 D hD).2⟩, Nat.lt_of_lt_of_le j6 hg.size, j7⟩
theorem CoJ.keep {w : World} {gl : Nat} {ms : List Mk} {L : List Nat} {i s Bp bb ob Q mb : Nat} {QA : Option Addr} {qn qc : Nat} {qes : List En} {tm : Int} {Bs Bs2 BL : Nat} {Ds : List Nat} {pre : List (Stp ms s)} {W W' : World} (h : CoJ w gl ms L i s Bp bb ob Q mb QA qn qc qes tm Bs Bs2 BL Ds pre W) (hb : Below W.heap.size W W') : CoJ w gl ms L i s Bp bb ob Q mb QA qn qc qes tm Bs Bs2 BL Ds pre W' := by
  obtain ⟨cnt, rows, j1, j2, j3, j4, j5, j6, j7⟩ := h
  exact ⟨cnt, rows, j1.keep hb, j2, j3.keep hb, j4, fun D hD => ⟨(j5 D hD).1, (hb.block D (Array.getElem?_eq_some_iff.1 (j5 D hD).2).1).trans (j5 D hD).2⟩, Nat.lt_of_lt_of_le j6 hb.size, j7⟩
theorem row_ne_blk {α : Type} {E : Enc α} {t t' : TypeId} {B n c : Nat} {M : Nat → Prop} {w : World} {A : Option Addr} {vs : List Value} {xs : List α} {g : Nat} {cs : List Value} (h : OwnE E t B M w A n c vs xs) (hb : Blk t' w g cs) (ht : t' ≠ t) : blkA A ≠ some g := fun hg => by
  rcases h.own.2 with ⟨e, _⟩ | ⟨r, cap, cur, e, hr, hc, rest⟩
  · injection e with e1 e2 e3
    subst e1
    cases hg
  · injection e with e1 e2 e3
    subst e1
    obtain rfl : r = g := by simpa [blkA] using hg
    unfold Blk at hb
    rw [hb] at hc
    injection hc with hc
    injection hc with e1 e2
    exact ht e2
/-- one step more -/
theorem CoJ.more {w : World} {gl : Nat} {ms : List Mk} {L : List Nat} {i s Bp bb ob Q mb : Nat} {QA : Option Addr} {qn qc : Nat} {qes : List En} {tm : Int} {Bs Bs2 BL cnt2 cnt7 : Nat} {Ds : List Nat} {pre : List (Stp ms s)} {x : Stp ms s} {W WD w7 : World} {rows2 rows7 : Nat → Option RowH}
    (h : CsS w WD Bp bb ob Q mb QA qn qc qes tm cnt2 rows2 (fun t => bkF ms (L.take i) t ++ bkS s (pre.map (·.1)) t) (L.take (i + 1)) (f1 gl))
    (h7 : CsS w w7 Bp bb ob Q mb QA qn qc qes tm cnt7 rows7 (updR (fun t => bkF ms (L.take i) t ++ bkS s (pre.map (·.1)) t) x.1.2.2 ((bkF ms (L.take i) x.1.2.2 ++ bkS s (pre.map (·.1)) x.1.2.2) ++ [(s, x.1.2.1)])) (L.take (i + 1)) (f1 gl))
    (hch : Chg (BackM bb rows2) WD w7) (hM : ∀ b, BackM bb rows7 b → BackM bb rows2 b ∨ WD.heap.size ≤ b) (hbD : Below W.heap.size W WD) (hzD : WD.heap.size = W.heap.size) (j2 : cnt2 ≤ i * 1000 + pre.length) (hc7 : cnt7 ≤ cnt2 + 1)
    (j3 : Blk 78 W Bs [.int .u32 s]) (j4 : ¬ BackM bb rows2 Bs) (j5 : ∀ D ∈ Ds, D < BL ∧ W.heap[D]? = some (.deferred (some []))) (j6 : Bs2 < W.heap.size) (j7 : ¬ BackM bb rows2 Bs2) (hbB : bb < BL) :
    KeepsFrom BL W w7 ∧ KpS w.heap.size Bs2 W w7 ∧ CoJ w gl ms L i s Bp bb ob Q mb QA qn qc qes tm Bs Bs2 BL Ds (pre ++ [x]) w7 := by
  have hobj : ∀ (k : Nat) (o : Obj), W.heap[k]? = some o → o.isCells = false → k ≠ bb → w7.heap[k]? = some o := fun k o hk ho hkb => by
    have hkl := (Array.getElem?_eq_some_iff.1 hk).1
    have hkD : WD.heap[k]? = some o := (hbD.block k hkl).trans hk
    refine (hch.block k (by omega) ?_).trans hkD
    rintro (e | ⟨t, r, hr, e⟩)
    · exact hkb e
    · obtain ⟨vs, hw⟩ := h.back.row t r hr
      obtain ⟨ds, e1, m, h1⟩ := own_cells hw e
      rw [hkD] at h1
      injection h1 with h1
      rw [h1] at ho
      cases ho
  have hlow := h.low.size
  refine ⟨⟨by have := hch.size; omega, fun k o hB hk ho => hobj k o hk ho (by omega)⟩, ⟨?_, ?_⟩, cnt7, rows7, ?_, by rw [List.length_append]; simp only [List.length_singleton]; omega, hch.blk (j3.keep hbD) j4, fun e => ?_, fun D hD => ⟨(j5 D hD).1, hobj D _ (j5 D hD).2 rfl ?_⟩, by have := hch.size; omega, fun e => ?_⟩
  · exact (hbD.mono (by omega)).trans (hch.below (fun b hb => (h.sb b hb).1) hlow)
  · exact (hch.block Bs2 (by omega) j7).trans (hbD.block Bs2 j6)
  · have e : (fun t => bkF ms (L.take i) t ++ bkS s ((pre ++ [x]).map (·.1)) t) = updR (fun t => bkF ms (L.take i) t ++ bkS s (pre.map (·.1)) t) x.1.2.2 ((bkF ms (L.take i) x.1.2.2 ++ bkS s (pre.map (·.1)) x.1.2.2) ++ [(s, x.1.2.1)]) := by
      funext t
      rw [List.map_append, List.map_singleton, bkS_snoc]
      by_cases ht : t = x.1.2.2
      · subst ht
        rw [updR_same, if_pos rfl, List.append_assoc]
      · rw [updR_other _ _ ht, if_neg (fun e => ht e.symm), List.append_nil]
    rw [e]
    exact h7
  · rcases hM _ e with e | e
    · exact j4 e
    · have := j3.lt; omega
  · rintro rfl
    obtain ⟨es, clock, he⟩ := h.back.map.isMap
    have hkl := (Array.getElem?_eq_some_iff.1 (j5 D hD).2).1
    rw [hbD.block D hkl, (j5 D hD).2] at he
    cases he
  · rcases hM _ e with e | e
    · exact j7 e
    · omega
theorem QueueS.mark {B n c Q mb : Nat} {w : World} {A : Option Addr} {es : List En} {tm : Int} (h : QueueS B w Q mb A n c es tm) {k : Nat} {d : Option (List Deferred)} (hk : w.heap[k]? = some (.deferred d)) : ¬ QueueM Q mb A es k := by
  have cells : ∀ {t : TypeId} {cs : List Value}, Blk t w k cs → False := fun hb => by
    unfold Blk at hb
    rw [hk] at hb
    cases hb
  rintro (rfl | rfl | e | ⟨x, hx, rfl⟩)
  · exact cells h.blk
  · obtain ⟨es', clock, he⟩ := h.map.isMap
    rw [hk] at he
    cases he
  · rcases h.heap.own.2 with ⟨e4, _⟩ | ⟨r, cap, cur, e4, _, hc4, rest⟩
    · injection e4 with e1; subst e1; cases e
    · injection e4 with e1
      subst e1
      obtain rfl : r = k := by simpa [blkA] using e
      rw [hk] at hc4
      cases hc4
  · obtain ⟨i, hi⟩ := List.getElem?_of_mem hx
    exact cells (h.heap.ent i x hi)
theorem QueueS.few {B n c Q mb : Nat} {w : World} {A : Option Addr} {es : List En} {tm : Int} (h : QueueS B w Q mb A n c es tm) {l : List Nat} (hl : ∀ x v, keyE es x = some v → x ∈ l) : n ≤ l.length := by
  rw [← h.heap.len, ← List.length_map (f := En.item)]
  refine nodup_len h.nodup fun x hx => ?_
  obtain ⟨e, he, rfl⟩ := List.mem_map.1 hx
  exact hl _ e.key (by unfold keyE; rw [find_item h.nodup he]; rfl)
theorem MapV.mark {κ : Type} {P : Program} {K : TypeId} {enc : κ → Value} {w : World} {b cnt : Nat} {M : κ → Option Value} (h : MapV P K enc w b cnt M) {k : Nat} {d : Option (List Deferred)} (hk : w.heap[k]? = some (.deferred d)) : k ≠ b := by
  rintro rfl
  obtain ⟨es, clock, he⟩ := h.isMap
  rw [hk] at he
  cases he
/-- what holds at each round of the first loop -/
def key1 (gl : Nat) (D : List Nat) (es : List En) : Prop := ∀ x, keyE es x = if x ∈ D ∧ goalW gl x = true then some 0 else none
def CoI (w : World) (g gl : Nat) (ms : List Mk) (A : Option Addr) (n c : Nat) (L : List Nat) (Bp bb ob Q mb : Nat) (k : Nat) (a : Act) (wr : World) : Prop :=
  ∃ (i : Nat) (QA : Option Addr) (qn qc : Nat) (qes : List En) (tm : Int) (cnt : Nat) (rows : Nat → Option RowH) (Ds : List Nat) (u9 u10 u22 u23 u24 u25 u26 u27 u28 u29 u30 u31 u32 u33 u34 u35 u36 u37 u38 u39 u40 u41 u42 u43 u44 u45 u46 u47 u48 u49 u50 u51 u52 : Value), i ≤ n ∧ k = n - i ∧
    a = { tmps := #[.pointer (some ⟨g, 0, none⟩), .slice A n c, undef, undef, .map none, .pointer (some ⟨Bp, 0, none⟩), .map (some ob), .pointer (some ⟨Q, 0, none⟩), undef, u9, u10, undef, undef, undef, undef, undef, .map (some bb), .map (some ob), .pointer (some ⟨Q, 0, none⟩), .slice A n c, .int .i64 n, .int .i64 i, u22, u23, u24, u25, u26, u27, u28, u29, u30, u31, u32, u33, u34, u35, u36, u37, u38, u39, u40, u41, u42, u43, u44, u45, u46, u47, u48, u49, u50, u51, u52, undef, undef, undef, undef, undef, undef, undef, undef, undef, undef, undef, undef, undef, undef, undef, undef, undef, undef, undef, undef, undef, undef, undef, undef, undef, undef, undef, undef, undef, undef, undef, undef, undef, undef, undef, undef, undef, undef, undef, undef, undef, undef, undef], defers := Ds.map markD } ∧
    CsS w wr Bp bb ob Q mb QA qn qc qes tm cnt rows (bkF ms (L.take i)) (L.take i) (f1 gl) ∧ key1 gl (L.take i) qes ∧ cnt ≤ i * 1000 ∧ (∀ D ∈ Ds, w.heap.size ≤ D ∧ wr.heap[D]? = some (.deferred (some []))) ∧ Ds.Nodup
/-- the arcs from states of the list -/
def arcL (ms : List Mk) (L : List Nat) (s t : Nat) (c : Int) : Prop := s ∈ L ∧ arcW ms s t c
theorem Least.arcs {ms : List Mk} {L : List Nat} {goal : Nat → Bool} {inf : Int} {f : Nat → Int} (h : Least (arcL ms L) goal inf (· ∈ L) f) : Least (arcW ms) goal inf (· ∈ L) f := by
  refine ⟨h.low, h.high, h.zero, fun s t c hs ha hf => h.arc s t c hs ⟨hs, ha⟩ hf, fun s hs hf => ?_⟩
  have := h.way s hs hf
  clear hf hs
  generalize f s = v at this
  induction this with
  | here hg => exact .here hg
  | step ha _ ih => exact .step ha.2 ih
def sumF (L : List Nat) (f : Nat → Int) : Nat := (L.map fun x => (f x).toNat).sum
theorem sumF_le {L : List Nat} {f g : Nat → Int} (h : ∀ x ∈ L, g x ≤ f x) : sumF L g ≤ sumF L f := by
  unfold sumF
  induction L with
  | nil => simp
  | cons x L ih =>
    have h1 := h x List.mem_cons_self
    have h2 := ih fun y hy => h y (List.mem_cons_of_mem _ hy)
    simp only [List.map_cons, List.sum_cons]
    omega
theorem sumF_lt {L : List Nat} {f g : Nat → Int} (h : ∀ x ∈ L, g x ≤ f x) {a : Nat} (ha : a ∈ L) (h0 : 0 ≤ g a) (hlt : g a < f a) : sumF L g + 1 ≤ sumF L f := by
  induction L with
  | nil => cases ha
  | cons x L ih =>
    have h1 := h x List.mem_cons_self
    have h2 : sumF L g ≤ sumF L f := sumF_le fun y hy => h y (List.mem_cons_of_mem _ hy)
    have e : ∀ k : Nat → Int, sumF (x :: L) k = (k x).toNat + sumF L k := fun k => by unfold sumF; simp only [List.map_cons, List.sum_cons]
    rw [e, e]
    rcases List.mem_cons.1 ha with rfl | ha
    · omega
    · have := ih (fun y hy => h y (List.mem_cons_of_mem _ hy)) ha
      omega
theorem outM_ext {D : List Nat} {f f' : Nat → Int} (h : ∀ x ∈ D, f x = f' x) (k : Nat) : outM D f' k = outM D f k := by
  unfold outM
  split
  · rename_i hk; rw [h k hk]
  · rfl
theorem CsS.extF {w W : World} {Bp bb ob Q mb : Nat} {QA : Option Addr} {qn qc : Nat} {qes : List En} {tm : Int} {cnt : Nat} {rows : Nat → Option RowH} {bk : Nat → List (Nat × Int)} {D : List Nat} {f f' : Nat → Int} (h : CsS w W Bp bb ob Q mb QA qn qc qes tm cnt rows bk D f) (he : ∀ x ∈ D, f x = f' x) : CsS w W Bp bb ob Q mb QA qn qc qes tm cnt rows bk D f' :=
  ⟨h.low, h.box, h.back, h.out.ext (outM_ext he), h.q, h.sq, h.sb, h.so⟩
/-- what the table and the queue say of each other -/
structure CoV (L : List Nat) (qes : List En) (f : Nat → Int) : Prop where
  out : ∀ x, x ∉ L → f x = infW
  keys : ∀ x v, keyE qes x = some v → x ∈ L ∧ v = f x ∧ v < infW
def CoK (w : World) (g gl : Nat) (ms : List Mk) (A : Option Addr) (n c : Nat) (L : List Nat) (Bp bb ob Q mb : Nat) (k : Nat) (a : Act) (wr : World) : Prop :=
  ∃ (QA : Option Addr) (qn qc : Nat) (qes : List En) (tm : Int) (cnt : Nat) (rows : Nat → Option RowH) (f : Nat → Int) (Ds : List Nat) (u9 u10 u22 u23 u24 u25 u26 u27 u28 u29 u30 u31 u32 u33 u34 u35 u36 u37 u38 u39 u40 u41 u42 u43 u44 u45 u46 u47 u48 u49 u50 u51 u52 u11 u12 u13 u15 u53 u54 u55 u56 u57 u58 u59 u60 u61 u62 u63 u64 u65 u66 u67 u68 u69 u70 u71 u72 u73 u74 u75 u76 u77 u78 u79 u80 u81 u82 u83 u84 u85 u86 u87 u88 u89 u90 u91 u92 u93 u94 : Value), k = sumF L f * (n + 1) + qn ∧
    a = { tmps := #[.pointer (some ⟨g, 0, none⟩), .slice A n c, undef, undef, .map none, .pointer (some ⟨Bp, 0, none⟩), .map (some ob), .pointer (some ⟨Q, 0, none⟩), undef, u9, u10, u11, u12, u13, undef, u15, .map (some bb), .map (some ob), .pointer (some ⟨Q, 0, none⟩), .slice A n c, .int .i64 n, .int .i64 n, u22, u23, u24, u25, u26, u27, u28, u29, u30, u31, u32, u33, u34, u35, u36, u37, u38, u39, u40, u41, u42, u43, u44, u45, u46, u47, u48, u49, u50, u51, u52, u53, u54, u55, u56, u57, u58, u59, u60, u61, u62, u63, u64, u65, u66, u67, u68, u69, u70, u71, u72, u73, u74, u75, u76, u77, u78, u79, u80, u81, u82, u83, u84, u85, u86, u87, u88, u89, u90, u91, u92, u93, u94, undef], defers := Ds.map markD } ∧
    CsS w wr Bp bb ob Q mb QA qn qc qes tm cnt rows (bkF ms L) L f ∧ CoV L qes f ∧ Going (arcL ms L) (goalW gl) infW (· ∈ L) f (fun x => (keyE qes x).isSome = true) ∧ (∀ D ∈ Ds, w.heap.size ≤ D ∧ wr.heap[D]? = some (.deferred (some []))) ∧ Ds.Nodup
def CoL (w : World) (g gl : Nat) (ms : List Mk) (A : Option Addr) (n c : Nat) (L : List Nat) (Bp bb ob Q mb t : Nat) (d : Int) (rA : Option Addr) (rn rc cnt : Nat) (rows : Nat → Option RowH) (Ds : List Nat) (S0 : Nat) (k : Nat) (a : Act) (wr : World) : Prop :=
  ∃ (j : Nat) (QA : Option Addr) (qn qc : Nat) (qes : List En) (tm : Int) (f : Nat → Int) (u9 u10 u22 u23 u24 u25 u26 u27 u28 u29 u30 u31 u32 u33 u34 u35 u36 u37 u38 u39 u40 u41 u42 u43 u44 u45 u46 u47 u48 u49 u50 u51 u52 u15 u53 u54 u55 u56 u57 u58 u59 u60 u61 u67 u68 u69 u70 u71 u72 u73 u74 u75 u76 u77 u78 u79 u80 u81 u82 u83 u84 u85 u86 u87 u88 u89 u90 u91 u92 u93 u94 : Value), j ≤ rn ∧ k = rn - j ∧
    a = { tmps := #[.pointer (some ⟨g, 0, none⟩), .slice A n c, undef, undef, .map none, .pointer (some ⟨Bp, 0, none⟩), .map (some ob), .pointer (some ⟨Q, 0, none⟩), undef, u9, u10, .int .u32 t, .int .i64 d, .bool true, undef, u15, .map (some bb), .map (some ob), .pointer (some ⟨Q, 0, none⟩), .slice A n c, .int .i64 n, .int .i64 n, u22, u23, u24, u25, u26, u27, u28, u29, u30, u31, u32, u33, u34, u35, u36, u37, u38, u39, u40, u41, u42, u43, u44, u45, u46, u47, u48, u49, u50, u51, u52, u53, u54, u55, u56, u57, u58, u59, u60, u61, .map (some bb), .int .u32 t, .slice rA rn rc, .int .i64 rn, .int .i64 j, u67, u68, u69, u70, u71, u72, u73, u74, u75, u76, u77, u78, u79, u80, u81, u82, u83, u84, u85, u86, u87, u88, u89, u90, u91, u92, u93, u94, undef], defers := Ds.map markD } ∧
    CsS w wr Bp bb ob Q mb QA qn qc qes tm cnt rows (bkF ms L) L f ∧ CoV L qes f ∧ Round (arcL ms L) (goalW gl) infW (· ∈ L) f (fun x => (keyE qes x).isSome = true) t d (fun a c => (a, c) ∈ (bkF ms L t).drop j) ∧ sumF L f * (n + 1) + qn + 1 ≤ S0 ∧ (∀ D ∈ Ds, w.heap.size ≤ D ∧ wr.heap[D]? = some (.deferred (some [])))
theorem zeroInt (w : World) : (zeroValue 3).run Tryz.prog w = .ok (.int .i64 0) w := by kernel_rfl
/-- an arc's cost lowered: what the table and the queue say of each other -/
theorem CoV.lower {L : List Nat} {qes es' : List En} {f : Nat → Int} (h : CoV L qes f) {a : Nat} {v : Int} (ha : a ∈ L) (hv : v < infW) (hk : ∀ y, keyE es' y = if y = a then some v else keyE qes y) : CoV L es' (updR f a v) := by
  refine ⟨fun x hx => ?_, fun x u hx => ?_⟩
  · rw [updR_other _ _ (fun e => hx (by rw [e]; exact ha))]
    exact h.out x hx
  · rw [hk] at hx
    split at hx
    · rename_i e
      subst e
      injection hx with hx
      subst hx
      exact ⟨ha, (updR_same _ _ _).symm, hv⟩
    · rename_i e
      rw [updR_other _ _ e]
      exact h.keys x u hx
set_option maxRecDepth 100000 in
set_option maxHeartbeats 6400000 in
theorem Costs_ct (g s0 gl : Nat) (ms : List Mk) (A : Option Addr) (n c : Nat) (L : List Nat) (w : World) (h : WordsR w g s0 gl ms) (hL : Rd Enc.word w A n c L) (hnd : L.Nodup) (h2 : n ≤ 2000) :
    Calls Tryz.prog 74 #[.pointer (some ⟨g, 0, none⟩), .slice A n c] w (CostsP w L gl ms) := by
  have H := hide h
  have HL := hide hL
  have hlen := hL.len
  clear h hL
  refine (callsIn_wide (n := 8)).1 (callsIn_of_wp_marks Tryz.func74 rfl trivial (wpIn_wide.2 ?_) rfl)
  simp only [Tryz.ntmps74, List.size_toArray, List.length_cons, List.length_nil, Nat.reduceAdd, Nat.reduceSub, Array.replicate_succ, Array.replicate_zero, List.push_toArray, List.append_toArray, List.nil_append, List.cons_append]
  have hmm := @run_makeMap Tryz.prog
  go_upto_region 3 with (fail)
  have hm0 := MapV.made (κ := Nat) w Tryz.prog 78 encW
  have hb1 := (Below.refl w.heap.size w).alloc (Nat.le_refl _) (.map #[] 0)
  have hb2 := hb1.alloc (by rw [World.size_alloc]; omega) (.cells #[.map (some w.heap.size)] 185)
  have hbx := Blk.new (w.alloc (.map #[] 0)) 185 [.map (some w.heap.size)]
  have hm1 := MapV.made (κ := Nat) ((w.alloc (.map #[] 0)).alloc (.cells #[.map (some w.heap.size)] 185)) Tryz.prog 78 encW
  have hb3 := hb2.alloc (by simp only [World.size_alloc]; omega) (.map #[] 0)
  have hz3 : (((w.alloc (.map #[] 0)).alloc (.cells #[.map (some w.heap.size)] 185)).alloc (.map #[] 0)).heap.size = w.heap.size + 3 := by simp only [World.size_alloc]
  have hm0' := ((hm0.alloc (.cells #[.map (some w.heap.size)] 185)).alloc (.map #[] 0))
  have hbx' := hbx.alloc (.map #[] 0)
  simp only [World.size_alloc] at hbx' hm1
  obtain ⟨W3, hW3⟩ : ∃ W, W = (((w.alloc (.map #[] 0)).alloc (.cells #[.map (some w.heap.size)] 185)).alloc (.map #[] 0)) := ⟨_, rfl⟩
  rw [← hW3] at hm1 hb3 hz3 hm0' hbx' ⊢
  clear hW3 hm0 hb1 hb2 hbx
  have Hm1 := hide hm1
  have Hb3 := hide hb3
  have Hz3 := hide hz3
  have Hm0 := hide hm0'
  have Hbx := hide hbx'
  clear hm1 hb3 hz3 hm0' hbx'
  go_wp2_with (go_at_call 115; (with_reducible refine (QNew_ct w.heap.size W3).mono ?_); rintro e w4 ⟨rfl, hq4, hb4, hz4⟩; have Hq4 := hide hq4; have Hb4 := hide hb4; have Hz4 := hide hz4; clear hq4 hb4 hz4)
  have hS : CsS w w4 (w.heap.size + 1) w.heap.size (w.heap.size + 1 + 1) (W3.heap.size + 1) W3.heap.size none 0 0 [] 0 0 (fun _ => none) (fun _ => []) [] (fun _ => infW) := by
    have hz := Hz3.out
    refine ⟨Hb3.out.trans (Hb4.out.mono (by omega)), Hbx.out.keep Hb4.out, ⟨(Hm0.out.keep Hb4.out).ext fun _ => rfl, fun _ _ => rfl, fun t r h => (by cases h), fun t t' r r' g h => (by cases h)⟩, (Hm1.out.keep Hb4.out).ext fun x => (by simp [outM]), Hq4.out, ?_, ?_, by omega, by omega, by omega⟩
    · rintro b (rfl | rfl | e | ⟨x, hx, _⟩)
      · refine ⟨by omega, by omega, by omega, ?_⟩
        rintro (e | ⟨t, r, h, _⟩)
        · omega
        · cases h
      · refine ⟨by omega, by omega, by omega, ?_⟩
        rintro (e | ⟨t, r, h, _⟩)
        · omega
        · cases h
      · cases e
      · cases hx
    · rintro b (rfl | ⟨t, r, h, _⟩)
      · omega
      · cases h
  clear Hm1 Hb3 Hm0 Hbx Hq4 Hb4 Hz4 hmm
  have hz := Hz3.out
  generalize W3.heap.size = mb at hS hz ⊢
  generalize hQ : mb + 1 = Q at hS ⊢
  generalize hob : w.heap.size + 1 + 1 = ob at hS ⊢
  generalize hBp : w.heap.size + 1 = Bp at hS ⊢
  have hS' : ∃ bb, bb = w.heap.size ∧ CsS w w4 Bp bb ob Q mb none 0 0 [] 0 0 (fun _ => none) (fun _ => []) [] (fun _ => infW) := ⟨_, rfl, hS⟩
  have hbbw : w.heap.size < Bp ∧ w.heap.size < ob ∧ w.heap.size < mb ∧ w.heap.size < Q := by omega
  generalize hbb : w.heap.size = bb at hS ⊢
  have hI0 : CsS w w4 Bp bb ob Q mb none 0 0 [] 0 0 (fun _ => none) (bkF ms (L.take 0)) (L.take 0) (f1 gl) := by
    refine ⟨hS.low, hS.box, ⟨hS.back.map, fun _ _ => rfl, fun _ _ h => (by cases h), fun _ _ _ _ _ h => (by cases h)⟩, hS.out.ext fun x => (by simp [outM]), hS.q, hS.sq, hS.sb, hS.so⟩
  have Hbb := hide hbb
  clear hbb hS hS' hQ hob hBp hz Hz3
  have HI0 := hide hI0
  clear hI0
  refine wp_loop_ghost_k (CoI w g gl ms A n c L Bp bb ob Q mb) n ⟨0, _, _, _, _, _, _, _, [], _, _, _, _, _, _, _, _, _, _, _, _, _, _, _, _, _, _, _, _, _, _, _, _, _, _, _, _, _, _, _, _, _, Nat.zero_le _, by omega, rfl, HI0.out, fun x => (by simp [keyE]), by omega, fun D hD => (by cases hD), List.nodup_nil⟩ ?_
  clear HI0
  intro k a wr hI J K hJ hK
  obtain ⟨i, QA, qn, qc, qes, tm, cnt, rows, Ds, u9, u10, u22, u23, u24, u25, u26, u27, u28, u29, u30, u31, u32, u33, u34, u35, u36, u37, u38, u39, u40, u41, u42, u43, u44, u45, u46, u47, u48, u49, u50, u51, u52, hi, rfl, rfl, hS, hkey, hcnt, hDs, hdn⟩ := hI
  have HS := hide hS
  have Hkey := hide hkey
  have Hcnt := hide hcnt
  have HDs := hide hDs
  have Hdn := hide hdn
  clear hS hkey hcnt hDs hdn
  by_cases hlt : i < n
  · obtain ⟨bL, oL, s, rfl, hs, hs32, hcs⟩ := (HL.out.keep HS.out.low).word hlt
    have hbxs := Blk.new wr 78 [.int .u32 s]
    have hba := (Below.refl wr.heap.size wr).alloc (Nat.le_refl _) (.cells [Value.int .u32 s].toArray 78)
    have hsnot : s ∉ L.take i := nodup_take hnd hs
    have htk : L.take (i + 1) = L.take i ++ [s] := by rw [List.take_add_one, hs]; rfl
    go_upto_region 7 with (fail)
    obtain ⟨W6, hW6⟩ : ∃ W, W = wr.alloc (.cells [Value.int .u32 s].toArray 78) := ⟨_, rfl⟩
    obtain ⟨Bs, hBs⟩ : ∃ Bs, Bs = wr.heap.size := ⟨_, rfl⟩
    rw [← hW6, ← hBs] at hbxs
    rw [← hW6] at hba
    change Code.wp _ _ _ _ (wr.alloc (.cells [Value.int .u32 s].toArray 78))
    rw [← hW6, ← hBs]
    have hz6 : W6.heap.size = wr.heap.size + 1 := by rw [hW6, World.size_alloc]
    clear hW6 hcs
    have hS6 := HS.out.keep hba
    obtain ⟨W7, hput7, hS7, hg7, hz7⟩ := hS6.store hs32 (by simp; omega) infW
    rw [if_neg hsnot, ← htk] at hS7
    have hBm7 : ¬ BackM bb rows Bs := fun e => by have := HS.out.back.lt e; omega
    have hBq7 : ¬ QueueM Q mb QA qes Bs := fun e => by have := HS.out.q.lt e; omega
    have hBo7 : Bs ≠ ob := fun e => by have := HS.out.out.lt; omega
    have hb7 := hbxs.grown hg7 (fun e => hBo7 (by injection e))
    have hD7 : ∀ D ∈ Ds, W7.heap[D]? = some (.deferred (some [])) := fun D hD => by
      have h1 := (HDs.out D hD).2
      have h3 : W6.heap[D]? = some (.deferred (some [])) := (hba.block D (Array.getElem?_eq_some_iff.1 h1).1).trans h1
      exact (hg7.block D (Array.getElem?_eq_some_iff.1 h3).1 (fun e => by injection e with e; exact hS6.out.mark h3 e)).trans h3
    have HD7 := hide hD7
    clear hD7
    have c6 := hbxs.cell 0
    have l6 := hbxs.lt
    have c7 := hb7.cell 0
    have l7 := hb7.lt
    simp only [List.getElem?_cons_zero] at c6 c7
    clear hba hbxs hS6 hg7
    unfold infW at hput7
    have HBs := hide hBs
    clear hBs
    have HS7 := hide hS7
    have Hb7 := hide hb7
    clear hS7 hb7
    go_upto_region 8 with (fail)
    rename_i Kr hKr Kc hKc
    have htail : ∀ (v27 v28 v29 v30 v31 v32 v33 v34 : Value) (W8 : World) (QA : Option Addr) (qn qc : Nat) (qes : List En) (tm : Int), CsS w W8 Bp bb ob Q mb QA qn qc qes tm cnt rows (bkF ms (L.take i)) (L.take (i + 1)) (f1 gl) → key1 gl (L.take (i + 1)) qes → Blk 78 W8 Bs [.int .u32 s] → (∀ D ∈ Ds, W8.heap[D]? = some (.deferred (some []))) →
        Kr { tmps := #[.pointer (some ⟨g, 0, none⟩), .slice (some ⟨bL, oL, none⟩) n c, undef, undef, .map none, .pointer (some ⟨Bp, 0, none⟩), .map (some ob), .pointer (some ⟨Q, 0, none⟩), undef, .pointer (some ⟨Bs, 0, none⟩), u10, undef, undef, undef, undef, undef, .map (some bb), .map (some ob), .pointer (some ⟨Q, 0, none⟩), .slice (some ⟨bL, oL, none⟩) n c, .int .i64 n, .int .i64 i, .bool true, .pointer (some ⟨bL, oL + i, none⟩), .int .u32 s, .map (some ob), .int .u32 s, v27, v28, v29, v30, v31, v32, v33, v34, u35, u36, u37, u38, u39, u40, u41, u42, u43, u44, u45, u46, u47, u48, u49, u50, u51, u52, undef, undef, undef, undef, undef, undef, undef, undef, undef, undef, undef, undef, undef, undef, undef, undef, undef, undef, undef, undef, undef, undef, undef, undef, undef, undef, undef, undef, undef, undef, undef, undef, undef, undef, undef, undef, undef, undef, undef, undef, undef, undef, undef], defers := Ds.map markD } W8 := by
      intro v27 v28 v29 v30 v31 v32 v33 v34 W8 QA qn qc qes tm hS8 hkey8 hb8 hD8
      refine hKr _ _ ?_
      clear hKr hKc hput7 HS7 Hb7 hz7 c6 l6 c7 l7
      have c8 := hb8.cell 0
      have l8 := hb8.lt
      simp only [List.getElem?_cons_zero] at c8
      have HS8 := hide hS8
      have Hkey8 := hide hkey8
      have Hb8 := hide hb8
      have HD8 := hide hD8
      clear hS8 hkey8 hb8 hD8
      go_wp2_with (go_at_call 117; refine (SSteps_ct g s _).mono ?_; rintro e w' ⟨rfl, rfl⟩)
      have hBs3 := Blk.new (W8.alloc (.cells #[.pointer (some ⟨g, 0, none⟩)] 91)) 78 [.int .u32 s]
      have hBw := (Blk.new W8 91 [.pointer (some ⟨g, 0, none⟩)]).alloc (.cells #[.int .u32 s] 78)
      have hbL := below_two W8 (.cells #[.pointer (some ⟨g, 0, none⟩)] 91) (.cells #[.int .u32 s] 78)
      have hzL : ((W8.alloc (.cells #[.pointer (some ⟨g, 0, none⟩)] 91)).alloc (.cells #[.int .u32 s] 78)).heap.size = W8.heap.size + 1 + 1 := by simp only [World.size_alloc]
      simp only [World.size_alloc] at hBs3
      obtain ⟨WL, hWL⟩ : ∃ W, W = (W8.alloc (.cells #[.pointer (some ⟨g, 0, none⟩)] 91)).alloc (.cells #[.int .u32 s] 78) := ⟨_, rfl⟩
      rw [← hWL] at hBs3 hBw hbL hzL ⊢
      clear hWL
      have cBs := hBs3.cell 0
      have cBw := hBw.cell 0
      simp only [List.getElem?_cons_zero] at cBs cBw
      have hSL := HS8.out.keep hbL
      have hz8 := HS8.out.low.size
      have hDL : ∀ D ∈ Ds, D < WL.heap.size ∧ WL.heap[D]? = some (.deferred (some [])) := fun D hD => by
        have h1 := HD8.out D hD
        have h3 := (Array.getElem?_eq_some_iff.1 h1).1
        exact ⟨by omega, (hbL.block D h3).trans h1⟩
      have hJ0 : CoJ w gl ms L i s Bp bb ob Q mb QA qn qc qes tm Bs (W8.heap.size + 1) WL.heap.size Ds [] WL := by
        refine ⟨cnt, rows, ?_, by simpa using Hcnt.out, Hb8.out.keep hbL, hBm7, hDL, by omega, fun e => ?_⟩
        · have e : (fun t => bkF ms (L.take i) t ++ bkS s (([] : List (Stp ms s)).map (·.1)) t) = bkF ms (L.take i) := by
            funext t
            simp [bkS]
          rw [e]
          exact hSL
        · have := HS8.out.back.lt e
          omega
      have hmbL : mb < WL.heap.size := hSL.q.map.lt
      have hbbL : bb < WL.heap.size := hSL.back.map.lt
      have hobL : ob < WL.heap.size := hSL.out.lt
      have HJ0 := hide hJ0
      have HDL := hide hDL
      have HbL := hide hbL
      have hWr := H.out
      clear hJ0 hDL hSL hBs3 hBw hbL
      refine (wpIn_wide (n := 8)).1 (wpIn_rangeFunc_ownH (w := WL) rfl (by omega) (gf := 145) (lb := #[.pointer (some ⟨W8.heap.size, 0, none⟩), .pointer (some ⟨W8.heap.size + 1, 0, none⟩)]) rfl trivial (enters_of Tryz.func145 (by kernel_rfl) rfl)
        (steps_stops Fence.wide 7 trivial rfl (by omega) W8.heap.size (W8.heap.size + 1) g s0 gl s ms w WL hWr hs32 (HS8.out.low.trans (HbL.out.mono hz8)) cBw cBs) kpS_t (kpS_b (by omega) (by omega)) (Below.refl _ _) (fun _ => rfl)
        (CoJ w gl ms L i s Bp bb ob Q mb QA qn qc qes tm Bs (W8.heap.size + 1) WL.heap.size Ds) (fun _ _ _ => False) (CoJ.own (by omega) hmbL hbbL hobL) (fun _ _ _ _ _ hs _ _ => hs) HJ0.out
        (StpBox (fun bx sv => #[.pointer (some ⟨g, 0, none⟩), .slice (some ⟨bL, oL, none⟩) n c, undef, undef, .map none, .pointer (some ⟨Bp, 0, none⟩), .map (some ob), .pointer (some ⟨Q, 0, none⟩), undef, .pointer (some ⟨Bs, 0, none⟩), bx, undef, undef, undef, undef, undef, .map (some bb), .map (some ob), .pointer (some ⟨Q, 0, none⟩), .slice (some ⟨bL, oL, none⟩) n c, .int .i64 n, .int .i64 i, .bool true, .pointer (some ⟨bL, oL + i, none⟩), .int .u32 s, .map (some ob), .int .u32 s, v27, v28, v29, v30, v31, v32, v33, v34, .pointer (some ⟨g, 0, none⟩), .int .u32 s, .func (.func 145) #[] #[.pointer (some ⟨W8.heap.size, 0, none⟩), .pointer (some ⟨W8.heap.size + 1, 0, none⟩)], sv, u39, u40, u41, u42, u43, u44, u45, u46, u47, u48, u49, u50, u51, u52, undef, undef, undef, undef, undef, undef, undef, undef, undef, undef, undef, undef, undef, undef, undef, undef, undef, undef, undef, undef, undef, undef, undef, undef, undef, undef, undef, undef, undef, undef, undef, undef, undef, undef, undef, undef, undef, undef, undef, undef, undef, undef, undef])) (fun x a' => StpBox.own x a') ?assign ?body ?done ?stop)
      case assign =>
        intro l pre x W K hi hK
        have HK := hide hK
        have Hi := hide hi
        clear hK hi
        obtain ⟨⟨xi, xc, xt⟩, hx⟩ := x
        unfold encStp stpV
        dsimp only
        gi_wp2
        exact HK.out _ _ ((KeepsOthers.alloc _ _).from _) ⟨(Below.refl _ _).alloc (by obtain ⟨_, _, h1, _⟩ := Hi.out; exact h1.low.size) _, Below.heap_alloc _ _ _ (by obtain ⟨_, _, _, _, _, _, _, h6, _⟩ := Hi.out; exact h6)⟩ (Hi.out.keep ((Below.refl _ _).alloc (Nat.le_refl _) _)) ⟨W.heap.size, Blk.new _ _ _, rfl⟩
      case body =>
        rintro l pre ⟨⟨xi, xc, xt⟩, hx⟩ a' W hl ⟨r, hr⟩ ⟨cnt2, rows2, j1, j2, j3, j4, j5, j6, j7⟩ ⟨Bx, hBx, rfl⟩ hlt
        dsimp only at hBx
        obtain ⟨x1, x2, x3, _⟩ := stepsW_ok ms 0 s hs32 H.out.ok _ hx
        dsimp only at x1 x2 x3
        have cX1 := hBx.cell 1
        have cX2 := hBx.cell 2
        have lX := hBx.lt
        have cB := j1.box.cell 0
        have cS := j3.cell 0
        have lS := j3.lt
        have lB := j1.box.lt
        simp only [List.getElem?_cons_zero, List.getElem?_cons_succ] at cX1 cX2 cB cS
        have hlook := fun W' e => j1.back.map.look1 (int_keyed Tryz.underlying78) (T := 185) (E := 194) Tryz.underlying185 zeroArc (keyW Tryz.underlying78 x1) W' e
        obtain ⟨rA, rn, rc, hrow⟩ : ∃ rA rn rc, rowAt rows2 xt = ⟨rA, rn, rc⟩ := ⟨_, _, _, rfl⟩
        simp only [getD_v, hrow, RowH.v, encW] at hlook
        have hlookO := hlook
        have hlook1 := hlook W.drew rfl
        have J1 := hide j1
        have J3 := hide j3
        have J4 := hide j4
        have J5 := hide j5
        have HBx := hide hBx
        clear j1 j3 j4 j5 hBx hlook
        dsimp only [stpV]
        gi_wp2
        refine wpIn_region_held (S := (fun w' => w'.cell? ⟨Bp, 0, none⟩ = some (.map (some bb)) ∧ w'.cell? ⟨Bx, 1, none⟩ = some (.int .i64 xc) ∧ w'.cell? ⟨Bx, 2, none⟩ = some (.int .u32 xt) ∧ w'.cell? ⟨Bs, 0, none⟩ = some (.int .u32 s))) (by kernel_rfl) ?_ ?_ ?_ (fun hHeld => ?_)
        · rintro ⟨_, _, h⟩
          exact h
        · exact calm_all (by kernel_rfl)
        · (try dsimp only); exact ⟨cB, cX1, cX2, cS⟩
        refine takeS (i := 0) (v := ?_) (some 39) rfl rfl (by kernel_rfl) (by kernel_rfl) (by kernel_rfl) (fun _ _ _ h => h) (Or.inl ⟨by rfl, ?_⟩) (by assumption) ?_
        rotate_left
        · intro w hSw; (try dsimp only at hSw); obtain ⟨s1, s2, s3, s4⟩ := hSw; first | (go_simp; done) | (go_simp; with_reducible rfl)
        try simp only [Act.put, List.setIfInBounds_toArray, List.set_cons_zero, List.set_cons_succ]
        refine takeS (i := 1) (v := ?_) (some 40) rfl rfl (by kernel_rfl) (by kernel_rfl) (by kernel_rfl) (fun _ _ _ h => h) (Or.inl ⟨by rfl, ?_⟩) (by assumption) ?_
        rotate_left
        · intro w hSw; (try dsimp only at hSw); obtain ⟨s1, s2, s3, s4⟩ := hSw; first | (go_simp; done) | (go_simp; with_reducible rfl)
        try simp only [Act.put, List.setIfInBounds_toArray, List.set_cons_zero, List.set_cons_succ]
        refine takeS (i := 2) (v := ?_) (some 41) rfl rfl (by kernel_rfl) (by kernel_rfl) (by kernel_rfl) (fun _ _ _ h => h) (Or.inl ⟨by rfl, ?_⟩) (by assumption) ?_
        rotate_left
        · intro w hSw; (try dsimp only at hSw); obtain ⟨s1, s2, s3, s4⟩ := hSw; first | (go_simp; done) | (go_simp; with_reducible rfl)
        try simp only [Act.put, List.setIfInBounds_toArray, List.set_cons_zero, List.set_cons_succ]
        refine takeS (i := 3) (v := ?_) (some 42) rfl rfl (by kernel_rfl) (by kernel_rfl) (by kernel_rfl) (fun _ _ _ h => h) (Or.inl ⟨by rfl, ?_⟩) (by assumption) ?_
        rotate_left
        · intro w hSw; (try dsimp only at hSw); obtain ⟨s1, s2, s3, s4⟩ := hSw; first | (go_simp; done) | (go_simp; with_reducible rfl)
        try simp only [Act.put, List.setIfInBounds_toArray, List.set_cons_zero, List.set_cons_succ]
        refine takeS (i := 4) (v := ?_) (some 43) rfl rfl (by kernel_rfl) (by kernel_rfl) (by kernel_rfl) (fun _ _ _ h => h) (Or.inl ⟨by rfl, ?_⟩) (by assumption) ?_
        rotate_left
        · intro w hSw; (try dsimp only at hSw); obtain ⟨s1, s2, s3, s4⟩ := hSw; first | (go_simp; done) | (go_simp; with_reducible rfl)
        try simp only [Act.put, List.setIfInBounds_toArray, List.set_cons_zero, List.set_cons_succ]
        refine takeS (i := 5) (v := ?_) (some 44) rfl rfl (by kernel_rfl) (by kernel_rfl) (by kernel_rfl) (fun _ _ _ h => h) (Or.inl ⟨by rfl, ?_⟩) (by assumption) ?_
        rotate_left
        · intro w hSw; (try dsimp only at hSw); obtain ⟨s1, s2, s3, s4⟩ := hSw; first | (go_simp; done) | (go_simp; with_reducible rfl)
        try simp only [Act.put, List.setIfInBounds_toArray, List.set_cons_zero, List.set_cons_succ]
        refine takeS (i := 7) (v := ?_) (some 46) rfl rfl (by kernel_rfl) (by kernel_rfl) (by kernel_rfl) (fun _ _ _ h => h) (Or.inl ⟨by rfl, ?_⟩) (by assumption) ?_
        rotate_left
        · intro w hSw; (try dsimp only at hSw); obtain ⟨s1, s2, s3, s4⟩ := hSw; first | (go_simp; done) | (go_simp; with_reducible rfl)
        try simp only [Act.put, List.setIfInBounds_toArray, List.set_cons_zero, List.set_cons_succ]
        refine takeS (i := 8) (v := ?_) (some 47) rfl rfl (by kernel_rfl) (by kernel_rfl) (by kernel_rfl) (fun _ _ _ h => h) (Or.inl ⟨by rfl, ?_⟩) (by assumption) ?_
        rotate_left
        · intro w hSw; (try dsimp only at hSw); obtain ⟨s1, s2, s3, s4⟩ := hSw; first | (go_simp; done) | (go_simp; with_reducible rfl)
        try simp only [Act.put, List.setIfInBounds_toArray, List.set_cons_zero, List.set_cons_succ]
        refine takeS (i := 9) (v := ?_) (some 48) rfl rfl (by kernel_rfl) (by kernel_rfl) (by kernel_rfl) (fun _ _ _ h => h) (Or.inl ⟨by rfl, ?_⟩) (by assumption) ?_
        rotate_left
        · intro w hSw; (try dsimp only at hSw); obtain ⟨s1, s2, s3, s4⟩ := hSw; first | (go_simp; done) | (go_simp; with_reducible rfl)
        try simp only [Act.put, List.setIfInBounds_toArray, List.set_cons_zero, List.set_cons_succ]
        refine takeS (i := 10) (v := ?_) (some 49) rfl rfl (by kernel_rfl) (by kernel_rfl) (by kernel_rfl) (fun _ _ _ h => h) (Or.inl ⟨by rfl, ?_⟩) (by assumption) ?_
        rotate_left
        · intro w hSw; (try dsimp only at hSw); obtain ⟨s1, s2, s3, s4⟩ := hSw; first | (go_simp; done) | (go_simp; with_reducible rfl)
        try simp only [Act.put, List.setIfInBounds_toArray, List.set_cons_zero, List.set_cons_succ]
        obtain ⟨WD, hWD⟩ : ∃ W', W' = W.drew := ⟨_, rfl⟩
        have hbD : Below W.heap.size W WD := by rw [hWD]; exact (Below.refl _ _).drew
        have hJD := J1.out.keep hbD
        have hBsD := J3.out.keep hbD
        have hBxD := HBx.out.keep hbD
        rw [← hWD] at hHeld hlook1 ⊢
        have hzD : WD.heap.size = W.heap.size := by rw [hWD]; rfl
        clear hWD
        obtain ⟨i1, hi1, hy0, hy1, hy2⟩ := info_parts arcInfo
        obtain ⟨vsr, hrw⟩ := hJD.back.at_ xt
        rw [hrow] at hrw
        simp only at hrw
        have hmsl := H.out.few
        have hstl := stepsW_len ms 0 s
        have hprod : i * ms.length ≤ 2000 * 1000 := Nat.mul_le_mul (by omega) hmsl
        have hprod2 : (L.take i).length * ms.length ≤ 2000 * 1000 := Nat.mul_le_mul (by rw [List.length_take]; omega) hmsl
        have hrn : rn ≤ 3000000 := by
          have h1 := hrw.len
          rw [List.length_append] at h1
          have h3 := bkF_len ms xt (L.take i)
          have h4 := bkS_len s (pre.map (·.1)) xt
          rw [List.length_map] at h4
          omega
        have hcb : cnt2 < 1000000000000 := by omega
        have nX : blkA rA ≠ some Bx := row_ne_blk hrw hBxD (by decide)
        have nB : blkA rA ≠ some Bp := fun e => by
          have e2 : BackM bb rows2 Bp := .inr (by
            unfold rowAt at hrow
            cases hr0 : rows2 xt with
            | none => rw [hr0] at hrow; injection hrow with e3; rw [← e3] at e; cases e
            | some r0 => rw [hr0] at hrow; exact ⟨xt, r0, hr0, by rw [show r0 = ⟨rA, rn, rc⟩ from hrow]; exact e⟩)
          exact (hJD.sb _ e2).2.2 rfl
        have nS : blkA rA ≠ some Bs := fun e => J4.out (.inr (by
            unfold rowAt at hrow
            cases hr0 : rows2 xt with
            | none => rw [hr0] at hrow; injection hrow with e3; rw [← e3] at e; cases e
            | some r0 => rw [hr0] at hrow; exact ⟨xt, r0, hr0, by rw [show r0 = ⟨rA, rn, rc⟩ from hrow]; exact e⟩))
        have hlook2 := hlookO (WD.alloc (.cells [Value.int .u32 s, .int .i64 xc].toArray 196)) (by rw [Below.heap_alloc _ _ _ hJD.back.map.lt]; exact hbD.block _ J1.out.back.map.lt)
        have hbaD : Below WD.heap.size WD (WD.alloc (.cells [Value.int .u32 s, .int .i64 xc].toArray 196)) := (Below.refl _ _).alloc (Nat.le_refl _) _
        have cB1 := (hJD.box.keep hbaD).cell 0
        have cX11 := (hBxD.keep hbaD).cell 1
        have cX12 := (hBxD.keep hbaD).cell 2
        have cS1 := (hBsD.keep hbaD).cell 0
        have cBD := hJD.box.cell 0
        have cXD1 := hBxD.cell 1
        have cXD2 := hBxD.cell 2
        have cSD := hBsD.cell 0
        simp only [List.getElem?_cons_zero, List.getElem?_cons_succ] at cB1 cX11 cX12 cS1 cBD cXD1 cXD2 cSD
        have HJD := hide hJD
        have HBsD := hide hBsD
        have HBxD := hide hBxD
        have Hrw := hide hrw
        have Hrow := hide hrow
        have HlowD := hide hJD.low.size
        have Hlook1 := hide hlook1
        have Hlook2 := hide hlook2
        clear hJD hBsD hBxD hrw hrow hlookO hlook1 hlook2 cX1 cX2 cB cS
        refine wpAnyH_ready (rs := [6, 11]) (by kernel_rfl) (by simp) ?_
        refine AllReadyH.cons rfl (fun K hK => ?_) (AllReadyH.cons rfl (fun K hK => ?_) AllReadyH.nil)
        · skip
          have hlk := Hlook1.out
          go_simp
          refine hK.out _ _ ?_ (fun hHeld2 => ?_)
          · (try dsimp only); exact ⟨cBD, cXD1, cXD2, cSD⟩
          clear hK K hHeld
          try simp only [Act.put, List.setIfInBounds_toArray, List.set_cons_zero, List.set_cons_succ]
          have hHeld := hHeld2; clear hHeld2
          clear hlk
          refine wpAnyH_ready (rs := [11]) (by kernel_rfl) (by simp) ?_
          refine AllReadyH.cons rfl (fun K hK => ?_) AllReadyH.nil
          go_simp
          refine hK.out _ _ ?_ (fun hHeld2 => ?_)
          · (try dsimp only); exact ⟨cB1, cX11, cX12, cS1⟩
          clear hK K hHeld
          try simp only [Act.put, List.setIfInBounds_toArray, List.set_cons_zero, List.set_cons_succ]
          have hHeld := hHeld2; clear hHeld2
          refine wpAnyH_ready (rs := [12]) (by kernel_rfl) (by simp) ?_
          refine AllReadyH.cons rfl (fun K hK => ?_) AllReadyH.nil
          refine step_pushS rfl _ _ 194 rfl w.heap.size 196 i1 _ 16 Tryz.underlying194 hi1 hy0 hy1 hy2 rfl (by decide) (A := rA) (n := rn) (c := rc) (by first | rfl | (go_simp; done)) Hrw.out (fun _ _ => trivial) [.int .u32 s, .int .i64 xc] (s, xc) (by intro u hu; simp at hu; rcases hu with hu | hu <;> subst hu <;> rfl) (by first | rfl | (go_simp; done)) (show Firm Enc.arcB (fun _ => True) WD (arcCells (s, xc)) (s, xc) from firm_arc ⟨hs32, x2, x3⟩) (by omega) (by omega) HlowD.out ?_
          intro O6 oc6 w6 hown6 hch6 hat6
          obtain ⟨w7, hput, ⟨cnt7, hc7, hb7⟩, hch7, hM7, hg7⟩ := BackS.push (w2 := w6) HJD.out.back xt (y := (s, xc)) (O := O6) (oc := oc6) hcb x1 (by rw [Hrow.out]; exact hown6.less (M' := fun _ => True) (fun i _ _ => .inl trivial)) (by rw [Hrow.out]; exact hch6) (by rw [Hrow.out]; exact hat6.imp id (fun e => ⟨_, e, by omega⟩))
          have cB6 := (hch6.blk HJD.out.box nB).cell 0
          have cX61 := (hch6.blk HBxD.out nX).cell 1
          have cX62 := (hch6.blk HBxD.out nX).cell 2
          have cS6 := (hch6.blk HBsD.out nS).cell 0
          have mB : ¬ BackM bb rows2 Bp := fun e => (HJD.out.sb _ e).2.2 rfl
          have mX : ¬ BackM bb rows2 Bx := fun e => by
            rcases e with e | ⟨t, r0, hr0, e⟩
            · exact HJD.out.back.map.ne HBxD.out e.symm
            · obtain ⟨vs0, ho0⟩ := HJD.out.back.row t r0 hr0
              exact row_ne_blk ho0 HBxD.out (by decide) e
          have cB7 := (hch7.blk HJD.out.box mB).cell 0
          have cX71 := (hch7.blk HBxD.out mX).cell 1
          have cX72 := (hch7.blk HBxD.out mX).cell 2
          have cS7 := (hch7.blk HBsD.out J4.out).cell 0
          simp only [List.getElem?_cons_zero, List.getElem?_cons_succ] at cB6 cX61 cX62 cS6 cB7 cX71 cX72 cS7
          have hn6 : (rowAt rows2 xt).n = rn := by rw [Hrow.out]
          rw [hn6] at hput
          have hS7 := HJD.out.setB hb7 hch7 hM7
          have HS9 := hide hS7
          have Hch7 := hide hch7
          have HM7 := hide hM7
          clear hown6 hch6 hat6 hb7 hch7 hM7 hg7 hn6 hS7 mB mX
          refine hK.out _ _ ?_ (fun hHeld2 => ?_)
          · (try dsimp only); exact ⟨cB6, cX61, cX62, cS6⟩
          clear hK K hHeld
          try simp only [Act.put, List.setIfInBounds_toArray, List.set_cons_zero, List.set_cons_succ]
          have hHeld := hHeld2; clear hHeld2
          refine wpAnyH_ready (rs := [13]) (by kernel_rfl) (by simp) ?_
          refine AllReadyH.cons rfl (fun K hK => ?_) AllReadyH.nil
          go_simp
          refine hK.out _ _ ?_ (fun hHeld2 => ?_)
          · (try dsimp only); exact ⟨cB7, cX71, cX72, cS7⟩
          clear hK K hHeld
          try simp only [Act.put, List.setIfInBounds_toArray, List.set_cons_zero, List.set_cons_succ]
          have hHeld := hHeld2; clear hHeld2
          refine wpAnyH_done (by kernel_rfl) ?_ _
          exact CoJ.more (x := ⟨(xi, xc, xt), hx⟩) HJD.out HS9.out Hch7.out HM7.out hbD hzD j2 hc7 J3.out J4.out J5.out j6 j7 (by omega)
        · skip
          go_simp
          refine hK.out _ _ ?_ (fun hHeld2 => ?_)
          · (try dsimp only); exact ⟨cB1, cX11, cX12, cS1⟩
          clear hK K hHeld
          try simp only [Act.put, List.setIfInBounds_toArray, List.set_cons_zero, List.set_cons_succ]
          have hHeld := hHeld2; clear hHeld2
          refine wpAnyH_ready (rs := [6]) (by kernel_rfl) (by simp) ?_
          refine AllReadyH.cons rfl (fun K hK => ?_) AllReadyH.nil
          have hlk := Hlook2.out
          go_simp
          refine hK.out _ _ ?_ (fun hHeld2 => ?_)
          · (try dsimp only); exact ⟨cB1, cX11, cX12, cS1⟩
          clear hK K hHeld
          try simp only [Act.put, List.setIfInBounds_toArray, List.set_cons_zero, List.set_cons_succ]
          have hHeld := hHeld2; clear hHeld2
          clear hlk
          refine wpAnyH_ready (rs := [12]) (by kernel_rfl) (by simp) ?_
          refine AllReadyH.cons rfl (fun K hK => ?_) AllReadyH.nil
          refine step_pushS rfl _ _ 194 rfl w.heap.size 196 i1 _ 16 Tryz.underlying194 hi1 hy0 hy1 hy2 rfl (by decide) (A := rA) (n := rn) (c := rc) (by first | rfl | (go_simp; done)) Hrw.out (fun _ _ => trivial) [.int .u32 s, .int .i64 xc] (s, xc) (by intro u hu; simp at hu; rcases hu with hu | hu <;> subst hu <;> rfl) (by first | rfl | (go_simp; done)) (show Firm Enc.arcB (fun _ => True) WD (arcCells (s, xc)) (s, xc) from firm_arc ⟨hs32, x2, x3⟩) (by omega) (by omega) HlowD.out ?_
          intro O6 oc6 w6 hown6 hch6 hat6
          obtain ⟨w7, hput, ⟨cnt7, hc7, hb7⟩, hch7, hM7, hg7⟩ := BackS.push (w2 := w6) HJD.out.back xt (y := (s, xc)) (O := O6) (oc := oc6) hcb x1 (by rw [Hrow.out]; exact hown6.less (M' := fun _ => True) (fun i _ _ => .inl trivial)) (by rw [Hrow.out]; exact hch6) (by rw [Hrow.out]; exact hat6.imp id (fun e => ⟨_, e, by omega⟩))
          have cB6 := (hch6.blk HJD.out.box nB).cell 0
          have cX61 := (hch6.blk HBxD.out nX).cell 1
          have cX62 := (hch6.blk HBxD.out nX).cell 2
          have cS6 := (hch6.blk HBsD.out nS).cell 0
          have mB : ¬ BackM bb rows2 Bp := fun e => (HJD.out.sb _ e).2.2 rfl
          have mX : ¬ BackM bb rows2 Bx := fun e => by
            rcases e with e | ⟨t, r0, hr0, e⟩
            · exact HJD.out.back.map.ne HBxD.out e.symm
            · obtain ⟨vs0, ho0⟩ := HJD.out.back.row t r0 hr0
              exact row_ne_blk ho0 HBxD.out (by decide) e
          have cB7 := (hch7.blk HJD.out.box mB).cell 0
          have cX71 := (hch7.blk HBxD.out mX).cell 1
          have cX72 := (hch7.blk HBxD.out mX).cell 2
          have cS7 := (hch7.blk HBsD.out J4.out).cell 0
          simp only [List.getElem?_cons_zero, List.getElem?_cons_succ] at cB6 cX61 cX62 cS6 cB7 cX71 cX72 cS7
          have hn6 : (rowAt rows2 xt).n = rn := by rw [Hrow.out]
          rw [hn6] at hput
          have hS7 := HJD.out.setB hb7 hch7 hM7
          have HS9 := hide hS7
          have Hch7 := hide hch7
          have HM7 := hide hM7
          clear hown6 hch6 hat6 hb7 hch7 hM7 hg7 hn6 hS7 mB mX
          refine hK.out _ _ ?_ (fun hHeld2 => ?_)
          · (try dsimp only); exact ⟨cB6, cX61, cX62, cS6⟩
          clear hK K hHeld
          try simp only [Act.put, List.setIfInBounds_toArray, List.set_cons_zero, List.set_cons_succ]
          have hHeld := hHeld2; clear hHeld2
          refine wpAnyH_ready (rs := [13]) (by kernel_rfl) (by simp) ?_
          refine AllReadyH.cons rfl (fun K hK => ?_) AllReadyH.nil
          go_simp
          refine hK.out _ _ ?_ (fun hHeld2 => ?_)
          · (try dsimp only); exact ⟨cB7, cX71, cX72, cS7⟩
          clear hK K hHeld
          try simp only [Act.put, List.setIfInBounds_toArray, List.set_cons_zero, List.set_cons_succ]
          have hHeld := hHeld2; clear hHeld2
          refine wpAnyH_done (by kernel_rfl) ?_ _
          exact CoJ.more (x := ⟨(xi, xc, xt), hx⟩) HJD.out HS9.out Hch7.out HM7.out hbD hzD j2 hc7 J3.out J4.out J5.out j6 j7 (by omega)
      case done =>
        intro D ys W hD hys hJy hKD
        obtain ⟨cnt2, rows2, j1, j2, j3, j4, j5, j6, j7⟩ := hJy
        have hbk : (fun t => bkF ms (L.take i) t ++ bkS s (ys.map (·.1)) t) = bkF ms (L.take (i + 1)) := by
          funext t
          rw [hys, htk, bkF_snoc]
        rw [hbk] at j1
        have hyl : ys.length ≤ 1000 := by
          have h1 : (ys.map (·.1)).length = (stepsW 0 ms s).length := by rw [hys]
          rw [List.length_map] at h1
          have h3 := stepsW_len ms 0 s
          have h4 := H.out.few
          omega
        have hDn : (D :: Ds).Nodup := List.nodup_cons.2 ⟨fun hm => by have := (j5 D hm).1; omega, Hdn.out⟩
        have hDm : ∀ E ∈ D :: Ds, w.heap.size ≤ E ∧ W.heap[E]? = some (.deferred (some [])) := fun E hE => by
          rcases List.mem_cons.1 hE with rfl | hE
          · exact ⟨by omega, hKD⟩
          · exact ⟨(HDs.out E hE).1, (j5 E hE).2⟩
        have J1 := hide j1
        have HDn := hide hDn
        have HDm := hide hDm
        have HI := hide (show (cnt2 ≤ (i + 1) * 1000) by omega)
        clear j1 j2 j3 j4 j5 j6 j7 hbk hys hyl hDn hDm hKD
        dsimp only
        go_wp2
        refine Handed.intro (n - (i + 1)) (by omega) (hJ _ _ _ ⟨i + 1, QA, qn, qc, qes, tm, cnt2, rows2, D :: Ds, _, _, _, _, _, _, _, _, _, _, _, _, _, _, _, _, _, _, _, _, _, _, _, _, _, _, _, _, _, _, _, _, _, by omega, rfl, rfl, J1.out, Hkey8.out, HI.out, HDm.out, HDn.out⟩)
      case stop =>
        intro D cc pre W _ _ h _
        exact h.elim
    clear hKr
    have Htail := hide htail
    clear htail
    have hgoal := Goal_ct g s0 gl ms s W7 (H.out.keep HS7.out.low) hs32
    have hmem : s ∈ L.take (i + 1) := by rw [htk]; simp
    have htk' : ∀ x, x ∈ L.take (i + 1) ↔ x ∈ L.take i ∨ x = s := fun x => by rw [htk]; simp
    by_cases hgs : goalW gl s = true
    · rw [hgs] at hgoal
      have Hgoal := hide hgoal
      have hkeyS : key1 gl (L.take (i + 1)) [] ∨ True := .inr trivial
      clear hgoal hkeyS
      go_upto_region 9 with (go_at_call 54; (with_reducible refine Hgoal.out.mono ?_); rintro e w8 ⟨rfl, d8, hd8⟩; have Hd8 := hide hd8; clear hd8)
      have hqt : Below W7.heap.size W7 w8 := by rw [Hd8.out]; exact below_drewN (Below.refl _ _) _
      have hS8 := HS7.out.keep hqt
      obtain ⟨W9, hput9, hS9, hg9, hz9⟩ := hS8.store hs32 (by simp; omega) 0
      rw [if_pos hmem] at hS9
      have hb8 := Hb7.out.keep hqt
      have c8 := hb8.cell 0
      have l8 := hb8.lt
      have hb9 := hb8.grown hg9 (fun e => hBo7 (by injection e))
      have c9 := hb9.cell 0
      have l9 := hb9.lt
      simp only [List.getElem?_cons_zero] at c8 c9
      have hfew9 : qn ≤ 2000 := by
        have := hS9.q.few (l := L.take i) (fun x v hx => by
          rw [Hkey.out x] at hx
          split at hx
          · rename_i hh; exact hh.1
          · cases hx)
        simp at this
        omega
      have hset := QSet_ct w.heap.size Q mb QA qn qc qes tm s 0 W9 hS9.q hs32 (by omega) (by omega) hS9.low.size
      have hD9 : ∀ D ∈ Ds, W9.heap[D]? = some (.deferred (some [])) := fun D hD => by
        have h1 := HD7.out D hD
        have h3 : w8.heap[D]? = some (.deferred (some [])) := (hqt.block D (Array.getElem?_eq_some_iff.1 h1).1).trans h1
        exact (hg9.block D (Array.getElem?_eq_some_iff.1 h3).1 (fun e => by injection e with e; exact hS8.out.mark h3 e)).trans h3
      have hff : updR (updR (fun x => f1 gl x) s infW) s 0 = f1 gl := by
        funext x
        by_cases hx : x = s
        · subst hx; rw [updR_same]; unfold f1; rw [if_pos hgs]
        · rw [updR_other _ _ hx, updR_other _ _ hx]
      have hS9' : CsS w W9 Bp bb ob Q mb QA qn qc qes tm cnt rows (bkF ms (L.take i)) (L.take (i + 1)) (f1 gl) := by rw [← hff]; exact hS9
      have Hset := hide hset
      have HS9 := hide hS9'
      have Hb9 := hide hb9
      have HD9 := hide hD9
      clear hqt hS8 hS9 hS9' hb8 hb9 hset hD9 hff hg9
      go_wp2_with (go_at_call 116; (with_reducible refine Hset.out.mono ?_); rintro e w10 ⟨rfl, A', n', c', es', tm', hq, hch, hM, hky⟩)
      refine Htail.out _ _ _ _ _ _ _ _ w10 A' n' c' es' tm' (HS9.out.setQ hq hch hM) (fun x => ?_) (hch.blk Hb9.out hBq7) (fun D hD => ?_)
      · rw [hky, Hkey.out x]
        by_cases hx : x = s
        · subst hx
          rw [if_pos rfl, if_pos ⟨hmem, hgs⟩]
        · rw [if_neg hx]
          have e : (x ∈ L.take (i + 1) ∧ goalW gl x = true) ↔ (x ∈ L.take i ∧ goalW gl x = true) := by rw [htk']; simp [hx]
          simp only [e]
      · have h1 := HD9.out D hD
        exact (hch.block D (Array.getElem?_eq_some_iff.1 h1).1 (HS9.out.q.mark h1)).trans h1
    · have hgf : goalW gl s = false := by simpa using hgs
      rw [hgf] at hgoal
      have Hgoal := hide hgoal
      clear hgoal
      have hff : updR (fun x => f1 gl x) s infW = f1 gl := by
        funext x
        by_cases hx : x = s
        · subst hx; rw [updR_same]; unfold f1; rw [if_neg hgs]
        · rw [updR_other _ _ hx]
      have HS7' := hide (show CsS w W7 Bp bb ob Q mb QA qn qc qes tm cnt rows (bkF ms (L.take i)) (L.take (i + 1)) (f1 gl) from by rw [← hff]; exact HS7.out)
      clear hff
      go_wp2_with (go_at_call 54; (with_reducible refine Hgoal.out.mono ?_); rintro e w8 ⟨rfl, d8, hd8⟩; have Hd8 := hide hd8; clear hd8)
      have hqt : Below W7.heap.size W7 w8 := by rw [Hd8.out]; exact below_drewN (Below.refl _ _) _
      refine Htail.out _ _ _ _ _ _ _ _ w8 QA qn qc qes tm (HS7'.out.keep hqt) (fun x => ?_) (Hb7.out.keep hqt) (fun D hD => ?_)
      · rw [Hkey.out x]
        have e : (x ∈ L.take (i + 1) ∧ goalW gl x = true) ↔ (x ∈ L.take i ∧ goalW gl x = true) := by
          rw [htk']
          constructor
          · rintro ⟨h1 | rfl, h3⟩
            · exact ⟨h1, h3⟩
            · exact absurd h3 hgs
          · rintro ⟨h1, h3⟩
            exact ⟨.inl h1, h3⟩
        simp only [e]
      · have h1 := HD7.out D hD
        exact (hqt.block D (Array.getElem?_eq_some_iff.1 h1).1).trans h1
  · obtain rfl : i = n := by omega
    have hLt : L.take i = L := List.take_of_length_le (by omega)
    have hS := HS.out
    have hkey := Hkey.out
    rw [hLt] at hS hkey
    have hsx : ∀ x ∈ L, f1 gl x = (fun x => if x ∈ L then f1 gl x else infW) x := fun x hx => by simp only [if_pos hx]
    have hS2 := hS.extF hsx
    have hV : CoV L qes (fun x => if x ∈ L then f1 gl x else infW) := ⟨fun x hx => by simp only [if_neg hx], fun x v hx => by
      rw [hkey x] at hx
      split at hx
      · rename_i hh
        injection hx with hx
        subst hx
        refine ⟨hh.1, ?_, by decide⟩
        simp only [if_pos hh.1]
        unfold f1
        rw [if_pos hh.2]
      · cases hx⟩
    have hG : Going (arcL ms L) (goalW gl) infW (· ∈ L) (fun x => if x ∈ L then f1 gl x else infW) (fun x => (keyE qes x).isSome = true) := by
      refine ⟨fun x hx => ?_, fun x hx => ?_, fun x hx hg => ?_, fun x t c hx ha hf hq => ?_, fun x hx hf => ?_⟩
      · simp only [if_pos hx]; unfold f1 infW; split <;> omega
      · simp only [if_pos hx]; unfold f1 infW; split <;> omega
      · simp only [if_pos hx]; unfold f1; rw [if_pos hg]
      · exfalso
        refine hq ?_
        by_cases ht : t ∈ L
        · simp only [if_pos ht] at hf
          unfold f1 at hf
          split at hf
          · rename_i hg; rw [hkey t, if_pos ⟨ht, hg⟩]; rfl
          · omega
        · simp only [if_neg ht] at hf
          omega
      · simp only [if_pos hx] at hf ⊢
        unfold f1 at hf ⊢
        split at hf
        · rename_i hg; rw [if_pos hg]; exact .here hg
        · omega
    have HS2 := hide hS2
    have HV := hide hV
    have HG := hide hG
    clear hS hkey hsx hS2 hV hG
    generalize (fun x => if x ∈ L then f1 gl x else infW) = f0 at HS2 HV HG
    clear HS Hkey Hcnt hJ
    go_wp2
    refine wp_loop_ghost_k (CoK w g gl ms A i c L Bp bb ob Q mb) (sumF L f0 * (i + 1) + qn) ⟨QA, qn, qc, qes, tm, cnt, rows, f0, Ds, _, _, _, _, _, _, _, _, _, _, _, _, _, _, _, _, _, _, _, _, _, _, _, _, _, _, _, _, _, _, _, _, _, _, _, _, _, _, _, _, _, _, _, _, _, _, _, _, _, _, _, _, _, _, _, _, _, _, _, _, _, _, _, _, _, _, _, _, _, _, _, _, _, _, _, _, _, _, _, rfl, rfl, HS2.out, HV.out, HG.out, HDs.out, Hdn.out⟩ ?_
    clear HS2 HV HG HDs Hdn
    intro k a wr hI J2 K2 hJ2 hK2
    obtain ⟨QA, qn, qc, qes, tm, cnt, rows, f, Ds, u9, u10, u22, u23, u24, u25, u26, u27, u28, u29, u30, u31, u32, u33, u34, u35, u36, u37, u38, u39, u40, u41, u42, u43, u44, u45, u46, u47, u48, u49, u50, u51, u52, u11, u12, u13, u15, u53, u54, u55, u56, u57, u58, u59, u60, u61, u62, u63, u64, u65, u66, u67, u68, u69, u70, u71, u72, u73, u74, u75, u76, u77, u78, u79, u80, u81, u82, u83, u84, u85, u86, u87, u88, u89, u90, u91, u92, u93, u94, rfl, rfl, hS, hV, hG, hDs, hdn⟩ := hI
    cases qn with
    | zero =>
      have hlen0 := QLen_ct w.heap.size Q mb QA 0 qc qes tm wr hS.q
      have Hlen0 := hide hlen0
      have hnone : ∀ t, ¬ ((keyE qes t).isSome = true) := fun t => by
        have : qes = [] := List.eq_nil_of_length_eq_zero hS.q.heap.len
        rw [this]
        simp [keyE]
      have HF := hide (hG.done hnone)
      have HS := hide hS
      have HDs := hide hDs
      have Hdn := hide hdn
      clear hlen0 hnone hS hV hG hDs hdn
      go_wp2_with (go_at_call 118; (with_reducible refine Hlen0.out.mono ?_); rintro e w' ⟨rfl, rfl⟩)
      refine leaves_marks Ds _ (fun D hD => (HDs.out D hD).2) Hdn.out fun W' hc => ?_
      refine ⟨.map (some ob), by simp [results, Tryz.results74, go_sem], ?_⟩
      refine ⟨HS.out.low.trans (hc.below (fun i hi => (HDs.out i hi).1) HS.out.low.size), ob, f, rfl, HS.out.so.1, HS.out.out.chg hc (fun hm => HS.out.out.mark (HDs.out ob hm).2 rfl), HF.out.arcs⟩
    | succ m =>
      have hlen0 := QLen_ct w.heap.size Q mb QA (m + 1) qc qes tm wr hS.q
      have htake := QTake_ct w.heap.size Q mb QA m qc qes tm wr hS.q
      have Hlen0 := hide hlen0
      have Htake := hide htake
      have HS := hide hS
      have HV := hide hV
      have HG := hide hG
      have HDs := hide hDs
      have Hdn := hide hdn
      have hmf : m ≤ 1000000 := by have := hS.q.heap.few; omega
      clear hlen0 htake hS hV hG hDs hdn
      go_upto_region 17 with (first
        | (go_at_call 118; (with_reducible refine Hlen0.out.mono ?_); rintro e w' ⟨rfl, rfl⟩)
        | (go_at_call 119; (with_reducible refine Htake.out.mono ?_); rintro e w2 ⟨t, d, qes2, tm2, rfl, ht32, hd1, hd2, hkt, hq2, hch2, hM2, hky2⟩; have Hkt := hide hkt; have Hq2 := hide hq2; have Hch2 := hide hch2; have HM2 := hide hM2; have Hky2 := hide hky2; clear hkt hq2 hch2 hM2 hky2))
      have hS2 := HS.out.setQ Hq2.out Hch2.out (fun b hb => .inl (HM2.out b hb))
      obtain ⟨htL, hdf, hdi⟩ := HV.out.keys t d Hkt.out
      have hV2 : CoV L qes2 f := ⟨HV.out.out, fun x v hx => by
        rw [Hky2.out] at hx
        split at hx
        · cases hx
        · exact HV.out.keys x v hx⟩
      have hG2 : Round (arcL ms L) (goalW gl) infW (· ∈ L) f (fun x => (keyE qes2 x).isSome = true) t (f t) (fun a c => (a, c) ∈ (bkF ms L t).drop 0) := HG.out.take (by rw [← hdf]; exact hdi) (fun u => by
        rw [Hky2.out]
        by_cases hu : u = t
        · simp [hu]
        · simp [hu]) (fun a c ha => by
        rw [List.drop_zero, bkF_mem]
        exact ⟨ha.1, (stepsW_arc ms 0 a t c).2 ha.2⟩)
      rw [← hdf] at hG2
      have hDs2 : ∀ D ∈ Ds, w.heap.size ≤ D ∧ w2.heap[D]? = some (.deferred (some [])) := fun D hD => by
        have h1 := (HDs.out D hD).2
        exact ⟨(HDs.out D hD).1, (Hch2.out.block D (Array.getElem?_eq_some_iff.1 h1).1 (HS.out.q.mark h1)).trans h1⟩
      have HS2 := hide hS2
      have HV2 := hide hV2
      have HG2 := hide hG2
      have HDs2 := hide hDs2
      have hlook := hS2.back.map.look1 (int_keyed Tryz.underlying78) (T := 185) (E := 194) Tryz.underlying185 zeroArc (keyW Tryz.underlying78 ht32) w2 rfl
      obtain ⟨rA, rn, rc, hrow⟩ : ∃ rA rn rc, rowAt rows t = ⟨rA, rn, rc⟩ := ⟨_, _, _, rfl⟩
      simp only [getD_v, hrow, RowH.v, encW] at hlook
      have cB := hS2.box.cell 0
      have lB := hS2.box.lt
      simp only [List.getElem?_cons_zero] at cB
      have hd0 : 0 ≤ d := by rw [hdf]; exact HG.out.low t htL
      have Hdf := hide hdf
      have Hrow := hide hrow
      clear hS2 hV2 hG2 hDs2 hrow Hq2 Hch2 HM2 Hky2 HS HV HG HDs hdf Hkt Htake Hlen0
      go_wp2
      obtain ⟨S0, hS0⟩ : ∃ S0, S0 = sumF L f * (i + 1) + (m + 1) := ⟨_, rfl⟩
      have HS0 := hide hS0
      clear hS0 hlook cB lB
      refine wp_loop_ghost_k (CoL w g gl ms A i c L Bp bb ob Q mb t d rA rn rc cnt rows Ds S0) rn ⟨0, QA, m, qc, qes2, tm2, f, _, _, _, _, _, _, _, _, _, _, _, _, _, _, _, _, _, _, _, _, _, _, _, _, _, _, _, _, _, _, _, _, _, _, _, _, _, _, _, _, _, _, _, _, _, _, _, _, _, _, _, _, _, _, _, _, _, _, _, _, _, _, _, _, _, _, _, _, _, _, _, Nat.zero_le _, rfl, rfl, HS2.out, HV2.out, HG2.out, by rw [HS0.out]; omega, HDs2.out⟩ ?_
      clear HS2 HV2 HG2 HDs2 hmf
      intro k a wr hI J3 K3 hJ3 hK3
      obtain ⟨j, QA, qn, qc, qes, tm, f, u9, u10, u22, u23, u24, u25, u26, u27, u28, u29, u30, u31, u32, u33, u34, u35, u36, u37, u38, u39, u40, u41, u42, u43, u44, u45, u46, u47, u48, u49, u50, u51, u52, u15, u53, u54, u55, u56, u57, u58, u59, u60, u61, u67, u68, u69, u70, u71, u72, u73, u74, u75, u76, u77, u78, u79, u80, u81, u82, u83, u84, u85, u86, u87, u88, u89, u90, u91, u92, u93, u94, hj, rfl, rfl, hS, hV, hR, hM0, hDs⟩ := hI
      obtain ⟨vsr, hrw⟩ := hS.back.at_ t
      rw [Hrow.out] at hrw
      simp only at hrw
      have hbl := hrw.len
      have hrd := hrw.rd
      have hrlow := hrd.low
      by_cases hjr : j < rn
      · obtain ⟨b, off, ⟨a, ca⟩, rfl, hget, ⟨ha32, hca0, hca1⟩, r0, r1⟩ := hrd.arcB hjr
        dsimp only at ha32 hca0 hca1 r0 r1
        have hmem : (a, ca) ∈ bkF ms L t := List.mem_of_getElem? hget
        obtain ⟨haL, hst⟩ := bkF_mem.1 hmem
        have harc : arcL ms L a t ca := ⟨haL, (stepsW_arc ms 0 a t ca).1 hst⟩
        have hdrop : (bkF ms L t).drop j = (a, ca) :: (bkF ms L t).drop (j + 1) := by
          obtain ⟨h1, h3⟩ := List.getElem?_eq_some_iff.1 hget
          rw [List.drop_eq_getElem_cons h1, h3]
        have hleft : ∀ x k, (x, k) ∈ (bkF ms L t).drop j → (x, k) ∈ (bkF ms L t).drop (j + 1) ∨ (x = a ∧ k = ca) := fun x k hx => by
          rw [hdrop] at hx
          rcases List.mem_cons.1 hx with e | hx
          · injection e with e1 e2
            exact .inr ⟨e1, e2⟩
          · exact .inl hx
        have hba := (Below.refl wr.heap.size wr).alloc (Nat.le_refl _) (.cells [Value.int .u32 a, .int .i64 ca].toArray 196)
        have hbx := Blk.new wr 196 [.int .u32 a, .int .i64 ca]
        obtain ⟨W1, hW1⟩ : ∃ W, W = wr.alloc (.cells [Value.int .u32 a, .int .i64 ca].toArray 196) := ⟨_, rfl⟩
        obtain ⟨Ba, hBa⟩ : ∃ B, B = wr.heap.size := ⟨_, rfl⟩
        rw [← hW1] at hba
        rw [← hW1, ← hBa] at hbx
        have hS1 := hS.keep hba
        have hfa0 := hR.low a haL
        have hfai := hR.high a haL
        have hdi := hR.fin
        have hlk := hS1.out.look1 (int_keyed Tryz.underlying78) (T := 103) (E := 3) Tryz.underlying103 zeroInt (keyW Tryz.underlying78 ha32) W1 rfl
        have ho : outM L f a = some (.int .i64 (f a)) := by unfold outM; rw [if_pos haL]
        rw [ho] at hlk
        simp only [Option.getD_some, encW] at hlk
        have b0 := hbx.cell 0
        have b1 := hbx.cell 1
        have bl := hbx.lt
        have hBo : Ba ≠ ob := fun e => by have := hS.out.lt; omega
        have hBq : ¬ QueueM Q mb QA qes Ba := fun e => by have := hS.q.lt e; omega
        simp only [List.getElem?_cons_zero, List.getElem?_cons_succ] at b0 b1
        have hDs1 : ∀ D ∈ Ds, w.heap.size ≤ D ∧ W1.heap[D]? = some (.deferred (some [])) := fun D hD => ⟨(hDs D hD).1, (hba.block D (Array.getElem?_eq_some_iff.1 (hDs D hD).2).1).trans (hDs D hD).2⟩
        have HW1 := hide hW1
        have HBa := hide hBa
        have HS1 := hide hS1
        have HV := hide hV
        have HR := hide hR
        have HM0 := hide hM0
        have HDs1 := hide hDs1
        have Hleft := hide hleft
        have Hbx := hide hbx
        have Harc := hide harc
        have HaL := hide haL
        unfold infW at hdi hfai
        clear hW1 hBa hS hV hR hM0 hDs hrw hbl hrd hget hmem hst hdrop hba hS1 ho hDs1 hleft hbx harc haL
        go_upto_region 20 with (fail)
        change Code.wp _ _ _ _ (wr.alloc (.cells [Value.int .u32 a, .int .i64 ca].toArray 196))
        rw [← HW1.out, ← HBa.out]
        generalize hfv : f a = fa at hlk hfa0 hfai
        have Hfv := hide hfv
        clear hfv r0 r1
        by_cases hlow : d + ca < fa
        · obtain ⟨W2, hput, hS2, hg2, hz2⟩ := HS1.out.store ha32 (by omega) (d + ca)
          rw [if_pos HaL.out] at hS2
          have hb2 := Hbx.out.grown hg2 (fun e => hBo (by injection e))
          have e0 := hb2.cell 0
          have e1 := hb2.cell 1
          have el := hb2.lt
          simp only [List.getElem?_cons_zero, List.getElem?_cons_succ] at e0 e1
          have hqn : ∀ (W : World) (QA : Option Addr) (qn qc : Nat) (qes : List En) (tm : Int) (f : Nat → Int), QueueS w.heap.size W Q mb QA qn qc qes tm → CoV L qes f → qn ≤ i := fun _ _ _ _ _ _ _ h hv => by
            have := h.few (l := L) (fun x v hx => (hv.keys x v hx).1)
            omega
          have hqn0 := hqn _ _ _ _ _ _ _ hS2.q HV.out
          have hset := QSet_ct w.heap.size Q mb QA qn qc qes tm a (d + ca) W2 hS2.q ha32 (by omega) (by omega) hS2.low.size
          have hD2 : ∀ D ∈ Ds, w.heap.size ≤ D ∧ W2.heap[D]? = some (.deferred (some [])) := fun D hD => by
            have h1 := (HDs1.out D hD).2
            exact ⟨(HDs1.out D hD).1, (hg2.block D (Array.getElem?_eq_some_iff.1 h1).1 (fun e => by injection e with e; exact HS1.out.out.mark h1 e)).trans h1⟩
          have Hset := hide hset
          have HS2 := hide hS2
          have HD2 := hide hD2
          have Hqn := hide hqn
          clear hS2 hb2 hset hD2 hg2 hqn
          go_wp2_with (go_at_call 116; (with_reducible refine Hset.out.mono ?_); rintro e w10 ⟨rfl, A', n', c', es', tm', hq, hch, hM, hky⟩; have Hq := hide hq; have Hch := hide hch; have HM := hide hM; have Hky := hide hky; clear hq hch hM hky)
          have hV' := HV.out.lower HaL.out (v := d + ca) (by unfold infW; omega) Hky.out
          have hfv := Hfv.out
          have hle : ∀ x ∈ L, updR f a (d + ca) x ≤ f x := fun x hx => by
            by_cases e : x = a
            · subst e; rw [updR_same]; omega
            · rw [updR_other _ _ e]; exact Int.le_refl _
          have hsum := sumF_lt hle HaL.out (by rw [updR_same]; omega) (by rw [updR_same]; omega)
          have hn' := Hqn.out _ _ _ _ _ _ _ Hq.out hV'
          have hmul : (sumF L (updR f a (d + ca)) + 1) * (i + 1) ≤ sumF L f * (i + 1) := Nat.mul_le_mul_right _ hsum
          rw [Nat.add_mul, Nat.one_mul] at hmul
          have hM0 := HM0.out
          refine Handed.intro (rn - (j + 1)) (by omega) (hJ3 _ _ _ ⟨j + 1, A', n', c', es', tm', updR f a (d + ca), _, _, _, _, _, _, _, _, _, _, _, _, _, _, _, _, _, _, _, _, _, _, _, _, _, _, _, _, _, _, _, _, _, _, _, _, _, _, _, _, _, _, _, _, _, _, _, _, _, _, _, _, _, _, _, _, _, _, _, _, _, _, _, _, _, _, _, _, _, _, _, by omega, rfl, rfl, HS2.out.setQ Hq.out Hch.out HM.out, hV', HR.out.lower hca0 htL Harc.out (by omega) (fun u => rfl) (fun u => ?_) HaL.out Hleft.out, by omega, fun D hD => ⟨(HD2.out D hD).1, ?_⟩⟩)
          · rw [Hky.out]
            by_cases hu : u = a
            · simp [hu]
            · simp [hu]
          · have h1 := (HD2.out D hD).2
            exact (Hch.out.block D (Array.getElem?_eq_some_iff.1 h1).1 (HS2.out.q.mark h1)).trans h1
        · go_wp2
          have hfv := Hfv.out
          exact Handed.intro (rn - (j + 1)) (by omega) (hJ3 _ _ _ ⟨j + 1, QA, qn, qc, qes, tm, f, _, _, _, _, _, _, _, _, _, _, _, _, _, _, _, _, _, _, _, _, _, _, _, _, _, _, _, _, _, _, _, _, _, _, _, _, _, _, _, _, _, _, _, _, _, _, _, _, _, _, _, _, _, _, _, _, _, _, _, _, _, _, _, _, _, _, _, _, _, _, _, by omega, rfl, rfl, HS1.out, HV.out, HR.out.pass (by omega) Hleft.out, HM0.out, HDs1.out⟩)
      · have HS := hide hS
        have HV := hide hV
        have HM0 := hide hM0
        have HDs := hide hDs
        have HR := hide (hR.done (fun x k hx => by rw [List.drop_of_length_le (by omega)] at hx; cases hx))
        clear hS hV hR hM0 hDs hrw hbl hrd
        go_wp2
        exact Handed.intro (sumF L f * (i + 1) + qn) (by have := HM0.out; have := HS0.out; omega) (hJ2 _ _ _ ⟨QA, qn, qc, qes, tm, cnt, rows, f, Ds, _, _, _, _, _, _, _, _, _, _, _, _, _, _, _, _, _, _, _, _, _, _, _, _, _, _, _, _, _, _, _, _, _, _, _, _, _, _, _, _, _, _, _, _, _, _, _, _, _, _, _, _, _, _, _, _, _, _, _, _, _, _, _, _, _, _, _, _, _, _, _, _, _, _, _, _, _, _, _, rfl, rfl, HS.out, HV.out, HR.out, HDs.out, Hdn.out⟩)
end Go.Proofs.YtmjiiddncbhgpaaGreat
