/- What the laws of lowerbound ask for, part 31: Lo9 Lx La29 Lb2 La41. -/
import Derived.Test.YtliggcmohcdchaaU1
import Derived.Test.YtliggcmohcdchaaU2
import Derived.Test.YtliggcmohcdchaaU3
import Derived.Test.YtliggcmohcdchaaU4
import Derived.Test.YtliggcmohcdchaaU5
import Derived.Test.YtliggcmohcdchaaU6
import Derived.Test.YtliggcmohcdchaaU7
import Derived.Test.YtliggcmohcdchaaU8
import Derived.Test.YtliggcmohcdchaaU9
import Derived.Test.YtliggcmohcdchaaU10
import Derived.Test.YtliggcmohcdchaaU11
import Derived.Test.YtliggcmohcdchaaU12
import Derived.Test.YtliggcmohcdchaaU13
import Derived.Test.YtliggcmohcdchaaU14
import Derived.Test.YtliggcmohcdchaaU15
import Derived.Test.YtliggcmohcdchaaU16
import Derived.Test.YtliggcmohcdchaaU17
import Derived.Test.YtliggcmohcdchaaU18
import Derived.Test.YtliggcmohcdchaaU19
import Derived.Test.YtliggcmohcdchaaU20
import Derived.Test.YtliggcmohcdchaaU21
import Derived.Test.YtliggcmohcdchaaU22
import Derived.Test.YtliggcmohcdchaaU23
import Derived.Test.YtliggcmohcdchaaU24
import Derived.Test.YtliggcmohcdchaaU25
import Derived.Test.YtliggcmohcdchaaU26
import Derived.Test.YtliggcmohcdchaaU27
import Derived.Test.YtliggcmohcdchaaU28
import Derived.Test.YtliggcmohcdchaaU29
import Derived.Test.YtliggcmohcdchaaU30
import Derived.BigQuiet
import Derived.BigRegion
import Derived.Deep.AppendLies
import Derived.Deep.DeepCutAuto
import Derived.Deep.Draws
import Derived.Deep.Fields
import Derived.Deep.LoopGhost
import Derived.Deep.QuietTactic
import Derived.Deep.RegionHeld3
import Derived.Deep.Slices
import Derived.DeepKeys4
import Derived.Ground.Names2Prog
import Derived.Ground.SlgnProg
import Derived.Ground.SlsfProg
import Derived.IntWalk
import Derived.Laws.AppendOwnNone
import Derived.Laws.BitsAllLaws
import Derived.Laws.EntriesVeiled
import Derived.Laws.OwnMore
import Derived.Lib.Hide
import Derived.Lib.SlicesCompact
import Derived.LoopIn
import Derived.LoopNIn
import Derived.Maps.AppendAt
import Derived.Maps.OwnIn
import Derived.Maps.OwnOps
import Derived.Maps.OwnSet
import Derived.OrdersHeld
import Derived.OrdersIn
import Derived.OwnWalkIn
import Derived.RangeFuncBound
import Derived.RangeFuncCalls
import Derived.RangeFuncLeaves
import Derived.RangeFuncNested
import Derived.Shelf.Abstract
import Derived.Shelf.RegionOpen
import Derived.Shelf.SlSortCmp.Whole1
import Derived.Shelf.Slices.Cells
import Derived.Shelf.Slices.Clone
import Derived.Shelf.Slices.CompactI
import Derived.Shelf.Slices.Empties
import Derived.Shelf.Slices.In.SortNone
import Derived.Shelf.Slices.SearchI
import Derived.Shelf.Sort.Plain
import Derived.Sort.OwnSortedInts
import Derived.StillTail
import Derived.StillTailTactics
import Derived.TacticsInMore
import Derived.Test.YtliggcmohcdchaaProg
import Derived.WalkKit
namespace Go.Proofs.Ytliggcmohcdchaa
set_option linter.unusedVariables false
set_option linter.unusedSimpArgs false
open Go.RowKit Go.Maps
/-- the table of least costs -/
def mkTab (l : List Nat) (f : Nat → Int) : List Ent := (l.filter fun s => decide (0 < f s)).map fun s => ⟨factsF s, f s⟩
def MakeP (w : World) (T : Tsk) (e : Ending) (w' : World) : Prop :=
  Below w.heap.size w w' ∧ (((taskFault T).1 ≠ 0 ∧ e = .returned (.tuple #[.slice none 0 0, .int .i64 0, fault (taskFault T).1 (taskFault T).2])) ∨
    ((taskFault T).1 = 0 ∧ TooMany T ∧ e = .returned (.tuple #[.slice none 0 0, .int .i64 0, fault 10 (-7)])) ∨
    ((taskFault T).1 = 0 ∧ ∃ (l : List Nat) (f : Nat → Int) (A : Option Addr) (c : Nat), CostsOf T l f ∧ e = .returned (.tuple #[.slice A (mkTab l f).length c, .int .i64 (f (wordF T.init)), fault 0 0]) ∧ Rd Enc.ent w' A (mkTab l f).length c (mkTab l f)))
theorem mkTab_take {l : List Nat} {f : Nat → Int} {k s : Nat} (h : l[k]? = some s) : mkTab (l.take (k + 1)) f = mkTab (l.take k) f ++ (if 0 < f s then [⟨factsF s, f s⟩] else []) := by
  unfold mkTab
  rw [filter_take h, List.map_append]
  by_cases hp : 0 < f s
  · simp [hp]
  · simp [hp]
theorem mkTab_len (l : List Nat) (f : Nat → Int) : (mkTab l f).length ≤ l.length := by
  unfold mkTab
  rw [List.length_map]
  exact List.length_filter_le _ _
theorem ints_word (s : Nat) : ∀ x ∈ factsF s, -9223372036854775808 ≤ x ∧ x ≤ 9223372036854775807 := fun x hx => by
  have := facts_mem.1 hx
  omega
set_option maxRecDepth 100000 in
set_option maxHeartbeats 6400000 in
theorem Make_ct (a : TA) (T : Tsk) (w : World) (h : TkR w a T) :
    Calls Try.prog 21 #[.agg #[.int .i64 T.facts, .slice a.I a.nI a.cI, .slice a.G a.nG a.cG, .slice a.O a.nO a.cO]] w (MakeP w T) := by
  obtain ⟨i1, hi1, hy0, hy1, hy2⟩ := info_parts entInfo
  have hck := fun W hW => Checked_ct a T W hW
  obtain ⟨I, nI, cI, G, nG, cG, O, nO, cO⟩ := a
  simp only at hck ⊢
  unfold CheckedP at hck
  rcases hq : taskFault T with ⟨ec, ei⟩
  rw [hq] at hck
  have H := hide h
  have Hck := hide hck
  have Hq := hide hq
  clear h hq hck
  have Hbl := hide (Below.refl w.heap.size w)
  go_enter Try.func21, Try.ntmps21
  go_upto_region 1 with (fail)
  obtain ⟨B0, hB0⟩ : ∃ B0, B0 = w.heap.size := ⟨_, rfl⟩
  have HB0 := hide hB0
  clear hB0
  have s_0 : B0 ≤ w.heap.size := Nat.le_trans (Nat.le_of_eq HB0.out) Hbl.out.size
  have hyt := Blk.new (w) 25 [.int .i64 T.facts, .slice I nI cI, .slice G nG cG, .slice O nO cO]
  have hyf := Blk.new ((w).alloc (.cells #[.int .i64 T.facts, .slice I nI cI, .slice G nG cG, .slice O nO cO] 25)) 29 [.int .i64 0, .int .i64 0]
  replace hyt := hyt.alloc (.cells #[.int .i64 0, .int .i64 0] 29)
  have hbW := below_two w (.cells #[.int .i64 T.facts, .slice I nI cI, .slice G nG cG, .slice O nO cO] 25) (.cells #[.int .i64 0, .int .i64 0] 29)
  simp only [World.size_alloc] at hyf
  obtain ⟨w0, hW⟩ : ∃ W, W = ((w).alloc (.cells #[.int .i64 T.facts, .slice I nI cI, .slice G nG cG, .slice O nO cO] 25)).alloc (.cells #[.int .i64 0, .int .i64 0] 29) := ⟨_, rfl⟩
  rw [← hW] at hyt hyf hbW ⊢
  replace Hbl := hide (Hbl.out.trans (hbW.mono Hbl.out.size))
  have Ht := hide hyt
  have Hf := hide hyf
  clear hW hbW hyt hyf
  generalize w.heap.size = gT at Ht Hf s_0 ⊢
  have t0 := Ht.out.cell 0
  have t1 := Ht.out.cell 1
  have t2 := Ht.out.cell 2
  have t3 := Ht.out.cell 3
  have tl := Ht.out.lt
  have f0 := Hf.out.cell 0
  have f1 := Hf.out.cell 1
  have fl := Hf.out.lt
  simp only [List.getElem?_cons_zero, List.getElem?_cons_succ] at t0 t1 t2 t3 f0 f1
  have a_t : B0 ≤ gT := by omega
  have a_f : B0 ≤ gT + 1 := by omega
  clear s_0
  have n_t_f : ¬ gT = gT + 1 := by omega
  have n_f_t : ¬ gT + 1 = gT := by omega
  go_wp2_with fail
  with_reducible refine (Hck.out w0 (H.out.keep Hbl.out)).mono ?_
  rintro e w1 ⟨hb, hor⟩
  have Hb01 := hide hb
  clear t0 t1 t2 t3 f0 f1 tl fl
  replace Ht := hide (Ht.out.keep hb)
  replace Hf := hide (Hf.out.keep hb)
  replace Hbl := hide (Hbl.out.trans (hb.mono Hbl.out.size))
  clear hb
  have t0 := Ht.out.cell 0
  have t1 := Ht.out.cell 1
  have t2 := Ht.out.cell 2
  have t3 := Ht.out.cell 3
  have tl := Ht.out.lt
  have f0 := Hf.out.cell 0
  have f1 := Hf.out.cell 1
  have fl := Hf.out.lt
  simp only [List.getElem?_cons_zero, List.getElem?_cons_succ] at t0 t1 t2 t3 f0 f1
  rcases hor with ⟨h1, rfl⟩ | ⟨h1, hmany, rfl⟩ | ⟨h1, g, A, c, L, rfl, hgl, hgh, hW, hrow, hlist⟩
  · skip
    skip
    unfold fault
    go_upto_region 2 with (fail)
    have n_t_p : ¬ gT = w1.heap.size := by omega
    have n_p_t : ¬ w1.heap.size = gT := by omega
    have n_f_p : ¬ gT + 1 = w1.heap.size := by omega
    have n_p_f : ¬ w1.heap.size = gT + 1 := by omega
    have s_t : gT < w1.heap.size := tl
    have s_f : gT + 1 < w1.heap.size := fl
    have s_0 : B0 ≤ w1.heap.size := Nat.le_trans (Nat.le_of_eq HB0.out) Hbl.out.size
    have hyp := Blk.new (w1) 29 [.int .i64 ec, .int .i64 ei]
    have hbW : Below (w1).heap.size (w1) ((w1).alloc (.cells #[.int .i64 ec, .int .i64 ei] 29)) := (Below.refl _ _).alloc (Nat.le_refl _) _
    obtain ⟨w2, hW⟩ : ∃ W, W = (w1).alloc (.cells #[.int .i64 ec, .int .i64 ei] 29) := ⟨_, rfl⟩
    rw [← hW] at hyp hbW ⊢
    replace Ht := hide (Ht.out.keep hbW)
    replace Hf := hide (Hf.out.keep hbW)
    replace Hbl := hide (Hbl.out.trans (hbW.mono Hbl.out.size))
    have Hp := hide hyp
    clear hW hbW hyp
    generalize w1.heap.size = gp at Hp n_t_p n_p_t n_f_p n_p_f s_t s_f s_0 ⊢
    have t0 := Ht.out.cell 0
    have t1 := Ht.out.cell 1
    have t2 := Ht.out.cell 2
    have t3 := Ht.out.cell 3
    have tl := Ht.out.lt
    have f0 := Hf.out.cell 0
    have f1 := Hf.out.cell 1
    have fl := Hf.out.lt
    have p0 := Hp.out.cell 0
    have p1 := Hp.out.cell 1
    have pl := Hp.out.lt
    simp only [List.getElem?_cons_zero, List.getElem?_cons_succ] at t0 t1 t2 t3 f0 f1 p0 p1
    clear s_t
    clear s_f
    have a_p : B0 ≤ gp := by omega
    clear s_0
    have ff0 := Hf.out.frozen 0
    have ff1 := Hf.out.frozen 1
    go_upto_region 3 with (fail)
    go_region
    all_goals go_wp2_with fail
    all_goals refine bodyPost_ret (v := .tuple #[.slice none 0 0, .int .i64 0, fault ec ei]) (by simp [results, Try.results21, go_sem, fault, f0, f1, fl]) rfl ?_
    have hbx := HB0.out
    refine ⟨?_, .inl ⟨by rw [Hq.out]; exact h1, by rw [Hq.out]⟩⟩
    repeat' (first | (with_reducible exact Hbl.out) | (with_reducible refine Below.drew ?_) | (with_reducible refine below_setL ?_ ?_ _ _) | (with_reducible refine below_drewN ?_ _) | omega)
  · skip
    have Hmany := hide hmany
    clear hmany
    unfold fault
    go_upto_region 2 with (fail)
    have n_t_p : ¬ gT = w1.heap.size := by omega
    have n_p_t : ¬ w1.heap.size = gT := by omega
    have n_f_p : ¬ gT + 1 = w1.heap.size := by omega
    have n_p_f : ¬ w1.heap.size = gT + 1 := by omega
    have s_t : gT < w1.heap.size := tl
    have s_f : gT + 1 < w1.heap.size := fl
    have s_0 : B0 ≤ w1.heap.size := Nat.le_trans (Nat.le_of_eq HB0.out) Hbl.out.size
    have hyp := Blk.new (w1) 29 [.int .i64 10, .int .i64 (-7)]
    have hbW : Below (w1).heap.size (w1) ((w1).alloc (.cells #[.int .i64 10, .int .i64 (-7)] 29)) := (Below.refl _ _).alloc (Nat.le_refl _) _
    obtain ⟨w2, hW⟩ : ∃ W, W = (w1).alloc (.cells #[.int .i64 10, .int .i64 (-7)] 29) := ⟨_, rfl⟩
    rw [← hW] at hyp hbW ⊢
    replace Ht := hide (Ht.out.keep hbW)
    replace Hf := hide (Hf.out.keep hbW)
    replace Hbl := hide (Hbl.out.trans (hbW.mono Hbl.out.size))
    have Hp := hide hyp
    clear hW hbW hyp
    generalize w1.heap.size = gp at Hp n_t_p n_p_t n_f_p n_p_f s_t s_f s_0 ⊢
    have t0 := Ht.out.cell 0
    have t1 := Ht.out.cell 1
    have t2 := Ht.out.cell 2
    have t3 := Ht.out.cell 3
    have tl := Ht.out.lt
    have f0 := Hf.out.cell 0
    have f1 := Hf.out.cell 1
    have fl := Hf.out.lt
    have p0 := Hp.out.cell 0
    have p1 := Hp.out.cell 1
    have pl := Hp.out.lt
    simp only [List.getElem?_cons_zero, List.getElem?_cons_succ] at t0 t1 t2 t3 f0 f1 p0 p1
    clear s_t
    clear s_f
    have a_p : B0 ≤ gp := by omega
    clear s_0
    have ff0 := Hf.out.frozen 0
    have ff1 := Hf.out.frozen 1
    go_upto_region 3 with (fail)
    go_region
    all_goals go_wp2_with fail
    all_goals refine bodyPost_ret (v := .tuple #[.slice none 0 0, .int .i64 0, fault 10 (-7)]) (by simp [results, Try.results21, go_sem, fault, f0, f1, fl]) rfl ?_
    have hbx := HB0.out
    refine ⟨?_, .inr (.inl ⟨by rw [Hq.out]; exact h1, Hmany.out, rfl⟩)⟩
    repeat' (first | (with_reducible exact Hbl.out) | (with_reducible refine Below.drew ?_) | (with_reducible refine below_setL ?_ ?_ _ _) | (with_reducible refine below_drewN ?_ _) | omega)
  · skip
    have HW := hide (hW w1 (Chg.refl _ _))
    have Hrow := hide hrow
    have Hlist := hide hlist
    clear hW hrow hlist
    unfold fault
    go_upto_region 2 with (fail)
    have n_t_p : ¬ gT = w1.heap.size := by omega
    have n_p_t : ¬ w1.heap.size = gT := by omega
    have n_f_p : ¬ gT + 1 = w1.heap.size := by omega
    have n_p_f : ¬ w1.heap.size = gT + 1 := by omega
    have s_t : gT < w1.heap.size := tl
    have s_f : gT + 1 < w1.heap.size := fl
    have s_0 : B0 ≤ w1.heap.size := Nat.le_trans (Nat.le_of_eq HB0.out) Hbl.out.size
    have hyp := Blk.new (w1) 29 [.int .i64 0, .int .i64 0]
    have hbW : Below (w1).heap.size (w1) ((w1).alloc (.cells #[.int .i64 0, .int .i64 0] 29)) := (Below.refl _ _).alloc (Nat.le_refl _) _
    obtain ⟨w2, hW⟩ : ∃ W, W = (w1).alloc (.cells #[.int .i64 0, .int .i64 0] 29) := ⟨_, rfl⟩
    rw [← hW] at hyp hbW ⊢
    replace Ht := hide (Ht.out.keep hbW)
    replace Hf := hide (Hf.out.keep hbW)
    replace HW := hide (HW.out.keep hbW)
    replace Hrow := hide (Hrow.out.keep hbW)
    replace Hbl := hide (Hbl.out.trans (hbW.mono Hbl.out.size))
    have Hp := hide hyp
    clear hW hbW hyp
    generalize w1.heap.size = gp at Hp n_t_p n_p_t n_f_p n_p_f s_t s_f s_0 ⊢
    have t0 := Ht.out.cell 0
    have t1 := Ht.out.cell 1
    have t2 := Ht.out.cell 2
    have t3 := Ht.out.cell 3
    have tl := Ht.out.lt
    have f0 := Hf.out.cell 0
    have f1 := Hf.out.cell 1
    have fl := Hf.out.lt
    have p0 := Hp.out.cell 0
    have p1 := Hp.out.cell 1
    have pl := Hp.out.lt
    simp only [List.getElem?_cons_zero, List.getElem?_cons_succ] at t0 t1 t2 t3 f0 f1 p0 p1
    clear s_t
    clear s_f
    have a_p : B0 ≤ gp := by omega
    clear s_0
    have hst := fun W hW => Start_ct g _ _ _ W (HW.out.keep hW)
    have hs0 := HW.out.start
    have hcs := Costs_ct g _ _ _ A L.length c L w2 HW.out Hrow.out.rd Hlist.out.all.once Hlist.out.few
    have hin : wordF T.init ∈ L := (Hlist.out.all.mem _).2 .start
    have hfew := Hlist.out.few
    have Hcs := hide hcs
    have Hst := hide hst
    have Hin := hide hin
    obtain ⟨n, hn⟩ : ∃ n, n = L.length := ⟨_, rfl⟩
    have hrow := Hrow.out
    have Hw2 := hide (Below.refl w2.heap.size w2)
    rw [← hn] at Hcs hfew hrow ⊢
    have Hlen := hide hn
    clear Hrow
    have Hrow := hide hrow
    clear hcs hst hin hn hrow
    go_wp2_with fail
    with_reducible refine Hcs.out.mono ?_
    rintro e w3 ⟨hb, ob, f, rfl, hob, hmap, hleast⟩
    clear t0 t1 t2 t3 f0 f1 p0 p1 tl fl pl
    replace Ht := hide (Ht.out.keep hb)
    replace Hf := hide (Hf.out.keep hb)
    replace Hp := hide (Hp.out.keep hb)
    replace Hrow := hide (Hrow.out.keep hb)
    replace Hbl := hide (Hbl.out.trans (hb.mono Hbl.out.size))
    replace Hw2 := hide (Hw2.out.trans (hb.mono Hw2.out.size))
    clear hb
    have t0 := Ht.out.cell 0
    have t1 := Ht.out.cell 1
    have t2 := Ht.out.cell 2
    have t3 := Ht.out.cell 3
    have tl := Ht.out.lt
    have f0 := Hf.out.cell 0
    have f1 := Hf.out.cell 1
    have fl := Hf.out.lt
    have p0 := Hp.out.cell 0
    have p1 := Hp.out.cell 1
    have pl := Hp.out.lt
    simp only [List.getElem?_cons_zero, List.getElem?_cons_succ] at t0 t1 t2 t3 f0 f1 p0 p1
    have hz3 : ∀ w : World, (zeroValue 3).run Try.prog w = .ok (.int .i64 0) w := fun w => by kernel_rfl
    have hlook0 : ∀ (s : Nat), s ∈ L → s < 4294967296 → ∀ W, W.heap[ob]? = w3.heap[ob]? → (Instr.lookup 72 (.map (some ob)) (.int .u32 s) false).run Try.prog W = .ok (.int .i64 (f s)) W := fun s hs hs32 W hW => by
      have := hmap.look1 (int_keyed Try.underlying75) (T := 72) (E := 3) Try.underlying72 hz3 (keyW Try.underlying75 hs32) W hW
      rw [outM_in hs] at this
      exact this
    have Hlook := hide hlook0
    have Hleast := hide hleast
    have hobl := hmap.lt
    have Hmapf := hide (show ∀ (t : TypeId) (g : Nat) (cs : List Value), Blk t w3 g cs → ob ≠ g from fun t g cs h => hmap.ne h)
    clear hmap hleast hz3 hlook0
    have hgl3 := Hbl.out.size
    have hf3 := Hf.out.lt
    have hBr := fun r hr => (Hrow.out.base (r := r) hr).2
    go_wp2_with fail
    go_loopw [9, 27] (fun ov i wr => ∃ (k : Nat) (Oa : Option Addr) (r oc : Nat) (vs : List Value), k ≤ n ∧ i = .int .i64 k ∧ ov = .slice Oa r oc ∧ Below w3.heap.size w3 wr ∧ OwnE Enc.ent 38 w3.heap.size (fun b => b < w3.heap.size ∨ blkA Oa = some b ∨ wr.heap.size ≤ b) wr Oa r oc vs (mkTab (L.take k) f)) (fun _ i _ => n - (intOf i).toNat)
    case atStart => exact ⟨0, none, 0, 0, [], by omega, rfl, rfl, Below.refl _ _, OwnE.nil _ _ _ _ _⟩
    case round =>
      clear t0 t1 t2 t3 f0 f1 p0 p1 tl fl pl
      obtain ⟨k, Oa, r, oc, vs, hk, rfl, rfl, hb, hown⟩ := hrel
      have hszb := hb.size
      have Hb := hide hb
      have Hown := hide hown
      have Hbl2 := hide (Hbl.out.trans (hb.mono hgl3))
      have hrk : r ≤ 2000 := by
        have h1 := hown.len
        have h2 := mkTab_len (L.take k) f
        rw [List.length_take] at h2
        omega
      have hOa : ∀ r, blkA Oa = some r → r < wr.heap.size := fun r hr => (hown.base hr).2
      clear hb hown
      by_cases hlt : k < n
      rotate_left
      · obtain rfl : k = n := by omega
        have Hf2 := hide (Hf.out.keep Hb.out)
        have hown := Hown.out
        rw [List.take_of_length_le (by rw [← Hlen.out]; exact Nat.le_refl _)] at hown
        replace Hown := hide hown
        clear hown
        have hst3 := Hst.out wr.drew ((Hw2.out.trans (Hb.out.mono Hw2.out.size)).drew)
        obtain ⟨s0, hs0e⟩ : ∃ x, x = wordF T.init := ⟨_, rfl⟩
        have hi0 := Hin.out
        rw [← hs0e] at hst3 hi0 hs0
        obtain ⟨v, hv⟩ : ∃ v, v = f s0 := ⟨_, rfl⟩
        have hne := Hmapf.out _ _ _ Hf.out
        have hlk := Hlook.out s0 hi0 hs0 wr.drew (Hb.out.block ob hobl)
        have hc6 : Chg (fun b => b = gT + 1) wr ((wr.drew.setCell ⟨gT + 1, 0, none⟩ (.int .i64 0)).setCell ⟨gT + 1, 1, none⟩ (.int .i64 0)) := (Chg.of_below ((Below.refl wr.heap.size wr).drew) _).trans ((Chg.set wr.drew (gT + 1) 0 (.int .i64 0)).trans (Chg.set _ (gT + 1) 1 (.int .i64 0)))
        have hlk2 := Hlook.out s0 hi0 hs0 _ ((hc6.block ob (by omega) hne).trans (Hb.out.block ob hobl))
        rw [← hv] at hlk hlk2
        have Hst3 := hide hst3
        have Hs0 := hide hs0e
        have Hv := hide hv
        clear hst3 hs0e hv hi0
        have f0 := Hf2.out.cell 0
        have f1 := Hf2.out.cell 1
        have fl := Hf2.out.lt
        have ff0 := Hf2.out.frozen 0
        have ff1 := Hf2.out.frozen 1
        simp only [List.getElem?_cons_zero, List.getElem?_cons_succ] at f0 f1
        go_upto_region 12 with (fail)
        refine wp_region_held_drew (S := (fun w' => (Instr.lookup 72 (.map (some ob)) (.int .u32 s0) false).run Try.prog w' = .ok (.int .i64 v) w')) (by kernel_rfl) ?_ (fun hHeld => ?_)
        · (try dsimp only); exact hlk
        refine takeH (i := 0) (v := ?_) (some 45) rfl rfl (by kernel_rfl) (by kernel_rfl) (by kernel_rfl) (fun _ _ _ h => h) (Or.inl ⟨by rfl, ?_⟩) (by assumption) ?_
        rotate_left
        · intro w hSw; (try dsimp only at hSw); have s1 := hSw; first | (go_simp; done) | (go_simp; with_reducible rfl)
        try simp only [Act.put, List.setIfInBounds_toArray, List.set_cons_zero, List.set_cons_succ]
        refine takeH (i := 1) (v := ?_) (some 46) rfl rfl (by kernel_rfl) (by kernel_rfl) (by kernel_rfl) (fun _ _ _ h => h) (Or.inl ⟨by rfl, ?_⟩) (by assumption) ?_
        rotate_left
        · intro w hSw; (try dsimp only at hSw); have s1 := hSw; first | (go_simp; done) | (go_simp; with_reducible rfl)
        try simp only [Act.put, List.setIfInBounds_toArray, List.set_cons_zero, List.set_cons_succ]
        refine takeH (i := 2) (v := ?_) (some 47) rfl rfl (by kernel_rfl) (by kernel_rfl) (by kernel_rfl) (fun _ _ _ h => h) (Or.inl ⟨by rfl, ?_⟩) (by assumption) ?_
        rotate_left
        · intro w hSw; (try dsimp only at hSw); have s1 := hSw; first | (go_simp; done) | (go_simp; with_reducible rfl)
        try simp only [Act.put, List.setIfInBounds_toArray, List.set_cons_zero, List.set_cons_succ]
        refine takeH (i := 5) (v := ?_) (some 50) rfl rfl (by kernel_rfl) (by kernel_rfl) (by kernel_rfl) (fun _ _ _ h => h) (Or.inl ⟨by rfl, ?_⟩) (by assumption) ?_
        rotate_left
        · intro w hSw; (try dsimp only at hSw); have s1 := hSw; first | (go_simp; done) | (go_simp; with_reducible rfl)
        try simp only [Act.put, List.setIfInBounds_toArray, List.set_cons_zero, List.set_cons_succ]
        refine wpAnyH_ready (rs := [3]) (by kernel_rfl) (by simp) ?_
        refine AllReadyH.cons rfl (fun K hK => ?_) AllReadyH.nil
        go_simp
        with_reducible refine Hst3.out.mono ?_
        rintro e1 w1 ⟨rfl, rfl⟩
        refine hK.out _ _ ?_ (fun hHeld2 => ?_)
        · (try dsimp only); exact hlk
        clear hK K hHeld
        try simp only [Act.put, List.setIfInBounds_toArray, List.set_cons_zero, List.set_cons_succ]
        have hHeld := hHeld2; clear hHeld2
        refine takeH (i := 4) (v := ?_) (some 49) rfl rfl (by kernel_rfl) (by kernel_rfl) (by kernel_rfl) (fun _ _ _ h => h) (Or.inl ⟨by rfl, ?_⟩) (by assumption) ?_
        rotate_left
        · intro w hSw; (try dsimp only at hSw); have s1 := hSw; first | (go_simp; done) | (go_simp; with_reducible rfl)
        try simp only [Act.put, List.setIfInBounds_toArray, List.set_cons_zero, List.set_cons_succ]
        refine takeH (i := 6) (v := ?_) (some 2) rfl rfl (by kernel_rfl) (by kernel_rfl) (by kernel_rfl) (fun _ _ _ h => h) (Or.inl ⟨by rfl, ?_⟩) (by assumption) ?_
        rotate_left
        · intro w hSw; (try dsimp only at hSw); have s1 := hSw; first | (go_simp; done) | (go_simp; with_reducible rfl)
        try simp only [Act.put, List.setIfInBounds_toArray, List.set_cons_zero, List.set_cons_succ]
        refine takeH (i := 7) (v := ?_) (some 3) rfl rfl (by kernel_rfl) (by kernel_rfl) (by kernel_rfl) (fun _ _ _ h => h) (Or.inl ⟨by rfl, ?_⟩) (by assumption) ?_
        rotate_left
        · intro w hSw; (try dsimp only at hSw); have s1 := hSw; first | (go_simp; done) | (go_simp; with_reducible rfl)
        try simp only [Act.put, List.setIfInBounds_toArray, List.set_cons_zero, List.set_cons_succ]
        refine wpAnyH_ready (rs := [8]) (by kernel_rfl) (by simp) ?_
        refine AllReadyH.cons rfl (fun K hK => ?_) AllReadyH.nil
        go_simp
        refine hK.out _ _ ?_ (fun hHeld2 => ?_)
        · (try dsimp only); exact hlk2
        clear hK K hHeld
        try simp only [Act.put, List.setIfInBounds_toArray, List.set_cons_zero, List.set_cons_succ]
        have hHeld := hHeld2; clear hHeld2
        refine wpAnyH_done (by kernel_rfl) ?_ _
        go_wp2_with fail
        refine bodyPost_ret (v := .tuple #[.slice Oa r oc, .int .i64 v, fault 0 0]) (by simp [results, Try.results21, go_sem, fault, f0, f1, fl]) rfl ?_
        have hbx := HB0.out
        have hlr : (mkTab L f).length = r := Hown.out.len
        refine ⟨?_, .inr (.inr ⟨by rw [Hq.out]; exact h1, L, f, Oa, oc, ⟨Hlist.out, Hleast.out⟩, by rw [Hv.out, Hs0.out, hlr], ?_⟩)⟩
        · have Hbl := Hbl2
          repeat' (first | (with_reducible exact Hbl.out) | (with_reducible refine Below.drew ?_) | (with_reducible refine below_setL ?_ ?_ _ _) | (with_reducible refine below_drewN ?_ _) | omega)
        · rw [hlr]
          refine (Hown.out.chg hc6 (fun i e => .inl (by omega)) (fun r hr e => ?_)).rd
          have := (Hown.out.base hr).1
          omega
      obtain ⟨b, off, s, rfl, hs, hs32, gs⟩ := (Hrow.out.rd.keep Hb.out).word hlt
      have hmem := List.mem_of_getElem? hs
      have hlk := fun W hW => Hlook.out s hmem hs32 W hW
      have htk := mkTab_take (f := f) hs
      have hlo := Hleast.out.low s hmem
      have hhi := Hleast.out.high s hmem
      unfold infW at hhi
      obtain ⟨v, hv⟩ : ∃ v, v = f s := ⟨_, rfl⟩
      rw [← hv] at htk hlo hhi
      simp only [← hv] at hlk
      have hlk0 := hlk wr (Hb.out.block ob hobl)
      have hlk1 := hlk wr.drew (Hb.out.block ob hobl)
      have hki : (k : Int) < (n : Int) := by omega
      have Htk := hide htk
      have Hlk := hide hlk
      clear htk hlk hs hmem hv
      by_cases hpos : 0 < v
      rotate_left
      · have htk := Htk.out
        rw [if_neg hpos, List.append_nil] at htk
        replace Htk := hide htk
        clear htk hlk1
        go_wp2_with fail
        go_roundw
        case rel => exact ⟨k + 1, Oa, r, oc, vs, by omega, by go_num, rfl, Hb.out, by rw [Htk.out]; exact Hown.out⟩
        case measure => simp [intOf]; omega
      have htk := Htk.out
      rw [if_pos hpos] at htk
      replace Htk := hide htk
      clear htk
      go_upto_region 10 with (fail)
      clear hlk0
      have hf := FactsD_ct s wr.drew hs32
      have Hfa := hide hf
      clear hf
      refine wp_region_held_drew (S := (fun w' => (Instr.lookup 72 (.map (some ob)) (.int .u32 s) false).run Try.prog w' = .ok (.int .i64 v) w')) (by kernel_rfl) ?_ (fun hHeld => ?_)
      · (try dsimp only); exact hlk1
      refine takeH (i := 0) (v := ?_) (some 35) rfl rfl (by kernel_rfl) (by kernel_rfl) (by kernel_rfl) (fun _ _ _ h => h) (Or.inl ⟨by rfl, ?_⟩) (by assumption) ?_
      rotate_left
      · intro w hSw; (try dsimp only at hSw); have s1 := hSw; first | (go_simp; done) | (go_simp; with_reducible rfl)
      try simp only [Act.put, List.setIfInBounds_toArray, List.set_cons_zero, List.set_cons_succ]
      refine takeH (i := 1) (v := ?_) (some 36) rfl rfl (by kernel_rfl) (by kernel_rfl) (by kernel_rfl) (fun _ _ _ h => h) (Or.inl ⟨by rfl, ?_⟩) (by assumption) ?_
      rotate_left
      · intro w hSw; (try dsimp only at hSw); have s1 := hSw; first | (go_simp; done) | (go_simp; with_reducible rfl)
      try simp only [Act.put, List.setIfInBounds_toArray, List.set_cons_zero, List.set_cons_succ]
      refine takeH (i := 3) (v := ?_) (some 38) rfl rfl (by kernel_rfl) (by kernel_rfl) (by kernel_rfl) (fun _ _ _ h => h) (Or.inl ⟨by rfl, ?_⟩) (by assumption) ?_
      rotate_left
      · intro w hSw; (try dsimp only at hSw); have s1 := hSw; first | (go_simp; done) | (go_simp; with_reducible rfl)
      try simp only [Act.put, List.setIfInBounds_toArray, List.set_cons_zero, List.set_cons_succ]
      refine takeH (i := 4) (v := ?_) (some 39) rfl rfl (by kernel_rfl) (by kernel_rfl) (by kernel_rfl) (fun _ _ _ h => h) (Or.inl ⟨by rfl, ?_⟩) (by assumption) ?_
      rotate_left
      · intro w hSw; (try dsimp only at hSw); have s1 := hSw; first | (go_simp; done) | (go_simp; with_reducible rfl)
      try simp only [Act.put, List.setIfInBounds_toArray, List.set_cons_zero, List.set_cons_succ]
      refine takeH (i := 5) (v := ?_) (some 40) rfl rfl (by kernel_rfl) (by kernel_rfl) (by kernel_rfl) (fun _ _ _ h => h) (Or.inl ⟨by rfl, ?_⟩) (by assumption) ?_
      rotate_left
      · intro w hSw; (try dsimp only at hSw); have s1 := hSw; first | (go_simp; done) | (go_simp; with_reducible rfl)
      try simp only [Act.put, List.setIfInBounds_toArray, List.set_cons_zero, List.set_cons_succ]
      refine wpAnyH_ready (rs := [2]) (by kernel_rfl) (by simp) ?_
      refine AllReadyH.cons rfl (fun K hK => ?_) AllReadyH.nil
      go_simp
      with_reducible refine (Hfa.out).mono ?_
      rintro e1 w7 ⟨⟨hb7, A2, c2, vs2, rfl, hrow⟩, _⟩
      have hz7 : wr.heap.size ≤ w7.heap.size := hb7.size
      have hO6 : ∀ r, blkA A2 = some r → wr.heap.size ≤ r ∧ r < w7.heap.size := fun r hr => hrow.base hr
      have hint := ints_word s
      have hrow2 := hrow.ints
      have hfl := hrow.len
      obtain ⟨fs, hfs⟩ : ∃ fs, fs = factsF s := ⟨_, rfl⟩
      rw [← hfs] at hrow2 hint hfl
      have Htk2 := Htk.out
      rw [← hfs] at Htk2
      replace Htk := hide Htk2
      clear Htk2
      rw [← hfs]
      obtain ⟨n1, hn1⟩ : ∃ n1, n1 = fs.length := ⟨_, rfl⟩
      rw [← hn1] at hrow2 ⊢
      replace Hown := hide ((Hown.out.qt (Qt.refl wr).drew).keep hb7)
      have Hrow2 := hide hrow2
      have Hint := hide hint
      have Hn1 := hide hn1
      have hlk2 := Hlk.out w7 ((hb7.block ob (by show ob < wr.heap.size; omega)).trans (Hb.out.block ob hobl))
      have hlk3 := Hlk.out (w7.alloc (.cells #[.slice A2 n1 c2, .int .i64 v] 38)) ((Below.heap_alloc _ _ _ (by omega)).trans ((hb7.block ob (by show ob < wr.heap.size; omega)).trans (Hb.out.block ob hobl)))
      have Hb7 := hide (show Below wr.heap.size wr w7 from (Below.refl _ _).drew.trans hb7)
      clear hrow hrow2 hint hb7 hfs hn1 hlk1 hfl
      refine hK.out _ _ ?_ (fun hHeld2 => ?_)
      · (try dsimp only); exact hlk2
      clear hK K hHeld
      try simp only [Act.put, List.setIfInBounds_toArray, List.set_cons_zero, List.set_cons_succ]
      have hHeld := hHeld2; clear hHeld2
      refine takeH (i := 6) (v := ?_) (some 41) rfl rfl (by kernel_rfl) (by kernel_rfl) (by kernel_rfl) (fun _ _ _ h => h) (Or.inl ⟨by rfl, ?_⟩) (by assumption) ?_
      rotate_left
      · intro w hSw; (try dsimp only at hSw); have s1 := hSw; first | (go_simp; done) | (go_simp; with_reducible rfl)
      try simp only [Act.put, List.setIfInBounds_toArray, List.set_cons_zero, List.set_cons_succ]
      refine wpAnyH_ready (rs := [7]) (by kernel_rfl) (by simp) ?_
      refine AllReadyH.cons rfl (fun K hK => ?_) AllReadyH.nil
      go_simp
      refine hK.out _ _ ?_ (fun hHeld2 => ?_)
      · (try dsimp only); exact hlk3
      clear hK K hHeld
      try simp only [Act.put, List.setIfInBounds_toArray, List.set_cons_zero, List.set_cons_succ]
      have hHeld := hHeld2; clear hHeld2
      have hown7 := Hown.out.less (M' := fun b => b < w3.heap.size ∨ blkA Oa = some b ∨ w7.heap.size ≤ b) (fun i hi h => by
        rcases h with h | h | h
        · exact .inl h
        · exact .inr (.inl h)
        · omega)
      have hOb : ∀ r, blkA Oa = some r → w3.heap.size ≤ r := fun r hr => (Hown.out.base hr).1
      have hfirm : Firm Enc.ent (fun b => b < w3.heap.size ∨ blkA Oa = some b ∨ w7.heap.size ≤ b) w7 [.slice A2 n1 c2, .int .i64 v] ⟨fs, v⟩ := by
        have hrm : RdM (fun b => b < w3.heap.size ∨ blkA Oa = some b ∨ w7.heap.size ≤ b) w7 A2 n1 c2 fs := RdM.own Hrow2.out (fun r hr h => by
          have h1 := hO6 r hr
          rcases h with h | h | h
          · omega
          · have h2 := (hOa r h)
            omega
          · omega) Hn1.out.symm Hint.out
        exact firm_ent (e := ⟨fs, v⟩) hrm (show -9223372036854775808 ≤ v ∧ v ≤ 9223372036854775807 by omega)
      refine wpAnyH_ready (rs := [8]) (by kernel_rfl) (by simp) ?_
      refine AllReadyH.cons rfl (fun K hK => ?_) AllReadyH.nil
      refine step_pushS rfl _ _ 26 rfl w3.heap.size 38 i1 _ 32 Try.underlying26 hi1 hy0 hy1 hy2 rfl (by decide) (A := Oa) (n := r) (c := oc) (by first | rfl | (go_simp; done)) hown7 (fun r hr => .inr (.inl hr)) [.slice A2 n1 c2, .int .i64 v] ⟨fs, v⟩ (by intro u hu; simp at hu; rcases hu with hu | hu <;> subst hu <;> rfl) (by first | rfl | (go_simp; done)) hfirm (by omega) (by omega) (by omega) ?_
      intro O8 oc8 w8 hown8 hch8 hat8
      have hlk8 := Hlk.out w8 ((hch8.block ob (by omega) (fun e => by have := hOb ob e; omega)).trans ((Hb7.out.block ob (by omega)).trans (Hb.out.block ob hobl)))
      have hb8 : Below w3.heap.size w3 w8 := (Hb.out.trans (Hb7.out.mono (by omega))).trans (hch8.below (fun i hi => hOb i hi) (by omega))
      have hown9 := hown8.less (M' := fun b => b < w3.heap.size ∨ blkA O8 = some b ∨ w8.heap.size ≤ b) (fun i hi h => by
        rcases h with h | h | h
        · exact .inl (.inl h)
        · rcases hat8 with e | e
          · exact .inl (.inr (.inl (by rw [← e]; exact h)))
          · rw [e] at h
            injection h with h
            exact .inr (by omega)
        · omega)
      rw [← Htk.out] at hown9
      have Hb8 := hide hb8
      have Hown9 := hide hown9
      clear hown7 hfirm hown8 hch8 hat8 hb8 hown9 hlk2 hlk3
      refine hK.out _ _ ?_ (fun hHeld2 => ?_)
      · (try dsimp only); exact hlk8
      clear hK K hHeld
      try simp only [Act.put, List.setIfInBounds_toArray, List.set_cons_zero, List.set_cons_succ]
      have hHeld := hHeld2; clear hHeld2
      refine takeH (i := 9) (v := ?_) (some 9) rfl rfl (by kernel_rfl) (by kernel_rfl) (by kernel_rfl) (fun _ _ _ h => h) (Or.inl ⟨by rfl, ?_⟩) (by assumption) ?_
      rotate_left
      · intro w hSw; (try dsimp only at hSw); have s1 := hSw; first | (go_simp; done) | (go_simp; with_reducible rfl)
      try simp only [Act.put, List.setIfInBounds_toArray, List.set_cons_zero, List.set_cons_succ]
      refine wpAnyH_done (by kernel_rfl) ?_ _
      go_wp2_with fail
      go_roundw
      case rel => exact ⟨k + 1, O8, r + 1, oc8, _, by omega, by go_num, rfl, Hb8.out, Hown9.out⟩
      case measure => simp [intOf]; omega
end Go.Proofs.Ytliggcmohcdchaa
namespace Go.Proofs.Ytliggcmohcdchaa
set_option linter.unusedVariables false
set_option linter.unusedSimpArgs false
open Go.RowKit
theorem one_chk : chkF oneT [⟨[], 2⟩] = (2, true, 0, 0) := by decide +kernel
theorem one_rse : rseF oneT [⟨[], 2⟩] = (some (raiseF infC oneT [⟨[], 2⟩]), 0, 0) := by
  have h1 : boundsF oneT [⟨[], 2⟩] = (0, 0) := by decide +kernel
  exact rse_yes (by rw [h1]) (by decide +kernel)
theorem one_rval : raiseF infC oneT [⟨[], 2⟩] = [⟨[], 3⟩] := by
  have h : leastF infC oneT.ops [⟨[], 2⟩] [] = 3 := by decide +kernel
  unfold raiseF
  rw [List.map_cons, List.map_nil, h]
theorem one_tf : taskFault oneT = (0, 0) := by decide +kernel
theorem one_arc {s t : Nat} {c : Int} (h : arcW (oneT.ops.map mkOp) s t c) : t = s ||| 1 ∧ c = 3 := by
  obtain ⟨m, hm, _, rfl, rfl⟩ := h
  have : m = mkOp ⟨[], [0], [], 3⟩ := by simpa [oneT] using hm
  subst this
  have hw : wordF [0] = 1 := by decide +kernel
  have h0 : wordF ([] : List Int) = 0 := by decide +kernel
  refine ⟨?_, rfl⟩
  unfold goW mkOp
  simp only [hw, h0]
  unfold lessW
  simp
theorem one_arc0 : arcW (oneT.ops.map mkOp) 0 1 3 := ⟨mkOp ⟨[], [0], [], 3⟩, by simp [oneT], by decide +kernel, by decide +kernel, rfl⟩
theorem one_reach {x : Nat} (h : Reach (stepW (oneT.ops.map mkOp)) (wordF oneT.init) x) : x = 0 ∨ x = 1 := by
  have h0 : wordF oneT.init = 0 := by decide +kernel
  rw [h0] at h
  induction h with
  | start => exact .inl rfl
  | step hr hs ih =>
    obtain ⟨c, ha⟩ := step_arc.1 hs
    obtain ⟨rfl, _⟩ := one_arc ha
    rcases ih with rfl | rfl
    · exact .inr rfl
    · exact .inr rfl
theorem one_goal0 : goalW (wordF oneT.goal) 0 = false := by decide +kernel
theorem one_goal1 : goalW (wordF oneT.goal) 1 = true := by decide +kernel
theorem one_costs {l : List Nat} {f : Nat → Int} (h : CostsOf oneT l f) : f 0 = 3 ∧ mkTab l f = [⟨[], 3⟩] := by
  have h0 : wordF oneT.init = 0 := by decide +kernel
  have m0 : 0 ∈ l := by
    have := (h.list.all.mem (wordF oneT.init)).2 .start
    rwa [h0] at this
  have m1 : 1 ∈ l := (h.list.all.mem 1).2 (.step (by rw [h0]; exact .start) (step_arc.2 ⟨3, one_arc0⟩))
  have f1 : f 1 = 0 := h.least.zero 1 m1 one_goal1
  have f0 : f 0 = 3 := by
    have h1 := h.least.arc 0 1 3 m0 one_arc0 (by rw [f1]; unfold infW; omega)
    rw [f1] at h1
    have h2 := h.least.way 0 m0 (by unfold infW; omega)
    generalize hn : f 0 = n at h1 h2
    generalize hz : (0 : Nat) = z at h2
    cases h2 with
    | here hg => subst hz; rw [one_goal0] at hg; cases hg
    | step ha hw =>
      obtain ⟨_, rfl⟩ := one_arc ha
      have := hw.pos (fun s t c hc => by obtain ⟨_, rfl⟩ := one_arc hc; omega)
      omega
  refine ⟨f0, ?_⟩
  have hfil : l.filter (fun s => decide (0 < f s)) = [0] := by
    have hnd := h.list.all.once.filter (fun s => decide (0 < f s))
    have hmem : ∀ x, x ∈ l.filter (fun s => decide (0 < f s)) ↔ x = 0 := by
      intro x
      rw [List.mem_filter]
      constructor
      · rintro ⟨h1, h2⟩
        rcases one_reach ((h.list.all.mem x).1 h1) with rfl | rfl
        · rfl
        · rw [f1] at h2; simp at h2
      · rintro rfl
        exact ⟨m0, by rw [f0]; decide⟩
    generalize l.filter (fun s => decide (0 < f s)) = r at hnd hmem
    match r with
    | [] => exact absurd ((hmem 0).2 rfl) (by simp)
    | [x] => rw [(hmem x).1 (by simp)]
    | x :: y :: r =>
      have hx := (hmem x).1 (by simp)
      have hy := (hmem y).1 (by simp)
      subst hx hy
      simp at hnd
  unfold mkTab
  rw [hfil, List.map_cons, List.map_nil, f0]
  congr 1
set_option maxRecDepth 100000 in
set_option maxHeartbeats 6400000 in
theorem lowerboundExample_ct (w : World) : Calls Try.prog 10 #[] w (Gives w (.bool true)) := by
  have Hbl := hide (Below.refl w.heap.size w)
  go_enter Try.func10, Try.ntmps10
  obtain ⟨B0, hB0⟩ : ∃ B0, B0 = w.heap.size := ⟨_, rfl⟩
  have HB0 := hide hB0
  clear hB0
  go_upto_region 2 with (fail)
  have hln := Blk.new w 38 [.slice none 0 0, .int .i64 2]
  have hbL := (Below.refl w.heap.size w).alloc (Nat.le_refl _) (.cells #[.slice none 0 0, .int .i64 2] 38)
  have hl0 : Rd Enc.ent (w.alloc (.cells #[.slice none 0 0, .int .i64 2] 38)) (some ⟨w.heap.size, 0, none⟩) 1 1 [⟨[], 2⟩] := by
    refine ⟨rfl, Nat.le_refl _, by omega, fun h => (by cases h), fun _ => ⟨w.heap.size, 0, rfl, fun j x hj => ?_⟩⟩
    match j, hj with
    | 0, hj =>
      obtain rfl := Option.some.inj hj
      refine ⟨[.slice none 0 0, .int .i64 2], ⟨none, 0, 0, rfl, Rd.nil_ _ _, by unfold I64s; simp⟩, fun i v hi => ?_⟩
      match i, hi with
      | 0, hi => obtain rfl := Option.some.inj hi; exact hln.cell 0
      | 1, hi => obtain rfl := Option.some.inj hi; exact hln.cell 1
      | i + 2, hi => simp at hi
    | j + 1, hj => simp at hj
  obtain ⟨w0, hW⟩ : ∃ W, W = w.alloc (.cells #[.slice none 0 0, .int .i64 2] 38) := ⟨_, rfl⟩
  rw [← hW] at hl0 hbL ⊢
  replace Hbl := hide (Hbl.out.trans (hbL.mono Hbl.out.size))
  have Hl := hide hl0
  clear hW hln hbL hl0
  generalize hA : (some ⟨w.heap.size, 0, none⟩ : Option Addr) = lA at Hl ⊢
  clear hA
  go_wp2_with fail
  with_reducible refine (one_ct w0).mono ?_
  rintro e w1 ⟨hb, a, rfl, han, ht⟩
  have Hat := hide ht
  clear ht han
  unfold taskVo
  replace Hl := hide (Hl.out.keep hb)
  replace Hbl := hide (Hbl.out.trans (hb.mono Hbl.out.size))
  clear hb
  have hct := Check_ct a oneT lA 1 1 _ w1 Hat.out Hl.out
  rw [one_chk] at hct
  unfold chkV fault at hct
  go_wp2_with fail
  with_reducible refine hct.mono ?_
  rintro e w2 ⟨rfl, hb⟩
  clear hct Hat
  replace Hl := hide (Hl.out.keep hb)
  replace Hbl := hide (Hbl.out.trans (hb.mono Hbl.out.size))
  clear hb
  dsimp only
  go_upto_region 3 with (fail)
  have s_0 : B0 ≤ w2.heap.size := Nat.le_trans (Nat.le_of_eq HB0.out) Hbl.out.size
  have hyc := Blk.new (w2) 29 [.int .i64 0, .int .i64 0]
  have hbW : Below (w2).heap.size (w2) ((w2).alloc (.cells #[.int .i64 0, .int .i64 0] 29)) := (Below.refl _ _).alloc (Nat.le_refl _) _
  obtain ⟨w3, hW⟩ : ∃ W, W = (w2).alloc (.cells #[.int .i64 0, .int .i64 0] 29) := ⟨_, rfl⟩
  rw [← hW] at hyc hbW ⊢
  replace Hl := hide (Hl.out.keep hbW)
  replace Hbl := hide (Hbl.out.trans (hbW.mono Hbl.out.size))
  have Hc := hide hyc
  clear hW hbW hyc
  generalize w2.heap.size = gc at Hc s_0 ⊢
  have c0 := Hc.out.cell 0
  have c1 := Hc.out.cell 1
  have cl := Hc.out.lt
  simp only [List.getElem?_cons_zero, List.getElem?_cons_succ] at c0 c1
  have a_c : B0 ≤ gc := by omega
  clear s_0
  go_wp2_with fail
  with_reducible refine (one_ct w3).mono ?_
  rintro e w4 ⟨hb, b, rfl, hbn, ht⟩
  have Hbt := hide ht
  clear ht hbn
  unfold taskVo
  clear c0 c1 cl
  replace Hc := hide (Hc.out.keep hb)
  replace Hl := hide (Hl.out.keep hb)
  replace Hbl := hide (Hbl.out.trans (hb.mono Hbl.out.size))
  clear hb
  have c0 := Hc.out.cell 0
  have c1 := Hc.out.cell 1
  have cl := Hc.out.lt
  simp only [List.getElem?_cons_zero, List.getElem?_cons_succ] at c0 c1
  have hct := Make_ct b oneT w4 Hbt.out
  unfold MakeP at hct
  rw [one_tf] at hct
  go_wp2_with fail
  with_reducible refine hct.mono ?_
  rintro e w5 ⟨hb, ⟨h1, _⟩ | ⟨_, hmany, _⟩ | ⟨_, L, f, mA, mc, hco, rfl, hmr⟩⟩
  · exact absurd rfl h1
  · exfalso
    obtain ⟨m, h1, h2, h3⟩ := hmany
    have h4 : m.length ≤ [0, 1].length := nodup_len h1 fun x hx => by have := one_reach (h2 x hx); simp; exact this
    rw [h3] at h4
    simp at h4
  obtain ⟨hf0, htab⟩ := one_costs hco
  have hw0 : wordF oneT.init = 0 := by decide +kernel
  rw [htab] at hmr
  rw [htab, hw0, hf0]
  have Hmk := hide hmr
  clear hct hmr hco hf0 htab hw0 Hbt
  dsimp only [List.length_cons, List.length_nil, Nat.zero_add] at Hmk ⊢
  unfold fault
  clear c0 c1 cl
  replace Hc := hide (Hc.out.keep hb)
  replace Hl := hide (Hl.out.keep hb)
  replace Hbl := hide (Hbl.out.trans (hb.mono Hbl.out.size))
  clear hb
  have c0 := Hc.out.cell 0
  have c1 := Hc.out.cell 1
  have cl := Hc.out.lt
  simp only [List.getElem?_cons_zero, List.getElem?_cons_succ] at c0 c1
  go_upto_region 4 with (fail)
  have s_c : gc < w5.heap.size := cl
  have s_0 : B0 ≤ w5.heap.size := Nat.le_trans (Nat.le_of_eq HB0.out) Hbl.out.size
  have hym := Blk.new (w5) 29 [.int .i64 0, .int .i64 0]
  have hbW : Below (w5).heap.size (w5) ((w5).alloc (.cells #[.int .i64 0, .int .i64 0] 29)) := (Below.refl _ _).alloc (Nat.le_refl _) _
  obtain ⟨w6, hW⟩ : ∃ W, W = (w5).alloc (.cells #[.int .i64 0, .int .i64 0] 29) := ⟨_, rfl⟩
  rw [← hW] at hym hbW ⊢
  replace Hc := hide (Hc.out.keep hbW)
  replace Hl := hide (Hl.out.keep hbW)
  replace Hmk := hide (Hmk.out.keep hbW)
  replace Hbl := hide (Hbl.out.trans (hbW.mono Hbl.out.size))
  have Hm := hide hym
  clear hW hbW hym
  generalize w5.heap.size = gm at Hm s_c s_0 ⊢
  have c0 := Hc.out.cell 0
  have c1 := Hc.out.cell 1
  have cl := Hc.out.lt
  have m0 := Hm.out.cell 0
  have m1 := Hm.out.cell 1
  have ml := Hm.out.lt
  simp only [List.getElem?_cons_zero, List.getElem?_cons_succ] at c0 c1 m0 m1
  clear s_c
  have a_m : B0 ≤ gm := by omega
  clear s_0
  go_wp2_with fail
  with_reducible refine (one_ct w6).mono ?_
  rintro e w7 ⟨hb, d, rfl, hdn, ht⟩
  have Hdt := hide ht
  clear ht hdn
  unfold taskVo
  clear c0 c1 m0 m1 cl ml
  replace Hc := hide (Hc.out.keep hb)
  replace Hm := hide (Hm.out.keep hb)
  replace Hl := hide (Hl.out.keep hb)
  replace Hmk := hide (Hmk.out.keep hb)
  replace Hbl := hide (Hbl.out.trans (hb.mono Hbl.out.size))
  clear hb
  have c0 := Hc.out.cell 0
  have c1 := Hc.out.cell 1
  have cl := Hc.out.lt
  have m0 := Hm.out.cell 0
  have m1 := Hm.out.cell 1
  have ml := Hm.out.lt
  simp only [List.getElem?_cons_zero, List.getElem?_cons_succ] at c0 c1 m0 m1
  have hct := Raise_ct d oneT lA 1 1 _ w7 Hdt.out Hl.out
  rw [one_rse] at hct
  go_wp2_with fail
  with_reducible refine hct.mono ?_
  rintro e w8 ⟨hb, rA, rc, rfl, hrr⟩
  rw [one_rval] at hrr
  rw [one_rval]
  have Hrk := hide hrr
  clear hct hrr Hdt
  dsimp only [List.length_cons, List.length_nil, Nat.zero_add] at Hrk ⊢
  unfold fault
  clear c0 c1 m0 m1 cl ml
  replace Hc := hide (Hc.out.keep hb)
  replace Hm := hide (Hm.out.keep hb)
  replace Hl := hide (Hl.out.keep hb)
  replace Hmk := hide (Hmk.out.keep hb)
  replace Hbl := hide (Hbl.out.trans (hb.mono Hbl.out.size))
  clear hb
  have c0 := Hc.out.cell 0
  have c1 := Hc.out.cell 1
  have cl := Hc.out.lt
  have m0 := Hm.out.cell 0
  have m1 := Hm.out.cell 1
  have ml := Hm.out.lt
  simp only [List.getElem?_cons_zero, List.getElem?_cons_succ] at c0 c1 m0 m1
  go_upto_region 5 with (fail)
  have s_c : gc < w8.heap.size := cl
  have s_m : gm < w8.heap.size := ml
  have s_0 : B0 ≤ w8.heap.size := Nat.le_trans (Nat.le_of_eq HB0.out) Hbl.out.size
  have hyr := Blk.new (w8) 29 [.int .i64 0, .int .i64 0]
  have hbW : Below (w8).heap.size (w8) ((w8).alloc (.cells #[.int .i64 0, .int .i64 0] 29)) := (Below.refl _ _).alloc (Nat.le_refl _) _
  obtain ⟨w9, hW⟩ : ∃ W, W = (w8).alloc (.cells #[.int .i64 0, .int .i64 0] 29) := ⟨_, rfl⟩
  rw [← hW] at hyr hbW ⊢
  replace Hc := hide (Hc.out.keep hbW)
  replace Hm := hide (Hm.out.keep hbW)
  replace Hl := hide (Hl.out.keep hbW)
  replace Hmk := hide (Hmk.out.keep hbW)
  replace Hrk := hide (Hrk.out.keep hbW)
  replace Hbl := hide (Hbl.out.trans (hbW.mono Hbl.out.size))
  have Hr := hide hyr
  clear hW hbW hyr
  generalize w8.heap.size = gr at Hr s_c s_m s_0 ⊢
  have c0 := Hc.out.cell 0
  have c1 := Hc.out.cell 1
  have cl := Hc.out.lt
  have m0 := Hm.out.cell 0
  have m1 := Hm.out.cell 1
  have ml := Hm.out.lt
  have r0 := Hr.out.cell 0
  have r1 := Hr.out.cell 1
  have rl := Hr.out.lt
  simp only [List.getElem?_cons_zero, List.getElem?_cons_succ] at c0 c1 m0 m1 r0 r1
  clear s_c
  clear s_m
  have a_r : B0 ≤ gr := by omega
  clear s_0
  obtain ⟨b1, o1, e1, X1, x1, y1, rfl, he1, k0, k1, _, _⟩ := Hmk.out.ent (show 0 < 1 by omega)
  obtain rfl := Option.some.inj he1
  obtain ⟨b2, o2, e2, X2, x2, y2, rfl, he2, q0, q1, _, _⟩ := Hrk.out.ent (show 0 < 1 by omega)
  obtain rfl := Option.some.inj he2
  clear he1 he2
  go_wp2_with fail
  go_ret
  exact ⟨ret_bool (by simp), Hbl.out⟩
end Go.Proofs.Ytliggcmohcdchaa
namespace Go.Proofs.Ytliggcmohcdchaa
set_option linter.unusedVariables false
set_option linter.unusedSimpArgs false
open Go.RowKit
theorem raise_tab {T : Tsk} {N : Nat} {l : List Ent} (h : TabOk N l) (hh : holdB infC T l = true) : TabOk N (raiseF infC T l) := by
  have hr := raise_range hh h.low
  refine ⟨by unfold raiseF; rw [List.length_map]; exact h.few, fun e he => ?_, fun e he => (hr e he).1, fun e he => (hr e he).2, ?_⟩
  · obtain ⟨x, hx, rfl⟩ := List.mem_map.1 he
    exact h.set x hx
  · unfold raiseF
    rw [List.pairwise_map]
    exact h.up
theorem rse_cases (T : Tsk) (l : List Ent) : (∃ c i, rseF T l = (none, c, i) ∧ c ≠ 0) ∨ (∃ N, OkT T N ∧ TabOk N l ∧ (boundsF T l).1 = 0 ∧ holdB infC T l = true ∧ rseF T l = (some (raiseF infC T l), 0, 0)) := by
  by_cases h : (boundsF T l).1 = 0
  · obtain ⟨N, hok, htab⟩ := boundsF_ok h
    cases hh : holdB infC T l with
    | false => exact .inl ⟨16, -10, rse_no h hh, by omega⟩
    | true => exact .inr ⟨N, hok, htab, h, rfl, rse_yes h hh⟩
  · exact .inl ⟨_, _, rse_bad h, h⟩
theorem bounds_tf {T : Tsk} {l : List Ent} (h : (boundsF T l).1 = 0) : (taskFault T).1 = 0 := by
  unfold boundsF at h
  split at h
  · rename_i h1; exact absurd h h1
  · omega
theorem chk_raise {T : Tsk} {N : Nat} {l : List Ent} (hok : OkT T N) (h : TabOk N l) (hb : (boundsF T l).1 = 0) (hh : holdB infC T l = true) : chkF T (raiseF infC T l) = (bOf (raiseF infC T l) T.init, true, 0, 0) :=
  chk_yes (by rw [boundsF_good hok (bounds_tf hb) (raise_tab h hh)]) (raise_hold hh)
set_option maxRecDepth 100000 in
set_option maxHeartbeats 6400000 in
theorem raisedLaw_ct (T : Tsk) (a : TA) (A : Option Addr) (n c : Nat) (l : List Ent) (w : World) (h : TkR w a T) (hl : Rd Enc.ent w A n c l) :
    Calls Try.prog 5 #[.agg #[.int .i64 T.facts, .slice a.I a.nI a.cI, .slice a.G a.nG a.cG, .slice a.O a.nO a.cO], .slice A n c] w (Gives w (.bool true)) := by
  have hra := fun W hT hW => Raise_ct a T A n c l W hT hW
  have hck := fun A n c l W hT hW => Check_ct a T A n c l W hT hW
  obtain ⟨I, nI, cI, G, nG, cG, O, nO, cO⟩ := a
  simp only at hra hck ⊢
  have hlow := hl.low
  have Hlen := hide hl.len
  have H := hide h
  have Hl := hide hl
  have Hra := hide hra
  have Hck := hide hck
  clear h hl hra hck
  have Hbl := hide (Below.refl w.heap.size w)
  go_enter Try.func5, Try.ntmps5
  go_upto_region 1 with (fail)
  obtain ⟨B0, hB0⟩ : ∃ B0, B0 = w.heap.size := ⟨_, rfl⟩
  have HB0 := hide hB0
  clear hB0
  have s_0 : B0 ≤ w.heap.size := Nat.le_trans (Nat.le_of_eq HB0.out) Hbl.out.size
  have hyt := Blk.new (w) 25 [.int .i64 T.facts, .slice I nI cI, .slice G nG cG, .slice O nO cO]
  have hbW : Below (w).heap.size (w) ((w).alloc (.cells #[.int .i64 T.facts, .slice I nI cI, .slice G nG cG, .slice O nO cO] 25)) := (Below.refl _ _).alloc (Nat.le_refl _) _
  obtain ⟨w0, hW⟩ : ∃ W, W = (w).alloc (.cells #[.int .i64 T.facts, .slice I nI cI, .slice G nG cG, .slice O nO cO] 25) := ⟨_, rfl⟩
  rw [← hW] at hyt hbW ⊢
  replace Hbl := hide (Hbl.out.trans (hbW.mono Hbl.out.size))
  have Ht := hide hyt
  clear hW hbW hyt
  generalize w.heap.size = gT at Ht s_0 ⊢
  have t0 := Ht.out.cell 0
  have t1 := Ht.out.cell 1
  have t2 := Ht.out.cell 2
  have t3 := Ht.out.cell 3
  have tl := Ht.out.lt
  simp only [List.getElem?_cons_zero, List.getElem?_cons_succ] at t0 t1 t2 t3
  have a_t : B0 ≤ gT := by omega
  clear s_0
  go_wp2_with fail
  with_reducible refine (lowerboundExample_ct w0).mono ?_
  rintro e w1 ⟨rfl, hb⟩
  clear t0 t1 t2 t3 tl
  replace Ht := hide (Ht.out.keep hb)
  replace Hbl := hide (Hbl.out.trans (hb.mono Hbl.out.size))
  clear hb
  have t0 := Ht.out.cell 0
  have t1 := Ht.out.cell 1
  have t2 := Ht.out.cell 2
  have t3 := Ht.out.cell 3
  have tl := Ht.out.lt
  simp only [List.getElem?_cons_zero, List.getElem?_cons_succ] at t0 t1 t2 t3
  have hct := Hra.out w1 (H.out.keep Hbl.out) (Hl.out.keep Hbl.out)
  rcases rse_cases T l with ⟨ec, ei, hr, hec⟩ | ⟨N, hok, htab, hb0, hh, hr⟩
  · skip
    rw [hr] at hct
    clear hr
    go_wp2_with fail
    with_reducible refine hct.mono ?_
    rintro e w2 ⟨hb, rfl⟩
    clear hct
    clear t0 t1 t2 t3 tl
    replace Ht := hide (Ht.out.keep hb)
    replace Hbl := hide (Hbl.out.trans (hb.mono Hbl.out.size))
    clear hb
    have t0 := Ht.out.cell 0
    have t1 := Ht.out.cell 1
    have t2 := Ht.out.cell 2
    have t3 := Ht.out.cell 3
    have tl := Ht.out.lt
    simp only [List.getElem?_cons_zero, List.getElem?_cons_succ] at t0 t1 t2 t3
    unfold fault
    go_upto_region 4 with (fail)
    have s_t : gT < w2.heap.size := tl
    have s_0 : B0 ≤ w2.heap.size := Nat.le_trans (Nat.le_of_eq HB0.out) Hbl.out.size
    have hyf := Blk.new (w2) 29 [.int .i64 ec, .int .i64 ei]
    have hbW : Below (w2).heap.size (w2) ((w2).alloc (.cells #[.int .i64 ec, .int .i64 ei] 29)) := (Below.refl _ _).alloc (Nat.le_refl _) _
    obtain ⟨w3, hW⟩ : ∃ W, W = (w2).alloc (.cells #[.int .i64 ec, .int .i64 ei] 29) := ⟨_, rfl⟩
    rw [← hW] at hyf hbW ⊢
    replace Ht := hide (Ht.out.keep hbW)
    replace Hbl := hide (Hbl.out.trans (hbW.mono Hbl.out.size))
    have Hf := hide hyf
    clear hW hbW hyf
    generalize w2.heap.size = gf at Hf s_t s_0 ⊢
    have t0 := Ht.out.cell 0
    have t1 := Ht.out.cell 1
    have t2 := Ht.out.cell 2
    have t3 := Ht.out.cell 3
    have tl := Ht.out.lt
    have f0 := Hf.out.cell 0
    have f1 := Hf.out.cell 1
    have fl := Hf.out.lt
    simp only [List.getElem?_cons_zero, List.getElem?_cons_succ] at t0 t1 t2 t3 f0 f1
    clear s_t
    have a_f : B0 ≤ gf := by omega
    clear s_0
    have hne : (ec != 0) = true := by simpa using hec
    go_wp2_with fail
    go_ret
    exact ⟨rfl, Hbl.out⟩
  · skip
    rw [hr] at hct
    have hck2 := chk_raise hok htab hb0 hh
    have hmono : ∀ e ∈ l, e.val ≤ leastF infC T.ops l e.st := fun e he => (hold_iff.1 hh e he).2
    have hlr : (raiseF infC T l).length = n := by unfold raiseF; rw [List.length_map, Hlen.out]
    have hget : ∀ (k : Nat) (e : Ent), l[k]? = some e → (raiseF infC T l)[k]? = some ⟨e.st, leastF infC T.ops l e.st⟩ := fun k e he => by unfold raiseF; rw [List.getElem?_map, he]; rfl
    obtain ⟨rl, hrl⟩ : ∃ z, z = raiseF infC T l := ⟨_, rfl⟩
    rw [← hrl] at hct hck2 hlr hget
    have Hck2 := hide hck2
    have Hmono := hide hmono
    have Hget := hide hget
    have Hlr := hide hlr
    clear hr hck2 hmono hget hrl hok htab hb0 hh hlr
    go_wp2_with fail
    with_reducible refine hct.mono ?_
    rintro e w2 ⟨hb, rA, rc, rfl, hrr⟩
    rw [Hlr.out] at hrr ⊢
    have Hrr := hide hrr
    clear hct hrr
    clear t0 t1 t2 t3 tl
    replace Ht := hide (Ht.out.keep hb)
    replace Hbl := hide (Hbl.out.trans (hb.mono Hbl.out.size))
    clear hb
    have t0 := Ht.out.cell 0
    have t1 := Ht.out.cell 1
    have t2 := Ht.out.cell 2
    have t3 := Ht.out.cell 3
    have tl := Ht.out.lt
    simp only [List.getElem?_cons_zero, List.getElem?_cons_succ] at t0 t1 t2 t3
    unfold fault
    go_upto_region 4 with (fail)
    have s_t : gT < w2.heap.size := tl
    have s_0 : B0 ≤ w2.heap.size := Nat.le_trans (Nat.le_of_eq HB0.out) Hbl.out.size
    have hyf := Blk.new (w2) 29 [.int .i64 0, .int .i64 0]
    have hbW : Below (w2).heap.size (w2) ((w2).alloc (.cells #[.int .i64 0, .int .i64 0] 29)) := (Below.refl _ _).alloc (Nat.le_refl _) _
    obtain ⟨w3, hW⟩ : ∃ W, W = (w2).alloc (.cells #[.int .i64 0, .int .i64 0] 29) := ⟨_, rfl⟩
    rw [← hW] at hyf hbW ⊢
    replace Ht := hide (Ht.out.keep hbW)
    replace Hrr := hide (Hrr.out.keep hbW)
    replace Hbl := hide (Hbl.out.trans (hbW.mono Hbl.out.size))
    have Hf := hide hyf
    clear hW hbW hyf
    generalize w2.heap.size = gf at Hf s_t s_0 ⊢
    have t0 := Ht.out.cell 0
    have t1 := Ht.out.cell 1
    have t2 := Ht.out.cell 2
    have t3 := Ht.out.cell 3
    have tl := Ht.out.lt
    have f0 := Hf.out.cell 0
    have f1 := Hf.out.cell 1
    have fl := Hf.out.lt
    simp only [List.getElem?_cons_zero, List.getElem?_cons_succ] at t0 t1 t2 t3 f0 f1
    clear s_t
    have a_f : B0 ≤ gf := by omega
    clear s_0
    have hct := Hck.out rA n rc rl w3 (H.out.keep Hbl.out) Hrr.out
    rw [Hck2.out] at hct
    unfold chkV fault at hct
    dsimp only at hct
    obtain ⟨vb, hvb⟩ : ∃ z, z = bOf rl T.init := ⟨_, rfl⟩
    rw [← hvb] at hct
    clear hvb
    go_wp2_with fail
    with_reducible refine (hct).mono ?_
    rintro e w4 ⟨rfl, hb⟩
    clear t0 t1 t2 t3 f0 f1 tl fl
    replace Ht := hide (Ht.out.keep hb)
    replace Hf := hide (Hf.out.keep hb)
    replace Hrr := hide (Hrr.out.keep hb)
    replace Hbl := hide (Hbl.out.trans (hb.mono Hbl.out.size))
    clear hb
    have t0 := Ht.out.cell 0
    have t1 := Ht.out.cell 1
    have t2 := Ht.out.cell 2
    have t3 := Ht.out.cell 3
    have tl := Ht.out.lt
    have f0 := Hf.out.cell 0
    have f1 := Hf.out.cell 1
    have fl := Hf.out.lt
    simp only [List.getElem?_cons_zero, List.getElem?_cons_succ] at t0 t1 t2 t3 f0 f1
    clear hct
    go_upto_region 7 with (fail)
    have s_t : gT < w4.heap.size := tl
    have s_f : gf < w4.heap.size := fl
    have s_0 : B0 ≤ w4.heap.size := Nat.le_trans (Nat.le_of_eq HB0.out) Hbl.out.size
    have hyc := Blk.new (w4) 29 [.int .i64 0, .int .i64 0]
    have hbW : Below (w4).heap.size (w4) ((w4).alloc (.cells #[.int .i64 0, .int .i64 0] 29)) := (Below.refl _ _).alloc (Nat.le_refl _) _
    obtain ⟨w5, hW⟩ : ∃ W, W = (w4).alloc (.cells #[.int .i64 0, .int .i64 0] 29) := ⟨_, rfl⟩
    rw [← hW] at hyc hbW ⊢
    replace Ht := hide (Ht.out.keep hbW)
    replace Hf := hide (Hf.out.keep hbW)
    replace Hrr := hide (Hrr.out.keep hbW)
    replace Hbl := hide (Hbl.out.trans (hbW.mono Hbl.out.size))
    have Hc := hide hyc
    clear hW hbW hyc
    generalize w4.heap.size = gc at Hc s_t s_f s_0 ⊢
    have t0 := Ht.out.cell 0
    have t1 := Ht.out.cell 1
    have t2 := Ht.out.cell 2
    have t3 := Ht.out.cell 3
    have tl := Ht.out.lt
    have f0 := Hf.out.cell 0
    have f1 := Hf.out.cell 1
    have fl := Hf.out.lt
    have c0 := Hc.out.cell 0
    have c1 := Hc.out.cell 1
    have cl := Hc.out.lt
    simp only [List.getElem?_cons_zero, List.getElem?_cons_succ] at t0 t1 t2 t3 f0 f1 c0 c1
    clear s_t
    clear s_f
    have a_c : B0 ≤ gc := by omega
    clear s_0
    have hnn : ((n : Int) != (n : Int)) = false := by simp
    go_wp2_with fail
    have hg5 := Hbl.out.size
    clear t0 t1 t2 t3 f0 f1 c0 c1 tl fl cl
    clear hnn
    go_loopw [10] (fun i wr => ∃ k : Nat, k ≤ n ∧ i = .int .i64 k ∧ Below w5.heap.size w5 wr) (fun i _ => n - (intOf i).toNat)
    case atStart => exact ⟨0, by omega, rfl, Below.refl _ _⟩
    case round =>
      obtain ⟨k, hk, rfl, hb⟩ := hrel
      have Hb := hide hb
      have Hbl2 := hide (Hbl.out.trans (hb.mono hg5))
      clear hb
      by_cases hlt : k < n
      rotate_left
      · obtain rfl : k = n := by omega
        go_wp2_with fail
        go_ret
        exact ⟨rfl, Hbl2.out⟩
      obtain ⟨b1, o1, x, A1, n1, c1, rfl, hx, g0, g1, r1, r2⟩ := (Hl.out.keep Hbl2.out).ent hlt
      obtain ⟨b2, o2, y, A2, n2, c2, rfl, hy, q0, q1, r3, r4⟩ := (Hrr.out.keep Hb.out).ent hlt
      obtain rfl := Option.some.inj ((Hget.out k x hx).symm.trans hy)
      have hle := Hmono.out x (List.mem_of_getElem? hx)
      simp only at q1 r3
      have hct := fun W (hW : Qt wr W) => Ints_ct A1 A2 n1 c1 n2 c2 x.st x.st W (r1.qt hW) (r3.qt hW)
      rw [show intsB x.st x.st = true by simp [intsB]] at hct
      have Hct := hide hct
      obtain ⟨p, hp⟩ : ∃ p, p = x.val := ⟨_, rfl⟩
      obtain ⟨q, hq⟩ : ∃ q, q = leastF infC T.ops l x.st := ⟨_, rfl⟩
      rw [← hp] at g1
      rw [← hq] at q1
      rw [← hp, ← hq] at hle
      have hki : (k : Int) < (n : Int) := by omega
      have hnl : ¬ q < p := by omega
      clear hct hx hy r1 r2 r3 r4 hp hq
      go_upto_region 12 with (fail)
      go_quiet ((go_at_call 23; with_reducible exact quiet_call (Hct.out _ ((Qt.refl _).drewN _))))
      go_wp2
      go_roundw
      case rel => exact ⟨k + 1, by omega, by go_num, below_drewN Hb.out _⟩
      case measure => simp [intOf]; omega
end Go.Proofs.Ytliggcmohcdchaa
namespace Go.Proofs.Ytliggcmohcdchaa
set_option linter.unusedVariables false
open Go.RowKit
theorem many_list {T : Tsk} {l : List Nat} (h : TooMany T) (hl : ListOf T l) : False := by
  obtain ⟨m, h1, h2, h3⟩ := h
  have h4 := hl.all.few h1 h2
  have h5 := hl.few
  omega
theorem CostsOf.set {T : Tsk} {N : Nat} (hok : OkT T N) {l : List Nat} {f : Nat → Int} (h : CostsOf T l f) {s : Nat} (hs : s ∈ l) : setB N (factsF s) = true ∧ wordF (factsF s) = s := by
  obtain ⟨st, h1, rfl⟩ := reach_set hok ((h.list.all.mem s).1 hs)
  have hN := hok.low
  rw [facts_word (by omega) h1]
  exact ⟨h1, rfl⟩
theorem CostsOf.next {T : Tsk} {l : List Nat} {f : Nat → Int} (h : CostsOf T l f) {s t : Nat} {c : Int} (hs : s ∈ l) (ha : arcW (T.ops.map mkOp) s t c) : t ∈ l := (h.list.all.mem t).2 (.step ((h.list.all.mem s).1 hs) (step_arc.2 ⟨c, ha⟩))
theorem CostsOf.same {T : Tsk} {N : Nat} (hok : OkT T N) {l l' : List Nat} {f f' : Nat → Int} (h : CostsOf T l f) (h' : CostsOf T l' f') : ∀ s ∈ l, f s = f' s := by
  have he : (fun x => x ∈ l) = (fun x => x ∈ l') := funext fun x => propext ((h.list.all.mem x).trans (h'.list.all.mem x).symm)
  have hl := h.least
  have hl' := h'.least
  rw [← he] at hl'
  exact fun s hs => hl.uniq hl' (fun s t c ha => (arc_cost hok ha).1) (fun s t c hs ha => h.next hs ha) s hs
theorem inf_eq : infW = infC := rfl
theorem made_tab {T : Tsk} {N : Nat} (hok : OkT T N) {l : List Nat} {f : Nat → Int} (h : CostsOf T l f) : TabOk N (mkTab l f) := by
  refine ⟨Nat.le_trans (mkTab_len l f) h.list.few, fun e he => ?_, fun e he => ?_, fun e he => ?_, ?_⟩
  · obtain ⟨s, hs, rfl⟩ := List.mem_map.1 he
    exact (h.set hok (List.mem_filter.1 hs).1).1
  · obtain ⟨s, hs, rfl⟩ := List.mem_map.1 he
    have : 0 < f s := by simpa using (List.mem_filter.1 hs).2
    show 1 ≤ f s
    omega
  · obtain ⟨s, hs, rfl⟩ := List.mem_map.1 he
    exact h.least.high s (List.mem_filter.1 hs).1
  · unfold mkTab
    rw [List.pairwise_map]
    exact h.list.up.filter _
theorem tabM_mk {f : Nat → Int} : ∀ {l : List Nat}, (∀ s ∈ l, wordF (factsF s) = s) → ∀ w, tabM (mkTab l f) w = if w ∈ l ∧ 0 < f w then some (f w) else none := by
  intro l
  induction l with
  | nil => intro _ w; simp [mkTab, tabM_nil]
  | cons s l ih =>
    intro h w
    have hs := h s List.mem_cons_self
    have ih := ih (fun x hx => h x (List.mem_cons_of_mem _ hx)) w
    have hc : mkTab (s :: l) f = if 0 < f s then ⟨factsF s, f s⟩ :: mkTab l f else mkTab l f := by
      unfold mkTab
      by_cases hp : 0 < f s
      · rw [if_pos hp, List.filter_cons, if_pos (by simpa using hp), List.map_cons]
      · rw [if_neg hp, List.filter_cons, if_neg (by simpa using hp)]
    rw [hc]
    by_cases hp : 0 < f s
    · rw [if_pos hp, tabM_cons, ih]
      by_cases hw : w = s
      · subst hw
        rw [if_pos hs, if_pos ⟨List.mem_cons_self, hp⟩]
      · rw [if_neg (fun e => hw (by rw [← e, hs]))]
        have : (w ∈ s :: l ∧ 0 < f w) ↔ (w ∈ l ∧ 0 < f w) := by simp [hw]
        simp only [this]
    · rw [if_neg hp, ih]
      have : (w ∈ s :: l ∧ 0 < f w) ↔ (w ∈ l ∧ 0 < f w) := by
        constructor
        · rintro ⟨h1, h2⟩
          rcases List.mem_cons.1 h1 with rfl | h1
          · exact absurd h2 hp
          · exact ⟨h1, h2⟩
        · rintro ⟨h1, h2⟩; exact ⟨List.mem_cons_of_mem _ h1, h2⟩
      simp only [this]
/-- the table's value of a state that can be reached -/
theorem made_of {T : Tsk} {N : Nat} (hok : OkT T N) {l : List Nat} {f : Nat → Int} (h : CostsOf T l f) {s : List Int} (hs : setB N s = true) (hm : wordF s ∈ l) : bOf (mkTab l f) s = f (wordF s) := by
  rw [← bW_of hok.low (made_tab hok h).set hs]
  unfold bW
  rw [tabM_mk (fun x hx => (h.set hok hx).2)]
  have h0 := h.least.low _ hm
  by_cases hp : 0 < f (wordF s)
  · rw [if_pos ⟨hm, hp⟩]; rfl
  · rw [if_neg (fun k => hp k.2)]
    show (0 : Int) = _
    omega
theorem le_least_from {l : List Ent} {s : List Int} {v : Int} : ∀ (os : List Opr) (n : Int), v ≤ n → (∀ o ∈ os, subsetB o.pre s = true → v ≤ o.cost + bOf l (updF s o.add o.del)) → v ≤ os.foldl (leastStep l s) n := by
  intro os
  induction os with
  | nil => intro n h _; exact h
  | cons o os ih =>
    intro n hn h
    rw [List.foldl_cons]
    refine ih _ ?_ fun p hp => h p (List.mem_cons_of_mem _ hp)
    have := h o List.mem_cons_self
    unfold leastStep
    split
    · rename_i hp
      have := this hp
      omega
    · exact hn
theorem made_hold {T : Tsk} {N : Nat} (hok : OkT T N) {l : List Nat} {f : Nat → Int} (h : CostsOf T l f) : holdB infC T (mkTab l f) = true := by
  rw [hold_iff]
  intro e he
  obtain ⟨s, hs, rfl⟩ := List.mem_map.1 he
  obtain ⟨hm, hp⟩ := List.mem_filter.1 hs
  have hp : 0 < f s := by simpa using hp
  obtain ⟨hset, hw⟩ := h.set hok hm
  refine ⟨?_, ?_⟩
  · rw [Bool.eq_false_iff]
    intro hg
    rw [← goal_word hset hok.goal, hw] at hg
    have := h.least.zero s hm hg
    omega
  · refine le_least_from _ _ (h.least.high s hm) fun o ho hpre => ?_
    have harc : arcW (T.ops.map mkOp) s (wordF (updF (factsF s) o.add o.del)) o.cost := by
      have := (arc_iff hok hset).2 ⟨o, ho, hpre, rfl, rfl⟩
      rwa [hw] at this
    have hn := h.next hm harc
    rw [made_of hok h (upd_setB hset (hok.ops o ho)) hn]
    have hc := (arc_cost hok harc).1
    have hhi := h.least.high s hm
    by_cases hf : f (wordF (updF (factsF s) o.add o.del)) < infW
    · have := h.least.arc s _ _ hm harc hf
      show f s ≤ _
      omega
    · show f s ≤ _
      omega
theorem made_least {T : Tsk} {N : Nat} (hok : OkT T N) {l : List Nat} {f : Nat → Int} (h : CostsOf T l f) {s : Nat} (hm : s ∈ l) (hp : 0 < f s) : leastF infC T.ops (mkTab l f) (factsF s) = f s := by
  obtain ⟨hset, hw⟩ := h.set hok hm
  have h1 : f s ≤ leastF infC T.ops (mkTab l f) (factsF s) := (hold_iff.1 (made_hold hok h) ⟨factsF s, f s⟩ (List.mem_map.2 ⟨s, List.mem_filter.2 ⟨hm, by simpa using hp⟩, rfl⟩)).2
  have hhi := h.least.high s hm
  have h2 := least_le_inf infC T.ops (mkTab l f) (factsF s)
  by_cases hf : f s < infW
  · have hway := h.least.way s hm hf
    generalize hv : f s = v at hway hf hp h1 hhi
    cases hway with
    | here hg => omega
    | step ha hwy =>
      rename_i t c n
      have hc := (arc_cost hok ha).1
      have hn := h.next hm ha
      have hle := h.least.le (fun s t c ha => (arc_cost hok ha).1) (fun s t c hs ha => h.next hs ha) hwy hn (by omega)
      have ha2 := ha
      rw [← hw] at ha2
      obtain ⟨o, ho, hpre, rfl, rfl⟩ := (arc_iff hok hset).1 ha2
      have hlo := least_op (inf := infC) (l := mkTab l f) ho hpre
      rw [made_of hok h (upd_setB hset (hok.ops o ho)) hn] at hlo
      omega
  · rw [inf_eq] at hf hhi
    omega
theorem made_raise {T : Tsk} {N : Nat} (hok : OkT T N) {l : List Nat} {f : Nat → Int} (h : CostsOf T l f) : raiseF infC T (mkTab l f) = mkTab l f := by
  have key : ∀ e ∈ mkTab l f, (⟨e.st, leastF infC T.ops (mkTab l f) e.st⟩ : Ent) = e := fun e he => by
    obtain ⟨s, hs, rfl⟩ := List.mem_map.1 he
    obtain ⟨hm, hp⟩ := List.mem_filter.1 hs
    show (⟨factsF s, leastF infC T.ops (mkTab l f) (factsF s)⟩ : Ent) = _
    rw [made_least hok h hm (by simpa using hp)]
  unfold raiseF
  have : ∀ (r : List Ent), (∀ e ∈ r, (⟨e.st, leastF infC T.ops (mkTab l f) e.st⟩ : Ent) = e) → (r.map fun e => (⟨e.st, leastF infC T.ops (mkTab l f) e.st⟩ : Ent)) = r := by
    intro r
    induction r with
    | nil => intro _; rfl
    | cons e r ih => intro hr; rw [List.map_cons, hr e List.mem_cons_self, ih fun x hx => hr x (List.mem_cons_of_mem _ hx)]
  exact this _ key
theorem CostsOf.init {T : Tsk} {l : List Nat} {f : Nat → Int} (h : CostsOf T l f) : wordF T.init ∈ l := (h.list.all.mem _).2 .start
theorem made_init {T : Tsk} {N : Nat} (hok : OkT T N) {l : List Nat} {f : Nat → Int} (h : CostsOf T l f) : bOf (mkTab l f) T.init = f (wordF T.init) := made_of hok h hok.init h.init
/-- with a table that holds, no way costs less than the state's value -/
theorem bound_way {T : Tsk} {N : Nat} (hok : OkT T N) {l : List Ent} (htab : TabOk N l) (hh : holdB infC T l = true) {w : Nat} {n : Int} (hw : Way (arcW (T.ops.map mkOp)) (goalW (wordF T.goal)) w n) : ∀ s, setB N s = true → w = wordF s → bOf l s ≤ n := by
  induction hw with
  | here hg =>
    rintro s hs rfl
    rw [goal_word hs hok.goal] at hg
    rw [hold_goal hh hg]
    omega
  | step ha hwy ih =>
    rintro s hs rfl
    obtain ⟨o, ho, hpre, rfl, rfl⟩ := (arc_iff hok hs).1 ha
    have h1 := ih _ (upd_setB hs (hok.ops o ho)) rfl
    have h2 := hold_arc hh ho hpre (hok.ops o ho).low htab.low
    omega
theorem bound_costs {T : Tsk} {N : Nat} (hok : OkT T N) {tb : List Ent} (htab : TabOk N tb) (hh : holdB infC T tb = true) {l : List Nat} {f : Nat → Int} (h : CostsOf T l f) : bOf tb T.init ≤ f (wordF T.init) := by
  have hr : bOf tb T.init ≤ infC := by
    rw [← bW_of hok.low htab.set hok.init]
    exact (bW_range htab _).2
  by_cases hf : f (wordF T.init) < infW
  · exact bound_way hok htab hh (h.least.way _ h.init hf) T.init hok.init rfl
  · rw [inf_eq] at hf
    omega
end Go.Proofs.Ytliggcmohcdchaa
namespace Go.Proofs.Ytliggcmohcdchaa
set_option linter.unusedVariables false
set_option linter.unusedSimpArgs false
open Go.RowKit
theorem plan_ops {T : Tsk} {p : List Int} (h : (stepsFault T.ops.length p).1 = 0) : ∀ o ∈ p.map (opAt T.ops), o ∈ T.ops := by
  intro o ho
  obtain ⟨x, hx, rfl⟩ := List.mem_map.1 ho
  unfold stepsFault at h
  split at h
  · cases h
  · split at h
    · cases h
    · rename_i h2
      have h3 : outB T.ops.length x = false := by
        rw [Bool.eq_false_iff]
        intro e
        exact h2 (List.any_eq_true.2 ⟨x, hx, e⟩)
      have h4 : 0 ≤ x ∧ x < T.ops.length := by
        unfold outB at h3
        simp at h3
        omega
      obtain ⟨q, rfl⟩ : ∃ q : Nat, x = (q : Int) := ⟨x.toNat, by omega⟩
      have hlt : q < T.ops.length := by omega
      have hop : opAt T.ops (q : Int) = T.ops[q] := opAt_eq (List.getElem?_eq_getElem hlt)
      rw [hop]
      exact List.getElem_mem hlt
theorem plan_bound {T : Tsk} {N : Nat} (hok : OkT T N) {tb : List Ent} (htab : TabOk N tb) (hh : holdB infC T tb = true) (p : List Int) : (solvesR T p).2.1 ≠ 0 ∨ (solvesR T p).1 = false ∨ bOf tb T.init ≤ (scostR T p).1 := by
  unfold solvesR scostR
  by_cases hp : (planFault T p).1 ≠ 0
  · rw [if_pos hp]; exact .inl hp
  · rw [if_neg hp, if_neg hp]
    refine .inr ?_
    cases hw : worksF T T.init p with
    | false => exact .inl rfl
    | true =>
      refine .inr ?_
      unfold worksF at hw
      cases he : execO T.init (p.map (opAt T.ops)) with
      | none => rw [he] at hw; cases hw
      | some r =>
        rw [he] at hw
        have hst : (stepsFault T.ops.length p).1 = 0 := by
          unfold planFault at hp
          by_cases h0 : (taskFault T).1 ≠ 0
          · rw [if_pos h0] at hp; exact absurd h0 hp
          · rw [if_neg h0] at hp; omega
        have hway := exec_way hok _ T.init r (plan_ops hst) hok.init he hw
        have := bound_way hok htab hh hway T.init hok.init rfl
        unfold costF
        rw [List.map_map] at this
        exact this
theorem opt_bound {T : Tsk} {w : World} {e : Ending} {w' : World} (h : OptP w T e w') : ∃ k c i, e = .returned (.tuple #[.int .i64 k, fault c i]) ∧ (c ≠ 0 ∨ ∀ (N : Nat) (tb : List Ent), OkT T N → TabOk N tb → holdB infC T tb = true → bOf tb T.init ≤ k) := by
  rcases h.2 with ⟨h1, rfl⟩ | ⟨h1, _, rfl⟩ | ⟨h1, l, f, hco, rfl⟩
  · exact ⟨_, _, _, rfl, .inl h1⟩
  · exact ⟨_, _, _, rfl, .inl (by omega)⟩
  · exact ⟨_, _, _, rfl, .inr fun N tb hok htab hh => bound_costs hok htab hh hco⟩
theorem chk_cases (T : Tsk) (l : List Ent) : (∃ c i, chkF T l = (0, false, c, i)) ∨ (∃ N, OkT T N ∧ TabOk N l ∧ holdB infC T l = true ∧ chkF T l = (bOf l T.init, true, 0, 0)) := by
  by_cases h : (boundsF T l).1 = 0
  · obtain ⟨N, hok, htab⟩ := boundsF_ok h
    cases hh : holdB infC T l with
    | false => exact .inl ⟨0, 0, chk_no h hh⟩
    | true => exact .inr ⟨N, hok, htab, rfl, chk_yes h hh⟩
  · exact .inl ⟨_, _, chk_bad h⟩
set_option maxRecDepth 100000 in
set_option maxHeartbeats 12800000 in
theorem boundLaw_ct (T : Tsk) (a : TA) (A : Option Addr) (n c : Nat) (l : List Ent) (B : Option Addr) (m d : Nat) (p : List Int) (w : World) (h : TkR w a T) (hl : Rd Enc.ent w A n c l) (hp : Rd Enc.int w B m d p) :
    Calls Try.prog 9 #[.agg #[.int .i64 T.facts, .slice a.I a.nI a.cI, .slice a.G a.nG a.cG, .slice a.O a.nO a.cO], .slice A n c, .slice B m d] w (Gives w (.bool true)) := by
  have hck := fun W hT hW => Check_ct a T A n c l W hT hW
  have hsv := fun W hT hW => SSolves_ct a T B m d p W hT hW
  have hsc := fun W hT hW => SCost_ct a T B m d p W hT hW
  have hop := fun W hT => Optimal_ct a T W hT
  obtain ⟨I, nI, cI, G, nG, cG, O, nO, cO⟩ := a
  simp only at hck hsv hsc hop ⊢
  have H := hide h
  have Hl := hide hl
  have Hp := hide hp
  have hpb := fun (N : Nat) (hok : OkT T N) (htab : TabOk N l) (hh : holdB infC T l = true) => plan_bound hok htab hh p
  rcases hs : solvesR T p with ⟨good, c2, i2⟩
  rcases hc : scostR T p with ⟨cv, c3, i3⟩
  rw [hs, hc] at hpb
  rw [hs] at hsv
  rw [hc] at hsc
  simp only at hpb hsv hsc
  have Hck := hide hck
  have Hsv := hide hsv
  have Hsc := hide hsc
  have Hop := hide hop
  have Hpb := hide hpb
  clear h hl hp hck hsv hsc hop hpb hs hc
  have Hbl := hide (Below.refl w.heap.size w)
  go_enter Try.func9, Try.ntmps9
  go_upto_region 1 with (fail)
  obtain ⟨B0, hB0⟩ : ∃ B0, B0 = w.heap.size := ⟨_, rfl⟩
  have HB0 := hide hB0
  clear hB0
  have s_0 : B0 ≤ w.heap.size := Nat.le_trans (Nat.le_of_eq HB0.out) Hbl.out.size
  have hyt := Blk.new (w) 25 [.int .i64 T.facts, .slice I nI cI, .slice G nG cG, .slice O nO cO]
  have hbW : Below (w).heap.size (w) ((w).alloc (.cells #[.int .i64 T.facts, .slice I nI cI, .slice G nG cG, .slice O nO cO] 25)) := (Below.refl _ _).alloc (Nat.le_refl _) _
  obtain ⟨w0, hW⟩ : ∃ W, W = (w).alloc (.cells #[.int .i64 T.facts, .slice I nI cI, .slice G nG cG, .slice O nO cO] 25) := ⟨_, rfl⟩
  rw [← hW] at hyt hbW ⊢
  replace Hbl := hide (Hbl.out.trans (hbW.mono Hbl.out.size))
  have Ht := hide hyt
  clear hW hbW hyt
  generalize w.heap.size = gT at Ht s_0 ⊢
  have t0 := Ht.out.cell 0
  have t1 := Ht.out.cell 1
  have t2 := Ht.out.cell 2
  have t3 := Ht.out.cell 3
  have tl := Ht.out.lt
  simp only [List.getElem?_cons_zero, List.getElem?_cons_succ] at t0 t1 t2 t3
  have a_t : B0 ≤ gT := by omega
  clear s_0
  go_wp2_with fail
  with_reducible refine (lowerboundExample_ct w0).mono ?_
  rintro e w1 ⟨rfl, hb⟩
  clear t0 t1 t2 t3 tl
  replace Ht := hide (Ht.out.keep hb)
  replace Hbl := hide (Hbl.out.trans (hb.mono Hbl.out.size))
  clear hb
  have t0 := Ht.out.cell 0
  have t1 := Ht.out.cell 1
  have t2 := Ht.out.cell 2
  have t3 := Ht.out.cell 3
  have tl := Ht.out.lt
  simp only [List.getElem?_cons_zero, List.getElem?_cons_succ] at t0 t1 t2 t3
  obtain ⟨nv, ok, c1, i1, hchk, hfact⟩ : ∃ nv ok c1 i1, chkF T l = (nv, ok, c1, i1) ∧ ((nv = 0 ∧ ok = false) ∨ (∃ N, OkT T N ∧ TabOk N l ∧ holdB infC T l = true ∧ nv = bOf l T.init ∧ ok = true ∧ c1 = 0)) := by
    rcases chk_cases T l with ⟨c, i, h⟩ | ⟨N, hok, htab, hh, h⟩
    · exact ⟨_, _, _, _, h, .inl ⟨rfl, rfl⟩⟩
    · exact ⟨_, _, _, _, h, .inr ⟨N, hok, htab, hh, rfl, rfl, rfl⟩⟩
  have hct := Hck.out w1 (H.out.keep Hbl.out) (Hl.out.keep Hbl.out)
  rw [hchk] at hct
  unfold chkV fault at hct
  dsimp only at hct
  clear hchk
  have Hfact := hide hfact
  clear hfact
  go_wp2_with fail
  with_reducible refine (hct).mono ?_
  rintro e w2 ⟨rfl, hb⟩
  clear t0 t1 t2 t3 tl
  replace Ht := hide (Ht.out.keep hb)
  replace Hbl := hide (Hbl.out.trans (hb.mono Hbl.out.size))
  clear hb
  have t0 := Ht.out.cell 0
  have t1 := Ht.out.cell 1
  have t2 := Ht.out.cell 2
  have t3 := Ht.out.cell 3
  have tl := Ht.out.lt
  simp only [List.getElem?_cons_zero, List.getElem?_cons_succ] at t0 t1 t2 t3
  clear hct
  go_upto_region 4 with (fail)
  have s_t : gT < w2.heap.size := tl
  have s_0 : B0 ≤ w2.heap.size := Nat.le_trans (Nat.le_of_eq HB0.out) Hbl.out.size
  have hye := Blk.new (w2) 29 [.int .i64 c1, .int .i64 i1]
  have hbW : Below (w2).heap.size (w2) ((w2).alloc (.cells #[.int .i64 c1, .int .i64 i1] 29)) := (Below.refl _ _).alloc (Nat.le_refl _) _
  obtain ⟨w3, hW⟩ : ∃ W, W = (w2).alloc (.cells #[.int .i64 c1, .int .i64 i1] 29) := ⟨_, rfl⟩
  rw [← hW] at hye hbW ⊢
  replace Ht := hide (Ht.out.keep hbW)
  replace Hbl := hide (Hbl.out.trans (hbW.mono Hbl.out.size))
  have He := hide hye
  clear hW hbW hye
  generalize w2.heap.size = gc at He s_t s_0 ⊢
  have t0 := Ht.out.cell 0
  have t1 := Ht.out.cell 1
  have t2 := Ht.out.cell 2
  have t3 := Ht.out.cell 3
  have tl := Ht.out.lt
  have e0 := He.out.cell 0
  have e1 := He.out.cell 1
  have el := He.out.lt
  simp only [List.getElem?_cons_zero, List.getElem?_cons_succ] at t0 t1 t2 t3 e0 e1
  clear s_t
  have a_e : B0 ≤ gc := by omega
  clear s_0
  have hct := Hsv.out w3 (H.out.keep Hbl.out) (Hp.out.keep Hbl.out)
  unfold fault at hct
  go_wp2_with fail
  with_reducible refine (hct).mono ?_
  rintro e w4 ⟨rfl, hb⟩
  clear t0 t1 t2 t3 e0 e1 tl el
  replace Ht := hide (Ht.out.keep hb)
  replace He := hide (He.out.keep hb)
  replace Hbl := hide (Hbl.out.trans (hb.mono Hbl.out.size))
  clear hb
  have t0 := Ht.out.cell 0
  have t1 := Ht.out.cell 1
  have t2 := Ht.out.cell 2
  have t3 := Ht.out.cell 3
  have tl := Ht.out.lt
  have e0 := He.out.cell 0
  have e1 := He.out.cell 1
  have el := He.out.lt
  simp only [List.getElem?_cons_zero, List.getElem?_cons_succ] at t0 t1 t2 t3 e0 e1
  clear hct
  go_upto_region 5 with (fail)
  have s_t : gT < w4.heap.size := tl
  have s_e : gc < w4.heap.size := el
  have s_0 : B0 ≤ w4.heap.size := Nat.le_trans (Nat.le_of_eq HB0.out) Hbl.out.size
  have hys := Blk.new (w4) 29 [.int .i64 c2, .int .i64 i2]
  have hbW : Below (w4).heap.size (w4) ((w4).alloc (.cells #[.int .i64 c2, .int .i64 i2] 29)) := (Below.refl _ _).alloc (Nat.le_refl _) _
  obtain ⟨w5, hW⟩ : ∃ W, W = (w4).alloc (.cells #[.int .i64 c2, .int .i64 i2] 29) := ⟨_, rfl⟩
  rw [← hW] at hys hbW ⊢
  replace Ht := hide (Ht.out.keep hbW)
  replace He := hide (He.out.keep hbW)
  replace Hbl := hide (Hbl.out.trans (hbW.mono Hbl.out.size))
  have Hs := hide hys
  clear hW hbW hys
  generalize w4.heap.size = gs at Hs s_t s_e s_0 ⊢
  have t0 := Ht.out.cell 0
  have t1 := Ht.out.cell 1
  have t2 := Ht.out.cell 2
  have t3 := Ht.out.cell 3
  have tl := Ht.out.lt
  have e0 := He.out.cell 0
  have e1 := He.out.cell 1
  have el := He.out.lt
  have s0 := Hs.out.cell 0
  have s1 := Hs.out.cell 1
  have sl := Hs.out.lt
  simp only [List.getElem?_cons_zero, List.getElem?_cons_succ] at t0 t1 t2 t3 e0 e1 s0 s1
  clear s_t
  clear s_e
  have a_s : B0 ≤ gs := by omega
  clear s_0
  have hct := Hsc.out w5 (H.out.keep Hbl.out) (Hp.out.keep Hbl.out)
  unfold fault at hct
  go_wp2_with fail
  with_reducible refine (hct).mono ?_
  rintro e w6 ⟨rfl, hb⟩
  clear t0 t1 t2 t3 e0 e1 s0 s1 tl el sl
  replace Ht := hide (Ht.out.keep hb)
  replace He := hide (He.out.keep hb)
  replace Hs := hide (Hs.out.keep hb)
  replace Hbl := hide (Hbl.out.trans (hb.mono Hbl.out.size))
  clear hb
  have t0 := Ht.out.cell 0
  have t1 := Ht.out.cell 1
  have t2 := Ht.out.cell 2
  have t3 := Ht.out.cell 3
  have tl := Ht.out.lt
  have e0 := He.out.cell 0
  have e1 := He.out.cell 1
  have el := He.out.lt
  have s0 := Hs.out.cell 0
  have s1 := Hs.out.cell 1
  have sl := Hs.out.lt
  simp only [List.getElem?_cons_zero, List.getElem?_cons_succ] at t0 t1 t2 t3 e0 e1 s0 s1
  clear hct
  go_upto_region 6 with (fail)
  have s_t : gT < w6.heap.size := tl
  have s_e : gc < w6.heap.size := el
  have s_s : gs < w6.heap.size := sl
  have s_0 : B0 ≤ w6.heap.size := Nat.le_trans (Nat.le_of_eq HB0.out) Hbl.out.size
  have hyk := Blk.new (w6) 29 [.int .i64 c3, .int .i64 i3]
  have hbW : Below (w6).heap.size (w6) ((w6).alloc (.cells #[.int .i64 c3, .int .i64 i3] 29)) := (Below.refl _ _).alloc (Nat.le_refl _) _
  obtain ⟨w7, hW⟩ : ∃ W, W = (w6).alloc (.cells #[.int .i64 c3, .int .i64 i3] 29) := ⟨_, rfl⟩
  rw [← hW] at hyk hbW ⊢
  replace Ht := hide (Ht.out.keep hbW)
  replace He := hide (He.out.keep hbW)
  replace Hs := hide (Hs.out.keep hbW)
  replace Hbl := hide (Hbl.out.trans (hbW.mono Hbl.out.size))
  have Hk := hide hyk
  clear hW hbW hyk
  generalize w6.heap.size = gk at Hk s_t s_e s_s s_0 ⊢
  have t0 := Ht.out.cell 0
  have t1 := Ht.out.cell 1
  have t2 := Ht.out.cell 2
  have t3 := Ht.out.cell 3
  have tl := Ht.out.lt
  have e0 := He.out.cell 0
  have e1 := He.out.cell 1
  have el := He.out.lt
  have s0 := Hs.out.cell 0
  have s1 := Hs.out.cell 1
  have sl := Hs.out.lt
  have k0 := Hk.out.cell 0
  have k1 := Hk.out.cell 1
  have kl := Hk.out.lt
  simp only [List.getElem?_cons_zero, List.getElem?_cons_succ] at t0 t1 t2 t3 e0 e1 s0 s1 k0 k1
  clear s_t
  clear s_e
  clear s_s
  have a_k : B0 ≤ gk := by omega
  clear s_0
  have hct := Hop.out w7 (H.out.keep Hbl.out)
  go_wp2_with fail
  with_reducible refine hct.mono ?_
  rintro e w8 hopt
  have hb := hopt.1
  obtain ⟨kv, c4, i4, rfl, hk⟩ := opt_bound hopt
  have Hkf := hide hk
  clear hct hk hopt
  clear t0 t1 t2 t3 e0 e1 s0 s1 k0 k1 tl el sl kl
  replace Ht := hide (Ht.out.keep hb)
  replace He := hide (He.out.keep hb)
  replace Hs := hide (Hs.out.keep hb)
  replace Hk := hide (Hk.out.keep hb)
  replace Hbl := hide (Hbl.out.trans (hb.mono Hbl.out.size))
  clear hb
  have t0 := Ht.out.cell 0
  have t1 := Ht.out.cell 1
  have t2 := Ht.out.cell 2
  have t3 := Ht.out.cell 3
  have tl := Ht.out.lt
  have e0 := He.out.cell 0
  have e1 := He.out.cell 1
  have el := He.out.lt
  have s0 := Hs.out.cell 0
  have s1 := Hs.out.cell 1
  have sl := Hs.out.lt
  have k0 := Hk.out.cell 0
  have k1 := Hk.out.cell 1
  have kl := Hk.out.lt
  simp only [List.getElem?_cons_zero, List.getElem?_cons_succ] at t0 t1 t2 t3 e0 e1 s0 s1 k0 k1
  unfold fault
  go_upto_region 7 with (fail)
  have s_t : gT < w8.heap.size := tl
  have s_e : gc < w8.heap.size := el
  have s_s : gs < w8.heap.size := sl
  have s_k : gk < w8.heap.size := kl
  have s_0 : B0 ≤ w8.heap.size := Nat.le_trans (Nat.le_of_eq HB0.out) Hbl.out.size
  have hyo := Blk.new (w8) 29 [.int .i64 c4, .int .i64 i4]
  have hbW : Below (w8).heap.size (w8) ((w8).alloc (.cells #[.int .i64 c4, .int .i64 i4] 29)) := (Below.refl _ _).alloc (Nat.le_refl _) _
  obtain ⟨w9, hW⟩ : ∃ W, W = (w8).alloc (.cells #[.int .i64 c4, .int .i64 i4] 29) := ⟨_, rfl⟩
  rw [← hW] at hyo hbW ⊢
  replace Ht := hide (Ht.out.keep hbW)
  replace He := hide (He.out.keep hbW)
  replace Hs := hide (Hs.out.keep hbW)
  replace Hk := hide (Hk.out.keep hbW)
  replace Hbl := hide (Hbl.out.trans (hbW.mono Hbl.out.size))
  have Ho := hide hyo
  clear hW hbW hyo
  generalize w8.heap.size = go at Ho s_t s_e s_s s_k s_0 ⊢
  have t0 := Ht.out.cell 0
  have t1 := Ht.out.cell 1
  have t2 := Ht.out.cell 2
  have t3 := Ht.out.cell 3
  have tl := Ht.out.lt
  have e0 := He.out.cell 0
  have e1 := He.out.cell 1
  have el := He.out.lt
  have s0 := Hs.out.cell 0
  have s1 := Hs.out.cell 1
  have sl := Hs.out.lt
  have k0 := Hk.out.cell 0
  have k1 := Hk.out.cell 1
  have kl := Hk.out.lt
  have o0 := Ho.out.cell 0
  have o1 := Ho.out.cell 1
  have ol := Ho.out.lt
  simp only [List.getElem?_cons_zero, List.getElem?_cons_succ] at t0 t1 t2 t3 e0 e1 s0 s1 k0 k1 o0 o1
  clear s_t
  clear s_e
  clear s_s
  clear s_k
  have a_o : B0 ≤ go := by omega
  clear s_0
  rcases Hfact.out with ⟨hn0, hok⟩ | ⟨N, hokt, htab, hh, hnv, hok, hc1⟩
  · subst hn0 hok
    by_cases he : c1 = 0
    · subst he
      go_wp2_with fail
      go_ret
      exact ⟨ret_bool (by simp), Hbl.out⟩
    · have hne : (c1 != 0) = true := by simpa using he
      go_wp2_with fail
      go_ret
      exact ⟨ret_bool (by simp), Hbl.out⟩
  have hb1 := Hpb.out N hokt htab hh
  have hb2 : c4 ≠ 0 ∨ nv ≤ kv := by
    rcases Hkf.out with h | h
    · exact .inl h
    · exact .inr (by rw [hnv]; exact h N l hokt htab hh)
  rw [← hnv] at hb1
  subst hok hc1
  clear hnv hokt htab hh Hpb Hkf Hfact
  have Hb1 := hide hb1
  have Hb2 := hide hb2
  clear hb1 hb2
  have key4 : (c4 = 0 ∧ nv ≤ kv) ∨ (c4 ≠ 0) := by
    rcases Hb2.out with h | h
    · exact .inr h
    · by_cases h4 : c4 = 0
      · exact .inl ⟨h4, h⟩
      · exact .inr h4
  have key2 : (c2 ≠ 0) ∨ (c2 = 0 ∧ c3 ≠ 0) ∨ (c2 = 0 ∧ c3 = 0 ∧ good = false) ∨ (c2 = 0 ∧ c3 = 0 ∧ good = true ∧ nv ≤ cv) := by
    by_cases h2 : c2 = 0
    · by_cases h3 : c3 = 0
      · cases hg : good with
        | false => exact .inr (.inr (.inl ⟨h2, h3, rfl⟩))
        | true =>
          rcases Hb1.out with h | h | h
          · exact absurd h2 h
          · rw [hg] at h; cases h
          · exact .inr (.inr (.inr ⟨h2, h3, rfl, h⟩))
      · exact .inr (.inl ⟨h2, h3⟩)
    · exact .inl h2
  rcases key2 with h2 | ⟨h2, h3⟩ | ⟨h2, h3, hg⟩ | ⟨h2, h3, hg, hle⟩
  · skip
    have hne2 : (c2 != 0) = true := by simpa using h2
    rcases key4 with ⟨h4, h4b⟩ | h4
    · subst h4
      go_wp2_with fail
      go_ret
      exact ⟨ret_bool (by simp), Hbl.out⟩
    · have hne4 : (c4 != 0) = true := by simpa using h4
      go_wp2_with fail
      go_ret
      exact ⟨ret_bool (by simp), Hbl.out⟩
  · skip
    subst h2
    have hne3 : (c3 != 0) = true := by simpa using h3
    rcases key4 with ⟨h4, h4b⟩ | h4
    · subst h4
      go_wp2_with fail
      go_ret
      exact ⟨ret_bool (by simp), Hbl.out⟩
    · have hne4 : (c4 != 0) = true := by simpa using h4
      go_wp2_with fail
      go_ret
      exact ⟨ret_bool (by simp), Hbl.out⟩
  · skip
    subst h2 h3 hg
    rcases key4 with ⟨h4, h4b⟩ | h4
    · subst h4
      go_wp2_with fail
      go_ret
      exact ⟨ret_bool (by simp), Hbl.out⟩
    · have hne4 : (c4 != 0) = true := by simpa using h4
      go_wp2_with fail
      go_ret
      exact ⟨ret_bool (by simp), Hbl.out⟩
  · skip
    subst h2 h3 hg
    rcases key4 with ⟨h4, h4b⟩ | h4
    · subst h4
      go_wp2_with fail
      go_ret
      exact ⟨ret_bool (by simp), Hbl.out⟩
    · have hne4 : (c4 != 0) = true := by simpa using h4
      go_wp2_with fail
      go_ret
      exact ⟨ret_bool (by simp), Hbl.out⟩
end Go.Proofs.Ytliggcmohcdchaa
