/- What the law of made tables' costs asks for, part 31: Lo9 Lx Lb2. -/
import Derived.Test.YtliggcmohcdchaaV1
import Derived.Test.YtliggcmohcdchaaV2
import Derived.Test.YtliggcmohcdchaaV3
import Derived.Test.YtliggcmohcdchaaV4
import Derived.Test.YtliggcmohcdchaaV5
import Derived.Test.YtliggcmohcdchaaV6
import Derived.Test.YtliggcmohcdchaaV7
import Derived.Test.YtliggcmohcdchaaV8
import Derived.Test.YtliggcmohcdchaaV9
import Derived.Test.YtliggcmohcdchaaV10
import Derived.Test.YtliggcmohcdchaaV11
import Derived.Test.YtliggcmohcdchaaV12
import Derived.Test.YtliggcmohcdchaaV13
import Derived.Test.YtliggcmohcdchaaV14
import Derived.Test.YtliggcmohcdchaaV15
import Derived.Test.YtliggcmohcdchaaV16
import Derived.Test.YtliggcmohcdchaaV17
import Derived.Test.YtliggcmohcdchaaV18
import Derived.Test.YtliggcmohcdchaaV19
import Derived.Test.YtliggcmohcdchaaV20
import Derived.Test.YtliggcmohcdchaaV21
import Derived.Test.YtliggcmohcdchaaV22
import Derived.Test.YtliggcmohcdchaaV23
import Derived.Test.YtliggcmohcdchaaV24
import Derived.Test.YtliggcmohcdchaaV25
import Derived.Test.YtliggcmohcdchaaV26
import Derived.Test.YtliggcmohcdchaaV27
import Derived.Test.YtliggcmohcdchaaV28
import Derived.Test.YtliggcmohcdchaaV29
import Derived.Test.YtliggcmohcdchaaV30
import Derived.BigQuiet
import Derived.BigRegion
import Derived.Deep.AppendLies
import Derived.Deep.DeepCutAuto
import Derived.Deep.Draws
import Derived.Deep.Fields
import Derived.Deep.LoopGhost
import Derived.Deep.QuietTactic
import Derived.Deep.RegionHeld3
import Derived.Deep.Slices
import Derived.DeepKeys4
import Derived.Ground.Names2Prog
import Derived.Ground.SlgnProg
import Derived.Ground.SlsfProg
import Derived.IntWalk
import Derived.Laws.AppendOwnNone
import Derived.Laws.BitsAllLaws
import Derived.Laws.EntriesVeiled
import Derived.Laws.OwnMore
import Derived.Lib.Hide
import Derived.Lib.SlicesCompact
import Derived.LoopIn
import Derived.LoopNIn
import Derived.Maps.AppendAt
import Derived.Maps.OwnIn
import Derived.Maps.OwnOps
import Derived.Maps.OwnSet
import Derived.OrdersHeld
import Derived.OrdersIn
import Derived.OwnWalkIn
import Derived.RangeFuncBound
import Derived.RangeFuncCalls
import Derived.RangeFuncLeaves
import Derived.RangeFuncNested
import Derived.Shelf.Abstract
import Derived.Shelf.RegionOpen
import Derived.Shelf.SlSortCmp.Whole1
import Derived.Shelf.Slices.Cells
import Derived.Shelf.Slices.Clone
import Derived.Shelf.Slices.CompactI
import Derived.Shelf.Slices.Empties
import Derived.Shelf.Slices.In.SortNone
import Derived.Shelf.Slices.SearchI
import Derived.Shelf.Sort.Plain
import Derived.Sort.OwnSortedInts
import Derived.StillTail
import Derived.StillTailTactics
import Derived.TacticsInMore
import Derived.Test.YtliggcmohcdchaaProg
import Derived.WalkKit
namespace Go.Proofs.Ytliggcmohcdchaa
set_option linter.unusedVariables false
set_option linter.unusedSimpArgs false
open Go.RowKit Go.Maps
/-- the table of least costs -/
def mkTab (l : List Nat) (f : Nat → Int) : List Ent := (l.filter fun s => decide (0 < f s)).map fun s => ⟨factsF s, f s⟩
def MakeP (w : World) (T : Tsk) (e : Ending) (w' : World) : Prop :=
  Below w.heap.size w w' ∧ (((taskFault T).1 ≠ 0 ∧ e = .returned (.tuple #[.slice none 0 0, .int .i64 0, fault (taskFault T).1 (taskFault T).2])) ∨
    ((taskFault T).1 = 0 ∧ TooMany T ∧ e = .returned (.tuple #[.slice none 0 0, .int .i64 0, fault 10 (-7)])) ∨
    ((taskFault T).1 = 0 ∧ ∃ (l : List Nat) (f : Nat → Int) (A : Option Addr) (c : Nat), CostsOf T l f ∧ e = .returned (.tuple #[.slice A (mkTab l f).length c, .int .i64 (f (wordF T.init)), fault 0 0]) ∧ Rd Enc.ent w' A (mkTab l f).length c (mkTab l f)))
theorem mkTab_take {l : List Nat} {f : Nat → Int} {k s : Nat} (h : l[k]? = some s) : mkTab (l.take (k + 1)) f = mkTab (l.take k) f ++ (if 0 < f s then [⟨factsF s, f s⟩] else []) := by
  unfold mkTab
  rw [filter_take h, List.map_append]
  by_cases hp : 0 < f s
  · simp [hp]
  · simp [hp]
theorem mkTab_len (l : List Nat) (f : Nat → Int) : (mkTab l f).length ≤ l.length := by
  unfold mkTab
  rw [List.length_map]
  exact List.length_filter_le _ _
theorem ints_word (s : Nat) : ∀ x ∈ factsF s, -9223372036854775808 ≤ x ∧ x ≤ 9223372036854775807 := fun x hx => by
  have := facts_mem.1 hx
  omega
set_option maxRecDepth 100000 in
set_option maxHeartbeats 6400000 in
theorem Make_ct (a : TA) (T : Tsk) (w : World) (h : TkR w a T) :
    Calls Try.prog 21 #[.agg #[.int .i64 T.facts, .slice a.I a.nI a.cI, .slice a.G a.nG a.cG, .slice a.O a.nO a.cO]] w (MakeP w T) := by
  obtain ⟨i1, hi1, hy0, hy1, hy2⟩ := info_parts entInfo
  have hck := fun W hW => Checked_ct a T W hW
  obtain ⟨I, nI, cI, G, nG, cG, O, nO, cO⟩ := a
  simp only at hck ⊢
  unfold CheckedP at hck
  rcases hq : taskFault T with ⟨ec, ei⟩
  rw [hq] at hck
  have H := hide h
  have Hck := hide hck
  have Hq := hide hq
  clear h hq hck
  have Hbl := hide (Below.refl w.heap.size w)
  go_enter Try.func21, Try.ntmps21
  go_upto_region 1 with (fail)
  obtain ⟨B0, hB0⟩ : ∃ B0, B0 = w.heap.size := ⟨_, rfl⟩
  have HB0 := hide hB0
  clear hB0
  have s_0 : B0 ≤ w.heap.size := Nat.le_trans (Nat.le_of_eq HB0.out) Hbl.out.size
  have hyt := Blk.new (w) 25 [.int .i64 T.facts, .slice I nI cI, .slice G nG cG, .slice O nO cO]
  have hyf := Blk.new ((w).alloc (.cells #[.int .i64 T.facts, .slice I nI cI, .slice G nG cG, .slice O nO cO] 25)) 29 [.int .i64 0, .int .i64 0]
  replace hyt := hyt.alloc (.cells #[.int .i64 0, .int .i64 0] 29)
  have hbW := below_two w (.cells #[.int .i64 T.facts, .slice I nI cI, .slice G nG cG, .slice O nO cO] 25) (.cells #[.int .i64 0, .int .i64 0] 29)
  simp only [World.size_alloc] at hyf
  obtain ⟨w0, hW⟩ : ∃ W, W = ((w).alloc (.cells #[.int .i64 T.facts, .slice I nI cI, .slice G nG cG, .slice O nO cO] 25)).alloc (.cells #[.int .i64 0, .int .i64 0] 29) := ⟨_, rfl⟩
  rw [← hW] at hyt hyf hbW ⊢
  replace Hbl := hide (Hbl.out.trans (hbW.mono Hbl.out.size))
  have Ht := hide hyt
  have Hf := hide hyf
  clear hW hbW hyt hyf
  generalize w.heap.size = gT at Ht Hf s_0 ⊢
  have t0 := Ht.out.cell 0
  have t1 := Ht.out.cell 1
  have t2 := Ht.out.cell 2
  have t3 := Ht.out.cell 3
  have tl := Ht.out.lt
  have f0 := Hf.out.cell 0
  have f1 := Hf.out.cell 1
  have fl := Hf.out.lt
  simp only [List.getElem?_cons_zero, List.getElem?_cons_succ] at t0 t1 t2 t3 f0 f1
  have a_t : B0 ≤ gT := by omega
  have a_f : B0 ≤ gT + 1 := by omega
  clear s_0
  have n_t_f : ¬ gT = gT + 1 := by omega
  have n_f_t : ¬ gT + 1 = gT := by omega
  go_wp2_with fail
  with_reducible refine (Hck.out w0 (H.out.keep Hbl.out)).mono ?_
  rintro e w1 ⟨hb, hor⟩
  have Hb01 := hide hb
  clear t0 t1 t2 t3 f0 f1 tl fl
  replace Ht := hide (Ht.out.keep hb)
  replace Hf := hide (Hf.out.keep hb)
  replace Hbl := hide (Hbl.out.trans (hb.mono Hbl.out.size))
  clear hb
  have t0 := Ht.out.cell 0
  have t1 := Ht.out.cell 1
  have t2 := Ht.out.cell 2
  have t3 := Ht.out.cell 3
  have tl := Ht.out.lt
  have f0 := Hf.out.cell 0
  have f1 := Hf.out.cell 1
  have fl := Hf.out.lt
  simp only [List.getElem?_cons_zero, List.getElem?_cons_succ] at t0 t1 t2 t3 f0 f1
  rcases hor with ⟨h1, rfl⟩ | ⟨h1, hmany, rfl⟩ | ⟨h1, g, A, c, L, rfl, hgl, hgh, hW, hrow, hlist⟩
  · skip
    skip
    unfold fault
    go_upto_region 2 with (fail)
    have n_t_p : ¬ gT = w1.heap.size := by omega
    have n_p_t : ¬ w1.heap.size = gT := by omega
    have n_f_p : ¬ gT + 1 = w1.heap.size := by omega
    have n_p_f : ¬ w1.heap.size = gT + 1 := by omega
    have s_t : gT < w1.heap.size := tl
    have s_f : gT + 1 < w1.heap.size := fl
    have s_0 : B0 ≤ w1.heap.size := Nat.le_trans (Nat.le_of_eq HB0.out) Hbl.out.size
    have hyp := Blk.new (w1) 29 [.int .i64 ec, .int .i64 ei]
    have hbW : Below (w1).heap.size (w1) ((w1).alloc (.cells #[.int .i64 ec, .int .i64 ei] 29)) := (Below.refl _ _).alloc (Nat.le_refl _) _
    obtain ⟨w2, hW⟩ : ∃ W, W = (w1).alloc (.cells #[.int .i64 ec, .int .i64 ei] 29) := ⟨_, rfl⟩
    rw [← hW] at hyp hbW ⊢
    replace Ht := hide (Ht.out.keep hbW)
    replace Hf := hide (Hf.out.keep hbW)
    replace Hbl := hide (Hbl.out.trans (hbW.mono Hbl.out.size))
    have Hp := hide hyp
    clear hW hbW hyp
    generalize w1.heap.size = gp at Hp n_t_p n_p_t n_f_p n_p_f s_t s_f s_0 ⊢
    have t0 := Ht.out.cell 0
    have t1 := Ht.out.cell 1
    have t2 := Ht.out.cell 2
    have t3 := Ht.out.cell 3
    have tl := Ht.out.lt
    have f0 := Hf.out.cell 0
    have f1 := Hf.out.cell 1
    have fl := Hf.out.lt
    have p0 := Hp.out.cell 0
    have p1 := Hp.out.cell 1
    have pl := Hp.out.lt
    simp only [List.getElem?_cons_zero, List.getElem?_cons_succ] at t0 t1 t2 t3 f0 f1 p0 p1
    clear s_t
    clear s_f
    have a_p : B0 ≤ gp := by omega
    clear s_0
    have ff0 := Hf.out.frozen 0
    have ff1 := Hf.out.frozen 1
    go_upto_region 3 with (fail)
    go_region
    all_goals go_wp2_with fail
    all_goals refine bodyPost_ret (v := .tuple #[.slice none 0 0, .int .i64 0, fault ec ei]) (by simp [results, Try.results21, go_sem, fault, f0, f1, fl]) rfl ?_
    have hbx := HB0.out
    refine ⟨?_, .inl ⟨by rw [Hq.out]; exact h1, by rw [Hq.out]⟩⟩
    repeat' (first | (with_reducible exact Hbl.out) | (with_reducible refine Below.drew ?_) | (with_reducible refine below_setL ?_ ?_ _ _) | (with_reducible refine below_drewN ?_ _) | omega)
  · skip
    have Hmany := hide hmany
    clear hmany
    unfold fault
    go_upto_region 2 with (fail)
    have n_t_p : ¬ gT = w1.heap.size := by omega
    have n_p_t : ¬ w1.heap.size = gT := by omega
    have n_f_p : ¬ gT + 1 = w1.heap.size := by omega
    have n_p_f : ¬ w1.heap.size = gT + 1 := by omega
    have s_t : gT < w1.heap.size := tl
    have s_f : gT + 1 < w1.heap.size := fl
    have s_0 : B0 ≤ w1.heap.size := Nat.le_trans (Nat.le_of_eq HB0.out) Hbl.out.size
    have hyp := Blk.new (w1) 29 [.int .i64 10, .int .i64 (-7)]
    have hbW : Below (w1).heap.size (w1) ((w1).alloc (.cells #[.int .i64 10, .int .i64 (-7)] 29)) := (Below.refl _ _).alloc (Nat.le_refl _) _
    obtain ⟨w2, hW⟩ : ∃ W, W = (w1).alloc (.cells #[.int .i64 10, .int .i64 (-7)] 29) := ⟨_, rfl⟩
    rw [← hW] at hyp hbW ⊢
    replace Ht := hide (Ht.out.keep hbW)
    replace Hf := hide (Hf.out.keep hbW)
    replace Hbl := hide (Hbl.out.trans (hbW.mono Hbl.out.size))
    have Hp := hide hyp
    clear hW hbW hyp
    generalize w1.heap.size = gp at Hp n_t_p n_p_t n_f_p n_p_f s_t s_f s_0 ⊢
    have t0 := Ht.out.cell 0
    have t1 := Ht.out.cell 1
    have t2 := Ht.out.cell 2
    have t3 := Ht.out.cell 3
    have tl := Ht.out.lt
    have f0 := Hf.out.cell 0
    have f1 := Hf.out.cell 1
    have fl := Hf.out.lt
    have p0 := Hp.out.cell 0
    have p1 := Hp.out.cell 1
    have pl := Hp.out.lt
    simp only [List.getElem?_cons_zero, List.getElem?_cons_succ] at t0 t1 t2 t3 f0 f1 p0 p1
    clear s_t
    clear s_f
    have a_p : B0 ≤ gp := by omega
    clear s_0
    have ff0 := Hf.out.frozen 0
    have ff1 := Hf.out.frozen 1
    go_upto_region 3 with (fail)
    go_region
    all_goals go_wp2_with fail
    all_goals refine bodyPost_ret (v := .tuple #[.slice none 0 0, .int .i64 0, fault 10 (-7)]) (by simp [results, Try.results21, go_sem, fault, f0, f1, fl]) rfl ?_
    have hbx := HB0.out
    refine ⟨?_, .inr (.inl ⟨by rw [Hq.out]; exact h1, Hmany.out, rfl⟩)⟩
    repeat' (first | (with_reducible exact Hbl.out) | (with_reducible refine Below.drew ?_) | (with_reducible refine below_setL ?_ ?_ _ _) | (with_reducible refine below_drewN ?_ _) | omega)
  · skip
    have HW := hide (hW w1 (Chg.refl _ _))
    have Hrow := hide hrow
    have Hlist := hide hlist
    clear hW hrow hlist
    unfold fault
    go_upto_region 2 with (fail)
    have n_t_p : ¬ gT = w1.heap.size := by omega
    have n_p_t : ¬ w1.heap.size = gT := by omega
    have n_f_p : ¬ gT + 1 = w1.heap.size := by omega
    have n_p_f : ¬ w1.heap.size = gT + 1 := by omega
    have s_t : gT < w1.heap.size := tl
    have s_f : gT + 1 < w1.heap.size := fl
    have s_0 : B0 ≤ w1.heap.size := Nat.le_trans (Nat.le_of_eq HB0.out) Hbl.out.size
    have hyp := Blk.new (w1) 29 [.int .i64 0, .int .i64 0]
    have hbW : Below (w1).heap.size (w1) ((w1).alloc (.cells #[.int .i64 0, .int .i64 0] 29)) := (Below.refl _ _).alloc (Nat.le_refl _) _
    obtain ⟨w2, hW⟩ : ∃ W, W = (w1).alloc (.cells #[.int .i64 0, .int .i64 0] 29) := ⟨_, rfl⟩
    rw [← hW] at hyp hbW ⊢
    replace Ht := hide (Ht.out.keep hbW)
    replace Hf := hide (Hf.out.keep hbW)
    replace HW := hide (HW.out.keep hbW)
    replace Hrow := hide (Hrow.out.keep hbW)
    replace Hbl := hide (Hbl.out.trans (hbW.mono Hbl.out.size))
    have Hp := hide hyp
    clear hW hbW hyp
    generalize w1.heap.size = gp at Hp n_t_p n_p_t n_f_p n_p_f s_t s_f s_0 ⊢
    have t0 := Ht.out.cell 0
    have t1 := Ht.out.cell 1
    have t2 := Ht.out.cell 2
    have t3 := Ht.out.cell 3
    have tl := Ht.out.lt
    have f0 := Hf.out.cell 0
    have f1 := Hf.out.cell 1
    have fl := Hf.out.lt
    have p0 := Hp.out.cell 0
    have p1 := Hp.out.cell 1
    have pl := Hp.out.lt
    simp only [List.getElem?_cons_zero, List.getElem?_cons_succ] at t0 t1 t2 t3 f0 f1 p0 p1
    clear s_t
    clear s_f
    have a_p : B0 ≤ gp := by omega
    clear s_0
    have hst := fun W hW => Start_ct g _ _ _ W (HW.out.keep hW)
    have hs0 := HW.out.start
    have hcs := Costs_ct g _ _ _ A L.length c L w2 HW.out Hrow.out.rd Hlist.out.all.once Hlist.out.few
    have hin : wordF T.init ∈ L := (Hlist.out.all.mem _).2 .start
    have hfew := Hlist.out.few
    have Hcs := hide hcs
    have Hst := hide hst
    have Hin := hide hin
    obtain ⟨n, hn⟩ : ∃ n, n = L.length := ⟨_, rfl⟩
    have hrow := Hrow.out
    have Hw2 := hide (Below.refl w2.heap.size w2)
    rw [← hn] at Hcs hfew hrow ⊢
    have Hlen := hide hn
    clear Hrow
    have Hrow := hide hrow
    clear hcs hst hin hn hrow
    go_wp2_with fail
    with_reducible refine Hcs.out.mono ?_
    rintro e w3 ⟨hb, ob, f, rfl, hob, hmap, hleast⟩
    clear t0 t1 t2 t3 f0 f1 p0 p1 tl fl pl
    replace Ht := hide (Ht.out.keep hb)
    replace Hf := hide (Hf.out.keep hb)
    replace Hp := hide (Hp.out.keep hb)
    replace Hrow := hide (Hrow.out.keep hb)
    replace Hbl := hide (Hbl.out.trans (hb.mono Hbl.out.size))
    replace Hw2 := hide (Hw2.out.trans (hb.mono Hw2.out.size))
    clear hb
    have t0 := Ht.out.cell 0
    have t1 := Ht.out.cell 1
    have t2 := Ht.out.cell 2
    have t3 := Ht.out.cell 3
    have tl := Ht.out.lt
    have f0 := Hf.out.cell 0
    have f1 := Hf.out.cell 1
    have fl := Hf.out.lt
    have p0 := Hp.out.cell 0
    have p1 := Hp.out.cell 1
    have pl := Hp.out.lt
    simp only [List.getElem?_cons_zero, List.getElem?_cons_succ] at t0 t1 t2 t3 f0 f1 p0 p1
    have hz3 : ∀ w : World, (zeroValue 3).run Try.prog w = .ok (.int .i64 0) w := fun w => by kernel_rfl
    have hlook0 : ∀ (s : Nat), s ∈ L → s < 4294967296 → ∀ W, W.heap[ob]? = w3.heap[ob]? → (Instr.lookup 72 (.map (some ob)) (.int .u32 s) false).run Try.prog W = .ok (.int .i64 (f s)) W := fun s hs hs32 W hW => by
      have := hmap.look1 (int_keyed Try.underlying75) (T := 72) (E := 3) Try.underlying72 hz3 (keyW Try.underlying75 hs32) W hW
      rw [outM_in hs] at this
      exact this
    have Hlook := hide hlook0
    have Hleast := hide hleast
    have hobl := hmap.lt
    have Hmapf := hide (show ∀ (t : TypeId) (g : Nat) (cs : List Value), Blk t w3 g cs → ob ≠ g from fun t g cs h => hmap.ne h)
    clear hmap hleast hz3 hlook0
    have hgl3 := Hbl.out.size
    have hf3 := Hf.out.lt
    have hBr := fun r hr => (Hrow.out.base (r := r) hr).2
    go_wp2_with fail
    go_loopw [9, 27] (fun ov i wr => ∃ (k : Nat) (Oa : Option Addr) (r oc : Nat) (vs : List Value), k ≤ n ∧ i = .int .i64 k ∧ ov = .slice Oa r oc ∧ Below w3.heap.size w3 wr ∧ OwnE Enc.ent 38 w3.heap.size (fun b => b < w3.heap.size ∨ blkA Oa = some b ∨ wr.heap.size ≤ b) wr Oa r oc vs (mkTab (L.take k) f)) (fun _ i _ => n - (intOf i).toNat)
    case atStart => exact ⟨0, none, 0, 0, [], by omega, rfl, rfl, Below.refl _ _, OwnE.nil _ _ _ _ _⟩
    case round =>
      clear t0 t1 t2 t3 f0 f1 p0 p1 tl fl pl
      obtain ⟨k, Oa, r, oc, vs, hk, rfl, rfl, hb, hown⟩ := hrel
      have hszb := hb.size
      have Hb := hide hb
      have Hown := hide hown
      have Hbl2 := hide (Hbl.out.trans (hb.mono hgl3))
      have hrk : r ≤ 2000 := by
        have h1 := hown.len
        have h2 := mkTab_len (L.take k) f
        rw [List.length_take] at h2
        omega
      have hOa : ∀ r, blkA Oa = some r → r < wr.heap.size := fun r hr => (hown.base hr).2
      clear hb hown
      by_cases hlt : k < n
      rotate_left
      · obtain rfl : k = n := by omega
        have Hf2 := hide (Hf.out.keep Hb.out)
        have hown := Hown.out
        rw [List.take_of_length_le (by rw [← Hlen.out]; exact Nat.le_refl _)] at hown
        replace Hown := hide hown
        clear hown
        have hst3 := Hst.out wr.drew ((Hw2.out.trans (Hb.out.mono Hw2.out.size)).drew)
        obtain ⟨s0, hs0e⟩ : ∃ x, x = wordF T.init := ⟨_, rfl⟩
        have hi0 := Hin.out
        rw [← hs0e] at hst3 hi0 hs0
        obtain ⟨v, hv⟩ : ∃ v, v = f s0 := ⟨_, rfl⟩
        have hne := Hmapf.out _ _ _ Hf.out
        have hlk := Hlook.out s0 hi0 hs0 wr.drew (Hb.out.block ob hobl)
        have hc6 : Chg (fun b => b = gT + 1) wr ((wr.drew.setCell ⟨gT + 1, 0, none⟩ (.int .i64 0)).setCell ⟨gT + 1, 1, none⟩ (.int .i64 0)) := (Chg.of_below ((Below.refl wr.heap.size wr).drew) _).trans ((Chg.set wr.drew (gT + 1) 0 (.int .i64 0)).trans (Chg.set _ (gT + 1) 1 (.int .i64 0)))
        have hlk2 := Hlook.out s0 hi0 hs0 _ ((hc6.block ob (by omega) hne).trans (Hb.out.block ob hobl))
        rw [← hv] at hlk hlk2
        have Hst3 := hide hst3
        have Hs0 := hide hs0e
        have Hv := hide hv
        clear hst3 hs0e hv hi0
        have f0 := Hf2.out.cell 0
        have f1 := Hf2.out.cell 1
        have fl := Hf2.out.lt
        have ff0 := Hf2.out.frozen 0
        have ff1 := Hf2.out.frozen 1
        simp only [List.getElem?_cons_zero, List.getElem?_cons_succ] at f0 f1
        go_upto_region 12 with (fail)
        refine wp_region_held_drew (S := (fun w' => (Instr.lookup 72 (.map (some ob)) (.int .u32 s0) false).run Try.prog w' = .ok (.int .i64 v) w')) (by kernel_rfl) ?_ (fun hHeld => ?_)
        · (try dsimp only); exact hlk
        refine takeH (i := 0) (v := ?_) (some 45) rfl rfl (by kernel_rfl) (by kernel_rfl) (by kernel_rfl) (fun _ _ _ h => h) (Or.inl ⟨by rfl, ?_⟩) (by assumption) ?_
        rotate_left
        · intro w hSw; (try dsimp only at hSw); have s1 := hSw; first | (go_simp; done) | (go_simp; with_reducible rfl)
        try simp only [Act.put, List.setIfInBounds_toArray, List.set_cons_zero, List.set_cons_succ]
        refine takeH (i := 1) (v := ?_) (some 46) rfl rfl (by kernel_rfl) (by kernel_rfl) (by kernel_rfl) (fun _ _ _ h => h) (Or.inl ⟨by rfl, ?_⟩) (by assumption) ?_
        rotate_left
        · intro w hSw; (try dsimp only at hSw); have s1 := hSw; first | (go_simp; done) | (go_simp; with_reducible rfl)
        try simp only [Act.put, List.setIfInBounds_toArray, List.set_cons_zero, List.set_cons_succ]
        refine takeH (i := 2) (v := ?_) (some 47) rfl rfl (by kernel_rfl) (by kernel_rfl) (by kernel_rfl) (fun _ _ _ h => h) (Or.inl ⟨by rfl, ?_⟩) (by assumption) ?_
        rotate_left
        · intro w hSw; (try dsimp only at hSw); have s1 := hSw; first | (go_simp; done) | (go_simp; with_reducible rfl)
        try simp only [Act.put, List.setIfInBounds_toArray, List.set_cons_zero, List.set_cons_succ]
        refine takeH (i := 5) (v := ?_) (some 50) rfl rfl (by kernel_rfl) (by kernel_rfl) (by kernel_rfl) (fun _ _ _ h => h) (Or.inl ⟨by rfl, ?_⟩) (by assumption) ?_
        rotate_left
        · intro w hSw; (try dsimp only at hSw); have s1 := hSw; first | (go_simp; done) | (go_simp; with_reducible rfl)
        try simp only [Act.put, List.setIfInBounds_toArray, List.set_cons_zero, List.set_cons_succ]
        refine wpAnyH_ready (rs := [3]) (by kernel_rfl) (by simp) ?_
        refine AllReadyH.cons rfl (fun K hK => ?_) AllReadyH.nil
        go_simp
        with_reducible refine Hst3.out.mono ?_
        rintro e1 w1 ⟨rfl, rfl⟩
        refine hK.out _ _ ?_ (fun hHeld2 => ?_)
        · (try dsimp only); exact hlk
        clear hK K hHeld
        try simp only [Act.put, List.setIfInBounds_toArray, List.set_cons_zero, List.set_cons_succ]
        have hHeld := hHeld2; clear hHeld2
        refine takeH (i := 4) (v := ?_) (some 49) rfl rfl (by kernel_rfl) (by kernel_rfl) (by kernel_rfl) (fun _ _ _ h => h) (Or.inl ⟨by rfl, ?_⟩) (by assumption) ?_
        rotate_left
        · intro w hSw; (try dsimp only at hSw); have s1 := hSw; first | (go_simp; done) | (go_simp; with_reducible rfl)
        try simp only [Act.put, List.setIfInBounds_toArray, List.set_cons_zero, List.set_cons_succ]
        refine takeH (i := 6) (v := ?_) (some 2) rfl rfl (by kernel_rfl) (by kernel_rfl) (by kernel_rfl) (fun _ _ _ h => h) (Or.inl ⟨by rfl, ?_⟩) (by assumption) ?_
        rotate_left
        · intro w hSw; (try dsimp only at hSw); have s1 := hSw; first | (go_simp; done) | (go_simp; with_reducible rfl)
        try simp only [Act.put, List.setIfInBounds_toArray, List.set_cons_zero, List.set_cons_succ]
        refine takeH (i := 7) (v := ?_) (some 3) rfl rfl (by kernel_rfl) (by kernel_rfl) (by kernel_rfl) (fun _ _ _ h => h) (Or.inl ⟨by rfl, ?_⟩) (by assumption) ?_
        rotate_left
        · intro w hSw; (try dsimp only at hSw); have s1 := hSw; first | (go_simp; done) | (go_simp; with_reducible rfl)
        try simp only [Act.put, List.setIfInBounds_toArray, List.set_cons_zero, List.set_cons_succ]
        refine wpAnyH_ready (rs := [8]) (by kernel_rfl) (by simp) ?_
        refine AllReadyH.cons rfl (fun K hK => ?_) AllReadyH.nil
        go_simp
        refine hK.out _ _ ?_ (fun hHeld2 => ?_)
        · (try dsimp only); exact hlk2
        clear hK K hHeld
        try simp only [Act.put, List.setIfInBounds_toArray, List.set_cons_zero, List.set_cons_succ]
        have hHeld := hHeld2; clear hHeld2
        refine wpAnyH_done (by kernel_rfl) ?_ _
        go_wp2_with fail
        refine bodyPost_ret (v := .tuple #[.slice Oa r oc, .int .i64 v, fault 0 0]) (by simp [results, Try.results21, go_sem, fault, f0, f1, fl]) rfl ?_
        have hbx := HB0.out
        have hlr : (mkTab L f).length = r := Hown.out.len
        refine ⟨?_, .inr (.inr ⟨by rw [Hq.out]; exact h1, L, f, Oa, oc, ⟨Hlist.out, Hleast.out⟩, by rw [Hv.out, Hs0.out, hlr], ?_⟩)⟩
        · have Hbl := Hbl2
          repeat' (first | (with_reducible exact Hbl.out) | (with_reducible refine Below.drew ?_) | (with_reducible refine below_setL ?_ ?_ _ _) | (with_reducible refine below_drewN ?_ _) | omega)
        · rw [hlr]
          refine (Hown.out.chg hc6 (fun i e => .inl (by omega)) (fun r hr e => ?_)).rd
          have := (Hown.out.base hr).1
          omega
      obtain ⟨b, off, s, rfl, hs, hs32, gs⟩ := (Hrow.out.rd.keep Hb.out).word hlt
      have hmem := List.mem_of_getElem? hs
      have hlk := fun W hW => Hlook.out s hmem hs32 W hW
      have htk := mkTab_take (f := f) hs
      have hlo := Hleast.out.low s hmem
      have hhi := Hleast.out.high s hmem
      unfold infW at hhi
      obtain ⟨v, hv⟩ : ∃ v, v = f s := ⟨_, rfl⟩
      rw [← hv] at htk hlo hhi
      simp only [← hv] at hlk
      have hlk0 := hlk wr (Hb.out.block ob hobl)
      have hlk1 := hlk wr.drew (Hb.out.block ob hobl)
      have hki : (k : Int) < (n : Int) := by omega
      have Htk := hide htk
      have Hlk := hide hlk
      clear htk hlk hs hmem hv
      by_cases hpos : 0 < v
      rotate_left
      · have htk := Htk.out
        rw [if_neg hpos, List.append_nil] at htk
        replace Htk := hide htk
        clear htk hlk1
        go_wp2_with fail
        go_roundw
        case rel => exact ⟨k + 1, Oa, r, oc, vs, by omega, by go_num, rfl, Hb.out, by rw [Htk.out]; exact Hown.out⟩
        case measure => simp [intOf]; omega
      have htk := Htk.out
      rw [if_pos hpos] at htk
      replace Htk := hide htk
      clear htk
      go_upto_region 10 with (fail)
      clear hlk0
      have hf := FactsD_ct s wr.drew hs32
      have Hfa := hide hf
      clear hf
      refine wp_region_held_drew (S := (fun w' => (Instr.lookup 72 (.map (some ob)) (.int .u32 s) false).run Try.prog w' = .ok (.int .i64 v) w')) (by kernel_rfl) ?_ (fun hHeld => ?_)
      · (try dsimp only); exact hlk1
      refine takeH (i := 0) (v := ?_) (some 35) rfl rfl (by kernel_rfl) (by kernel_rfl) (by kernel_rfl) (fun _ _ _ h => h) (Or.inl ⟨by rfl, ?_⟩) (by assumption) ?_
      rotate_left
      · intro w hSw; (try dsimp only at hSw); have s1 := hSw; first | (go_simp; done) | (go_simp; with_reducible rfl)
      try simp only [Act.put, List.setIfInBounds_toArray, List.set_cons_zero, List.set_cons_succ]
      refine takeH (i := 1) (v := ?_) (some 36) rfl rfl (by kernel_rfl) (by kernel_rfl) (by kernel_rfl) (fun _ _ _ h => h) (Or.inl ⟨by rfl, ?_⟩) (by assumption) ?_
      rotate_left
      · intro w hSw; (try dsimp only at hSw); have s1 := hSw; first | (go_simp; done) | (go_simp; with_reducible rfl)
      try simp only [Act.put, List.setIfInBounds_toArray, List.set_cons_zero, List.set_cons_succ]
      refine takeH (i := 3) (v := ?_) (some 38) rfl rfl (by kernel_rfl) (by kernel_rfl) (by kernel_rfl) (fun _ _ _ h => h) (Or.inl ⟨by rfl, ?_⟩) (by assumption) ?_
      rotate_left
      · intro w hSw; (try dsimp only at hSw); have s1 := hSw; first | (go_simp; done) | (go_simp; with_reducible rfl)
      try simp only [Act.put, List.setIfInBounds_toArray, List.set_cons_zero, List.set_cons_succ]
      refine takeH (i := 4) (v := ?_) (some 39) rfl rfl (by kernel_rfl) (by kernel_rfl) (by kernel_rfl) (fun _ _ _ h => h) (Or.inl ⟨by rfl, ?_⟩) (by assumption) ?_
      rotate_left
      · intro w hSw; (try dsimp only at hSw); have s1 := hSw; first | (go_simp; done) | (go_simp; with_reducible rfl)
      try simp only [Act.put, List.setIfInBounds_toArray, List.set_cons_zero, List.set_cons_succ]
      refine takeH (i := 5) (v := ?_) (some 40) rfl rfl (by kernel_rfl) (by kernel_rfl) (by kernel_rfl) (fun _ _ _ h => h) (Or.inl ⟨by rfl, ?_⟩) (by assumption) ?_
      rotate_left
      · intro w hSw; (try dsimp only at hSw); have s1 := hSw; first | (go_simp; done) | (go_simp; with_reducible rfl)
      try simp only [Act.put, List.setIfInBounds_toArray, List.set_cons_zero, List.set_cons_succ]
      refine wpAnyH_ready (rs := [2]) (by kernel_rfl) (by simp) ?_
      refine AllReadyH.cons rfl (fun K hK => ?_) AllReadyH.nil
      go_simp
      with_reducible refine (Hfa.out).mono ?_
      rintro e1 w7 ⟨⟨hb7, A2, c2, vs2, rfl, hrow⟩, _⟩
      have hz7 : wr.heap.size ≤ w7.heap.size := hb7.size
      have hO6 : ∀ r, blkA A2 = some r → wr.heap.size ≤ r ∧ r < w7.heap.size := fun r hr => hrow.base hr
      have hint := ints_word s
      have hrow2 := hrow.ints
      have hfl := hrow.len
      obtain ⟨fs, hfs⟩ : ∃ fs, fs = factsF s := ⟨_, rfl⟩
      rw [← hfs] at hrow2 hint hfl
      have Htk2 := Htk.out
      rw [← hfs] at Htk2
      replace Htk := hide Htk2
      clear Htk2
      rw [← hfs]
      obtain ⟨n1, hn1⟩ : ∃ n1, n1 = fs.length := ⟨_, rfl⟩
      rw [← hn1] at hrow2 ⊢
      replace Hown := hide ((Hown.out.qt (Qt.refl wr).drew).keep hb7)
      have Hrow2 := hide hrow2
      have Hint := hide hint
      have Hn1 := hide hn1
      have hlk2 := Hlk.out w7 ((hb7.block ob (by show ob < wr.heap.size; omega)).trans (Hb.out.block ob hobl))
      have hlk3 := Hlk.out (w7.alloc (.cells #[.slice A2 n1 c2, .int .i64 v] 38)) ((Below.heap_alloc _ _ _ (by omega)).trans ((hb7.block ob (by show ob < wr.heap.size; omega)).trans (Hb.out.block ob hobl)))
      have Hb7 := hide (show Below wr.heap.size wr w7 from (Below.refl _ _).drew.trans hb7)
      clear hrow hrow2 hint hb7 hfs hn1 hlk1 hfl
      refine hK.out _ _ ?_ (fun hHeld2 => ?_)
      · (try dsimp only); exact hlk2
      clear hK K hHeld
      try simp only [Act.put, List.setIfInBounds_toArray, List.set_cons_zero, List.set_cons_succ]
      have hHeld := hHeld2; clear hHeld2
      refine takeH (i := 6) (v := ?_) (some 41) rfl rfl (by kernel_rfl) (by kernel_rfl) (by kernel_rfl) (fun _ _ _ h => h) (Or.inl ⟨by rfl, ?_⟩) (by assumption) ?_
      rotate_left
      · intro w hSw; (try dsimp only at hSw); have s1 := hSw; first | (go_simp; done) | (go_simp; with_reducible rfl)
      try simp only [Act.put, List.setIfInBounds_toArray, List.set_cons_zero, List.set_cons_succ]
      refine wpAnyH_ready (rs := [7]) (by kernel_rfl) (by simp) ?_
      refine AllReadyH.cons rfl (fun K hK => ?_) AllReadyH.nil
      go_simp
      refine hK.out _ _ ?_ (fun hHeld2 => ?_)
      · (try dsimp only); exact hlk3
      clear hK K hHeld
      try simp only [Act.put, List.setIfInBounds_toArray, List.set_cons_zero, List.set_cons_succ]
      have hHeld := hHeld2; clear hHeld2
      have hown7 := Hown.out.less (M' := fun b => b < w3.heap.size ∨ blkA Oa = some b ∨ w7.heap.size ≤ b) (fun i hi h => by
        rcases h with h | h | h
        · exact .inl h
        · exact .inr (.inl h)
        · omega)
      have hOb : ∀ r, blkA Oa = some r → w3.heap.size ≤ r := fun r hr => (Hown.out.base hr).1
      have hfirm : Firm Enc.ent (fun b => b < w3.heap.size ∨ blkA Oa = some b ∨ w7.heap.size ≤ b) w7 [.slice A2 n1 c2, .int .i64 v] ⟨fs, v⟩ := by
        have hrm : RdM (fun b => b < w3.heap.size ∨ blkA Oa = some b ∨ w7.heap.size ≤ b) w7 A2 n1 c2 fs := RdM.own Hrow2.out (fun r hr h => by
          have h1 := hO6 r hr
          rcases h with h | h | h
          · omega
          · have h2 := (hOa r h)
            omega
          · omega) Hn1.out.symm Hint.out
        exact firm_ent (e := ⟨fs, v⟩) hrm (show -9223372036854775808 ≤ v ∧ v ≤ 9223372036854775807 by omega)
      refine wpAnyH_ready (rs := [8]) (by kernel_rfl) (by simp) ?_
      refine AllReadyH.cons rfl (fun K hK => ?_) AllReadyH.nil
      refine step_pushS rfl _ _ 26 rfl w3.heap.size 38 i1 _ 32 Try.underlying26 hi1 hy0 hy1 hy2 rfl (by decide) (A := Oa) (n := r) (c := oc) (by first | rfl | (go_simp; done)) hown7 (fun r hr => .inr (.inl hr)) [.slice A2 n1 c2, .int .i64 v] ⟨fs, v⟩ (by intro u hu; simp at hu; rcases hu with hu | hu <;> subst hu <;> rfl) (by first | rfl | (go_simp; done)) hfirm (by omega) (by omega) (by omega) ?_
      intro O8 oc8 w8 hown8 hch8 hat8
      have hlk8 := Hlk.out w8 ((hch8.block ob (by omega) (fun e => by have := hOb ob e; omega)).trans ((Hb7.out.block ob (by omega)).trans (Hb.out.block ob hobl)))
      have hb8 : Below w3.heap.size w3 w8 := (Hb.out.trans (Hb7.out.mono (by omega))).trans (hch8.below (fun i hi => hOb i hi) (by omega))
      have hown9 := hown8.less (M' := fun b => b < w3.heap.size ∨ blkA O8 = some b ∨ w8.heap.size ≤ b) (fun i hi h => by
        rcases h with h | h | h
        · exact .inl (.inl h)
        · rcases hat8 with e | e
          · exact .inl (.inr (.inl (by rw [← e]; exact h)))
          · rw [e] at h
            injection h with h
            exact .inr (by omega)
        · omega)
      rw [← Htk.out] at hown9
      have Hb8 := hide hb8
      have Hown9 := hide hown9
      clear hown7 hfirm hown8 hch8 hat8 hb8 hown9 hlk2 hlk3
      refine hK.out _ _ ?_ (fun hHeld2 => ?_)
      · (try dsimp only); exact hlk8
      clear hK K hHeld
      try simp only [Act.put, List.setIfInBounds_toArray, List.set_cons_zero, List.set_cons_succ]
      have hHeld := hHeld2; clear hHeld2
      refine takeH (i := 9) (v := ?_) (some 9) rfl rfl (by kernel_rfl) (by kernel_rfl) (by kernel_rfl) (fun _ _ _ h => h) (Or.inl ⟨by rfl, ?_⟩) (by assumption) ?_
      rotate_left
      · intro w hSw; (try dsimp only at hSw); have s1 := hSw; first | (go_simp; done) | (go_simp; with_reducible rfl)
      try simp only [Act.put, List.setIfInBounds_toArray, List.set_cons_zero, List.set_cons_succ]
      refine wpAnyH_done (by kernel_rfl) ?_ _
      go_wp2_with fail
      go_roundw
      case rel => exact ⟨k + 1, O8, r + 1, oc8, _, by omega, by go_num, rfl, Hb8.out, Hown9.out⟩
      case measure => simp [intOf]; omega
end Go.Proofs.Ytliggcmohcdchaa
namespace Go.Proofs.Ytliggcmohcdchaa
set_option linter.unusedVariables false
set_option linter.unusedSimpArgs false
open Go.RowKit
theorem one_chk : chkF oneT [⟨[], 2⟩] = (2, true, 0, 0) := by decide +kernel
theorem one_rse : rseF oneT [⟨[], 2⟩] = (some (raiseF infC oneT [⟨[], 2⟩]), 0, 0) := by
  have h1 : boundsF oneT [⟨[], 2⟩] = (0, 0) := by decide +kernel
  exact rse_yes (by rw [h1]) (by decide +kernel)
theorem one_rval : raiseF infC oneT [⟨[], 2⟩] = [⟨[], 3⟩] := by
  have h : leastF infC oneT.ops [⟨[], 2⟩] [] = 3 := by decide +kernel
  unfold raiseF
  rw [List.map_cons, List.map_nil, h]
theorem one_tf : taskFault oneT = (0, 0) := by decide +kernel
theorem one_arc {s t : Nat} {c : Int} (h : arcW (oneT.ops.map mkOp) s t c) : t = s ||| 1 ∧ c = 3 := by
  obtain ⟨m, hm, _, rfl, rfl⟩ := h
  have : m = mkOp ⟨[], [0], [], 3⟩ := by simpa [oneT] using hm
  subst this
  have hw : wordF [0] = 1 := by decide +kernel
  have h0 : wordF ([] : List Int) = 0 := by decide +kernel
  refine ⟨?_, rfl⟩
  unfold goW mkOp
  simp only [hw, h0]
  unfold lessW
  simp
theorem one_arc0 : arcW (oneT.ops.map mkOp) 0 1 3 := ⟨mkOp ⟨[], [0], [], 3⟩, by simp [oneT], by decide +kernel, by decide +kernel, rfl⟩
theorem one_reach {x : Nat} (h : Reach (stepW (oneT.ops.map mkOp)) (wordF oneT.init) x) : x = 0 ∨ x = 1 := by
  have h0 : wordF oneT.init = 0 := by decide +kernel
  rw [h0] at h
  induction h with
  | start => exact .inl rfl
  | step hr hs ih =>
    obtain ⟨c, ha⟩ := step_arc.1 hs
    obtain ⟨rfl, _⟩ := one_arc ha
    rcases ih with rfl | rfl
    · exact .inr rfl
    · exact .inr rfl
theorem one_goal0 : goalW (wordF oneT.goal) 0 = false := by decide +kernel
theorem one_goal1 : goalW (wordF oneT.goal) 1 = true := by decide +kernel
theorem one_costs {l : List Nat} {f : Nat → Int} (h : CostsOf oneT l f) : f 0 = 3 ∧ mkTab l f = [⟨[], 3⟩] := by
  have h0 : wordF oneT.init = 0 := by decide +kernel
  have m0 : 0 ∈ l := by
    have := (h.list.all.mem (wordF oneT.init)).2 .start
    rwa [h0] at this
  have m1 : 1 ∈ l := (h.list.all.mem 1).2 (.step (by rw [h0]; exact .start) (step_arc.2 ⟨3, one_arc0⟩))
  have f1 : f 1 = 0 := h.least.zero 1 m1 one_goal1
  have f0 : f 0 = 3 := by
    have h1 := h.least.arc 0 1 3 m0 one_arc0 (by rw [f1]; unfold infW; omega)
    rw [f1] at h1
    have h2 := h.least.way 0 m0 (by unfold infW; omega)
    generalize hn : f 0 = n at h1 h2
    generalize hz : (0 : Nat) = z at h2
    cases h2 with
    | here hg => subst hz; rw [one_goal0] at hg; cases hg
    | step ha hw =>
      obtain ⟨_, rfl⟩ := one_arc ha
      have := hw.pos (fun s t c hc => by obtain ⟨_, rfl⟩ := one_arc hc; omega)
      omega
  refine ⟨f0, ?_⟩
  have hfil : l.filter (fun s => decide (0 < f s)) = [0] := by
    have hnd := h.list.all.once.filter (fun s => decide (0 < f s))
    have hmem : ∀ x, x ∈ l.filter (fun s => decide (0 < f s)) ↔ x = 0 := by
      intro x
      rw [List.mem_filter]
      constructor
      · rintro ⟨h1, h2⟩
        rcases one_reach ((h.list.all.mem x).1 h1) with rfl | rfl
        · rfl
        · rw [f1] at h2; simp at h2
      · rintro rfl
        exact ⟨m0, by rw [f0]; decide⟩
    generalize l.filter (fun s => decide (0 < f s)) = r at hnd hmem
    match r with
    | [] => exact absurd ((hmem 0).2 rfl) (by simp)
    | [x] => rw [(hmem x).1 (by simp)]
    | x :: y :: r =>
      have hx := (hmem x).1 (by simp)
      have hy := (hmem y).1 (by simp)
      subst hx hy
      simp at hnd
  unfold mkTab
  rw [hfil, List.map_cons, List.map_nil, f0]
  congr 1
set_option maxRecDepth 100000 in
set_option maxHeartbeats 6400000 in
theorem lowerboundExample_ct (w : World) : Calls Try.prog 10 #[] w (Gives w (.bool true)) := by
  have Hbl := hide (Below.refl w.heap.size w)
  go_enter Try.func10, Try.ntmps10
  obtain ⟨B0, hB0⟩ : ∃ B0, B0 = w.heap.size := ⟨_, rfl⟩
  have HB0 := hide hB0
  clear hB0
  go_upto_region 2 with (fail)
  have hln := Blk.new w 38 [.slice none 0 0, .int .i64 2]
  have hbL := (Below.refl w.heap.size w).alloc (Nat.le_refl _) (.cells #[.slice none 0 0, .int .i64 2] 38)
  have hl0 : Rd Enc.ent (w.alloc (.cells #[.slice none 0 0, .int .i64 2] 38)) (some ⟨w.heap.size, 0, none⟩) 1 1 [⟨[], 2⟩] := by
    refine ⟨rfl, Nat.le_refl _, by omega, fun h => (by cases h), fun _ => ⟨w.heap.size, 0, rfl, fun j x hj => ?_⟩⟩
    match j, hj with
    | 0, hj =>
      obtain rfl := Option.some.inj hj
      refine ⟨[.slice none 0 0, .int .i64 2], ⟨none, 0, 0, rfl, Rd.nil_ _ _, by unfold I64s; simp⟩, fun i v hi => ?_⟩
      match i, hi with
      | 0, hi => obtain rfl := Option.some.inj hi; exact hln.cell 0
      | 1, hi => obtain rfl := Option.some.inj hi; exact hln.cell 1
      | i + 2, hi => simp at hi
    | j + 1, hj => simp at hj
  obtain ⟨w0, hW⟩ : ∃ W, W = w.alloc (.cells #[.slice none 0 0, .int .i64 2] 38) := ⟨_, rfl⟩
  rw [← hW] at hl0 hbL ⊢
  replace Hbl := hide (Hbl.out.trans (hbL.mono Hbl.out.size))
  have Hl := hide hl0
  clear hW hln hbL hl0
  generalize hA : (some ⟨w.heap.size, 0, none⟩ : Option Addr) = lA at Hl ⊢
  clear hA
  go_wp2_with fail
  with_reducible refine (one_ct w0).mono ?_
  rintro e w1 ⟨hb, a, rfl, han, ht⟩
  have Hat := hide ht
  clear ht han
  unfold taskVo
  replace Hl := hide (Hl.out.keep hb)
  replace Hbl := hide (Hbl.out.trans (hb.mono Hbl.out.size))
  clear hb
  have hct := Check_ct a oneT lA 1 1 _ w1 Hat.out Hl.out
  rw [one_chk] at hct
  unfold chkV fault at hct
  go_wp2_with fail
  with_reducible refine hct.mono ?_
  rintro e w2 ⟨rfl, hb⟩
  clear hct Hat
  replace Hl := hide (Hl.out.keep hb)
  replace Hbl := hide (Hbl.out.trans (hb.mono Hbl.out.size))
  clear hb
  dsimp only
  go_upto_region 3 with (fail)
  have s_0 : B0 ≤ w2.heap.size := Nat.le_trans (Nat.le_of_eq HB0.out) Hbl.out.size
  have hyc := Blk.new (w2) 29 [.int .i64 0, .int .i64 0]
  have hbW : Below (w2).heap.size (w2) ((w2).alloc (.cells #[.int .i64 0, .int .i64 0] 29)) := (Below.refl _ _).alloc (Nat.le_refl _) _
  obtain ⟨w3, hW⟩ : ∃ W, W = (w2).alloc (.cells #[.int .i64 0, .int .i64 0] 29) := ⟨_, rfl⟩
  rw [← hW] at hyc hbW ⊢
  replace Hl := hide (Hl.out.keep hbW)
  replace Hbl := hide (Hbl.out.trans (hbW.mono Hbl.out.size))
  have Hc := hide hyc
  clear hW hbW hyc
  generalize w2.heap.size = gc at Hc s_0 ⊢
  have c0 := Hc.out.cell 0
  have c1 := Hc.out.cell 1
  have cl := Hc.out.lt
  simp only [List.getElem?_cons_zero, List.getElem?_cons_succ] at c0 c1
  have a_c : B0 ≤ gc := by omega
  clear s_0
  go_wp2_with fail
  with_reducible refine (one_ct w3).mono ?_
  rintro e w4 ⟨hb, b, rfl, hbn, ht⟩
  have Hbt := hide ht
  clear ht hbn
  unfold taskVo
  clear c0 c1 cl
  replace Hc := hide (Hc.out.keep hb)
  replace Hl := hide (Hl.out.keep hb)
  replace Hbl := hide (Hbl.out.trans (hb.mono Hbl.out.size))
  clear hb
  have c0 := Hc.out.cell 0
  have c1 := Hc.out.cell 1
  have cl := Hc.out.lt
  simp only [List.getElem?_cons_zero, List.getElem?_cons_succ] at c0 c1
  have hct := Make_ct b oneT w4 Hbt.out
  unfold MakeP at hct
  rw [one_tf] at hct
  go_wp2_with fail
  with_reducible refine hct.mono ?_
  rintro e w5 ⟨hb, ⟨h1, _⟩ | ⟨_, hmany, _⟩ | ⟨_, L, f, mA, mc, hco, rfl, hmr⟩⟩
  · exact absurd rfl h1
  · exfalso
    obtain ⟨m, h1, h2, h3⟩ := hmany
    have h4 : m.length ≤ [0, 1].length := nodup_len h1 fun x hx => by have := one_reach (h2 x hx); simp; exact this
    rw [h3] at h4
    simp at h4
  obtain ⟨hf0, htab⟩ := one_costs hco
  have hw0 : wordF oneT.init = 0 := by decide +kernel
  rw [htab] at hmr
  rw [htab, hw0, hf0]
  have Hmk := hide hmr
  clear hct hmr hco hf0 htab hw0 Hbt
  dsimp only [List.length_cons, List.length_nil, Nat.zero_add] at Hmk ⊢
  unfold fault
  clear c0 c1 cl
  replace Hc := hide (Hc.out.keep hb)
  replace Hl := hide (Hl.out.keep hb)
  replace Hbl := hide (Hbl.out.trans (hb.mono Hbl.out.size))
  clear hb
  have c0 := Hc.out.cell 0
  have c1 := Hc.out.cell 1
  have cl := Hc.out.lt
  simp only [List.getElem?_cons_zero, List.getElem?_cons_succ] at c0 c1
  go_upto_region 4 with (fail)
  have s_c : gc < w5.heap.size := cl
  have s_0 : B0 ≤ w5.heap.size := Nat.le_trans (Nat.le_of_eq HB0.out) Hbl.out.size
  have hym := Blk.new (w5) 29 [.int .i64 0, .int .i64 0]
  have hbW : Below (w5).heap.size (w5) ((w5).alloc (.cells #[.int .i64 0, .int .i64 0] 29)) := (Below.refl _ _).alloc (Nat.le_refl _) _
  obtain ⟨w6, hW⟩ : ∃ W, W = (w5).alloc (.cells #[.int .i64 0, .int .i64 0] 29) := ⟨_, rfl⟩
  rw [← hW] at hym hbW ⊢
  replace Hc := hide (Hc.out.keep hbW)
  replace Hl := hide (Hl.out.keep hbW)
  replace Hmk := hide (Hmk.out.keep hbW)
  replace Hbl := hide (Hbl.out.trans (hbW.mono Hbl.out.size))
  have Hm := hide hym
  clear hW hbW hym
  generalize w5.heap.size = gm at Hm s_c s_0 ⊢
  have c0 := Hc.out.cell 0
  have c1 := Hc.out.cell 1
  have cl := Hc.out.lt
  have m0 := Hm.out.cell 0
  have m1 := Hm.out.cell 1
  have ml := Hm.out.lt
  simp only [List.getElem?_cons_zero, List.getElem?_cons_succ] at c0 c1 m0 m1
  clear s_c
  have a_m : B0 ≤ gm := by omega
  clear s_0
  go_wp2_with fail
  with_reducible refine (one_ct w6).mono ?_
  rintro e w7 ⟨hb, d, rfl, hdn, ht⟩
  have Hdt := hide ht
  clear ht hdn
  unfold taskVo
  clear c0 c1 m0 m1 cl ml
  replace Hc := hide (Hc.out.keep hb)
  replace Hm := hide (Hm.out.keep hb)
  replace Hl := hide (Hl.out.keep hb)
  replace Hmk := hide (Hmk.out.keep hb)
  replace Hbl := hide (Hbl.out.trans (hb.mono Hbl.out.size))
  clear hb
  have c0 := Hc.out.cell 0
  have c1 := Hc.out.cell 1
  have cl := Hc.out.lt
  have m0 := Hm.out.cell 0
  have m1 := Hm.out.cell 1
  have ml := Hm.out.lt
  simp only [List.getElem?_cons_zero, List.getElem?_cons_succ] at c0 c1 m0 m1
  have hct := Raise_ct d oneT lA 1 1 _ w7 Hdt.out Hl.out
  rw [one_rse] at hct
  go_wp2_with fail
  with_reducible refine hct.mono ?_
  rintro e w8 ⟨hb, rA, rc, rfl, hrr⟩
  rw [one_rval] at hrr
  rw [one_rval]
  have Hrk := hide hrr
  clear hct hrr Hdt
  dsimp only [List.length_cons, List.length_nil, Nat.zero_add] at Hrk ⊢
  unfold fault
  clear c0 c1 m0 m1 cl ml
  replace Hc := hide (Hc.out.keep hb)
  replace Hm := hide (Hm.out.keep hb)
  replace Hl := hide (Hl.out.keep hb)
  replace Hmk := hide (Hmk.out.keep hb)
  replace Hbl := hide (Hbl.out.trans (hb.mono Hbl.out.size))
  clear hb
  have c0 := Hc.out.cell 0
  have c1 := Hc.out.cell 1
  have cl := Hc.out.lt
  have m0 := Hm.out.cell 0
  have m1 := Hm.out.cell 1
  have ml := Hm.out.lt
  simp only [List.getElem?_cons_zero, List.getElem?_cons_succ] at c0 c1 m0 m1
  go_upto_region 5 with (fail)
  have s_c : gc < w8.heap.size := cl
  have s_m : gm < w8.heap.size := ml
  have s_0 : B0 ≤ w8.heap.size := Nat.le_trans (Nat.le_of_eq HB0.out) Hbl.out.size
  have hyr := Blk.new (w8) 29 [.int .i64 0, .int .i64 0]
  have hbW : Below (w8).heap.size (w8) ((w8).alloc (.cells #[.int .i64 0, .int .i64 0] 29)) := (Below.refl _ _).alloc (Nat.le_refl _) _
  obtain ⟨w9, hW⟩ : ∃ W, W = (w8).alloc (.cells #[.int .i64 0, .int .i64 0] 29) := ⟨_, rfl⟩
  rw [← hW] at hyr hbW ⊢
  replace Hc := hide (Hc.out.keep hbW)
  replace Hm := hide (Hm.out.keep hbW)
  replace Hl := hide (Hl.out.keep hbW)
  replace Hmk := hide (Hmk.out.keep hbW)
  replace Hrk := hide (Hrk.out.keep hbW)
  replace Hbl := hide (Hbl.out.trans (hbW.mono Hbl.out.size))
  have Hr := hide hyr
  clear hW hbW hyr
  generalize w8.heap.size = gr at Hr s_c s_m s_0 ⊢
  have c0 := Hc.out.cell 0
  have c1 := Hc.out.cell 1
  have cl := Hc.out.lt
  have m0 := Hm.out.cell 0
  have m1 := Hm.out.cell 1
  have ml := Hm.out.lt
  have r0 := Hr.out.cell 0
  have r1 := Hr.out.cell 1
  have rl := Hr.out.lt
  simp only [List.getElem?_cons_zero, List.getElem?_cons_succ] at c0 c1 m0 m1 r0 r1
  clear s_c
  clear s_m
  have a_r : B0 ≤ gr := by omega
  clear s_0
  obtain ⟨b1, o1, e1, X1, x1, y1, rfl, he1, k0, k1, _, _⟩ := Hmk.out.ent (show 0 < 1 by omega)
  obtain rfl := Option.some.inj he1
  obtain ⟨b2, o2, e2, X2, x2, y2, rfl, he2, q0, q1, _, _⟩ := Hrk.out.ent (show 0 < 1 by omega)
  obtain rfl := Option.some.inj he2
  clear he1 he2
  go_wp2_with fail
  go_ret
  exact ⟨ret_bool (by simp), Hbl.out⟩
end Go.Proofs.Ytliggcmohcdchaa
namespace Go.Proofs.Ytliggcmohcdchaa
set_option linter.unusedVariables false
open Go.RowKit
theorem many_list {T : Tsk} {l : List Nat} (h : TooMany T) (hl : ListOf T l) : False := by
  obtain ⟨m, h1, h2, h3⟩ := h
  have h4 := hl.all.few h1 h2
  have h5 := hl.few
  omega
theorem CostsOf.set {T : Tsk} {N : Nat} (hok : OkT T N) {l : List Nat} {f : Nat → Int} (h : CostsOf T l f) {s : Nat} (hs : s ∈ l) : setB N (factsF s) = true ∧ wordF (factsF s) = s := by
  obtain ⟨st, h1, rfl⟩ := reach_set hok ((h.list.all.mem s).1 hs)
  have hN := hok.low
  rw [facts_word (by omega) h1]
  exact ⟨h1, rfl⟩
theorem CostsOf.next {T : Tsk} {l : List Nat} {f : Nat → Int} (h : CostsOf T l f) {s t : Nat} {c : Int} (hs : s ∈ l) (ha : arcW (T.ops.map mkOp) s t c) : t ∈ l := (h.list.all.mem t).2 (.step ((h.list.all.mem s).1 hs) (step_arc.2 ⟨c, ha⟩))
theorem CostsOf.same {T : Tsk} {N : Nat} (hok : OkT T N) {l l' : List Nat} {f f' : Nat → Int} (h : CostsOf T l f) (h' : CostsOf T l' f') : ∀ s ∈ l, f s = f' s := by
  have he : (fun x => x ∈ l) = (fun x => x ∈ l') := funext fun x => propext ((h.list.all.mem x).trans (h'.list.all.mem x).symm)
  have hl := h.least
  have hl' := h'.least
  rw [← he] at hl'
  exact fun s hs => hl.uniq hl' (fun s t c ha => (arc_cost hok ha).1) (fun s t c hs ha => h.next hs ha) s hs
theorem made_tab {T : Tsk} {N : Nat} (hok : OkT T N) {l : List Nat} {f : Nat → Int} (h : CostsOf T l f) : TabOk N (mkTab l f) := by
  refine ⟨Nat.le_trans (mkTab_len l f) h.list.few, fun e he => ?_, fun e he => ?_, fun e he => ?_, ?_⟩
  · obtain ⟨s, hs, rfl⟩ := List.mem_map.1 he
    exact (h.set hok (List.mem_filter.1 hs).1).1
  · obtain ⟨s, hs, rfl⟩ := List.mem_map.1 he
    have : 0 < f s := by simpa using (List.mem_filter.1 hs).2
    show 1 ≤ f s
    omega
  · obtain ⟨s, hs, rfl⟩ := List.mem_map.1 he
    exact h.least.high s (List.mem_filter.1 hs).1
  · unfold mkTab
    rw [List.pairwise_map]
    exact h.list.up.filter _
theorem tabM_mk {f : Nat → Int} : ∀ {l : List Nat}, (∀ s ∈ l, wordF (factsF s) = s) → ∀ w, tabM (mkTab l f) w = if w ∈ l ∧ 0 < f w then some (f w) else none := by
  intro l
  induction l with
  | nil => intro _ w; simp [mkTab, tabM_nil]
  | cons s l ih =>
    intro h w
    have hs := h s List.mem_cons_self
    have ih := ih (fun x hx => h x (List.mem_cons_of_mem _ hx)) w
    have hc : mkTab (s :: l) f = if 0 < f s then ⟨factsF s, f s⟩ :: mkTab l f else mkTab l f := by
      unfold mkTab
      by_cases hp : 0 < f s
      · rw [if_pos hp, List.filter_cons, if_pos (by simpa using hp), List.map_cons]
      · rw [if_neg hp, List.filter_cons, if_neg (by simpa using hp)]
    rw [hc]
    by_cases hp : 0 < f s
    · rw [if_pos hp, tabM_cons, ih]
      by_cases hw : w = s
      · subst hw
        rw [if_pos hs, if_pos ⟨List.mem_cons_self, hp⟩]
      · rw [if_neg (fun e => hw (by rw [← e, hs]))]
        have : (w ∈ s :: l ∧ 0 < f w) ↔ (w ∈ l ∧ 0 < f w) := by simp [hw]
        simp only [this]
    · rw [if_neg hp, ih]
      have : (w ∈ s :: l ∧ 0 < f w) ↔ (w ∈ l ∧ 0 < f w) := by
        constructor
        · rintro ⟨h1, h2⟩
          rcases List.mem_cons.1 h1 with rfl | h1
          · exact absurd h2 hp
          · exact ⟨h1, h2⟩
        · rintro ⟨h1, h2⟩; exact ⟨List.mem_cons_of_mem _ h1, h2⟩
      simp only [this]
/-- the table's value of a state that can be reached -/
theorem made_of {T : Tsk} {N : Nat} (hok : OkT T N) {l : List Nat} {f : Nat → Int} (h : CostsOf T l f) {s : List Int} (hs : setB N s = true) (hm : wordF s ∈ l) : bOf (mkTab l f) s = f (wordF s) := by
  rw [← bW_of hok.low (made_tab hok h).set hs]
  unfold bW
  rw [tabM_mk (fun x hx => (h.set hok hx).2)]
  have h0 := h.least.low _ hm
  by_cases hp : 0 < f (wordF s)
  · rw [if_pos ⟨hm, hp⟩]; rfl
  · rw [if_neg (fun k => hp k.2)]
    show (0 : Int) = _
    omega
theorem CostsOf.init {T : Tsk} {l : List Nat} {f : Nat → Int} (h : CostsOf T l f) : wordF T.init ∈ l := (h.list.all.mem _).2 .start
end Go.Proofs.Ytliggcmohcdchaa
