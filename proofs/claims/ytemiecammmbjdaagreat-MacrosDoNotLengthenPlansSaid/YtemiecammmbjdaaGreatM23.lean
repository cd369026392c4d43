/- What the law asks for, part 23: Ol2 Olh. -/
import Derived.Test.YtemiecammmbjdaaGreatM1
import Derived.Test.YtemiecammmbjdaaGreatM2
import Derived.Test.YtemiecammmbjdaaGreatM3
import Derived.Test.YtemiecammmbjdaaGreatM10
import Derived.Test.YtemiecammmbjdaaGreatM11
import Derived.Test.YtemiecammmbjdaaGreatM12
import Derived.Test.YtemiecammmbjdaaGreatM13
import Derived.Test.YtemiecammmbjdaaGreatM14
import Derived.Test.YtemiecammmbjdaaGreatM22
import Derived.BigQuiet
import Derived.BigRegion
import Derived.Deep.AppendLies
import Derived.Deep.Draws
import Derived.Deep.Fields
import Derived.Deep.LoopGhost
import Derived.Deep.QuietTactic
import Derived.Deep.Slices
import Derived.DeepKeys4
import Derived.Laws.AppendOwnNone
import Derived.Laws.BitsAllLaws
import Derived.Laws.EntriesVeiled
import Derived.Laws.OwnMore
import Derived.Lib.Hide
import Derived.Lib.SlicesCompact
import Derived.LoopIn
import Derived.LoopNIn
import Derived.Maps.AppendAt
import Derived.Maps.OwnIn
import Derived.Maps.OwnOps
import Derived.Maps.OwnSet
import Derived.OwnWalkIn
import Derived.RangeFuncBound
import Derived.RangeFuncCalls
import Derived.RangeFuncLeaves
import Derived.RangeFuncNested
import Derived.Shelf.Abstract
import Derived.Shelf.RegionOpen
import Derived.TacticsInMore
import Derived.Test.YtemiecammmbjdaaGreatProg
import Derived.WalkKit
namespace Go.Proofs.YtemiecammmbjdaaGreat
set_option linter.unusedVariables false
set_option linter.unusedSimpArgs false
open Go.RowKit
set_option maxHeartbeats 1600000 in
theorem OLen_ct (A : Option Addr) (n c : Nat) (w : World) : Calls Tryz.prog 202 #[.slice A n c] w (Same w (.int .i64 n)) := by
  go_enter Tryz.func202, Tryz.ntmps202
  go_wp2
  go_ret
  exact ⟨rfl, rfl⟩
set_option maxRecDepth 100000 in
set_option maxHeartbeats 6400000 in
theorem OLess_ct (B Q : Nat) (A : Option Addr) (n c : Nat) (es : List En) (i k : Nat) (a b : En) (w : World) (h : HeapS B w Q A n c es) (ha : es[i]? = some a) (hb : es[k]? = some b) :
    Calls Tryz.prog 203 #[.slice A n c, .int .i64 i, .int .i64 k] w (Quiet w (.bool (lessE a b))) := by
  have hi : i < n := by rw [← h.len]; exact (List.getElem?_eq_some_iff.1 ha).1
  have hk : k < n := by rw [← h.len]; exact (List.getElem?_eq_some_iff.1 hb).1
  obtain ⟨g, a', rfl, ha', ca, ba⟩ := h.get hi
  obtain rfl := Option.some.inj (ha.symm.trans ha')
  obtain ⟨g', b', e, hb', cb, bb⟩ := h.get hk
  obtain rfl := Option.some.inj (hb.symm.trans hb')
  injection e with e
  injection e with e
  subst e
  have hcap := own_nil_or h.own
  obtain ⟨hc1, hc2⟩ := hcap
  have a1 := ba.cell 1
  have a2 := ba.cell 2
  have b1 := bb.cell 1
  have b2 := bb.cell 2
  have hin : ((i : Nat) : Int) < (n : Int) := by omega
  have hkn : ((k : Nat) : Int) < (n : Int) := by omega
  have hi0 : (0 : Int) ≤ (i : Int) := by omega
  have hk0 : (0 : Int) ≤ (k : Int) := by omega
  obtain ⟨ab, ai, ak, at_⟩ := a
  obtain ⟨bb', bi, bk, bt⟩ := b
  simp only [En.cells, En.ptr, List.getElem?_cons_zero, List.getElem?_cons_succ] at ca cb a1 a2 b1 b2
  have hle : lessE ⟨ab, ai, ak, at_⟩ ⟨bb', bi, bk, bt⟩ = (decide (ak < bk) || (decide (ak = bk) && decide (at_ < bt))) := rfl
  have Hle := hide hle
  clear hle h ha ha' hb hb' ba bb
  by_cases h1 : ak < bk
  · go_enter Tryz.func203, Tryz.ntmps203
    go_wp2
    go_quiet (fail)
    go_wp2
    go_ret
    exact ⟨ret_bool (by rw [Hle.out]; simp [h1]), _, rfl⟩
  · have h1d : decide (ak < bk) = false := by simpa using h1
    by_cases h2 : ak = bk
    · have h2d : (ak == bk) = true := by rw [beq_iff_eq]; exact h2
      have H2 := hide h2
      clear h2
      go_enter Tryz.func203, Tryz.ntmps203
      go_wp2
      go_quiet (fail)
      go_wp2
      go_ret
      exact ⟨ret_bool (by rw [Hle.out, decide_eq_false (show ¬ ak < bk by omega), decide_eq_true H2.out]; simp), _, rfl⟩
    · have h2d : (ak == bk) = false := by rw [beq_eq_false_iff_ne]; exact h2
      go_enter Tryz.func203, Tryz.ntmps203
      go_wp2
      go_quiet (fail)
      go_wp2
      go_ret
      exact ⟨ret_bool (by rw [Hle.out, decide_eq_false (show ¬ ak < bk by omega), decide_eq_false h2]; simp), _, rfl⟩
theorem set_get {α : Type} {l : List α} {i k j : Nat} {a b x : α} (hi : i < l.length) (hk : k < l.length) (h : ((l.set i b).set k a)[j]? = some x) : (j = k ∧ x = a) ∨ (j ≠ k ∧ j = i ∧ x = b) ∨ (j ≠ k ∧ j ≠ i ∧ l[j]? = some x) := by
  rw [List.getElem?_set] at h
  split at h
  · rename_i e
    rw [List.length_set] at h
    rw [if_pos hk] at h
    exact .inl ⟨e.symm, (Option.some.inj h).symm⟩
  · rename_i e
    rw [List.getElem?_set] at h
    split at h
    · rename_i e2
      exact .inr (.inl ⟨fun e3 => e e3.symm, e2.symm, (Option.some.inj h).symm⟩)
    · rename_i e2
      exact .inr (.inr ⟨fun e3 => e e3.symm, fun e3 => e2 e3.symm, h⟩)
theorem blk_ne {es : List En} (hn : (es.map En.blk).Nodup) {i j : Nat} {a b : En} (ha : es[i]? = some a) (hb : es[j]? = some b) (hij : i ≠ j) : a.blk ≠ b.blk := by
  intro e
  obtain ⟨h1, rfl⟩ := List.getElem?_eq_some_iff.1 ha
  obtain ⟨h2, rfl⟩ := List.getElem?_eq_some_iff.1 hb
  have h3 : (es.map En.blk)[i]'(by simpa using h1) = (es.map En.blk)[j]'(by simpa using h2) := by rw [List.getElem_map, List.getElem_map]; exact e
  rcases Nat.lt_or_gt_of_ne hij with h | h
  · exact List.pairwise_iff_getElem.1 hn i j (by simpa using h1) (by simpa using h2) h h3
  · exact List.pairwise_iff_getElem.1 hn j i (by simpa using h2) (by simpa using h1) h h3.symm
/-- the stores of an exchange -/
def swapW (w : World) (g i k : Nat) (a b : En) : World := (((w.setCell ⟨g, i, none⟩ b.ptr).setCell ⟨g, k, none⟩ a.ptr).setCell ⟨b.blk, 3, none⟩ (.int .i64 i)).setCell ⟨a.blk, 3, none⟩ (.int .i64 k)
theorem swap_chg {g i k : Nat} {a b : En} {es : List En} (w : World) (ha : a ∈ es) (hb : b ∈ es) : Chg (HeapM (some ⟨g, 0, none⟩) es) w (swapW w g i k a b) :=
  (((((Chg.set w g i b.ptr).mono fun x e => (by rw [e]; exact .inl rfl : HeapM (some ⟨g, 0, none⟩) es x)).trans ((Chg.set _ g k a.ptr).mono fun x e => (by rw [e]; exact .inl rfl : HeapM (some ⟨g, 0, none⟩) es x))).trans ((Chg.set _ b.blk 3 _).mono fun x e => .inr ⟨b, hb, e.symm⟩)).trans ((Chg.set _ a.blk 3 _).mono fun x e => .inr ⟨a, ha, e.symm⟩))
theorem HeapS.swap {B Q g n c i k : Nat} {es : List En} {w : World} {a b : En} (h : HeapS B w Q (some ⟨g, 0, none⟩) n c es) (ha : es[i]? = some a) (hb : es[k]? = some b) : HeapS B (swapW w g i k a b) Q (some ⟨g, 0, none⟩) n c (swapL es i k) := by
  have hil := (List.getElem?_eq_some_iff.1 ha).1
  have hkl := (List.getElem?_eq_some_iff.1 hb).1
  have hma := List.mem_of_getElem? ha
  have hmb := List.mem_of_getElem? hb
  have hag : a.blk ≠ g := fun e => h.apart a hma (by rw [e]; rfl)
  have hbg : b.blk ≠ g := fun e => h.apart b hmb (by rw [e]; rfl)
  have hQg : Q ≠ g := fun e => h.q1 (by rw [e]; rfl)
  have hperm := swapL_perm es i k
  have hmem : ∀ e, e ∈ swapL es i k ↔ e ∈ es := fun e => hperm.mem_iff
  have hc := swap_chg (g := g) (i := i) (k := k) w hma hmb
  have hQb : (swapW w g i k a b).heap[Q]? = w.heap[Q]? := hc.block Q (World.block_lt_of_cell? w _ h.hd) (fun e => by
    rcases e with e | ⟨x, hx, e⟩
    · exact h.q1 e
    · exact h.q2 x hx e)
  refine ⟨?_, ?_, ?_, by rw [hperm.length_eq]; exact h.len, ?_, (hperm.map En.blk).nodup_iff.2 h.once, fun e he => h.apart e ((hmem e).1 he), h.q1, fun e he => h.q2 e ((hmem e).1 he), fun e he => h.small e ((hmem e).1 he), h.few⟩
  · rw [← h.hd]
    unfold World.cell?
    rw [hQb]
  · rw [← h.fz]
    unfold World.frozen?
    rw [hQb]
  · have h1 := own_set (own_set h.own (show i < n by rw [← h.len]; exact hil) b.ptr) (show k < n by rw [← h.len]; exact hkl) a.ptr
    have e1 : (swapL es i k).map En.ptr = ((es.map En.ptr).set i b.ptr).set k a.ptr := by rw [swapL_eq ha hb, List.map_set, List.map_set]
    rw [e1]
    have c3 := Chg.set ((w.setCell ⟨g, i, none⟩ b.ptr).setCell ⟨g, k, none⟩ a.ptr) b.blk 3 (.int .i64 i)
    have c4 := Chg.set (((w.setCell ⟨g, i, none⟩ b.ptr).setCell ⟨g, k, none⟩ a.ptr).setCell ⟨b.blk, 3, none⟩ (.int .i64 i)) a.blk 3 (.int .i64 k)
    have hg : ∀ r, (Value.slice (some (⟨g, 0, none⟩ : Addr)) n c).ownBlock = some r → r = g := fun r hr => (show g = r by simpa [Value.ownBlock] using hr).symm
    exact c4.own (c3.own h1 (fun r hr e => hbg (by rw [← e]; exact hg r hr))) (fun r hr e => hag (by rw [← e]; exact hg r hr))
  · intro j e he
    rw [swapL_eq ha hb] at he
    have far : ∀ {x : En} {m : Nat}, Blk 166 w x.blk (x.cells m) → x.blk ≠ g → Blk 166 ((w.setCell ⟨g, i, none⟩ b.ptr).setCell ⟨g, k, none⟩ a.ptr) x.blk (x.cells m) := fun hx hne => (hx.far (p := ⟨g, i, none⟩) hne _).far (p := ⟨g, k, none⟩) hne _
    rcases set_get hil hkl he with ⟨rfl, rfl⟩ | ⟨h1, rfl, rfl⟩ | ⟨h1, h2, h3⟩
    · -- the entry a, now at j
      by_cases hab : e.blk = b.blk
      · have h1 := ((far (h.ent _ _ ha) hag).set 3 (.int .i64 i)).set 3 (.int .i64 j)
        unfold swapW
        rw [← hab]
        exact h1
      · have h1 := ((far (h.ent _ _ ha) hag).far (p := ⟨b.blk, 3, none⟩) hab (.int .i64 i)).set 3 (.int .i64 j)
        exact h1
    · have hne := blk_ne h.once ha hb h1
      have h2 := ((far (h.ent _ _ hb) hbg).set 3 (.int .i64 j)).far (p := ⟨a.blk, 3, none⟩) (fun e => hne e.symm) (.int .i64 k)
      exact h2
    · have ne1 := blk_ne h.once h3 ha h2
      have ne2 := blk_ne h.once h3 hb h1
      have hme := List.mem_of_getElem? h3
      exact ((far (h.ent _ _ h3) (fun e => h.apart _ hme (by rw [e]; rfl))).far (p := ⟨b.blk, 3, none⟩) ne2 _).far (p := ⟨a.blk, 3, none⟩) ne1 _
def SwapP (B Q : Nat) (A : Option Addr) (n c : Nat) (es : List En) (i k : Nat) (w : World) (e : Ending) (w' : World) : Prop := e = .returned (.tuple #[]) ∧ HeapS B w' Q A n c (swapL es i k) ∧ Chg (HeapM A es) w w'
set_option maxRecDepth 100000 in
set_option maxHeartbeats 6400000 in
theorem OSwap_ct (B Q : Nat) (A : Option Addr) (n c : Nat) (es : List En) (i k : Nat) (w : World) (h : HeapS B w Q A n c es) (hi : i < n) (hk : k < n) :
    Calls Tryz.prog 204 #[.slice A n c, .int .i64 i, .int .i64 k] w (SwapP B Q A n c es i k w) := by
  obtain ⟨g, a, rfl, ha, ca, ba⟩ := h.get hi
  obtain ⟨g', b, e, hb, cb, bb⟩ := h.get hk
  injection e with e
  injection e with e
  subst e
  have hcap := own_nil_or h.own
  obtain ⟨hc1, hc2⟩ := hcap
  have hfr : ∀ j, j < n → w.frozen? ⟨g, j, none⟩ = false := fun j hj => by
    rcases h.own.2 with ⟨h3, _⟩ | ⟨r, cap, cur, e1, hr, hc, _⟩
    · cases h3
    injection e1 with e1
    injection e1 with e1
    injection e1 with e1
    subst e1
    simp [World.frozen?, hc]
  have fi := hfr i hi
  have fk := hfr k hk
  have hin : ((i : Nat) : Int) < (n : Int) := by omega
  have hkn : ((k : Nat) : Int) < (n : Int) := by omega
  have hi0 : (0 : Int) ≤ (i : Int) := by omega
  have hk0 : (0 : Int) ≤ (k : Int) := by omega
  have a3 := ba.cell 3
  have b3 := bb.cell 3
  have af := ba.frozen 3
  have bf := bb.frozen 3
  have hag : ¬ a.blk = g := fun e => h.apart a (List.mem_of_getElem? ha) (by rw [e]; rfl)
  have hbg : ¬ b.blk = g := fun e => h.apart b (List.mem_of_getElem? hb) (by rw [e]; rfl)
  have hga : ¬ g = a.blk := fun e => hag e.symm
  have hgb : ¬ g = b.blk := fun e => hbg e.symm
  have Ha := hide ha
  have Hb := hide hb
  have Ba := hide ba
  have Bb := hide bb
  have H := hide h
  have own1 := own_set (own_set h.own hi b.ptr) hk a.ptr
  have hvl : (es.map En.ptr).length = n := by rw [List.length_map]; exact h.len
  have g1 : ∀ j v, (((es.map En.ptr).set i b.ptr).set k a.ptr)[j]? = some v → ((w.setCell ⟨g, i, none⟩ b.ptr).setCell ⟨g, k, none⟩ a.ptr).cell? ⟨g, j, none⟩ = some v := fun j v hj => by
    have := own1.cells (g := g) rfl j v hj
    rw [add_plain] at this
    simpa using this
  have d_k := g1 k a.ptr (by rw [List.getElem?_set_self (by rw [List.length_set, hvl]; exact hk)])
  have d_i : ((w.setCell ⟨g, i, none⟩ b.ptr).setCell ⟨g, k, none⟩ a.ptr).cell? ⟨g, i, none⟩ = some (if i = k then a.ptr else b.ptr) := by
    by_cases e : i = k
    · rw [if_pos e, e]; subst e; exact d_k
    · rw [if_neg e]
      exact g1 i b.ptr (by rw [List.getElem?_set_ne (fun e2 => e e2.symm), List.getElem?_set_self (by rw [hvl]; exact hi)])
  have ea := (ba.far (p := ⟨g, i, none⟩) hag b.ptr).far (p := ⟨g, k, none⟩) hag a.ptr
  have eb := (bb.far (p := ⟨g, i, none⟩) hbg b.ptr).far (p := ⟨g, k, none⟩) hbg a.ptr
  have hfin := H.out.swap ha hb
  have hchg := swap_chg (g := g) (i := i) (k := k) w (List.mem_of_getElem? ha) (List.mem_of_getElem? hb)
  have hbi : i = k → b = a := fun e => by subst e; exact Option.some.inj (hb.symm.trans ha)
  have hne : ¬ i = k → ¬ a.blk = b.blk := fun e => blk_ne h.once ha hb e
  obtain ⟨ab, ai, ak, at_⟩ := a
  obtain ⟨bb', bi, bk, bt⟩ := b
  simp only [En.ptr] at ca cb d_k d_i hfin hchg ea eb a3 af b3 bf hag hbg hga hgb hne
  have Hfin := hide hfin
  have Hchg := hide hchg
  unfold swapW at Hfin Hchg
  simp only [En.ptr] at Hfin Hchg
  have Hea := hide ea
  have Heb := hide eb
  clear hfin hchg ea eb g1 own1 hvl h ha hb ba bb Ha Hb Ba Bb
  by_cases hik : i = k
  · have hba := (hbi hik).symm
    injection hba with hb1 hb2 hb3 hb4
    subst hik hb1 hb2 hb3 hb4
    rw [if_pos rfl] at d_i
    clear hbi hne cb fk hkn hk0 b3 bf hbg hgb d_k Heb hfr
    go_enter Tryz.func204, Tryz.ntmps204
    go_wp2
    go_region
    obtain ⟨W1, hW1⟩ : ∃ W, W = (w.setCell ⟨g, i, none⟩ (.pointer (some ⟨ab, 0, none⟩))).setCell ⟨g, i, none⟩ (.pointer (some ⟨ab, 0, none⟩)) := ⟨_, rfl⟩
    rw [← hW1] at d_i Hea Hfin Hchg ⊢
    clear hW1
    have a3' := Hea.out.cell 3
    have af' := Hea.out.frozen 3
    have al' := Hea.out.lt
    simp only [En.cells, List.getElem?_cons_zero, List.getElem?_cons_succ] at a3' af' al'
    go_wp2
    go_region
    go_wp2
    go_end0
    exact ⟨rfl, Hfin.out.keep ((Below.refl _ _).drew.drew), Hchg.out.trans (Chg.of_below ((Below.refl _ _).drew.drew) _)⟩
  · have hab := hne hik
    have hba : ¬ bb' = ab := fun e => hab e.symm
    have hki : ¬ k = i := fun e => hik e.symm
    have hikz : ¬ (i : Int) = (k : Int) := by omega
    rw [if_neg hik] at d_i
    clear hbi hne hfr
    go_enter Tryz.func204, Tryz.ntmps204
    go_wp2
    go_region
    obtain ⟨W1, hW1⟩ : ∃ W, W = (w.setCell ⟨g, i, none⟩ (.pointer (some ⟨bb', 0, none⟩))).setCell ⟨g, k, none⟩ (.pointer (some ⟨ab, 0, none⟩)) := ⟨_, rfl⟩
    rw [← hW1] at d_i d_k Hea Heb Hfin Hchg ⊢
    clear hW1
    have a3' := Hea.out.cell 3
    have af' := Hea.out.frozen 3
    have al' := Hea.out.lt
    have b3' := Heb.out.cell 3
    have bf' := Heb.out.frozen 3
    have bl' := Heb.out.lt
    simp only [En.cells, List.getElem?_cons_zero, List.getElem?_cons_succ] at a3' af' al' b3' bf' bl'
    go_wp2
    go_region
    go_wp2
    go_end0
    exact ⟨rfl, Hfin.out.keep ((Below.refl _ _).drew.drew), Hchg.out.trans (Chg.of_below ((Below.refl _ _).drew.drew) _)⟩
end Go.Proofs.YtemiecammmbjdaaGreat
namespace Go.Proofs.YtemiecammmbjdaaGreat
set_option linter.unusedVariables false
set_option linter.unusedSimpArgs false
/-- a does not come behind b -/
def leE (a b : En) : Prop := lessE b a = false
theorem leE_iff {a b : En} : leE a b ↔ a.key < b.key ∨ (a.key = b.key ∧ a.time ≤ b.time) := by
  unfold leE lessE
  simp only [Bool.or_eq_false_iff, Bool.and_eq_false_iff, decide_eq_false_iff_not]
  omega
theorem lessE_iff {a b : En} : lessE a b = true ↔ a.key < b.key ∨ (a.key = b.key ∧ a.time < b.time) := by
  unfold lessE
  simp only [Bool.or_eq_true, Bool.and_eq_true, decide_eq_true_eq]
theorem leE.trans {a b c : En} (h : leE a b) (k : leE b c) : leE a c := by rw [leE_iff] at *; omega
theorem leE.of_less {a b : En} (h : lessE a b = true) : leE a b := by rw [leE_iff]; rw [lessE_iff] at h; omega
theorem leE.key {a b : En} (h : leE a b) : a.key ≤ b.key := by rw [leE_iff] at h; omega
theorem leE.refl (a : En) : leE a a := by rw [leE_iff]; omega
/-- the entries at two places stand in order -/
def ordE (es : List En) (i k : Nat) : Prop := ∀ a b, es[i]? = some a → es[k]? = some b → leE a b
/-- a heap, up to place m -/
def HO (m : Nat) (es : List En) : Prop := ∀ k, 0 < k → k < m → ordE es ((k - 1) / 2) k
/-- a heap but for place j, which may be too small -/
def UpOk (m : Nat) (es : List En) (j : Nat) : Prop := (∀ k, 0 < k → k < m → k ≠ j → ordE es ((k - 1) / 2) k) ∧ ∀ k, 0 < k → k < m → 0 < j → (k - 1) / 2 = j → ordE es ((j - 1) / 2) k
/-- a heap but for place i -/
def DownW (m : Nat) (es : List En) (i : Nat) : Prop := (∀ k, 0 < k → k < m → k ≠ i → (k - 1) / 2 ≠ i → ordE es ((k - 1) / 2) k) ∧ ∀ k, 0 < k → k < m → 0 < i → (k - 1) / 2 = i → ordE es ((i - 1) / 2) k
theorem swap_get {es : List En} {i k : Nat} {a b : En} (ha : es[i]? = some a) (hb : es[k]? = some b) (j : Nat) : (swapL es i k)[j]? = if j = k then some a else if j = i then some b else es[j]? := by
  rw [swapL_eq ha hb]
  have h1 := (List.getElem?_eq_some_iff.1 ha).1
  have h2 := (List.getElem?_eq_some_iff.1 hb).1
  rw [List.getElem?_set]
  by_cases e : k = j
  · subst e; simp [h2]
  · rw [if_neg e, if_neg (Ne.symm e), List.getElem?_set]
    by_cases e2 : i = j
    · subst e2; simp [h1]
    · rw [if_neg e2, if_neg (Ne.symm e2)]
theorem HO.root {m : Nat} {es : List En} (h : HO m es) (hm : m ≤ es.length) {r : En} (hr : es[0]? = some r) : ∀ k, k < m → ∀ b, es[k]? = some b → leE r b := by
  intro k
  induction k using Nat.strongRecOn with
  | ind k ih =>
    intro hk b hb
    rcases Nat.eq_zero_or_pos k with h0 | h0
    · subst h0; rw [hr] at hb; obtain rfl := Option.some.inj hb; exact leE.refl _
    · have hp : (k - 1) / 2 < k := by omega
      have hx : es[(k - 1) / 2]? = some (es[(k - 1) / 2]'(by omega)) := List.getElem?_eq_getElem _
      exact (ih _ hp (by omega) _ hx).trans (h k h0 hk _ _ hx hb)
theorem UpOk.stop {m : Nat} {es : List En} {j : Nat} (h : UpOk m es j) (h2 : j = 0 ∨ ∃ a b, es[(j - 1) / 2]? = some a ∧ es[j]? = some b ∧ lessE b a = false) : HO m es := fun k h0 hk => by
  by_cases e : k = j
  · subst e
    rcases h2 with e | ⟨a, b, ha, hb, hl⟩
    · omega
    · intro a' b' ha' hb'
      rw [ha] at ha'; rw [hb] at hb'
      obtain rfl := Option.some.inj ha'
      obtain rfl := Option.some.inj hb'
      exact hl
  · exact h.1 k h0 hk e
theorem UpOk.step {m : Nat} {es : List En} {j : Nat} (h : UpOk m es j) (hj : 0 < j) (hjm : j < m) {a b : En} (ha : es[(j - 1) / 2]? = some a) (hb : es[j]? = some b) (hl : lessE b a = true) : UpOk m (swapL es ((j - 1) / 2) j) ((j - 1) / 2) := by
  obtain ⟨i, hi⟩ : ∃ i, i = (j - 1) / 2 := ⟨_, rfl⟩
  rw [← hi] at ha ⊢
  have hij : i < j := by omega
  have hg := swap_get ha hb
  refine ⟨fun k h0 hk hne x y hx hy => ?_, fun k h0 hk h0i hp x y hx hy => ?_⟩
  · rw [hg] at hx hy
    by_cases e1 : k = j
    · subst e1
      rw [if_pos rfl] at hy
      rw [if_neg (by omega), if_pos hi.symm] at hx
      obtain rfl := Option.some.inj hx
      obtain rfl := Option.some.inj hy
      exact leE.of_less hl
    · rw [if_neg e1, if_neg hne] at hy
      by_cases e2 : (k - 1) / 2 = j
      · rw [if_pos e2] at hx
        obtain rfl := Option.some.inj hx
        exact h.2 k h0 hk hj e2 _ _ (by rw [← hi]; exact ha) hy
      · rw [if_neg e2] at hx
        by_cases e3 : (k - 1) / 2 = i
        · rw [if_pos e3] at hx
          obtain rfl := Option.some.inj hx
          exact (leE.of_less hl).trans (h.1 k h0 hk e1 _ _ (by rw [e3]; exact ha) hy)
        · rw [if_neg e3] at hx
          exact h.1 k h0 hk e1 _ _ hx hy
  · rw [hg] at hx hy
    rw [if_neg (by omega), if_neg (by omega)] at hx
    have h3 := h.1 i h0i (by omega) (by omega) _ _ hx ha
    by_cases e1 : k = j
    · subst e1
      rw [if_pos rfl] at hy
      obtain rfl := Option.some.inj hy
      exact h3
    · rw [if_neg e1, if_neg (by omega)] at hy
      exact h3.trans (h.1 k h0 hk e1 _ _ (by rw [hp]; exact ha) hy)
/-- nothing moved: the children are in order -/
theorem DownW.up {m : Nat} {es : List En} {i : Nat} (h : DownW m es i) (hc : ∀ k, 0 < k → k < m → (k - 1) / 2 = i → ordE es i k) : UpOk m es i :=
  ⟨fun k h0 hk hne => by
    by_cases e : (k - 1) / 2 = i
    · rw [e]; exact hc k h0 hk e
    · exact h.1 k h0 hk hne e, h.2⟩
/-- a heap but for the children of i -/
def DownOk (m : Nat) (es : List En) (i : Nat) : Prop := DownW m es i ∧ (0 < i → i < m → ordE es ((i - 1) / 2) i)
theorem DownOk.stop {m : Nat} {es : List En} {i : Nat} (h : DownOk m es i) (hc : ∀ k, 0 < k → k < m → (k - 1) / 2 = i → ordE es i k) : HO m es := fun k h0 hk => by
  by_cases e : k = i
  · subst e; exact h.2 h0 hk
  · exact (h.1.up hc).1 k h0 hk e
/-- the least child comes up -/
theorem DownW.step {m : Nat} {es : List En} {i j : Nat} (h : DownW m es i) (hj0 : 0 < j) (hjm : j < m) (hp : (j - 1) / 2 = i) {a b : En} (ha : es[i]? = some a) (hb : es[j]? = some b) (hl : lessE b a = true)
    (ho : ∀ k, 0 < k → k < m → (k - 1) / 2 = i → ordE es j k) : DownOk m (swapL es i j) j := by
  have hij : i < j := by omega
  have hg := swap_get ha hb
  refine ⟨⟨fun k h0 hk hne hpj x y hx hy => ?_, fun k h0 hk _ hpk x y hx hy => ?_⟩, fun _ _ x y hx hy => ?_⟩
  · rw [hg] at hx hy
    rw [if_neg hpj] at hx
    rw [if_neg hne] at hy
    by_cases e1 : k = i
    · subst e1
      rw [if_pos rfl] at hy
      rw [if_neg (by omega)] at hx
      obtain rfl := Option.some.inj hy
      exact h.2 j hj0 hjm h0 hp _ _ hx hb
    · rw [if_neg e1] at hy
      by_cases e2 : (k - 1) / 2 = i
      · rw [if_pos e2] at hx
        obtain rfl := Option.some.inj hx
        exact ho k h0 hk e2 _ _ hb hy
      · rw [if_neg e2] at hx
        exact h.1 k h0 hk e1 e2 _ _ hx hy
  · rw [hg] at hx hy
    rw [hp, if_neg (by omega), if_pos rfl] at hx
    rw [if_neg (by omega), if_neg (by omega)] at hy
    obtain rfl := Option.some.inj hx
    exact h.1 k h0 hk (by omega) (by omega) _ _ (by rw [hpk]; exact hb) hy
  · rw [hg] at hx hy
    rw [hp, if_neg (by omega), if_pos rfl] at hx
    rw [if_pos rfl] at hy
    obtain rfl := Option.some.inj hx
    obtain rfl := Option.some.inj hy
    exact leE.of_less hl
theorem HO.up {m : Nat} {es : List En} (h : HO m es) (j : Nat) (hx : ∀ k, 0 < k → k < m → (k - 1) / 2 = j → 0 < j → ordE es ((j - 1) / 2) k) : UpOk m es j := ⟨fun k h0 hk _ => h k h0 hk, fun k h0 hk hj e => hx k h0 hk e hj⟩
/-- one entry more at the end -/
theorem HO.more {n : Nat} {es : List En} (h : HO n es) (hn : es.length = n) (x : En) : UpOk (n + 1) (es ++ [x]) n := by
  refine ⟨fun k h0 hk hne a b ha hb => ?_, fun k h0 hk _ e => by omega⟩
  rw [List.getElem?_append_left (by omega)] at ha hb
  exact h k h0 (by omega) a b ha hb
/-- another key at a place -/
theorem HO.reset {n : Nat} {es : List En} (h : HO n es) (hn : n ≤ es.length) (i : Nat) (hi : i < n) (x : En) : DownW n (es.set i x) i := by
  refine ⟨fun k h0 hk hne hp a b ha hb => ?_, fun k h0 hk h0i hp a b ha hb => ?_⟩
  · rw [List.getElem?_set, if_neg (by omega)] at ha hb
    exact h k h0 hk a b ha hb
  · rw [List.getElem?_set, if_neg (by omega)] at ha hb
    have hx : es[i]? = some (es[i]'(by omega)) := List.getElem?_eq_getElem _
    exact (h i h0i hi _ _ ha hx).trans (h k h0 hk _ _ (by rw [hp]; exact hx) hb)
/-- the last entry comes to the front -/
theorem HO.last {n : Nat} {es : List En} (h : HO (n + 1) es) {a b : En} (ha : es[0]? = some a) (hb : es[n]? = some b) : DownW n (swapL es 0 n) 0 := by
  have hg := swap_get ha hb
  refine ⟨fun k h0 hk hne hp x y hx hy => ?_, fun k h0 hk h00 hp => by omega⟩
  rw [hg] at hx hy
  rw [if_neg (by omega), if_neg hp] at hx
  rw [if_neg (by omega), if_neg (by omega)] at hy
  exact h k h0 (by omega) _ _ hx hy
theorem HO.less {m n : Nat} {es : List En} (h : HO n es) (hm : m ≤ n) : HO m es := fun k h0 hk => h k h0 (by omega)
theorem HO.congr {m : Nat} {es es' : List En} (h : HO m es) (he : ∀ k, k < m → es'[k]? = es[k]?) : HO m es' := fun k h0 hk a b ha hb => by
  rw [he _ (by omega)] at ha
  rw [he _ hk] at hb
  exact h k h0 hk a b ha hb
end Go.Proofs.YtemiecammmbjdaaGreat
