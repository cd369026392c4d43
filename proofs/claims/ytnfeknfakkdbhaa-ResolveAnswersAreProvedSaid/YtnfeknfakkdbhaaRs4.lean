/- The solver's back and undo. -/
import Derived.Test.YtnfeknfakkdbhaaRs3
namespace Go.Proofs.Ytnfeknfakkdbhaa
set_option linter.unusedVariables false
set_option linter.unusedSimpArgs false
open Go.RowKit

section
variable {B : Nat} {w : World} {g : Nat} {a : SA} {V : Nat} {cs ln : List (List Int)} {vals lev rea t : List Int} {starts : List Nat}
theorem Lf_get {l : List Int} {q : Nat} (h : q < l.length) : l[q]? = some (Lf l q) := by
  unfold Lf
  rw [List.getD_eq_getElem?_getD, List.getElem?_eq_getElem h]
  rfl
set_option maxRecDepth 100000 in
set_option maxHeartbeats 1600000 in
theorem back_ct {A : Option Addr} {n c : Nat} {C : List Int} (h : Sv B w g a V cs ln vals lev rea t starts) (hr : Rd Enc.int w A n c C) (hf : ∀ x ∈ C, Fits V x) (hV : V ≤ 1000) :
    Calls Try.prog 104 #[.pointer (some ⟨g, 0, none⟩), .slice A n c] w (Quiet w (.int .i64 (backF (Lf lev) starts.length C 0))) := by
  have hsm := hr.low
  have Hl := hide hr.len
  have hsl : starts.length ≤ 9223372036854775807 := by have := own_nil_or h.sts; omega
  have Hr := hide hr
  have H := hide h
  have Hf := hide hf
  clear hr h hf
  go_enter Try.func104, Try.ntmps104
  go_wp2_with fail
  go_loopw [5, 11] (fun o i wr => ∃ (k : Nat) (b : Int), k ≤ n ∧ i = .int .i64 k ∧ o = .int .i64 b ∧ Qt w wr ∧ backF (Lf lev) starts.length C 0 = backF (Lf lev) starts.length (C.drop k) b) (fun _ i _ => n - (intOf i).toNat)
  case atStart => exact ⟨0, 0, by omega, rfl, rfl, Qt.refl _, by simp⟩
  case round =>
    obtain ⟨k, b, hk, rfl, rfl, hq, hrel⟩ := hrel
    have hsv := H.out.keep (hq.below _)
    obtain ⟨f0, f1, f2, f3, f4, f5, f6, f7⟩ := hsv.facts
    have Hq := hide hq
    by_cases hlt : k < n
    · obtain ⟨b0, off, x, rfl, hx, hxl, hxh, hcx⟩ := (Hr.out.qt hq).int hlt
      rw [drop_cons hx, backF] at hrel
      have hfx := Hf.out x (List.mem_of_getElem? hx)
      have hxb := hfx.2
      have hv := hfx.var
      obtain ⟨q, hqv⟩ : ∃ q : Nat, (q : Int) = litVar x := ⟨(litVar x).toNat, by omega⟩
      have hqn : (litVar x).toNat = q := by omega
      rw [hqn] at hrel
      have hqV : q < V + 1 := by omega
      have hvarc := fun W => Variable_ct x W (by omega) (by omega)
      rw [← hqv] at hvarc
      have hcl := hsv.lvl.cell (Lf_get (l := lev) (show q < lev.length by rw [hsv.llen]; exact hqV))
      have hq0' : (0 : Int) ≤ (q : Int) := by omega
      have hq1' : (q : Int) < (V : Int) + 1 := by omega
      have Hvarc := hide hvarc
      generalize Lf lev q = u at hrel hcl
      clear hx hfx hv hqn hqv hvarc hsv hq
      by_cases hu : u < (starts.length : Int)
      · rw [if_pos hu] at hrel
        have Hrel := hide hrel
        clear hrel f0 f1 f2 f3 f5 f6
        go_wp2_with fail
        go_quiet ((go_at_call 106; exact same_call (Hvarc.out _)))
        go_wp2_with fail
        go_roundw
        case rel => exact ⟨k + 1, max b u, by omega, by go_num, by first | rfl | go_num, Hq.out.drewN _, Hrel.out⟩
        case measure => simp [intOf]; omega
      · rw [if_neg hu] at hrel
        have Hrel := hide hrel
        clear hrel f0 f1 f2 f3 f5 f6
        go_wp2_with fail
        go_quiet ((go_at_call 106; exact same_call (Hvarc.out _)))
        go_wp2_with fail
        go_roundw
        case rel => exact ⟨k + 1, b, by omega, by go_num, rfl, Hq.out.drewN _, Hrel.out⟩
        case measure => simp [intOf]; omega
    · have hfin : backF (Lf lev) starts.length C 0 = b := by rw [hrel, List.drop_of_length_le (by rw [Hl.out]; omega)]; rfl
      have Hfin := hide hfin
      clear hfin hrel hsv hq
      go_wp2_with fail
      go_ret
      exact ⟨ret_int Hfin.out.symm, Hq.out⟩
/-- the values of what is taken back -/
def undoF (vals : List Int) : List Int → List Int
  | [] => vals
  | x :: xs => undoF (vals.set (litVar x).toNat 0) xs
theorem undoF_snoc : ∀ (l : List Int) (vals : List Int) (x : Int), undoF vals (l ++ [x]) = (undoF vals l).set (litVar x).toNat 0 := by
  intro l
  induction l with
  | nil => intro vals x; rfl
  | cons y l ih => intro vals x; exact ih _ x
def UndoP (B : Nat) (w : World) (g : Nat) (a : SA) (V : Nat) (cs ln : List (List Int)) (vals lev rea t : List Int) (starts : List Nat) (b s : Nat) (e : Ending) (w' : World) : Prop :=
  Ends e ∧ Below B w w' ∧ Sv B w' g a V cs ln (undoF vals (t.drop s)) lev rea (t.take s) (starts.take b)
/-- both rows cut short in the struct -/
theorem Sv.cut (h : Sv B w g a V cs ln vals lev rea t starts) {s b : Nat} (hs : s ≤ t.length) (hb : b ≤ starts.length) :
    Sv B ((w.setCell ⟨g, 6, none⟩ (.slice a.T s a.tc)).setCell ⟨g, 7, none⟩ (.slice a.S b a.sc)) g a V cs ln vals lev rea (t.take s) (starts.take b) ∧ Below B w ((w.setCell ⟨g, 6, none⟩ (.slice a.T s a.tc)).setCell ⟨g, 7, none⟩ (.slice a.S b a.sc)) := by
  have hg6 := only_set w g 6 (.slice a.T s a.tc)
  have hg7 := only_set (w.setCell ⟨g, 6, none⟩ (.slice a.T s a.tc)) g 7 (.slice a.S b a.sc)
  have hg := only_trans hg6 hg7
  have hB := h.ge 0 g rfl
  have ne : ∀ j, j ≠ 0 → ro g a j ≠ some g := fun j hj => h.ne (i := 0) (Ne.symm hj) rfl
  have hblk := (h.blk.set 6 (.slice a.T s a.tc)).set 7 (.slice a.S b a.sc)
  simp only [List.set_cons_zero, List.set_cons_succ] at hblk
  have l1 : (t.take s).length = s := by rw [List.length_take]; omega
  have l2 : (starts.take b).length = b := by rw [List.length_take]; omega
  have o1 := own_cut h.trl hs
  have o2 := own_cut h.sts hb
  rw [← List.map_take] at o1 o2
  refine ⟨⟨h.ge, h.ap, by rw [l1, l2]; exact hblk, h.val.grown hg (ne 1 (by decide)), h.vlen, h.lvl.grown hg (ne 2 (by decide)), h.llen, h.rsn.grown hg (ne 3 (by decide)), h.rlen, ?_, ?_,
    h.lst.other (mine (i := 0) rfl) hg (fun q hq e => ne 6 (by decide) (by injection e with e; rw [e]; exact hq)), h.lrn.other (mine (i := 0) rfl) hg (fun q hq e => ne 7 (by decide) (by injection e with e; rw [e]; exact hq))⟩, ((Below.refl _ _).setCell hB _).setCell hB _⟩
  · rw [l1]
    exact own_other o1 hg (fun q hq e => ne 4 (by decide) (by rw [own_blkO] at hq; rw [← e]; exact hq))
  · rw [l2]
    exact own_other o2 hg (fun q hq e => ne 5 (by decide) (by rw [own_blkO] at hq; rw [← e]; exact hq))
end
set_option maxRecDepth 100000 in
set_option maxHeartbeats 3200000 in
theorem undo_ct {B : Nat} {w : World} {g : Nat} {a : SA} {V : Nat} {cs ln : List (List Int)} {vals lev rea t : List Int} {starts : List Nat} {b s : Nat} (h : Sv B w g a V cs ln vals lev rea t starts) (hf : ∀ x ∈ t, Fits V x) (hs : starts[b]? = some s) (hst : s < t.length) (hV : V ≤ 1000) (htV : t.length ≤ V) :
    Calls Try.prog 103 #[.pointer (some ⟨g, 0, none⟩), .int .i64 b] w (UndoP B w g a V cs ln vals lev rea t starts b s) := by
  obtain ⟨gv, gl, gr, L, lc, D, dc, T, tc, S, sc⟩ := a
  obtain ⟨hbl, hbs⟩ := List.getElem?_eq_some_iff.1 hs
  obtain ⟨gT, hT⟩ := own_addr h.trl (by omega)
  obtain ⟨gS, hS⟩ := own_addr h.sts (by omega)
  simp only at hT hS
  subst hT hS
  obtain ⟨hc1, hc2⟩ := own_nil_or h.trl
  obtain ⟨hd1, hd2⟩ := own_nil_or h.sts
  simp only at hc1 hc2 hd1 hd2
  have hscell := h.sts.cells (g := gS) rfl b (.int .i64 (s : Int)) (by rw [List.getElem?_map, hs]; rfl)
  rw [add_plain, Nat.zero_add] at hscell
  obtain ⟨f0, f1, f2, f3, f4, f5, f6, f7⟩ := h.facts
  simp only at f0 f1 f2 f3 f4 f5 f6 f7
  have htc : ¬ tc = s := by omega
  have i1 : (s : Int) ≤ (t.length : Int) := by omega
  have i2 : (t.length : Int) ≤ (tc : Int) := by omega
  have i3 : (0 : Int) ≤ (s : Int) := by omega
  have i4 : (0 : Int) ≤ (b : Int) := by omega
  have i5 : (b : Int) < (starts.length : Int) := by omega
  have i6 : (s : Int) ≤ (tc : Int) := by omega
  have i7 : (b : Int) ≤ (sc : Int) := by omega
  have hgv : g ≠ gv := fun e => by have := h.ap 0 1 g rfl (by rw [e]; rfl); omega
  have H := hide h
  have Hf := hide hf
  have Hs := hide hs
  clear h hf hs hbs
  go_enter Try.func103, Try.ntmps103
  go_wp2_with fail
  clear f0 f1 f2 f3 f4 f5 f6 f7 hscell
  go_loopw [21] (fun i wr => ∃ (k : Nat), k ≤ t.length - s ∧ i = .int .i64 k ∧ Below B w wr ∧ Sv B wr g ⟨gv, gl, gr, L, lc, D, dc, some ⟨gT, 0, none⟩, tc, some ⟨gS, 0, none⟩, sc⟩ V cs ln (undoF vals ((t.drop s).take k)) lev rea t starts) (fun i _ => t.length - s - (intOf i).toNat)
  case atStart => exact ⟨0, by omega, rfl, Below.refl _ _, by simpa [undoF] using H.out⟩
  case round =>
    obtain ⟨k, hk, rfl, hb, hsv⟩ := hrel
    obtain ⟨f0, f1, f2, f3, f4, f5, f6, f7⟩ := hsv.facts
    simp only at f0 f1 f2 f3 f4 f5 f6 f7
    have Hb := hide hb
    have Hsv := hide hsv
    clear hb
    by_cases hlt : k < t.length - s
    · have hx : t[s + k]? = some (t[s + k]'(by omega)) := List.getElem?_eq_getElem _
      generalize t[s + k]'(by omega) = x at hx
      have hfx := Hf.out x (List.mem_of_getElem? hx)
      have hxb := hfx.2
      have hv := hfx.var
      obtain ⟨q, hqv⟩ : ∃ q : Nat, (q : Int) = litVar x := ⟨(litVar x).toNat, by omega⟩
      have hqn : (litVar x).toNat = q := by omega
      have hqV : q < V + 1 := by omega
      have hcell := hsv.trl.cells (g := gT) rfl (s + k) (.int .i64 x) (by rw [List.getElem?_map, hx]; rfl)
      rw [add_plain, Nat.zero_add] at hcell
      have hvarc := fun W => Variable_ct x W (by omega) (by omega)
      rw [← hqv] at hvarc
      have Hvarc := hide hvarc
      have hun : undoF vals ((t.drop s).take (k + 1)) = (undoF vals ((t.drop s).take k)).set q 0 := by
        rw [List.take_add_one, List.getElem?_drop, hx, Option.toList_some, undoF_snoc, hqn]
      have Hun := hide hun
      have hset := hsv.setVal q 0
      simp only at hset
      have hcv : ∃ u, wr.cell? ⟨gv, q, none⟩ = some (.int .i64 u) := ⟨_, hsv.val.cell (List.getElem?_eq_getElem (show q < (undoF vals ((t.drop s).take k)).length by rw [hsv.vlen]; exact hqV))⟩
      obtain ⟨u, hcv⟩ := hcv
      have hvf := hsv.val.frozen q
      have hvl := hsv.val.lt
      simp only at hvf hvl
      have hge := hsv.ge 1 gv rfl
      have hst3 := (hset.keep (Below.refl _ _).drew).blk.cell 3
      simp only [List.getElem?_cons_zero, List.getElem?_cons_succ] at hst3
      have hst3' := hset.blk.cell 3
      simp only [List.getElem?_cons_zero, List.getElem?_cons_succ] at hst3'
      have hq0' : (0 : Int) ≤ (q : Int) := by omega
      have hq1' : (q : Int) < (V : Int) + 1 := by omega
      have Hset := hide hset
      clear hsv hx hfx hv hqv hqn hun hvarc hset
      go_wp2_with fail
      refine wp_region_held_drew (S := (fun w' => w'.cell? ⟨g, 3, none⟩ = some (.slice (some ⟨gv, 0, none⟩) (V + 1) (V + 1)))) (by kernel_rfl) ?_ (fun hHeld => ?_)
      · (try dsimp only); exact f3
      refine take1 (i := 0) (v := ?_) (some 25) rfl rfl (by kernel_rfl) (by kernel_rfl) (by kernel_rfl) (fun _ _ _ h => h) (Or.inl ⟨by rfl, ?_⟩) (by assumption) ?_
      rotate_left
      · intro w hSw; (try dsimp only at hSw); first | (go_simp; done) | (go_simp; with_reducible rfl)
      try simp only [Act.put, List.setIfInBounds_toArray, List.set_cons_zero, List.set_cons_succ]
      refine take1 (i := 1) (v := ?_) (some 26) rfl rfl (by kernel_rfl) (by kernel_rfl) (by kernel_rfl) (fun _ _ _ h => h) (Or.inl ⟨by rfl, ?_⟩) (by assumption) ?_
      rotate_left
      · intro w hSw; (try dsimp only at hSw); first | (go_simp; done) | (go_simp; with_reducible rfl)
      try simp only [Act.put, List.setIfInBounds_toArray, List.set_cons_zero, List.set_cons_succ]
      refine take1 (i := 2) (v := ?_) (some 27) rfl rfl (by kernel_rfl) (by kernel_rfl) (by kernel_rfl) (fun _ _ _ h => h) (Or.inl ⟨by rfl, ?_⟩) (by assumption) ?_
      rotate_left
      · intro w hSw; (try dsimp only at hSw); first | (go_simp; done) | (go_simp; with_reducible rfl)
      try simp only [Act.put, List.setIfInBounds_toArray, List.set_cons_zero, List.set_cons_succ]
      refine take1 (i := 3) (v := ?_) (some 28) rfl rfl (by kernel_rfl) (by kernel_rfl) (by kernel_rfl) (fun _ _ _ h => h) (Or.inl ⟨by rfl, ?_⟩) (by assumption) ?_
      rotate_left
      · intro w hSw; (try dsimp only at hSw); first | (go_simp; done) | (go_simp; with_reducible rfl)
      try simp only [Act.put, List.setIfInBounds_toArray, List.set_cons_zero, List.set_cons_succ]
      refine take1 (i := 4) (v := ?_) (some 29) rfl rfl (by kernel_rfl) (by kernel_rfl) (by kernel_rfl) (fun _ _ _ h => h) (Or.inl ⟨by rfl, ?_⟩) (by assumption) ?_
      rotate_left
      · intro w hSw; (try dsimp only at hSw); first | (go_simp; done) | (go_simp; with_reducible rfl)
      try simp only [Act.put, List.setIfInBounds_toArray, List.set_cons_zero, List.set_cons_succ]
      refine wpAnyH_ready (rs := [5]) (by kernel_rfl) (by simp) ?_
      refine AllReadyH.cons rfl (fun K hK => ?_) AllReadyH.nil
      go_simp
      with_reducible refine (Hvarc.out _).mono ?_
      rintro e w1 ⟨rfl, rfl⟩
      refine hK.out _ _ ?_ (fun hHeld2 => ?_)
      · (try dsimp only); exact f3
      clear hK K hHeld
      try simp only [Act.put, List.setIfInBounds_toArray, List.set_cons_zero, List.set_cons_succ]
      have hHeld := hHeld2; clear hHeld2
      refine take1 (i := 6) (v := ?_) (some 31) rfl rfl (by kernel_rfl) (by kernel_rfl) (by kernel_rfl) (fun _ _ _ h => h) (Or.inl ⟨by rfl, ?_⟩) (by assumption) ?_
      rotate_left
      · intro w hSw; (try dsimp only at hSw); first | (go_simp; done) | (go_simp; with_reducible rfl)
      try simp only [Act.put, List.setIfInBounds_toArray, List.set_cons_zero, List.set_cons_succ]
      refine wpAnyH_ready (rs := [7]) (by kernel_rfl) (by simp) ?_
      refine AllReadyH.cons rfl (fun K hK => ?_) AllReadyH.nil
      go_simp
      refine hK.out _ _ ?_ (fun hHeld2 => ?_)
      · (try dsimp only); exact hst3
      clear hK K hHeld
      try simp only [Act.put, List.setIfInBounds_toArray, List.set_cons_zero, List.set_cons_succ]
      have hHeld := hHeld2; clear hHeld2
      refine wpAnyH_done (by kernel_rfl) ?_ _
      go_wp2_with fail
      clear hHeld hcv hvf hst3 hst3' hcell f0 f1 f2 f3 f4 f5 f6 f7
      go_roundw
      case rel => exact ⟨k + 1, by omega, by go_num, (Hb.out.setCell hge _).drew, by rw [Hun.out]; exact Hset.out.keep (Below.refl _ _).drew⟩
      case measure => simp [intOf]; omega
    · obtain rfl : k = t.length - s := by omega
      have hall : (t.drop s).take (t.length - s) = t.drop s := List.take_of_length_le (by rw [List.length_drop]; omega)
      rw [hall] at hsv
      have Hsv2 := hide hsv
      clear hsv hall Hsv
      go_wp2_with fail
      obtain ⟨hcc, hbb⟩ := Hsv2.out.cut (s := s) (b := b) (by omega) (by omega)
      simp only at hcc hbb
      have Hcc := hide hcc
      have Hbb := hide (Hb.out.trans hbb)
      have hfr6 := Hsv2.out.blk.frozen 6
      have hfr7 := Hsv2.out.blk.frozen 7
      have hgl := Hsv2.out.blk.lt
      clear hcc hbb
      refine wp_region_held_drew (S := (fun _ => True)) (by kernel_rfl) ?_ (fun hHeld => ?_)
      · exact True.intro
      refine take1 (i := 0) (v := ?_) (some 33) rfl rfl (by kernel_rfl) (by kernel_rfl) (by kernel_rfl) (fun _ _ _ h => h) (Or.inl ⟨by rfl, ?_⟩) (by assumption) ?_
      rotate_left
      · intro w hSw; (try dsimp only at hSw); first | (go_simp; done) | (go_simp; with_reducible rfl)
      try simp only [Act.put, List.setIfInBounds_toArray, List.set_cons_zero, List.set_cons_succ]
      refine take1 (i := 1) (v := ?_) (some 34) rfl rfl (by kernel_rfl) (by kernel_rfl) (by kernel_rfl) (fun _ _ _ h => h) (Or.inl ⟨by rfl, ?_⟩) (by assumption) ?_
      rotate_left
      · intro w hSw; (try dsimp only at hSw); first | (go_simp; done) | (go_simp; with_reducible rfl)
      try simp only [Act.put, List.setIfInBounds_toArray, List.set_cons_zero, List.set_cons_succ]
      refine take1 (i := 2) (v := ?_) (some 35) rfl rfl (by kernel_rfl) (by kernel_rfl) (by kernel_rfl) (fun _ _ _ h => h) (Or.inl ⟨by rfl, ?_⟩) (by assumption) ?_
      rotate_left
      · intro w hSw; (try dsimp only at hSw); first | (go_simp; done) | (go_simp; with_reducible rfl)
      try simp only [Act.put, List.setIfInBounds_toArray, List.set_cons_zero, List.set_cons_succ]
      refine take1 (i := 3) (v := ?_) (some 36) rfl rfl (by kernel_rfl) (by kernel_rfl) (by kernel_rfl) (fun _ _ _ h => h) (Or.inl ⟨by rfl, ?_⟩) (by assumption) ?_
      rotate_left
      · intro w hSw; (try dsimp only at hSw); first | (go_simp; done) | (go_simp; with_reducible rfl)
      try simp only [Act.put, List.setIfInBounds_toArray, List.set_cons_zero, List.set_cons_succ]
      refine take1 (i := 4) (v := ?_) (some 37) rfl rfl (by kernel_rfl) (by kernel_rfl) (by kernel_rfl) (fun _ _ _ h => h) (Or.inl ⟨by rfl, ?_⟩) (by assumption) ?_
      rotate_left
      · intro w hSw; (try dsimp only at hSw); first | (go_simp; done) | (go_simp; with_reducible rfl)
      try simp only [Act.put, List.setIfInBounds_toArray, List.set_cons_zero, List.set_cons_succ]
      refine take1 (i := 6) (v := ?_) (some 39) rfl rfl (by kernel_rfl) (by kernel_rfl) (by kernel_rfl) (fun _ _ _ h => h) (Or.inl ⟨by rfl, ?_⟩) (by assumption) ?_
      rotate_left
      · intro w hSw; (try dsimp only at hSw); first | (go_simp; done) | (go_simp; with_reducible rfl)
      try simp only [Act.put, List.setIfInBounds_toArray, List.set_cons_zero, List.set_cons_succ]
      refine take1 (i := 8) (v := ?_) (some 41) rfl rfl (by kernel_rfl) (by kernel_rfl) (by kernel_rfl) (fun _ _ _ h => h) (Or.inl ⟨by rfl, ?_⟩) (by assumption) ?_
      rotate_left
      · intro w hSw; (try dsimp only at hSw); first | (go_simp; done) | (go_simp; with_reducible rfl)
      try simp only [Act.put, List.setIfInBounds_toArray, List.set_cons_zero, List.set_cons_succ]
      refine take1 (i := 9) (v := ?_) (some 42) rfl rfl (by kernel_rfl) (by kernel_rfl) (by kernel_rfl) (fun _ _ _ h => h) (Or.inl ⟨by rfl, ?_⟩) (by assumption) ?_
      rotate_left
      · intro w hSw; (try dsimp only at hSw); first | (go_simp; done) | (go_simp; with_reducible rfl)
      try simp only [Act.put, List.setIfInBounds_toArray, List.set_cons_zero, List.set_cons_succ]
      refine take1 (i := 10) (v := ?_) (some 43) rfl rfl (by kernel_rfl) (by kernel_rfl) (by kernel_rfl) (fun _ _ _ h => h) (Or.inl ⟨by rfl, ?_⟩) (by assumption) ?_
      rotate_left
      · intro w hSw; (try dsimp only at hSw); first | (go_simp; done) | (go_simp; with_reducible rfl)
      try simp only [Act.put, List.setIfInBounds_toArray, List.set_cons_zero, List.set_cons_succ]
      refine take1 (i := 12) (v := ?_) (some 45) rfl rfl (by kernel_rfl) (by kernel_rfl) (by kernel_rfl) (fun _ _ _ h => h) (Or.inl ⟨by rfl, ?_⟩) (by assumption) ?_
      rotate_left
      · intro w hSw; (try dsimp only at hSw); first | (go_simp; done) | (go_simp; with_reducible rfl)
      try simp only [Act.put, List.setIfInBounds_toArray, List.set_cons_zero, List.set_cons_succ]
      refine wpAnyH_ready (rs := [5, 11]) (by kernel_rfl) (by simp) ?_
      refine AllReadyH.cons rfl (fun K hK => ?_) (AllReadyH.cons rfl (fun K hK => ?_) AllReadyH.nil)
      · go_simp
        refine hK.out _ _ ?_ (fun hHeld2 => ?_)
        · exact True.intro
        clear hK K hHeld
        try simp only [Act.put, List.setIfInBounds_toArray, List.set_cons_zero, List.set_cons_succ]
        have hHeld := hHeld2; clear hHeld2
        refine take1 (i := 7) (v := ?_) (some 40) rfl rfl (by kernel_rfl) (by kernel_rfl) (by kernel_rfl) (fun _ _ _ h => h) (Or.inl ⟨by rfl, ?_⟩) (by assumption) ?_
        rotate_left
        · intro w hSw; (try dsimp only at hSw); first | (go_simp; done) | (go_simp; with_reducible rfl)
        try simp only [Act.put, List.setIfInBounds_toArray, List.set_cons_zero, List.set_cons_succ]
        refine wpAnyH_ready (rs := [11]) (by kernel_rfl) (by simp) ?_
        refine AllReadyH.cons rfl (fun K hK => ?_) AllReadyH.nil
        go_simp
        refine hK.out _ _ ?_ (fun hHeld2 => ?_)
        · exact True.intro
        clear hK K hHeld
        try simp only [Act.put, List.setIfInBounds_toArray, List.set_cons_zero, List.set_cons_succ]
        have hHeld := hHeld2; clear hHeld2
        refine take1 (i := 13) (v := ?_) (some 46) rfl rfl (by kernel_rfl) (by kernel_rfl) (by kernel_rfl) (fun _ _ _ h => h) (Or.inl ⟨by rfl, ?_⟩) (by assumption) ?_
        rotate_left
        · intro w hSw; (try dsimp only at hSw); first | (go_simp; done) | (go_simp; with_reducible rfl)
        try simp only [Act.put, List.setIfInBounds_toArray, List.set_cons_zero, List.set_cons_succ]
        refine take1 (i := 14) (v := ?_) (some 47) rfl rfl (by kernel_rfl) (by kernel_rfl) (by kernel_rfl) (fun _ _ _ h => h) (Or.inl ⟨by rfl, ?_⟩) (by assumption) ?_
        rotate_left
        · intro w hSw; (try dsimp only at hSw); first | (go_simp; done) | (go_simp; with_reducible rfl)
        try simp only [Act.put, List.setIfInBounds_toArray, List.set_cons_zero, List.set_cons_succ]
        refine take1 (i := 15) (v := ?_) (some 48) rfl rfl (by kernel_rfl) (by kernel_rfl) (by kernel_rfl) (fun _ _ _ h => h) (Or.inl ⟨by rfl, ?_⟩) (by assumption) ?_
        rotate_left
        · intro w hSw; (try dsimp only at hSw); first | (go_simp; done) | (go_simp; with_reducible rfl)
        try simp only [Act.put, List.setIfInBounds_toArray, List.set_cons_zero, List.set_cons_succ]
        refine wpAnyH_ready (rs := [16]) (by kernel_rfl) (by simp) ?_
        refine AllReadyH.cons rfl (fun K hK => ?_) AllReadyH.nil
        go_simp
        refine hK.out _ _ ?_ (fun hHeld2 => ?_)
        · exact True.intro
        clear hK K hHeld
        try simp only [Act.put, List.setIfInBounds_toArray, List.set_cons_zero, List.set_cons_succ]
        have hHeld := hHeld2; clear hHeld2
        refine take1 (i := 17) (v := ?_) (some 49) rfl rfl (by kernel_rfl) (by kernel_rfl) (by kernel_rfl) (fun _ _ _ h => h) (Or.inl ⟨by rfl, ?_⟩) (by assumption) ?_
        rotate_left
        · intro w hSw; (try dsimp only at hSw); first | (go_simp; done) | (go_simp; with_reducible rfl)
        try simp only [Act.put, List.setIfInBounds_toArray, List.set_cons_zero, List.set_cons_succ]
        refine take1 (i := 18) (v := ?_) (some 50) rfl rfl (by kernel_rfl) (by kernel_rfl) (by kernel_rfl) (fun _ _ _ h => h) (Or.inl ⟨by rfl, ?_⟩) (by assumption) ?_
        rotate_left
        · intro w hSw; (try dsimp only at hSw); first | (go_simp; done) | (go_simp; with_reducible rfl)
        try simp only [Act.put, List.setIfInBounds_toArray, List.set_cons_zero, List.set_cons_succ]
        refine wpAnyH_ready (rs := [19]) (by kernel_rfl) (by simp) ?_
        refine AllReadyH.cons rfl (fun K hK => ?_) AllReadyH.nil
        go_simp
        refine hK.out _ _ ?_ (fun hHeld2 => ?_)
        · exact True.intro
        clear hK K hHeld
        try simp only [Act.put, List.setIfInBounds_toArray, List.set_cons_zero, List.set_cons_succ]
        have hHeld := hHeld2; clear hHeld2
        refine wpAnyH_done (by kernel_rfl) ?_ _
        go_wp2
        go_end0
        exact ⟨rfl, Hbb.out.drew, Hcc.out.keep (Below.refl _ _).drew⟩
      · go_simp
        refine hK.out _ _ ?_ (fun hHeld2 => ?_)
        · exact True.intro
        clear hK K hHeld
        try simp only [Act.put, List.setIfInBounds_toArray, List.set_cons_zero, List.set_cons_succ]
        have hHeld := hHeld2; clear hHeld2
        refine take1 (i := 13) (v := ?_) (some 46) rfl rfl (by kernel_rfl) (by kernel_rfl) (by kernel_rfl) (fun _ _ _ h => h) (Or.inl ⟨by rfl, ?_⟩) (by assumption) ?_
        rotate_left
        · intro w hSw; (try dsimp only at hSw); first | (go_simp; done) | (go_simp; with_reducible rfl)
        try simp only [Act.put, List.setIfInBounds_toArray, List.set_cons_zero, List.set_cons_succ]
        refine wpAnyH_ready (rs := [5]) (by kernel_rfl) (by simp) ?_
        refine AllReadyH.cons rfl (fun K hK => ?_) AllReadyH.nil
        go_simp
        refine hK.out _ _ ?_ (fun hHeld2 => ?_)
        · exact True.intro
        clear hK K hHeld
        try simp only [Act.put, List.setIfInBounds_toArray, List.set_cons_zero, List.set_cons_succ]
        have hHeld := hHeld2; clear hHeld2
        refine take1 (i := 7) (v := ?_) (some 40) rfl rfl (by kernel_rfl) (by kernel_rfl) (by kernel_rfl) (fun _ _ _ h => h) (Or.inl ⟨by rfl, ?_⟩) (by assumption) ?_
        rotate_left
        · intro w hSw; (try dsimp only at hSw); first | (go_simp; done) | (go_simp; with_reducible rfl)
        try simp only [Act.put, List.setIfInBounds_toArray, List.set_cons_zero, List.set_cons_succ]
        refine take1 (i := 14) (v := ?_) (some 47) rfl rfl (by kernel_rfl) (by kernel_rfl) (by kernel_rfl) (fun _ _ _ h => h) (Or.inl ⟨by rfl, ?_⟩) (by assumption) ?_
        rotate_left
        · intro w hSw; (try dsimp only at hSw); first | (go_simp; done) | (go_simp; with_reducible rfl)
        try simp only [Act.put, List.setIfInBounds_toArray, List.set_cons_zero, List.set_cons_succ]
        refine take1 (i := 15) (v := ?_) (some 48) rfl rfl (by kernel_rfl) (by kernel_rfl) (by kernel_rfl) (fun _ _ _ h => h) (Or.inl ⟨by rfl, ?_⟩) (by assumption) ?_
        rotate_left
        · intro w hSw; (try dsimp only at hSw); first | (go_simp; done) | (go_simp; with_reducible rfl)
        try simp only [Act.put, List.setIfInBounds_toArray, List.set_cons_zero, List.set_cons_succ]
        refine wpAnyH_ready (rs := [16]) (by kernel_rfl) (by simp) ?_
        refine AllReadyH.cons rfl (fun K hK => ?_) AllReadyH.nil
        go_simp
        refine hK.out _ _ ?_ (fun hHeld2 => ?_)
        · exact True.intro
        clear hK K hHeld
        try simp only [Act.put, List.setIfInBounds_toArray, List.set_cons_zero, List.set_cons_succ]
        have hHeld := hHeld2; clear hHeld2
        refine take1 (i := 17) (v := ?_) (some 49) rfl rfl (by kernel_rfl) (by kernel_rfl) (by kernel_rfl) (fun _ _ _ h => h) (Or.inl ⟨by rfl, ?_⟩) (by assumption) ?_
        rotate_left
        · intro w hSw; (try dsimp only at hSw); first | (go_simp; done) | (go_simp; with_reducible rfl)
        try simp only [Act.put, List.setIfInBounds_toArray, List.set_cons_zero, List.set_cons_succ]
        refine take1 (i := 18) (v := ?_) (some 50) rfl rfl (by kernel_rfl) (by kernel_rfl) (by kernel_rfl) (fun _ _ _ h => h) (Or.inl ⟨by rfl, ?_⟩) (by assumption) ?_
        rotate_left
        · intro w hSw; (try dsimp only at hSw); first | (go_simp; done) | (go_simp; with_reducible rfl)
        try simp only [Act.put, List.setIfInBounds_toArray, List.set_cons_zero, List.set_cons_succ]
        refine wpAnyH_ready (rs := [19]) (by kernel_rfl) (by simp) ?_
        refine AllReadyH.cons rfl (fun K hK => ?_) AllReadyH.nil
        go_simp
        refine hK.out _ _ ?_ (fun hHeld2 => ?_)
        · exact True.intro
        clear hK K hHeld
        try simp only [Act.put, List.setIfInBounds_toArray, List.set_cons_zero, List.set_cons_succ]
        have hHeld := hHeld2; clear hHeld2
        refine wpAnyH_done (by kernel_rfl) ?_ _
        go_wp2
        go_end0
        exact ⟨rfl, Hbb.out.drew, Hcc.out.keep (Below.refl _ _).drew⟩
end Go.Proofs.Ytnfeknfakkdbhaa
