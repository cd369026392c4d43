/- Contracts of the laws' failed and of the reference's ClausesFault, ClausesTruths. Contract of the reference's ClausesTruths. -/
import Derived.Test.YtgenpcokpodhkaaRef6i
import Derived.Test.YtgenpcokpodhkaaDgLaw0
namespace Go.Proofs.Ytgenpcokpodhkaa
set_option linter.unusedVariables false
set_option linter.unusedSimpArgs false
open Go.RowKit Go.Maps

def failB (L : Int) (ns : List DI) (r : Int) (f g : Int × Int) : Bool := decide (f = g) && sameD L ns r 0 [] 0
set_option maxHeartbeats 800000 in
theorem failed_ct (L : Int) (A : Option Addr) (n c : Nat) (ns : List DI) (r : Int) (f g : Int × Int) (w : World) (h : Rd Enc.node w A n c ns) :
    Calls Try.prog 14 #[.agg #[.int .i64 L, .slice A n c, .int .i64 r], faultV f, faultV g] w (Gives w (.bool (failB L ns r f g))) := by
  obtain ⟨f0, f1⟩ := f
  obtain ⟨g0, g1⟩ := g
  have heq := eqFault f0 f1 g0 g1
  have hbel := below_three w (.cells #[.int .i64 L, .slice A n c, .int .i64 r] 30) (.cells #[.int .i64 f0, .int .i64 f1] 25) (.cells #[.int .i64 g0, .int .i64 g1] 25)
  have hs := SameDiagram_ct L A n c ns r 0 none 0 0 [] 0 _ (h.keep hbel) (Rd.nil_ _ _)
  have Hbel := hide hbel
  have Hs := hide hs
  clear h hbel hs
  unfold faultV
  by_cases he : (f0, f1) = (g0, g1)
  · have hf : failB L ns r (f0, f1) (g0, g1) = sameD L ns r 0 [] 0 := by rw [failB, decide_eq_true he, Bool.true_and]
    rw [decide_eq_true he] at heq
    have Hf := hide hf
    clear hf he
    go_enter Try.func14, Try.ntmps14
    go_wp2_with fail
    refine Hs.out.mono ?_
    rintro e w1 ⟨rfl, hb1⟩
    go_wp2
    go_ret
    exact ⟨ret_bool Hf.out.symm, Hbel.out.trans (hb1.mono Hbel.out.size)⟩
  · have hf : failB L ns r (f0, f1) (g0, g1) = false := by rw [failB, decide_eq_false he, Bool.false_and]
    rw [decide_eq_false he] at heq
    have Hf := hide hf
    clear hf he
    go_enter Try.func14, Try.ntmps14
    go_wp2
    go_ret
    exact ⟨ret_bool Hf.out.symm, Hbel.out⟩

theorem badC_cons (L x : Int) (l : List Int) : badC L (x :: l) = if badL L x then true else badC L l := rfl
theorem inB_badL {L x : Int} (hx : x ≠ 0) : inB x (-L) L = !decide (badL L x) := by
  by_cases h : badL L x
  · rw [decide_eq_true h, Bool.not_true, inB_no]
    rcases h with h | h | h <;> omega
  · rw [decide_eq_false h, Bool.not_false, inB_iff]
    simp only [badL, not_or] at h
    omega

set_option maxHeartbeats 1600000 in
theorem ClausesFault_ct (L : Int) (A : Option Addr) (n c : Nat) (cs : List (List Int)) (w : World) (hL : -9223372036854775808 ≤ L ∧ L ≤ 9223372036854775807) (h : Rd (Enc.sl Enc.int) w A n c cs) :
    Calls Try.prog 11 #[.int .i64 L, .slice A n c] w (Gives w (faultV (ofFault L cs))) := by
  have hl := h.len
  have hcap := h.cap
  have hcs := h.small
  have hb0 := Blk.new w 25 [.int .i64 0, .int .i64 0]
  have hbl0 : Below w.heap.size w (w.alloc (.cells #[.int .i64 0, .int .i64 0] 25)) := (Below.refl _ _).alloc (Nat.le_refl _) _
  have Hrd := hide h
  have HAt : Hid (∀ (a b : Int) (W : World), Calls Try.prog 18 #[.int .i64 a, .int .i64 b] W (Gives W (fault a b))) := hide At_ct
  have Hb0 := hide hb0
  have Hbl0 := hide hbl0
  have hfin : ∀ (wr w1 : World) (a b : Int), Blk 25 wr w.heap.size [.int .i64 0, .int .i64 0] → Below w.heap.size w wr → Below wr.heap.size wr w1 → ofFault L cs = (a, b) →
      Gives w (faultV (ofFault L cs)) (.returned (faultV (a, b))) ((w1.setCell ⟨w.heap.size, 0, none⟩ (.int .i64 a)).setCell ⟨w.heap.size, 1, none⟩ (.int .i64 b)) := by
    intro wr w1 a b hx hb hb1 he
    rw [he]
    exact ⟨rfl, ((hb.trans (hb1.mono hb.size)).setCell (Nat.le_refl _) _).setCell (Nat.le_refl _) _⟩
  have Hfin := hide hfin
  clear h hb0 hbl0 hfin
  by_cases hL1 : L < 0 ∨ 24 < L
  · have HR := hide (show ofFault L cs = (3, -1) by unfold ofFault; rw [if_pos hL1])
    have Hin := hide (inB_no.2 hL1)
    clear hL1
    go_enter Try.func11, Try.ntmps11
    go_wp2_with fail
    refine (inB_call Hin.out _).mono ?_
    rintro e w1 ⟨rfl, rfl⟩
    go_wp2_with fail
    refine (HAt.out _ _ _).mono ?_
    rintro e w1 ⟨rfl, hb1⟩
    have hx1 := Hb0.out.keep hb1
    have c0 := hx1.cell 0
    have c1 := hx1.cell 1
    have c2 := hx1.lt
    have c3 := hx1.frozen 0
    have c4 := hx1.frozen 1
    simp only [List.getElem?_cons_zero, List.getElem?_cons_succ] at c0 c1
    unfold fault
    go_wp2
    refine bodyPost_ret (v := faultV (3, -1)) (by simp [results, Try.results11, go_sem, faultV, c0, c1]) rfl ?_
    exact Hfin.out _ w1 3 (-1) Hb0.out Hbl0.out hb1 HR.out
  have Hin := hide (inB_iff.2 (show 0 ≤ L ∧ L ≤ 24 by omega))
  by_cases hn : 40 < n
  · have HR := hide (show ofFault L cs = (2, -2) by unfold ofFault; rw [if_neg hL1, if_pos (by omega)])
    clear hL1
    go_enter Try.func11, Try.ntmps11
    go_wp2_with fail
    refine (inB_call Hin.out _).mono ?_
    rintro e w1 ⟨rfl, rfl⟩
    go_wp2_with fail
    refine (HAt.out _ _ _).mono ?_
    rintro e w1 ⟨rfl, hb1⟩
    have hx1 := Hb0.out.keep hb1
    have c0 := hx1.cell 0
    have c1 := hx1.cell 1
    have c2 := hx1.lt
    have c3 := hx1.frozen 0
    have c4 := hx1.frozen 1
    simp only [List.getElem?_cons_zero, List.getElem?_cons_succ] at c0 c1
    unfold fault
    go_wp2
    refine bodyPost_ret (v := faultV (2, -2)) (by simp [results, Try.results11, go_sem, faultV, c0, c1]) rfl ?_
    exact Hfin.out _ w1 2 (-2) Hb0.out Hbl0.out hb1 HR.out
  have hz0 : 0 ≤ L := by omega
  have hz1 : L ≤ 24 := by omega
  have HR : Hid (ofFault L cs = (scanC L 0 cs).getD (0, 0)) := hide (by unfold ofFault; rw [if_neg hL1, if_neg (by omega)])
  clear hL1
  go_enter Try.func11, Try.ntmps11
  go_wp2_with fail
  refine (inB_call Hin.out _).mono ?_
  rintro e w1 ⟨rfl, rfl⟩
  go_wp2_with fail
  go_loopw [5] (fun i wr => ∃ k : Nat, k ≤ n ∧ i = .int .i64 k ∧ Qt (w.alloc (.cells #[.int .i64 0, .int .i64 0] 25)) wr ∧ scanC L 0 cs = scanC L k (cs.drop k)) (fun i _ => n - (intOf i).toNat)
  case atStart => exact ⟨0, by omega, rfl, Qt.refl _, by simp⟩
  case round =>
    obtain ⟨k, hk, rfl, hq, hrel⟩ := hrel
    have hbr := Hbl0.out.trans (hq.below _)
    have hx0 := Hb0.out.qt hq
    have x0 := hx0.cell 0
    have x1 := hx0.cell 1
    have x2 := hx0.lt
    have x3 := hx0.frozen 0
    have x4 := hx0.frozen 1
    simp only [List.getElem?_cons_zero, List.getElem?_cons_succ] at x0 x1
    by_cases hlt : k < n
    · obtain ⟨b, off, x, A', n', c', rfl, hx, hcx, hrx⟩ := (Hrd.out.keep hbr).sl hlt
      rw [drop_cons hx] at hrel
      have hl' := hrx.len
      have hcap' := hrx.cap
      have hcs' := hrx.small
      have hbad : ∀ e : Int, clauseE L x = e → e ≠ 0 → ofFault L cs = (e, (k : Int)) := fun e he h0 => by
        rw [HR.out, hrel, scanC, he, if_neg h0]
        rfl
      have hgood : clauseE L x = 0 → scanC L 0 cs = scanC L (k + 1) (cs.drop (k + 1)) := fun he => by rw [hrel, scanC, if_pos he]
      have Hbad := hide hbad
      have Hgood := hide hgood
      have Hq := hide hq
      have Hrx := hide hrx
      have Hbr := hide hbr
      have Hx0 := hide hx0
      clear hbad hgood hrel hx hq hrx hbr hx0
      by_cases h24 : 24 < n'
      · have HR2 := hide (Hbad.out 2 (by unfold clauseE; rw [if_pos (by omega)]) (by omega))
        go_wp2_with fail
        refine (HAt.out _ _ _).mono ?_
        rintro e w1 ⟨rfl, hb1⟩
        have hx1 := Hx0.out.keep hb1
        clear x0 x1 x2 x3 x4
        have c0 := hx1.cell 0
        have c1 := hx1.cell 1
        have c2 := hx1.lt
        have c3 := hx1.frozen 0
        have c4 := hx1.frozen 1
        simp only [List.getElem?_cons_zero, List.getElem?_cons_succ] at c0 c1
        unfold fault
        go_wp2
        refine bodyPost_ret (v := faultV (2, (k : Int))) (by simp [results, Try.results11, go_sem, faultV, c0, c1]) rfl ?_
        exact Hfin.out _ w1 2 k Hx0.out Hbr.out hb1 HR2.out
      have hce : clauseE L x = if badC L x = true then 3 else 0 := by unfold clauseE; rw [if_neg (by omega)]
      have Hce := hide hce
      clear hce
      obtain ⟨W, hW⟩ : ∃ W, W = wr := ⟨_, rfl⟩
      subst hW
      go_wp2_with fail
      go_loopw [6] (fun j wx => ∃ m : Nat, m ≤ n' ∧ j = .int .i64 m ∧ Qt W wx ∧ badC L x = badC L (x.drop m)) (fun j _ => n' - (intOf j).toNat)
      case atStart => exact ⟨0, by omega, rfl, Qt.refl _, by simp⟩
      case round =>
        obtain ⟨m, hm, rfl, hq2, hrel2⟩ := hrel
        obtain ⟨wq, rfl⟩ : ∃ V, V = wr := ⟨_, rfl⟩
        have hbq := Hbr.out.trans ((hq2.below W.heap.size).mono Hbr.out.size)
        have hxq := Hx0.out.qt hq2
        have hcq : wq.cell? ⟨b, off + k, none⟩ = some (.slice A' n' c') := ((hq2.below W.heap.size).cell (World.block_lt_of_cell? W _ hcx)).trans hcx
        have y0 := hxq.cell 0
        have y1 := hxq.cell 1
        have y2 := hxq.lt
        have y3 := hxq.frozen 0
        have y4 := hxq.frozen 1
        simp only [List.getElem?_cons_zero, List.getElem?_cons_succ] at y0 y1
        by_cases hmt : m < n'
        · obtain ⟨b', off', y, rfl, hy, hyl, hyh, hcy⟩ := (Hrx.out.qt hq2).int hmt
          rw [drop_cons hy, badC_cons] at hrel2
          have Hq2 := hide hq2
          have Hbq := hide hbq
          have Hxq := hide hxq
          clear hq2 hbq hxq hy
          by_cases hbl : badL L y
          · have HR2 := hide (Hbad.out 3 (by rw [Hce.out, hrel2, if_pos hbl]; rfl) (by omega))
            clear hrel2
            by_cases hy0 : y = 0
            · subst hy0
              clear hbl
              go_wp2_with fail
              refine (HAt.out _ _ _).mono ?_
              rintro e w1 ⟨rfl, hb1⟩
              have hx1 := Hxq.out.keep hb1
              clear y0 y1 y2 y3 y4 x0 x1 x2 x3 x4
              have c0 := hx1.cell 0
              have c1 := hx1.cell 1
              have c2 := hx1.lt
              have c3 := hx1.frozen 0
              have c4 := hx1.frozen 1
              simp only [List.getElem?_cons_zero, List.getElem?_cons_succ] at c0 c1
              unfold fault
              go_wp2
              refine bodyPost_ret (v := faultV (3, (k : Int))) (by simp [results, Try.results11, go_sem, faultV, c0, c1]) rfl ?_
              exact Hfin.out _ w1 3 k Hxq.out Hbq.out hb1 HR2.out
            · have hyb : (y == 0) = false := by rw [beq_eq_false_iff_ne]; exact hy0
              have Hi := hide (show inB y (-L) L = false by rw [inB_badL hy0, decide_eq_true hbl]; rfl)
              clear hbl hy0
              go_wp2_with fail
              refine (inB_call Hi.out _).mono ?_
              rintro e w1 ⟨rfl, rfl⟩
              go_wp2_with fail
              refine (HAt.out _ _ _).mono ?_
              rintro e w1 ⟨rfl, hb1⟩
              have hx1 := Hxq.out.keep hb1
              clear y0 y1 y2 y3 y4 x0 x1 x2 x3 x4
              have c0 := hx1.cell 0
              have c1 := hx1.cell 1
              have c2 := hx1.lt
              have c3 := hx1.frozen 0
              have c4 := hx1.frozen 1
              simp only [List.getElem?_cons_zero, List.getElem?_cons_succ] at c0 c1
              unfold fault
              go_wp2
              refine bodyPost_ret (v := faultV (3, (k : Int))) (by simp [results, Try.results11, go_sem, faultV, c0, c1]) rfl ?_
              exact Hfin.out _ w1 3 k Hxq.out Hbq.out hb1 HR2.out
          · rw [if_neg hbl] at hrel2
            have Hrel2 := hide hrel2
            have hy0 : y ≠ 0 := fun e => hbl (.inl e)
            have hyb : (y == 0) = false := by rw [beq_eq_false_iff_ne]; exact hy0
            have Hi := hide (show inB y (-L) L = true by rw [inB_badL hy0, decide_eq_false hbl]; rfl)
            clear hbl hy0 hrel2
            go_wp2_with fail
            refine (inB_call Hi.out _).mono ?_
            rintro e w1 ⟨rfl, rfl⟩
            go_wp2_with fail
            go_roundw
            case rel => exact ⟨m + 1, by omega, by go_num, Hq2.out, Hrel2.out⟩
            case measure => simp [intOf]; omega
        · obtain rfl : m = n' := by omega
          have hb : badC L x = false := by rw [hrel2, List.drop_of_length_le (by omega)]; rfl
          have Hg := hide (Hgood.out (by rw [Hce.out, hb]; rfl))
          clear hrel2 hb
          have Hq3 := hide (Hq.out.trans hq2)
          clear hq2 hbq hxq
          go_wp2_with fail
          go_roundw
          case rel => exact ⟨k + 1, by omega, by go_num, Hq3.out, Hg.out⟩
          case measure => simp [intOf]; omega
    · obtain rfl : k = n := by omega
      have HR2 : Hid (ofFault L cs = (0, 0)) := hide (by rw [HR.out, hrel, List.drop_of_length_le (by omega)]; rfl)
      have Hx0 := hide hx0
      have Hbr := hide hbr
      clear hrel hx0 hbr hq
      go_wp2
      refine bodyPost_ret (v := faultV (0, 0)) (by simp [results, Try.results11, go_sem, faultV, x0, x1]) rfl ?_
      exact Hfin.out _ wr 0 0 Hx0.out Hbr.out (Below.refl _ _) HR2.out
end Go.Proofs.Ytgenpcokpodhkaa
namespace Go.Proofs.Ytgenpcokpodhkaa
set_option linter.unusedVariables false
set_option linter.unusedSimpArgs false
open Go.RowKit Go.Maps

theorem badC_mem {L : Int} : ∀ {l : List Int}, badC L l = false → ∀ x ∈ l, ¬ badL L x := by
  intro l
  induction l with
  | nil => intro _ x hx; cases hx
  | cons y l ih =>
    intro h x hx
    rw [badC_cons] at h
    split at h
    · cases h
    · rename_i hy
      rcases List.mem_cons.1 hx with rfl | hx
      · exact hy
      · exact ih h x hx
theorem scanC_mem {L : Int} : ∀ {cs : List (List Int)} {k : Nat}, scanC L k cs = none → ∀ c ∈ cs, c.length ≤ 24 ∧ ∀ x ∈ c, ¬ badL L x := by
  intro cs
  induction cs with
  | nil => intro k _ c hc; cases hc
  | cons c l ih =>
    intro k h x hx
    rw [scanC] at h
    split at h
    · rename_i hz
      rcases List.mem_cons.1 hx with rfl | hx
      · unfold clauseE at hz
        split at hz
        · cases hz
        · split at hz
          · cases hz
          · rename_i h1 h2
            exact ⟨by omega, badC_mem (by simpa using h2)⟩
      · exact ih h x hx
    · cases h
theorem ofFault_good {L : Int} {cs : List (List Int)} (h : ofFault L cs = (0, 0)) : 0 ≤ L ∧ L ≤ 24 ∧ cs.length ≤ 40 ∧ scanC L 0 cs = none := by
  unfold ofFault at h
  split at h
  · simp at h
  · split at h
    · simp at h
    · rename_i h1 h2
      refine ⟨by omega, by omega, by omega, ?_⟩
      cases hs : scanC L 0 cs with
      | none => rfl
      | some p =>
        rw [hs] at h
        simp at h
        subst h
        exfalso
        have : ∀ (l : List (List Int)) (k : Nat) (p : Int × Int), scanC L k l = some p → p.1 ≠ 0 := by
          intro l
          induction l with
          | nil => intro k p hp; simp [scanC] at hp
          | cons c l ih =>
            intro k p hp
            rw [scanC] at hp
            split at hp
            · exact ih _ _ hp
            · injection hp with hp
              subst hp
              assumption
        exact this cs 0 (0, 0) hs rfl

theorem or_false_snoc {a b : Bool} (h : a = false) : (a || b) = b := by rw [h, Bool.false_or]

set_option maxHeartbeats 3200000 in
theorem ClausesTruths_ct (L n c : Nat) (A : Option Addr) (cs : List (List Int)) (w : World) (hf : ofFault (L : Int) cs = (0, 0)) (h : Rd (Enc.sl Enc.int) w A n c cs) :
    Calls Try.prog 16 #[.int .i64 L, .slice A n c] w (MadeB w (tableF L (cnfS cs))) := by
  obtain ⟨i0, hi0, hz0, hz1, hz2⟩ := info_parts boolInfo
  obtain ⟨_, hL24, _, hsc⟩ := ofFault_good hf
  have hlow : L ≤ 24 := by omega
  have hmem := scanC_mem hsc
  have hp : 2 ^ L ≤ 16777216 := Nat.le_trans (Nat.pow_le_pow_right (by omega) hlow) (by decide)
  have hsh : ((2 : Int) ^ L) = ((2 ^ L : Nat) : Int) := by simp
  have hl := h.len
  have hcap := h.cap
  have hcs := h.small
  rw [← tabK_all]
  generalize 2 ^ L = P at *
  have hw1 : IntKind.u64.wrap (L : Int) = (L : Int) := by rw [IntWalk.u64_in _ (by omega)]
  have Hrd := hide h
  have Hmem := hide hmem
  clear h hf hsc hmem
  go_enter Try.func16, Try.ntmps16
  go_wp2_with fail
  go_loopw [5, 6] (fun o i wr => ∃ (k : Nat) (O : Option Addr) (oc : Nat), k ≤ P ∧ i = .int .i64 k ∧ o = .slice O k oc ∧ wr.ownsRow w.heap.size 4 1 (.slice O k oc) k ((tabK L (cnfS cs) k).map Value.bool) ∧ Below w.heap.size w wr) (fun _ i _ => P - (intOf i).toNat)
  case atStart => exact ⟨0, none, 0, by omega, rfl, rfl, World.ownsRow_nil _ _ _ _, Below.refl _ _⟩
  case round =>
    obtain ⟨k, O, oc, hk, rfl, rfl, hown, hbr⟩ := hrel
    have hsz := hbr.size
    have Hown := hide hown
    have Hbr := hide hbr
    clear hown hbr
    by_cases hlt : k < P
    · go_wp2_with fail
      go_loop [7, 8] (fun a j => ∃ m : Nat, m ≤ n ∧ j = .int .i64 m ∧ a = .bool (cnfS (cs.take m) (bits L 0 k))) (fun _ j => n - (intOf j).toNat)
      case atStart => exact ⟨0, by omega, rfl, rfl⟩
      case round =>
        obtain ⟨m, hm, rfl, rfl⟩ := hrel
        by_cases hmt : m < n
        · obtain ⟨b, off, x, A', n', c', rfl, hx, hcx, hrx⟩ := (Hrd.out.keep Hbr.out).sl hmt
          have htk : cnfS (cs.take (m + 1)) (bits L 0 k) = (cnfS (cs.take m) (bits L 0 k) && clauseS x (bits L 0 k)) := by rw [take_snoc hx, cnfS_snoc]
          obtain ⟨hx24, hgood⟩ := Hmem.out x (List.mem_of_getElem? hx)
          have hl' := hrx.len
          have hcap' := hrx.cap
          have hcs' := hrx.small
          have Htk := hide htk
          have Hrx := hide hrx
          have Hgood := hide hgood
          clear hx hrx htk hgood
          generalize cnfS (cs.take m) (bits L 0 k) = a0 at Htk
          go_wp2_with fail
          go_loop [9, 10] (fun s j => ∃ q : Nat, q ≤ n' ∧ j = .int .i64 q ∧ s = .bool (clauseS (x.take q) (bits L 0 k))) (fun _ j => n' - (intOf j).toNat)
          case atStart => exact ⟨0, by omega, rfl, rfl⟩
          case round =>
            obtain ⟨q, hq, rfl, rfl⟩ := hrel
            by_cases hqt : q < n'
            · obtain ⟨b', off', y, rfl, hy, hyl, hyh, hcy⟩ := Hrx.out.int hqt
              have hts : clauseS (x.take (q + 1)) (bits L 0 k) = (clauseS (x.take q) (bits L 0 k) || litS y (bits L 0 k)) := by rw [take_snoc hy, clauseS_snoc]
              have hyg := Hgood.out y (List.mem_of_getElem? hy)
              simp only [badL, not_or] at hyg
              obtain ⟨hy0, hy1, hy2⟩ := hyg
              clear hy
              cases hs0 : clauseS (x.take q) (bits L 0 k)
              · rw [hs0, Bool.false_or] at hts
                have Hts := hide hts
                clear hts hs0
                by_cases hpos : 0 < y
                · obtain ⟨v, hv⟩ : ∃ v : Nat, y = (v : Int) + 1 := ⟨(y - 1).toNat, by omega⟩
                  have hvL : v < L := by omega
                  have hlit : litS y (bits L 0 k) = bitB k v L := by rw [hv, litS_pos, bits_bit hvL]; cases bitB k v L <;> rfl
                  have hbit : ∀ W, Calls Try.prog 43 #[.int .i64 k, .int .i64 (y - 1), .int .i64 L] W (Same W (.bool (bitB k v L))) := fun W => by
                    rw [show y - 1 = (v : Int) from by omega]
                    exact bit_ct k v L hvL (by omega) (by omega) W
                  have Hlit := hide hlit
                  have Hbit := hide hbit
                  have hneg : decide (y < 0) = false := decide_eq_false (by omega)
                  clear hv hlit hbit
                  cases hbv : bitB k v L
                  · rw [hbv] at Hlit Hbit
                    clear hbv
                    go_wp2_with fail
                    refine (Hbit.out _).mono ?_
                    rintro e w1 ⟨rfl, rfl⟩
                    go_wp2_with fail
                    go_round
                    case rel => exact ⟨q + 1, by omega, by go_num, by rw [Hts.out, Hlit.out]⟩
                    case measure => simp [intOf]; omega
                  · rw [hbv] at Hlit Hbit
                    clear hbv
                    go_wp2_with fail
                    refine (Hbit.out _).mono ?_
                    rintro e w1 ⟨rfl, rfl⟩
                    go_wp2_with fail
                    go_round
                    case rel => exact ⟨q + 1, by omega, by go_num, by rw [Hts.out, Hlit.out]⟩
                    case measure => simp [intOf]; omega
                · obtain ⟨v, hv⟩ : ∃ v : Nat, -y = (v : Int) + 1 := ⟨(-y - 1).toNat, by omega⟩
                  have hvL : v < L := by omega
                  have hlit : litS y (bits L 0 k) = !bitB k v L := by rw [litS_neg hv, bits_bit hvL]; cases bitB k v L <;> rfl
                  have hbit : ∀ W, Calls Try.prog 43 #[.int .i64 k, .int .i64 (-y - 1), .int .i64 L] W (Same W (.bool (bitB k v L))) := fun W => by
                    rw [show -y - 1 = (v : Int) from by omega]
                    exact bit_ct k v L hvL (by omega) (by omega) W
                  have Hlit := hide hlit
                  have Hbit := hide hbit
                  have hneg : y < 0 := by omega
                  clear hv hlit hbit
                  cases hbv : bitB k v L
                  · rw [hbv] at Hlit Hbit
                    clear hbv
                    go_wp2_with fail
                    refine (Hbit.out _).mono ?_
                    rintro e w1 ⟨rfl, rfl⟩
                    go_wp2_with fail
                    go_round
                    case rel => exact ⟨q + 1, by omega, by go_num, by rw [Hts.out, Hlit.out]; rfl⟩
                    case measure => simp [intOf]; omega
                  · rw [hbv] at Hlit Hbit
                    clear hbv
                    go_wp2_with fail
                    refine (Hbit.out _).mono ?_
                    rintro e w1 ⟨rfl, rfl⟩
                    go_wp2_with fail
                    go_round
                    case rel => exact ⟨q + 1, by omega, by go_num, by rw [Hts.out, Hlit.out]; rfl⟩
                    case measure => simp [intOf]; omega
              · rw [hs0, Bool.true_or] at hts
                have Hts := hide hts
                clear hts hs0
                go_wp2_with fail
                go_round
                case rel => exact ⟨q + 1, by omega, by go_num, by rw [Hts.out]⟩
                case measure => simp [intOf]; omega
            · obtain rfl : q = n' := by omega
              have hall : clauseS (x.take q) (bits L 0 k) = clauseS x (bits L 0 k) := by rw [List.take_of_length_le (by omega)]
              rw [hall]
              clear hall
              generalize clauseS x (bits L 0 k) = s0 at Htk
              cases a0
              · go_wp2_with fail
                go_round
                case rel => exact ⟨m + 1, by omega, by go_num, by rw [Htk.out]; rfl⟩
                case measure => simp [intOf]; omega
              · go_wp2_with fail
                go_round
                case rel => exact ⟨m + 1, by omega, by go_num, by rw [Htk.out]; rfl⟩
                case measure => simp [intOf]; omega
        · obtain rfl : m = n := by omega
          have hall : cnfS (cs.take m) (bits L 0 k) = cnfS cs (bits L 0 k) := by rw [List.take_of_length_le (by omega)]
          rw [hall]
          clear hall
          have htb := tabK_succ L (cnfS cs) k
          generalize cnfS cs (bits L 0 k) = v0 at htb
          have Htb := hide htb
          clear htb
          go_wp2_with
            (at_builtin
             refine wpList_push rfl _ _ 35 rfl w.heap.size 4 i0 (.bool false) 1 1 Try.underlying35 hi0 hz0 hz1 hz2 rfl (by decide) _ _ _ rfl Hown.out [.bool v0] rfl (by intro u hu; simp at hu; subst hu; rfl) rfl (by omega) (by omega) hsz ?_
             intro O1 oc1 w2 hown2 hb2)
          go_roundw
          case rel => exact ⟨k + 1, O1, oc1, by omega, by go_num, rfl, by rw [Htb.out]; simpa using hown2, Hbr.out.trans hb2⟩
          case measure => simp [intOf]; omega
    · obtain rfl : k = P := by omega
      go_wp2
      go_ret
      exact ⟨Hbr.out, O, oc, by rw [tabK_len]; rfl, by rw [tabK_len]; exact Hown.out⟩
end Go.Proofs.Ytgenpcokpodhkaa
