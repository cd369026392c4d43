/- Contract of diagram.Of. -/
import Derived.Test.YtgenpcokpodhkaaDia11
namespace Go.Proofs.Ytgenpcokpodhkaa
open Go.RowKit Go.Maps

/-- a literal that is none -/
def badL (L x : Int) : Prop := x = 0 ∨ x < -L ∨ L < x
instance (L x : Int) : Decidable (badL L x) := by unfold badL; exact inferInstance
/-- has a list a literal that is none? -/
def badC (L : Int) : List Int → Bool
  | [] => false
  | x :: l => if badL L x then true else badC L l
def clauseE (L : Int) (c : List Int) : Int := if 24 < c.length then 2 else if badC L c = true then 3 else 0
def scanC (L : Int) : Nat → List (List Int) → Option (Int × Int)
  | _, [] => none
  | k, c :: l => if clauseE L c = 0 then scanC L (k + 1) l else some (clauseE L c, (k : Int))
def ofFault (L : Int) (cs : List (List Int)) : Int × Int :=
  if L < 0 ∨ 24 < L then (3, -1) else if 40 < cs.length then (2, -2) else (scanC L 0 cs).getD (0, 0)
/-- the value of a literal, of a clause, of all -/
def litS (x : Int) (s : Nat → Bool) : Bool := s (max x (-x) - 1).toNat == decide (0 < x)
def clauseS (c : List Int) (s : Nat → Bool) : Bool := c.any fun x => litS x s
def cnfS (cs : List (List Int)) (s : Nat → Bool) : Bool := cs.all fun c => clauseS c s
/-- what Of returns -/
def ofR (L : Int) (cs : List (List Int)) : DR := if ofFault L cs = (0, 0) then limF L.toNat (diaF L.toNat (cnfS cs)) else ((0, [], 0), ofFault L cs)

theorem clauseS_snoc (c : List Int) (x : Int) (s : Nat → Bool) : clauseS (c ++ [x]) s = (clauseS c s || litS x s) := by simp [clauseS]
theorem cnfS_snoc (cs : List (List Int)) (c : List Int) (s : Nat → Bool) : cnfS (cs ++ [c]) s = (cnfS cs s && clauseS c s) := by simp [cnfS]
theorem take_snoc {α : Type} {l : List α} {k : Nat} {x : α} (h : l[k]? = some x) : l.take (k + 1) = l.take k ++ [x] := by rw [List.take_add_one, h]; rfl

theorem litS_pos (v : Nat) (s : Nat → Bool) : litS ((v : Int) + 1) s = (s v == true) := by
  unfold litS
  rw [show (max ((v : Int) + 1) (-((v : Int) + 1)) - 1).toNat = v from by omega, decide_eq_true (by omega)]
theorem litS_neg {x : Int} {v : Nat} (h : -x = (v : Int) + 1) (s : Nat → Bool) : litS x s = (s v == false) := by
  unfold litS
  rw [show (max x (-x) - 1).toNat = v from by omega, decide_eq_false (by omega)]

theorem start2 (w : World) : RBox w ((w.alloc (.cells #[.int .i64 0, .slice none 0 0, .int .i64 0] 30)).alloc (.cells #[.int .i64 0, .int .i64 0] 25)) w.heap.size := by
  have h2 := Blk.new (w.alloc (.cells #[.int .i64 0, .slice none 0 0, .int .i64 0] 30)) 25 [.int .i64 0, .int .i64 0]
  simp only [World.size_alloc] at h2
  exact ⟨(Blk.new w _ [.int .i64 0, .slice none 0 0, .int .i64 0]).alloc _, h2, below_two _ _ _, Nat.le_refl _⟩

set_option maxHeartbeats 3200000 in
set_option maxRecDepth 100000 in
theorem Of_d (L : Int) (A : Option Addr) (n c : Nat) (cs : List (List Int)) (w : World) (hL : -9223372036854775808 ≤ L ∧ L ≤ 9223372036854775807) (h : Rd (Enc.sl Enc.int) w A n c cs) :
    Calls Try.prog 13 #[.int .i64 L, .slice A n c] w (GivesDF w (ofR L cs)) := by
  have hl := h.len
  have hcap := h.cap
  have hcsm := h.small
  have hst0 := start2 w
  obtain ⟨x0, x1, x2, x3, x4, x5, x6, x7, x8, x9, x10, x11⟩ := hst0.facts
  have Hrd := hide h
  have Hst0 := hide hst0
  clear h hst0
  by_cases hL1 : L < 0 ∨ 24 < L
  · have HR : Hid (ofR L cs = ((0, [], 0), (3, -1))) := hide (by
      have : ofFault L cs = (3, -1) := by unfold ofFault; rw [if_pos hL1]
      unfold ofR
      rw [this, if_neg (by decide)])
    rcases (show L < 0 ∨ (0 ≤ L ∧ 24 < L) by omega) with hz | ⟨hz0, hz⟩
    all_goals
      clear hL1
      go_enter Try.func13, Try.ntmps13
      go_wp2
      refine bodyPost_ret (v := .tuple #[.agg #[.int .i64 0, .slice none 0 0, .int .i64 0], faultV (3, -1)]) (by simp [results, Try.results13, go_sem, faultV]) rfl ?_
      rw [HR.out]
      exact ⟨⟨none, 0, 0, rfl, Rd.nil_ _ _, fun b off e => by cases e⟩, below_two _ _ _⟩
  by_cases hn : 40 < n
  · have HR : Hid (ofR L cs = ((0, [], 0), (2, -2))) := hide (by
      have : ofFault L cs = (2, -2) := by unfold ofFault; rw [if_neg hL1, if_pos (by omega)]
      unfold ofR
      rw [this, if_neg (by decide)])
    have hz0 : 0 ≤ L := by omega
    have hz1 : L ≤ 24 := by omega
    clear hL1
    go_enter Try.func13, Try.ntmps13
    go_wp2
    refine bodyPost_ret (v := .tuple #[.agg #[.int .i64 0, .slice none 0 0, .int .i64 0], faultV (2, -2)]) (by simp [results, Try.results13, go_sem, faultV]) rfl ?_
    rw [HR.out]
    exact ⟨⟨none, 0, 0, rfl, Rd.nil_ _ _, fun b off e => by cases e⟩, below_two _ _ _⟩
  obtain ⟨L', hL'⟩ : ∃ m : Nat, L = (m : Int) := ⟨L.toNat, by omega⟩
  subst hL'
  have hlow : L' ≤ 24 := by omega
  have hbadR : ∀ e k, scanC (L' : Int) 0 cs = some (e, k) → e ≠ 0 → ofR (L' : Int) cs = ((0, [], 0), (e, k)) := fun e k hs he => by
    have : ofFault (L' : Int) cs = (e, k) := by unfold ofFault; rw [if_neg hL1, if_neg (by omega), hs]; rfl
    unfold ofR
    rw [this, if_neg (fun h => he (by injection h))]
  have hgoodR : scanC (L' : Int) 0 cs = none → ofR (L' : Int) cs = limF L' (diaF L' (cnfS cs)) := fun hs => by
    have : ofFault (L' : Int) cs = (0, 0) := by unfold ofFault; rw [if_neg hL1, if_neg (by omega), hs]; rfl
    unfold ofR
    rw [this, if_pos rfl]
    rfl
  have HbadR := hide hbadR
  have HgoodR := hide hgoodR
  have hz0 : (0 : Int) ≤ L' := by omega
  have hz1 : (L' : Int) ≤ 24 := by omega
  clear hL1 hbadR hgoodR
  go_enter Try.func13, Try.ntmps13
  go_wp2_with fail
  obtain ⟨V, hV⟩ : ∃ V, V = (w.alloc (.cells #[.int .i64 0, .slice none 0 0, .int .i64 0] 30)).alloc (.cells #[.int .i64 0, .int .i64 0] 25) := ⟨_, rfl⟩
  rw [← hV]
  have hst := Hst0.out
  rw [← hV] at hst
  have Hst := hide hst
  clear hV hst Hst0 x0 x1 x2 x3 x4 x5 x6 x7 x8 x9 x10 x11
  refine (NewStore_ct L' hlow V).mono ?_
  rintro e w1 ⟨hb1, g, bf, bp, rfl, hst1⟩
  have Hst1 := hide hst1
  have Hb1 := hide hb1
  clear hst1 hb1
  go_wp2_with fail
  go_loopw [7, 32] (fun s7 i wr => ∃ (k a : Nat) (ns : List BN), k ≤ n ∧ s7 = .int .i64 a ∧ i = .int .i64 k ∧ a < ns.length + 2 ∧ St L' V.heap.size g bf bp wr ns (k * 1000000000) ∧ Below V.heap.size V wr ∧ (∀ s, sem ns a s = cnfS (cs.take k) s) ∧ scanC L' 0 cs = scanC L' k (cs.drop k)) (fun _ i _ => n - (intOf i).toNat)
  case atStart => exact ⟨0, 1, [], by omega, rfl, rfl, by omega, by simpa using Hst1.out, Hb1.out, fun s => by rw [sem_one]; simp [cnfS], by simp⟩
  case round =>
    obtain ⟨k, a, ns, hk, rfl, rfl, ha, hst, hb, hmean, hscan⟩ := hrel
    by_cases hlt : k < n
    · obtain ⟨b, off, cl, A1, m1, c1, rfl, hx, hcx0, hrc⟩ := Hrd.out.sl hlt
      have hbw : Below w.heap.size w wr := Hst.out.below.trans (hb.mono Hst.out.below.size)
      have hcx := (hbw.cell (p := ⟨b, off + k, none⟩) (World.block_lt_of_cell? w _ hcx0)).trans hcx0
      rw [drop_cons hx] at hscan
      have hml := hrc.len
      have hmcap := hrc.cap
      have hmsm := hrc.small
      have Hx := hide hx
      have Hrc := hide hrc
      have Hs := hide hst
      have Hb := hide hb
      have Hmean := hide hmean
      have Hscan := hide hscan
      clear hcx0
      clear hx hrc hst hb hmean hscan hbw
      by_cases hm : 24 < m1
      · have HR : Hid (ofR (L' : Int) cs = ((0, [], 0), (2, (k : Int)))) := hide (HbadR.out 2 k (by
          have : clauseE (L' : Int) cl = 2 := by unfold clauseE; rw [if_pos (by omega)]
          rw [Hscan.out, scanC, this]
          rfl) (by decide))
        obtain ⟨x0, x1, x2, x3, x4, x5, x6, x7, x8, x9, x10, x11⟩ := (Hst.out.keep Hb.out).facts
        go_wp2
        refine bodyPost_ret (v := .tuple #[.agg #[.int .i64 0, .slice none 0 0, .int .i64 0], faultV (2, (k : Int))]) (by simp [results, Try.results13, go_sem, faultV, x0, x1, x2, x3, x4]) rfl ?_
        rw [HR.out]
        exact ⟨⟨none, 0, 0, rfl, Rd.nil_ _ _, fun b off e => by cases e⟩, (Hst.out.keep Hb.out).put _ _ _ _ _⟩
      · go_wp2_with fail
        obtain ⟨wq, rfl⟩ : ∃ V, V = wr := ⟨_, rfl⟩
        go_loopw [10, 45] (fun s10 i wr => ∃ (j q : Nat) (ms : List BN), j ≤ m1 ∧ s10 = .int .i64 q ∧ i = .int .i64 j ∧ q < (ns ++ ms).length + 2 ∧ St L' V.heap.size g bf bp wr (ns ++ ms) (k * 1000000000 + j * 33554433) ∧ Below V.heap.size V wr ∧ (∀ s, sem (ns ++ ms) q s = clauseS (cl.take j) s) ∧ badC L' cl = badC L' (cl.drop j)) (fun _ i _ => m1 - (intOf i).toNat)
        case atStart => exact ⟨0, 0, [], by omega, rfl, rfl, by simp, by simpa using Hs.out, Hb.out, fun s => by rw [sem_zero]; simp [clauseS], by simp⟩
        case round =>
          obtain ⟨j, q, ms, hj, rfl, rfl, hq, hst, hb, hmn, hbad⟩ := hrel
          have hbw : Below w.heap.size w wr := Hst.out.below.trans (hb.mono Hst.out.below.size)
          by_cases hjm : j < m1
          · obtain ⟨b1, off1, x, rfl, hxj, hxl, hxh, hcj⟩ := (Hrc.out.keep hbw).int hjm
            rw [drop_cons hxj, badC] at hbad
            have Hxj := hide hxj
            have Hs2 := hide hst
            have Hb2 := hide hb
            have Hmn := hide hmn
            clear hxj hst hb hmn hbw
            by_cases hbl : badL L' x
            · rw [if_pos hbl] at hbad
              have HR : Hid (ofR (L' : Int) cs = ((0, [], 0), (3, (k : Int)))) := hide (HbadR.out 3 k (by
                have : clauseE (L' : Int) cl = 3 := by unfold clauseE; rw [if_neg (by omega), if_pos hbad]
                rw [Hscan.out, scanC, this]
                rfl) (by decide))
              obtain ⟨x0, x1, x2, x3, x4, x5, x6, x7, x8, x9, x10, x11⟩ := (Hst.out.keep Hb2.out).facts
              unfold badL at hbl
              rcases (show x = 0 ∨ (x ≠ 0 ∧ x < -(L' : Int)) ∨ (x ≠ 0 ∧ -(L' : Int) ≤ x ∧ (L' : Int) < x) by omega) with hz | ⟨hz1, hz⟩ | ⟨hz1, hz2, hz⟩
              · subst hz
                clear hbl hbad
                go_wp2
                refine bodyPost_ret (v := .tuple #[.agg #[.int .i64 0, .slice none 0 0, .int .i64 0], faultV (3, (k : Int))]) (by simp [results, Try.results13, go_sem, faultV, x0, x1, x2, x3, x4]) rfl ?_
                rw [HR.out]
                exact ⟨⟨none, 0, 0, rfl, Rd.nil_ _ _, fun b off e => by cases e⟩, (Hst.out.keep Hb2.out).put _ _ _ _ _⟩
              all_goals
                have hb0 : (x == 0) = false := by rw [beq_eq_false_iff_ne]; exact hz1
                clear hbl hbad
                go_wp2
                refine bodyPost_ret (v := .tuple #[.agg #[.int .i64 0, .slice none 0 0, .int .i64 0], faultV (3, (k : Int))]) (by simp [results, Try.results13, go_sem, faultV, x0, x1, x2, x3, x4]) rfl ?_
                rw [HR.out]
                exact ⟨⟨none, 0, 0, rfl, Rd.nil_ _ _, fun b off e => by cases e⟩, (Hst.out.keep Hb2.out).put _ _ _ _ _⟩
            · rw [if_neg hbl] at hbad
              have Hbad := hide hbad
              unfold badL at hbl
              have hz1 : x ≠ 0 := by omega
              have hz2 : -(L' : Int) ≤ x := by omega
              have hz3 : x ≤ L' := by omega
              have hb0 : (x == 0) = false := by rw [beq_eq_false_iff_ne]; exact hz1
              clear hbad hbl
              rcases (show 0 < x ∨ x < 0 by omega) with hp | hp
              · obtain ⟨v, hv⟩ : ∃ v : Nat, x = (v : Int) + 1 := ⟨(x - 1).toNat, by omega⟩
                subst hv
                have q1 : ¬ ((v : Int) + 1 < -(L' : Int)) := by omega
                have q2 : ¬ ((L' : Int) < (v : Int) + 1) := by omega
                have q3 : -((v : Int) + 1) ≤ (v : Int) + 1 := by omega
                have hvL : v < L' := by omega
                go_wp2_with fail
                refine (Literal_ct (v := v) Hs2.out hvL true (by omega)).mono ?_
                rintro e w3 ⟨ms2, k2, rfl, g1, g2, g3, g4⟩
                have Hg1 := hide g1
                have Hg2 := hide g2
                have Hg4 := hide g4
                have hq2 : q < (ns ++ ms ++ ms2).length + 2 := by have := len_more (ns ++ ms) ms2; omega
                clear g1 g2 g4
                go_wp2_with fail
                refine (Or_ct Hg1.out hq2 g3 (by omega)).mono ?_
                rintro e w4 ⟨ms3, k3, rfl, f1, f2, f3, f4⟩
                have hmean2 : ∀ s, sem (ns ++ (ms ++ (ms2 ++ ms3))) k3 s = clauseS (cl.take (j + 1)) s := fun s => by
                  rw [← List.append_assoc, ← List.append_assoc, f4, sem_add Hs2.out.ok _ hq, Hmn.out, Hg4.out, take_snoc Hxj.out, clauseS_snoc, litS_pos]
                have Hrel2 := hide (And.intro (show k3 < (ns ++ (ms ++ (ms2 ++ ms3))).length + 2 by rw [← List.append_assoc, ← List.append_assoc]; exact f3) (And.intro (show St L' V.heap.size g bf bp w4 (ns ++ (ms ++ (ms2 ++ ms3))) (k * 1000000000 + (j + 1) * 33554433) by rw [← List.append_assoc, ← List.append_assoc]; exact f1.mono (by omega)) (And.intro (Hb2.out.trans ((Hg2.out.trans f2).below Hb2.out.size)) hmean2)))
                clear f1 f2 f3 f4 hmean2
                go_wp2_with fail
                go_roundw
                case rel => exact ⟨j + 1, k3, ms ++ (ms2 ++ ms3), by omega, rfl, by go_num, Hrel2.out.1, Hrel2.out.2.1, Hrel2.out.2.2.1, Hrel2.out.2.2.2, Hbad.out⟩
                case measure => simp [intOf]; omega
              · obtain ⟨v, hv⟩ : ∃ v : Nat, -x = (v : Int) + 1 := ⟨(-x - 1).toNat, by omega⟩
                have Hv := hide hv
                have hvL : v < L' := by omega
                have q1 : ¬ (x < -(L' : Int)) := by omega
                have q2 : ¬ ((L' : Int) < x) := by omega
                have q3 : x ≤ -x := by omega
                clear hv
                go_wp2_with fail
                rw [show -x - 1 = (v : Int) from by have := Hv.out; omega, decide_eq_false (show ¬ 0 < x by omega)]
                refine (Literal_ct (v := v) Hs2.out hvL false (by omega)).mono ?_
                rintro e w3 ⟨ms2, k2, rfl, g1, g2, g3, g4⟩
                have Hg1 := hide g1
                have Hg2 := hide g2
                have Hg4 := hide g4
                have hq2 : q < (ns ++ ms ++ ms2).length + 2 := by have := len_more (ns ++ ms) ms2; omega
                clear g1 g2 g4
                go_wp2_with fail
                refine (Or_ct Hg1.out hq2 g3 (by omega)).mono ?_
                rintro e w4 ⟨ms3, k3, rfl, f1, f2, f3, f4⟩
                have hmean2 : ∀ s, sem (ns ++ (ms ++ (ms2 ++ ms3))) k3 s = clauseS (cl.take (j + 1)) s := fun s => by
                  rw [← List.append_assoc, ← List.append_assoc, f4, sem_add Hs2.out.ok _ hq, Hmn.out, Hg4.out, take_snoc Hxj.out, clauseS_snoc, litS_neg Hv.out]
                have Hrel2 := hide (And.intro (show k3 < (ns ++ (ms ++ (ms2 ++ ms3))).length + 2 by rw [← List.append_assoc, ← List.append_assoc]; exact f3) (And.intro (show St L' V.heap.size g bf bp w4 (ns ++ (ms ++ (ms2 ++ ms3))) (k * 1000000000 + (j + 1) * 33554433) by rw [← List.append_assoc, ← List.append_assoc]; exact f1.mono (by omega)) (And.intro (Hb2.out.trans ((Hg2.out.trans f2).below Hb2.out.size)) hmean2)))
                clear f1 f2 f3 f4 hmean2
                go_wp2_with fail
                go_roundw
                case rel => exact ⟨j + 1, k3, ms ++ (ms2 ++ ms3), by omega, rfl, by go_num, Hrel2.out.1, Hrel2.out.2.1, Hrel2.out.2.2.1, Hrel2.out.2.2.2, Hbad.out⟩
                case measure => simp [intOf]; omega
          · have hjm2 : j = m1 := by omega
            have hcl : cl.take j = cl := List.take_of_length_le (by omega)
            rw [hcl] at hmn
            have hbad2 : badC L' cl = false := by rw [hbad, List.drop_of_length_le (by omega)]; rfl
            have hscan2 : scanC L' 0 cs = scanC L' (k + 1) (cs.drop (k + 1)) := by
              have : clauseE (L' : Int) cl = 0 := by unfold clauseE; rw [if_neg (by omega), hbad2]; rfl
              rw [Hscan.out, scanC, if_pos this]
            have Hscan2 := hide hscan2
            have Hs2 := hide hst
            have Hb2 := hide hb
            have Hmn := hide hmn
            have ha2 : a < (ns ++ ms).length + 2 := by have := len_more ns ms; omega
            clear hst hb hmn hbw hbad hbad2 hscan2 hcl
            go_wp2_with fail
            refine (And_ct Hs2.out ha2 hq (by omega)).mono ?_
            rintro e w3 ⟨ms2, k2, rfl, g1, g2, g3, g4⟩
            have hmean2 : ∀ s, sem (ns ++ ms ++ ms2) k2 s = cnfS (cs.take (k + 1)) s := fun s => by
              rw [g4, sem_add Hs.out.ok _ ha, Hmean.out, Hmn.out, take_snoc Hx.out, cnfS_snoc]
            have Hrel2 := hide (And.intro g3 (And.intro (show St L' V.heap.size g bf bp w3 (ns ++ ms ++ ms2) ((k + 1) * 1000000000) from g1.mono (by omega)) (And.intro (Hb2.out.trans (g2.below Hb2.out.size)) hmean2)))
            clear g1 g2 g3 g4 hmean2
            go_wp2_with fail
            go_roundw
            case rel => exact ⟨k + 1, k2, ns ++ ms ++ ms2, by omega, rfl, by go_num, Hrel2.out.1, Hrel2.out.2.1, Hrel2.out.2.2.1, Hrel2.out.2.2.2, Hscan2.out⟩
            case measure => simp [intOf]; omega
    · have hkn : cs.take k = cs := List.take_of_length_le (by omega)
      rw [hkn] at hmean
      have hres := HgoodR.out (by rw [hscan, List.drop_of_length_le (by omega)]; rfl)
      have hdia := diaF_eq hst.ok ha hmean
      have HRes := hide hres
      have Hdia := hide hdia
      have Hs := hide hst
      have Hb := hide hb
      clear hres hdia hst hb hmean hscan hkn
      go_wp2_with fail
      refine (Write_ct Hs.out ha).mono ?_
      rintro e w9 ⟨⟨A9, n9, c9, rfl, hrd9, hnew9⟩, hb9⟩
      rw [Hdia.out] at hrd9 ⊢
      have hbV := Hb.out.size
      have Hrd9 := hide hrd9
      have Hnew9 := hide hnew9
      have Hb9 := hide (Hb.out.trans (hb9.mono Hb.out.size))
      clear hrd9 hnew9 hb9
      go_wp2_with fail
      refine (limited_dia (L := L') Hrd9.out Hnew9.out).mono ?_
      rintro e w10 ⟨A10, n10, c10, xl, xs, xr, q1, q2, rfl, hlim, hrd10, hnew10, hb10⟩
      have hrb10 := Hst.out.keep (Hb9.out.trans (hb10.mono Hb9.out.size))
      obtain ⟨x0, x1, x2, x3, x4, x5, x6, x7, x8, x9, x10, x11⟩ := hrb10.facts
      have Hrb10 := hide hrb10
      have Hrd10 := hide hrd10
      have Hlim := hide hlim
      have Hnew10 := hide hnew10
      clear hrd10 hlim hnew10 hb10 hrb10
      go_wp2
      refine bodyPost_ret (v := .tuple #[.agg #[.int .i64 xl, .slice A10 n10 c10, .int .i64 xr], faultV (q1, q2)]) (by simp [results, Try.results13, go_sem, faultV, x0, x1, x2, x3, x4]) rfl ?_
      rw [HRes.out, Hlim.out]
      have hge2 := Hst.out.below.size
      refine ⟨⟨A10, n10, c10, rfl, ?_, fun b off e => by have := Hnew10.out b off e; omega⟩, Hrb10.out.put _ _ _ _ _⟩
      exact rd_put Hrd10.out _ _ _ _ _ (fun b off e _ => by
        have h1 := Hnew10.out b off e
        have h2 := Hst.out.fault.lt
        omega)
end Go.Proofs.Ytgenpcokpodhkaa
