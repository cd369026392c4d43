/- Contracts of the helpers of diagram.Validate: slices.Index, Contains, Equal at nodes, the level of a node. -/
import Derived.Test.YtgenpcokpodhkaaStore15
import Derived.Laws.StructEq
namespace Go.Proofs.Ytgenpcokpodhkaa
open Go.RowKit Go.Maps

/-- a node as it was read -/
abbrev DI := Int × Int × Int
def nodeV (n : DI) : Value := .agg #[.int .i64 n.1, .int .i64 n.2.1, .int .i64 n.2.2]
def faultV (p : Int × Int) : Value := .agg #[.int .i64 p.1, .int .i64 p.2]
def idxN (n : DI) : Nat → List DI → Int
  | _, [] => -1
  | k, m :: l => if n = m then k else idxN n (k + 1) l
theorem idxN_nonneg (n : DI) : ∀ (l : List DI) (k : Nat), 0 ≤ idxN n k l ↔ n ∈ l := by
  intro l
  induction l with
  | nil => intro k; simp [idxN]
  | cons m l ih =>
    intro k
    unfold idxN
    by_cases h : n = m
    · rw [if_pos h]
      simp [h]
    · rw [if_neg h, ih]
      simp [h]

/-- '==' on nodes -/
theorem eqNode (a b c a' b' c' : Int) (w : World) : (Op.equalIn 10000 69 (.agg #[.int .i64 a, .int .i64 b, .int .i64 c]) (.agg #[.int .i64 a', .int .i64 b', .int .i64 c'])).run Try.prog w = .ok (decide ((a, b, c) = (a', b', c'))) w := by
  have u3 := Try.underlying3
  have a3 := Try.isAgg3
  have z3 := Try.sizeOf3
  have hS : Try.prog.underlying 69 = some (.struct (Try.prog.fieldsOf 69)) := by kernel_rfl
  have hp : Try.prog.stoodInHeld 69 = false := by kernel_rfl
  rw [show (10000 : Nat) = 9999 + 1 from rfl, run_equalIn_agg w 9999 69 _ _ hS hp]
  simp only [Program.fieldsOf, Try.underlying69]
  go_simp
  by_cases h1 : a = a' <;> by_cases h2 : b = b' <;> by_cases h3 : c = c' <;> simp [h1, h2, h3]

set_option maxHeartbeats 800000 in
theorem Index_ct (A : Option Addr) (n c : Nat) (ns : List DI) (x : DI) (w : World) (h : Rd Enc.node w A n c ns) :
    Calls Try.prog 64 #[.slice A n c, nodeV x] w (Gives w (.int .i64 (idxN x 0 ns))) := by
  have hsm := h.low
  have hcap := h.cap
  have hcs := h.small
  obtain ⟨x0, x1, x2⟩ := x
  unfold nodeV
  have Hrd := hide h
  clear h
  go_enter Try.func64, Try.ntmps64
  go_wp2
  go_loopw [8] (fun i wr => ∃ k : Nat, k ≤ n ∧ i = .int .i64 k ∧ Qt (w.alloc (.cells #[.int .i64 x0, .int .i64 x1, .int .i64 x2] 69)) wr ∧ idxN (x0, x1, x2) 0 ns = idxN (x0, x1, x2) k (ns.drop k)) (fun i _ => n - (intOf i).toNat)
  case atStart => exact ⟨0, by omega, rfl, Qt.refl _, by simp⟩
  case round =>
    obtain ⟨k, hk, rfl, hq, hrel⟩ := hrel
    have hbl : Below w.heap.size w (w.alloc (.cells #[.int .i64 x0, .int .i64 x1, .int .i64 x2] 69)) := (Below.refl _ _).alloc (Nat.le_refl _) _
    have hbr := hbl.trans (hq.below _)
    by_cases hlt : k < n
    · obtain ⟨b, off, y, rfl, hy, hc0, hc1, hc2, _, hbw⟩ := (Hrd.out.keep hbr).node hlt
      rw [drop_cons hy] at hrel
      obtain ⟨y0, y1, y2⟩ := y
      simp only at hc0 hc1 hc2
      have hbx := (Blk.new w 69 [.int .i64 x0, .int .i64 x1, .int .i64 x2]).qt hq
      have hd0 := hbx.cell 0
      have hd1 := hbx.cell 1
      have hd2 := hbx.cell 2
      simp only [List.getElem?_cons_zero, List.getElem?_cons_succ] at hd0 hd1 hd2
      have Hrel := hide hrel
      have Hq := hide hq
      have Hbr := hide hbr
      clear hrel hq hy hbx hbl hbr
      have heq := eqNode x0 x1 x2 y0 y1 y2
      by_cases he : (x0, x1, x2) = (y0, y1, y2)
      · have hr : idxN (x0, x1, x2) 0 ns = (k : Int) := by rw [Hrel.out, idxN, if_pos he]
        have Hr := hide hr
        rw [decide_eq_true he] at heq
        clear hr he
        go_wp2_with fail
        go_quiet (fail)
        go_wp2
        go_ret
        exact ⟨ret_int Hr.out.symm, below_drewN Hbr.out _⟩
      · have hr : idxN (x0, x1, x2) 0 ns = idxN (x0, x1, x2) (k + 1) (ns.drop (k + 1)) := by rw [Hrel.out, idxN, if_neg he]
        have Hr := hide hr
        rw [decide_eq_false he] at heq
        clear hr he
        go_wp2_with fail
        go_quiet (fail)
        go_wp2
        go_roundw
        case rel => exact ⟨k + 1, by omega, by go_num, Hq.out.drewN _, Hr.out⟩
        case measure => simp [intOf]; omega
    · have Hr : Hid (idxN (x0, x1, x2) 0 ns = -1) := hide (by rw [hrel, List.drop_of_length_le (by rw [Hrd.out.len]; omega)]; rfl)
      have Hbr := hide hbr
      clear hrel hq hbr hbl
      go_wp2
      go_ret
      exact ⟨ret_int Hr.out.symm, Hbr.out⟩

set_option maxHeartbeats 800000 in
theorem Contains_ct (A : Option Addr) (n c : Nat) (ns : List DI) (x : DI) (w : World) (h : Rd Enc.node w A n c ns) :
    Calls Try.prog 49 #[.slice A n c, nodeV x] w (Gives w (.bool (decide (x ∈ ns)))) := by
  obtain ⟨x0, x1, x2⟩ := x
  have hb : Below w.heap.size w (w.alloc (.cells #[.int .i64 x0, .int .i64 x1, .int .i64 x2] 69)) := (Below.refl _ _).alloc (Nat.le_refl _) _
  have hc := Index_ct A n c ns (x0, x1, x2) _ (h.keep hb)
  have hi := idxN_nonneg (x0, x1, x2) ns 0
  unfold nodeV at hc ⊢
  have Hc := hide hc
  have Hb := hide hb
  have Hi := hide hi
  clear hc hb hi h
  go_enter Try.func49, Try.ntmps49
  go_wp2_with fail
  refine Hc.out.mono ?_
  rintro e w1 ⟨rfl, hb1⟩
  have Hb1 := hide (Hb.out.trans (hb1.mono Hb.out.size))
  clear hb1
  generalize idxN (x0, x1, x2) 0 ns = q at *
  go_wp2
  go_ret
  refine ⟨ret_bool ?_, Hb1.out⟩
  rw [decide_eq_decide.2 Hi.out]

theorem drop_eq {α : Type} {xs ys : List α} {k : Nat} (h : xs.drop k = ys.drop k) (k' : Nat) (hk : k ≤ k') : xs.drop k' = ys.drop k' := by
  rw [show k' = k + (k' - k) from by omega, ← List.drop_drop, ← List.drop_drop, h]
set_option maxHeartbeats 800000 in
theorem Equal_ct (A : Option Addr) (n c : Nat) (A' : Option Addr) (n' c' : Nat) (xs ys : List DI) (w : World) (h : Rd Enc.node w A n c xs) (h' : Rd Enc.node w A' n' c' ys) :
    Calls Try.prog 51 #[.slice A n c, .slice A' n' c'] w (Quiet w (.bool (decide (xs = ys)))) := by
  have hsm := h.low
  have hcap := h.cap
  have hcs := h.small
  have hsm' := h'.low
  have hcap' := h'.cap
  have hcs' := h'.small
  have hl := h.len
  have hl' := h'.len
  by_cases hn : n = n'
  · subst hn
    have Hrd := hide h
    have Hrd' := hide h'
    clear h h'
    go_enter Try.func51, Try.ntmps51
    go_wp2
    go_loopw [13] (fun i wr => ∃ k : Nat, k ≤ n ∧ i = .int .i64 k ∧ Qt w wr ∧ xs.take k = ys.take k) (fun i _ => n - (intOf i).toNat)
    case atStart => exact ⟨0, by omega, rfl, Qt.refl _, by simp⟩
    case round =>
      obtain ⟨k, hk, rfl, hq, hrel⟩ := hrel
      by_cases hlt : k < n
      · obtain ⟨b, off, y, rfl, hy, hc0, hc1, hc2, _, hbw⟩ := (Hrd.out.qt hq).node hlt
        obtain ⟨b', off', z, rfl, hz, hd0, hd1, hd2, _, hbw'⟩ := (Hrd'.out.qt hq).node hlt
        obtain ⟨y0, y1, y2⟩ := y
        obtain ⟨z0, z1, z2⟩ := z
        simp only at hc0 hc1 hc2 hd0 hd1 hd2
        have heq := eqNode y0 y1 y2 z0 z1 z2
        have Hrel := hide hrel
        have Hq := hide hq
        have Hy := hide hy
        have Hz := hide hz
        clear hrel hq hy hz
        by_cases he : (y0, y1, y2) = (z0, z1, z2)
        · have hr : xs.take (k + 1) = ys.take (k + 1) := by rw [List.take_add_one, List.take_add_one, Hrel.out, Hy.out, Hz.out, he]
          have Hr := hide hr
          rw [decide_eq_true he] at heq
          clear hr he
          go_wp2_with fail
          go_quiet (fail)
          go_wp2
          go_roundw
          case rel => exact ⟨k + 1, by omega, by go_num, Hq.out.drewN _, Hr.out⟩
          case measure => simp [intOf]; omega
        · have hr : xs ≠ ys := fun e => he (by
            have h1 := Hy.out
            rw [e, Hz.out] at h1
            exact (Option.some.inj h1).symm)
          have Hr := hide hr
          rw [decide_eq_false he] at heq
          clear hr he
          go_wp2_with fail
          go_quiet (fail)
          go_wp2
          go_ret
          exact ⟨ret_bool (decide_eq_false Hr.out).symm, Hq.out.drewN _⟩
      · have hr : xs = ys := by
          rw [List.take_of_length_le (by omega), List.take_of_length_le (by omega)] at hrel
          exact hrel
        have Hr := hide hr
        have Hq := hide hq
        clear hrel hq hr
        go_wp2
        go_ret
        exact ⟨ret_bool (decide_eq_true Hr.out).symm, Hq.out⟩
  · have hr : xs ≠ ys := fun e => hn (by rw [← hl, ← hl', e])
    have Hr := hide hr
    clear hr h h' hl hl'
    go_enter Try.func51, Try.ntmps51
    go_wp2
    go_ret
    exact ⟨ret_bool (decide_eq_false Hr.out).symm, Qt.refl _⟩

/-- the level of a node as it was read -/
def lvlI (L : Int) (ns : List DI) (k : Int) : Int := if k < 2 then L else ((ns[(k - 2).toNat]?).map (·.1)).getD L
theorem lvlI_small (L : Int) (ns : List DI) {k : Int} (h : k < 2) : lvlI L ns k = L := if_pos h
theorem lvlI_node (L : Int) {ns : List DI} {i : Nat} {x : DI} (h : ns[i]? = some x) : lvlI L ns ((i : Int) + 2) = x.1 := by
  rw [lvlI, if_neg (by omega), show ((i : Int) + 2 - 2).toNat = i from by omega, h]
  rfl
set_option maxHeartbeats 800000 in
theorem Lvl_ct (A : Option Addr) (n c bx : Nat) (ns : List DI) (L r k : Int) (w : World) (h : Rd Enc.node w A n c ns) (hb : Blk 30 w bx [.int .i64 L, .slice A n c, .int .i64 r]) (hk : k < (n : Int) + 2) (hk0 : 0 ≤ k) :
    Calls Try.prog 48 #[.int .i64 k, .pointer (some ⟨bx, 0, none⟩)] w (Same w (.int .i64 (lvlI L ns k))) := by
  have h0 := hb.cell 0
  have h1 := hb.cell 1
  simp only [List.getElem?_cons_zero, List.getElem?_cons_succ] at h0 h1
  have hsm := h.low
  have hcap := h.cap
  have hcs := h.small
  by_cases h2 : k < 2
  · have Hl := hide (lvlI_small L ns h2)
    clear h hb
    go_enter Try.func48, Try.ntmps48
    go_wp2
    go_ret
    exact ⟨ret_int Hl.out.symm, rfl⟩
  · obtain ⟨i, rfl⟩ : ∃ i : Nat, k = (i : Int) + 2 := ⟨(k - 2).toNat, by omega⟩
    obtain ⟨b, off, x, rfl, hx, hc0, hc1, hc2, _, hbw⟩ := h.node (k := i) (by omega)
    have Hl := hide (lvlI_node L hx)
    clear h hb hx
    go_enter Try.func48, Try.ntmps48
    go_wp2
    go_ret
    exact ⟨ret_int Hl.out.symm, rfl⟩
end Go.Proofs.Ytgenpcokpodhkaa
