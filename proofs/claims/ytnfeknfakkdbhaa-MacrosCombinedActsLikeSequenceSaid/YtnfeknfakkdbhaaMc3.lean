/- The faults of a sequence of operators; Combine. -/
import Derived.Test.YtnfeknfakkdbhaaMc2
import Derived.Test.YtnfeknfakkdbhaaTk4
namespace Go.Proofs.Ytnfeknfakkdbhaa
set_option linter.unusedVariables false
set_option linter.unusedSimpArgs false
open Go.RowKit

set_option maxRecDepth 100000 in
set_option maxHeartbeats 800000 in
theorem IndexMF_ct (g : Nat) (p : Int → Bool) (B : Option Addr) (n c : Nat) (xs : List Int) (w : World) (hx : Rd Enc.int w B n c xs)
    (hf : ∀ x ∈ xs, ∀ d, Calls Try.prog 94 #[.int .i64 x, .pointer (some ⟨g, 0, none⟩)] (w.drewN d) (Quiet (w.drewN d) (.bool (p x)))) :
    Calls Try.prog 115 #[.slice B n c, .func (.func 94) #[] #[.pointer (some ⟨g, 0, none⟩)]] w (Quiet w (.int .i64 (firstP p 0 xs))) := by
  have hsm := hx.low
  have Hl := hide hx.len
  have Hf := hide hf
  clear hf
  go_enter Try.func115, Try.ntmps115
  go_wp2
  go_loopw [8] (fun i wr => ∃ k : Nat, k ≤ n ∧ i = .int .i64 k ∧ Qt w wr ∧ firstP p 0 xs = firstP p k (xs.drop k)) (fun i _ => n - (intOf i).toNat)
  case atStart => exact ⟨0, by omega, rfl, Qt.refl _, by simp⟩
  case round =>
    obtain ⟨k, hk, rfl, ⟨d, rfl⟩, hrel⟩ := hrel
    by_cases hlt : k < n
    · obtain ⟨b, off, x, rfl, hxx, hxl, hxh, hcx⟩ := hx.int hlt
      rw [drop_cons hxx] at hrel
      have Hfx := hide (Hf.out x (List.mem_of_getElem? hxx) d)
      have Hrel := hide hrel
      clear hrel hxx
      obtain ⟨b, hb⟩ : ∃ b, b = p x := ⟨_, rfl⟩
      rw [← hb] at Hfx
      have Hb := hide hb
      clear hb
      go_wp2_with fail
      refine (Hfx.out).mono ?_
      rintro e w1 ⟨rfl, d1, rfl⟩
      cases b with
      | true =>
        go_wp2
        go_ret
        exact ⟨ret_int (by rw [Hrel.out, firstP, if_pos Hb.out.symm]), d + d1, rfl⟩
      | false =>
        go_wp2
        go_roundw
        case rel => exact ⟨k + 1, by omega, by go_num, ⟨d + d1, rfl⟩, by rw [Hrel.out, firstP, if_neg (by rw [← Hb.out]; simp)]⟩
        case measure => simp [intOf]; omega
    · have Hrel := hide hrel
      clear hrel
      go_wp2
      go_ret
      refine ⟨ret_int ?_, d, rfl⟩
      rw [Hrel.out, List.drop_of_length_le (by rw [Hl.out]; omega), firstP]
set_option maxHeartbeats 400000 in
theorem ContainsMF_ct (g : Nat) (p : Int → Bool) (B : Option Addr) (n c : Nat) (xs : List Int) (w : World) (hx : Rd Enc.int w B n c xs)
    (hf : ∀ x ∈ xs, ∀ d, Calls Try.prog 94 #[.int .i64 x, .pointer (some ⟨g, 0, none⟩)] (w.drewN d) (Quiet (w.drewN d) (.bool (p x)))) :
    Calls Try.prog 93 #[.slice B n c, .func (.func 94) #[] #[.pointer (some ⟨g, 0, none⟩)]] w (Quiet w (.bool (xs.any p))) := by
  have Hf := hide hf
  clear hf
  go_enter Try.func93, Try.ntmps93
  go_wp2_with fail
  refine (IndexMF_ct g p B n c xs _ hx Hf.out).mono ?_
  rintro e w1 ⟨rfl, d1, rfl⟩
  go_wp2
  go_ret
  exact ⟨ret_bool (firstP_sign p 0 xs), d1, rfl⟩

def outB (k : Nat) (x : Int) : Bool := decide (x < 0 ∨ (k : Int) ≤ x)
/-- the fault of a sequence over k operators -/
def seqFault (k : Nat) (l : List Int) (i : Int) : Int × Int := if l.length < 1 ∨ 6 < l.length then (9, i) else if l.any (outB k) = true then (3, i) else (0, 0)
theorem seqFault_ok {k : Nat} {l : List Int} {i : Int} (h : (seqFault k l i).1 = 0) : seqFault k l i = (0, 0) ∧ 1 ≤ l.length ∧ l.length ≤ 6 ∧ ∀ x ∈ l, 0 ≤ x ∧ x < k := by
  unfold seqFault at h ⊢
  split
  · rename_i e; rw [if_pos e] at h; cases h
  · rename_i e; rw [if_neg e] at h
    split
    · rename_i e2; rw [if_pos e2] at h; cases h
    · rename_i e2
      refine ⟨rfl, by omega, by omega, fun x hx => ?_⟩
      have := List.any_eq_false.1 (by simpa using e2) x hx
      unfold outB at this
      simp at this
      omega
set_option maxRecDepth 100000 in
set_option maxHeartbeats 800000 in
theorem fault1_ct (g : Nat) (x : Int) (x0 x1 x2 : Value) (O : Option Addr) (nO cO : Nat) (w : World) (hc : w.cell? ⟨g, 3, none⟩ = some (.slice O nO cO)) (hx : -9223372036854775808 ≤ x ∧ x ≤ 9223372036854775807) (hO : nO ≤ 9223372036854775807) :
    Calls Try.prog 94 #[.int .i64 x, .pointer (some ⟨g, 0, none⟩)] w (Quiet w (.bool (outB nO x))) := by
  obtain ⟨hx1, hx2⟩ := hx
  by_cases h : x < 0
  · go_enter Try.func94, Try.ntmps94
    go_wp2
    go_ret
    exact ⟨ret_bool (by unfold outB; rw [eq_comm, decide_eq_true_iff]; omega), Qt.refl _⟩
  · go_enter Try.func94, Try.ntmps94
    go_wp2
    go_ret
    refine ⟨ret_bool ?_, Qt.refl _⟩
    unfold outB
    rw [Bool.eq_iff_iff, decide_eq_true_iff, decide_eq_true_iff]
    omega
set_option maxRecDepth 100000 in
set_option maxHeartbeats 1600000 in
theorem mfault_ct (a : TA) (T : Tsk) (B : Option Addr) (m d : Nat) (l : List Int) (i : Int) (w : World) (h : TkR w a T) (hl : Rd Enc.int w B m d l) :
    Calls Try.prog 57 #[.agg #[.int .i64 T.facts, .slice a.I a.nI a.cI, .slice a.G a.nG a.cG, .slice a.O a.nO a.cO], .slice B m d, .int .i64 i] w (Gives w (fault (seqFault T.ops.length l i).1 (seqFault T.ops.length l i).2)) := by
  obtain ⟨I, nI, cI, G, nG, cG, O, nO, cO⟩ := a
  obtain ⟨_, hi, hg, ho⟩ := h
  simp only at hi hg ho ⊢
  have hlo := ho.low
  have hsm := hl.low
  have hlen := ho.len
  have hX := BxF.new w 25 [.int .i64 T.facts, .slice I nI cI, .slice G nG cG, .slice O nO cO] (.int .i64 0) (.int .i64 0)
  have hbw := below_two w (.cells #[.int .i64 T.facts, .slice I nI cI, .slice G nG cG, .slice O nO cO] 25) (.cells #[.int .i64 0, .int .i64 0] 29)
  rw [hlen]
  have Hlm := hide hl.len
  have HX := hide hX
  have Hbw := hide hbw
  have Hl := hide hl
  clear hX hbw hlen ho hi hg hl
  by_cases h1 : m < 1 ∨ 6 < m
  · have hres : seqFault nO l i = (9, i) := by unfold seqFault; rw [Hlm.out, if_pos h1]
    rw [hres]
    clear hres
    by_cases h2 : m < 1
    · obtain rfl : m = 0 := by omega
      clear h1
      go_enter Try.func57, Try.ntmps57
      go_wp2_with fail
      exact bodyPost_ret (v := fault 9 i) (by simp [results, Try.results57, go_sem, fault]) rfl ⟨rfl, below_two _ _ _⟩
    · have h3 : 6 < m := by omega
      clear h1
      go_enter Try.func57, Try.ntmps57
      go_wp2_with fail
      exact bodyPost_ret (v := fault 9 i) (by simp [results, Try.results57, go_sem, fault]) rfl ⟨rfl, below_two _ _ _⟩
  · have h2 : ¬ m < 1 := by omega
    have h3 : ¬ 6 < m := by omega
    have hmf : ∀ (fn : Fn) (first cap : Array Value) (w : World), (Instr.makeFunc fn first cap).run Try.prog w = .ok (.func fn first cap) w := fun _ _ _ _ => rfl
    have hct := ContainsMF_ct w.heap.size (outB nO) B m d l _ (Hl.out.keep Hbw.out) (fun x hx dd => by
      obtain ⟨j, hj⟩ := List.getElem?_of_mem hx
      have hjm : j < m := by rw [← Hlm.out]; exact (List.getElem?_eq_some_iff.1 hj).1
      obtain ⟨_, _, y, _, hy, hy1, hy2, _⟩ := Hl.out.int hjm
      rw [hj] at hy
      obtain rfl := Option.some.inj hy
      exact fault1_ct w.heap.size x (.int .i64 T.facts) (.slice I nI cI) (.slice G nG cG) O nO cO _ (by rw [World.cell?_drewN]; exact HX.out.cell4.2.2.2) ⟨hy1, hy2⟩ hlo)
    have hres : seqFault nO l i = if l.any (outB nO) = true then (3, i) else (0, 0) := by unfold seqFault; rw [Hlm.out, if_neg h1]
    rcases ha : l.any (outB nO) with _ | _
    · rw [ha] at hres hct
      rw [hres, if_neg (by simp)]
      have Hct := hide hct
      clear hres hct ha h1
      go_enter Try.func57, Try.ntmps57
      go_wp2_with fail
      refine Hct.out.mono ?_
      rintro e w1 ⟨rfl, hq⟩
      obtain ⟨y0, y1, y2, y3, y4, y5⟩ := (HX.out.qt hq).resf
      have Hb := hide (Hbw.out.trans (hq.below _))
      clear hq
      go_wp2_with fail
      exact bodyPost_ret (v := fault 0 0) (by simp [results, Try.results57, go_sem, fault, y0, y1, y5]) rfl ⟨rfl, below_res2 Hb.out (by omega) _ _⟩
    · rw [ha] at hres hct
      rw [hres, if_pos rfl]
      have Hct := hide hct
      clear hres hct ha h1
      go_enter Try.func57, Try.ntmps57
      go_wp2_with fail
      refine Hct.out.mono ?_
      rintro e w1 ⟨rfl, hq⟩
      obtain ⟨y0, y1, y2, y3, y4, y5⟩ := (HX.out.qt hq).resf
      have Hb := hide (Hbw.out.trans (hq.below _))
      clear hq
      go_wp2_with fail
      exact bodyPost_ret (v := fault 3 i) (by simp [results, Try.results57, go_sem, fault, y0, y1, y5]) rfl ⟨rfl, below_res2 Hb.out (by omega) _ _⟩
def zeroOp : Opr := ⟨[], [], [], 0⟩
/-- a result's operator -/
def OpN (X : Nat) (w : World) (v : Value) (o : Opr) : Prop := ∃ (A1 : Option Addr) (n1 c1 : Nat) (A2 : Option Addr) (n2 c2 : Nat) (A3 : Option Addr) (n3 c3 : Nat), v = .agg #[.slice A1 n1 c1, .slice A2 n2 c2, .slice A3 n3 c3, .int .i64 o.cost] ∧ RdN X w A1 n1 c1 o.pre ∧ RdN X w A2 n2 c2 o.add ∧ RdN X w A3 n3 c3 o.del
theorem OpN.zero (X : Nat) (w : World) : OpN X w (.agg #[.slice none 0 0, .slice none 0 0, .slice none 0 0, .int .i64 0]) zeroOp := ⟨none, 0, 0, none, 0, 0, none, 0, 0, rfl, RdN.nil _ _, RdN.nil _ _, RdN.nil _ _⟩
/-- what Combine answers -/
def combineR (T : Tsk) (l : List Int) : Opr × Bool × Int × Int :=
  if (taskFault T).1 ≠ 0 then (zeroOp, false, taskFault T) else if (seqFault T.ops.length l (-8)).1 ≠ 0 then (zeroOp, false, seqFault T.ops.length l (-8)) else
    match combF zeroOp (l.map (opAt T.ops)) with
    | none => (zeroOp, false, 0, 0)
    | some o => if 100 < o.cost then (zeroOp, false, 10, -9) else (o, true, 0, 0)
def CombineP (w : World) (r : Opr × Bool × Int × Int) (e : Ending) (w' : World) : Prop :=
  Below w.heap.size w w' ∧ ∃ v, e = .returned (.tuple #[v, .bool r.2.1, fault r.2.2.1 r.2.2.2]) ∧ OpN w.heap.size w' v r.1

end Go.Proofs.Ytnfeknfakkdbhaa
