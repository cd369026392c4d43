/- Operators and tasks in memory; their faults by the package strips. -/
import Derived.Test.YtnfeknfakkdbhaaTk2
namespace Go.Proofs.Ytnfeknfakkdbhaa
set_option linter.unusedVariables false
set_option linter.unusedSimpArgs false
open Go.RowKit

def I64s (x : Int) : Prop := -9223372036854775808 ≤ x ∧ x ≤ 9223372036854775807
/-- an operator's cells -/
def Enc.op : Enc Opr where
  size := 4
  ok := fun w vs o => ∃ A n c B n' c' D n2 c2, vs = [.slice A n c, .slice B n' c', .slice D n2 c2, .int .i64 o.cost] ∧ Rd Enc.int w A n c o.pre ∧ Rd Enc.int w B n' c' o.add ∧ Rd Enc.int w D n2 c2 o.del ∧ I64s o.cost
  len := fun ⟨_, _, _, _, _, _, _, _, _, h, _⟩ => by rw [h]; rfl
  keep := fun ⟨A, n, c, B, n', c', D, n2, c2, h, h1, h2, h3, h4⟩ hb => ⟨A, n, c, B, n', c', D, n2, c2, h, h1.keep hb, h2.keep hb, h3.keep hb, h4⟩
theorem Rd.op {w : World} {A : Option Addr} {n c k : Nat} {os : List Opr} (h : Rd Enc.op w A n c os) (hk : k < n) :
    ∃ b off o A1 n1 c1 A2 n2 c2 A3 n3 c3, A = some ⟨b, off, none⟩ ∧ os[k]? = some o ∧ w.cell? ⟨b, off + k * 4, none⟩ = some (.slice A1 n1 c1) ∧ w.cell? ⟨b, off + k * 4 + 1, none⟩ = some (.slice A2 n2 c2) ∧ w.cell? ⟨b, off + k * 4 + 2, none⟩ = some (.slice A3 n3 c3) ∧
      w.cell? ⟨b, off + k * 4 + 3, none⟩ = some (.int .i64 o.cost) ∧ Rd Enc.int w A1 n1 c1 o.pre ∧ Rd Enc.int w A2 n2 c2 o.add ∧ Rd Enc.int w A3 n3 c3 o.del ∧ I64s o.cost := by
  obtain ⟨b, off, o, vs, e, ho, ⟨A1, n1, c1, A2, n2, c2, A3, n3, c3, hvs, h1, h2, h3, h4⟩, hv⟩ := h.get hk
  subst hvs
  exact ⟨b, off, o, A1, n1, c1, A2, n2, c2, A3, n3, c3, e, ho, hv 0 _ rfl, hv 1 _ rfl, hv 2 _ rfl, hv 3 _ rfl, h1, h2, h3, h4⟩
/-- where a task's rows lie -/
structure TA where
  I : Option Addr
  nI : Nat
  cI : Nat
  G : Option Addr
  nG : Nat
  cG : Nat
  O : Option Addr
  nO : Nat
  cO : Nat
structure TkR (w : World) (a : TA) (T : Tsk) : Prop where
  facts : I64s T.facts
  init : Rd Enc.int w a.I a.nI a.cI T.init
  goal : Rd Enc.int w a.G a.nG a.cG T.goal
  ops : Rd Enc.op w a.O a.nO a.cO T.ops
theorem TkR.keep {w w' : World} {a : TA} {T : Tsk} (h : TkR w a T) (hb : Below w.heap.size w w') : TkR w' a T := ⟨h.facts, h.init.keep hb, h.goal.keep hb, h.ops.keep hb⟩
/-- a boxed value and a fault's variable behind it -/
structure BxF (t : TypeId) (w : World) (g : Nat) (cs : List Value) (y0 y1 : Value) : Prop where
  par : Blk t w g cs
  res : Blk 29 w (g + 1) [y0, y1]
theorem BxF.new (w : World) (t : TypeId) (cs : List Value) (y0 y1 : Value) : BxF t ((w.alloc (.cells cs.toArray t)).alloc (.cells #[y0, y1] 29)) w.heap.size cs y0 y1 :=
  ⟨(boxed2 w t 29 cs [y0, y1]).1, (boxed2 w t 29 cs [y0, y1]).2.1⟩
section
variable {t : TypeId} {w w' : World} {g B : Nat} {cs : List Value} {y0 y1 : Value}
theorem BxF.low (h : BxF t w g cs y0 y1) (hb : Below B w w') (hg : g + 1 < B) : BxF t w' g cs y0 y1 := ⟨h.par.below hb (by omega), h.res.below hb hg⟩
theorem BxF.keep (h : BxF t w g cs y0 y1) (hb : Below w.heap.size w w') : BxF t w' g cs y0 y1 := ⟨h.par.keep hb, h.res.keep hb⟩
theorem BxF.qt (h : BxF t w g cs y0 y1) (hb : Qt w w') : BxF t w' g cs y0 y1 := ⟨h.par.qt hb, h.res.qt hb⟩
theorem BxF.resf (h : BxF t w g cs y0 y1) : w.cell? ⟨g + 1, 0, none⟩ = some y0 ∧ w.cell? ⟨g + 1, 1, none⟩ = some y1 ∧ w.frozen? ⟨g + 1, 0, none⟩ = false ∧ w.frozen? ⟨g + 1, 1, none⟩ = false ∧ g < w.heap.size ∧ g + 1 < w.heap.size :=
  ⟨h.res.cell 0, h.res.cell 1, h.res.frozen 0, h.res.frozen 1, h.par.lt, h.res.lt⟩
theorem BxF.cell4 {x0 x1 x2 x3 : Value} (h : BxF t w g [x0, x1, x2, x3] y0 y1) : w.cell? ⟨g, 0, none⟩ = some x0 ∧ w.cell? ⟨g, 1, none⟩ = some x1 ∧ w.cell? ⟨g, 2, none⟩ = some x2 ∧ w.cell? ⟨g, 3, none⟩ = some x3 := ⟨h.par.cell 0, h.par.cell 1, h.par.cell 2, h.par.cell 3⟩
end
theorem Blk.cell4 {t : TypeId} {w : World} {g : Nat} {x0 x1 x2 x3 : Value} (h : Blk t w g [x0, x1, x2, x3]) : w.cell? ⟨g, 0, none⟩ = some x0 ∧ w.cell? ⟨g, 1, none⟩ = some x1 ∧ w.cell? ⟨g, 2, none⟩ = some x2 ∧ w.cell? ⟨g, 3, none⟩ = some x3 := ⟨h.cell 0, h.cell 1, h.cell 2, h.cell 3⟩

theorem opCode_bad1 {n : Int} {o : Opr} (h : setB n o.pre = false) : opCode n o = 5 := by unfold opCode; rw [if_neg (by simp [h])]
theorem opCode_bad2 {n : Int} {o : Opr} (h : setB n o.add = false) : opCode n o = 5 := by unfold opCode; rw [if_neg (by simp [h])]
theorem opCode_bad3 {n : Int} {o : Opr} (h : setB n o.del = false) : opCode n o = 5 := by unfold opCode; rw [if_neg (by simp [h])]
theorem opCode_bad4 {n : Int} {o : Opr} (h : meetB o.add o.del = true) : opCode n o = 5 := by unfold opCode; rw [if_neg (by simp [h])]
theorem opCode_set {n : Int} {o : Opr} (h1 : setB n o.pre = true) (h2 : setB n o.add = true) (h3 : setB n o.del = true) (h4 : meetB o.add o.del = false) : opCode n o = if inB o.cost 0 100 = true then 0 else 3 := by unfold opCode; rw [if_pos ⟨h1, h2, h3, h4⟩]
set_option maxRecDepth 100000 in
set_option maxHeartbeats 3200000 in
theorem operator_ct (A1 A2 A3 : Option Addr) (n1 c1 n2 c2 n3 c3 : Nat) (o : Opr) (n : Nat) (w : World) (h1 : Rd Enc.int w A1 n1 c1 o.pre) (h2 : Rd Enc.int w A2 n2 c2 o.add) (h3 : Rd Enc.int w A3 n3 c3 o.del) (h4 : I64s o.cost) (hn : n ≤ 1000) :
    Calls Try.prog 92 #[.agg #[.slice A1 n1 c1, .slice A2 n2 c2, .slice A3 n3 c3, .int .i64 o.cost], .int .i64 n] w (Gives w (.int .i64 (opCode n o))) := by
  unfold I64s at h4
  obtain ⟨h41, h42⟩ := h4
  have hbW : Below w.heap.size w (w.alloc (.cells #[.slice A1 n1 c1, .slice A2 n2 c2, .slice A3 n3 c3, .int .i64 o.cost] 27)) := (Below.refl _ _).alloc (Nat.le_refl _) _
  have hB := Blk.new w 27 [.slice A1 n1 c1, .slice A2 n2 c2, .slice A3 n3 c3, .int .i64 o.cost]
  have C1 := hide (fun W hb => SIsSet_ct A1 n1 c1 o.pre n W (h1.keep (hbW.trans hb)))
  have C2 := hide (fun W hb => SIsSet_ct A2 n2 c2 o.add n W (h2.keep (hbW.trans hb)))
  have C3 := hide (fun W hb => SIsSet_ct A3 n3 c3 o.del n W (h3.keep (hbW.trans hb)))
  have C4 := hide (fun hs hl => Meets_ct A2 A3 n2 c2 n3 c3 o.add o.del _ (h2.keep hbW) (h3.keep hbW) hs hl)
  have Hl3 := hide h3.len
  have HbW := hide hbW
  have HB := hide hB
  clear hbW hB h1 h2 h3
  rcases e1 : setB n o.pre with _ | _
  · simp only [e1] at C1
    rw [opCode_bad1 e1]
    clear e1
    go_enter Try.func92, Try.ntmps92
    go_wp2_with (go_at_call 91; refine (C1.out _ (Below.refl _ _)).mono ?_; rintro e w1 ⟨rfl, rfl⟩)
    go_ret
    exact ⟨rfl, HbW.out⟩
  rcases e2 : setB n o.add with _ | _
  · simp only [e1] at C1
    simp only [e2] at C2
    rw [opCode_bad2 e2]
    clear e1 e2
    go_enter Try.func92, Try.ntmps92
    go_wp2_with (go_at_call 91; (first | (with_reducible refine (C1.out _ (Below.refl _ _)).mono ?_) | (with_reducible refine (C2.out _ (Below.refl _ _)).mono ?_)); rintro e w1 ⟨rfl, rfl⟩)
    go_ret
    exact ⟨rfl, HbW.out⟩
  rcases e3 : setB n o.del with _ | _
  · simp only [e1] at C1
    simp only [e2] at C2
    simp only [e3] at C3
    rw [opCode_bad3 e3]
    clear e1 e2 e3
    go_enter Try.func92, Try.ntmps92
    go_wp2_with (go_at_call 91; (first | (with_reducible refine (C1.out _ (Below.refl _ _)).mono ?_) | (with_reducible refine (C2.out _ (Below.refl _ _)).mono ?_) | (with_reducible refine (C3.out _ (Below.refl _ _)).mono ?_)); rintro e w1 ⟨rfl, rfl⟩)
    go_ret
    exact ⟨rfl, HbW.out⟩
  have hm := C4.out (up_le (setB_iff.1 e3).1) (by have := setB_len e3; have := Hl3.out; omega)
  rcases e4 : meetB o.add o.del with _ | _
  · rw [e4] at hm
    simp only [e1] at C1
    simp only [e2] at C2
    simp only [e3] at C3
    rw [opCode_set e1 e2 e3 e4]
    have Hm := hide hm
    clear e1 e2 e3 e4 hm C4
    by_cases hc : o.cost < 0 ∨ 100 < o.cost
    · have hin : inB o.cost 0 100 = false := inB_no.2 hc
      rw [hin]
      clear hin
      by_cases hc0 : o.cost < 0
      · go_enter Try.func92, Try.ntmps92
        go_wp2_with (go_at_call 91; (first | (with_reducible refine (C1.out _ (Below.refl _ _)).mono ?_) | (with_reducible refine (C2.out _ (Below.refl _ _)).mono ?_) | (with_reducible refine (C3.out _ (Below.refl _ _)).mono ?_)); rintro e w1 ⟨rfl, rfl⟩)
        with_reducible refine Hm.out.mono ?_
        rintro e w1 ⟨rfl, hb⟩
        obtain ⟨f0, f1, f2, f3⟩ := (HB.out.keep hb).cell4
        have Hb := hide (HbW.out.trans (hb.mono HbW.out.size))
        clear f0 f1 f2 hb
        go_wp2_with fail
        go_ret
        exact ⟨rfl, Hb.out⟩
      · have hc1 : 100 < o.cost := by omega
        clear hc
        go_enter Try.func92, Try.ntmps92
        go_wp2_with (go_at_call 91; (first | (with_reducible refine (C1.out _ (Below.refl _ _)).mono ?_) | (with_reducible refine (C2.out _ (Below.refl _ _)).mono ?_) | (with_reducible refine (C3.out _ (Below.refl _ _)).mono ?_)); rintro e w1 ⟨rfl, rfl⟩)
        with_reducible refine Hm.out.mono ?_
        rintro e w1 ⟨rfl, hb⟩
        obtain ⟨f0, f1, f2, f3⟩ := (HB.out.keep hb).cell4
        have Hb := hide (HbW.out.trans (hb.mono HbW.out.size))
        clear f0 f1 f2 hb
        go_wp2_with fail
        go_ret
        exact ⟨rfl, Hb.out⟩
    · have hin : inB o.cost 0 100 = true := inB_iff.2 (by omega)
      rw [hin]
      have hc0 : ¬ o.cost < 0 := by omega
      have hc1 : ¬ 100 < o.cost := by omega
      clear hin hc
      go_enter Try.func92, Try.ntmps92
      go_wp2_with (go_at_call 91; (first | (with_reducible refine (C1.out _ (Below.refl _ _)).mono ?_) | (with_reducible refine (C2.out _ (Below.refl _ _)).mono ?_) | (with_reducible refine (C3.out _ (Below.refl _ _)).mono ?_)); rintro e w1 ⟨rfl, rfl⟩)
      with_reducible refine Hm.out.mono ?_
      rintro e w1 ⟨rfl, hb⟩
      obtain ⟨f0, f1, f2, f3⟩ := (HB.out.keep hb).cell4
      have Hb := hide (HbW.out.trans (hb.mono HbW.out.size))
      clear f0 f1 f2 hb
      go_wp2_with fail
      go_ret
      exact ⟨rfl, Hb.out⟩
  · rw [opCode_bad4 e4]
    rw [e4] at hm
    simp only [e1] at C1
    simp only [e2] at C2
    simp only [e3] at C3
    have Hm := hide hm
    clear e1 e2 e3 e4 hm C4
    go_enter Try.func92, Try.ntmps92
    go_wp2_with (go_at_call 91; (first | (with_reducible refine (C1.out _ (Below.refl _ _)).mono ?_) | (with_reducible refine (C2.out _ (Below.refl _ _)).mono ?_) | (with_reducible refine (C3.out _ (Below.refl _ _)).mono ?_)); rintro e w1 ⟨rfl, rfl⟩)
    with_reducible refine Hm.out.mono ?_
    rintro e w1 ⟨rfl, hb⟩
    have Hb := hide (HbW.out.trans (hb.mono HbW.out.size))
    clear hb
    go_wp2_with fail
    go_ret
    exact ⟨rfl, Hb.out⟩
end Go.Proofs.Ytnfeknfakkdbhaa
