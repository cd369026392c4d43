/- A copy of a task: what is kept while it is made. -/
import Derived.Test.YtnfeknfakkdbhaaCn
import Derived.Deep.DeepCutAuto
import Derived.Deep.RegionHeld3
namespace Go.Proofs.Ytnfeknfakkdbhaa
set_option linter.unusedVariables false
set_option linter.unusedSimpArgs false
open Go.RowKit

theorem opInfoT : (Try.prog.info? 27).map (fun i => (i.zero, i.size, i.bytes)) = some (some (.agg #[.slice none 0 0, .slice none 0 0, .slice none 0 0, .int .i64 0]), 4, 80) := by kernel_rfl
theorem own_low {w : World} {B B' : Nat} {e : TypeId} {size n : Nat} {v : Value} {xs : List Value} (h : w.ownsRow B e size v n xs) (hB : B' ≤ B) : w.ownsRow B' e size v n xs := by
  refine ⟨h.1, ?_⟩
  rcases h.2 with h3 | ⟨r, cap, cur, e1, hr, hc, rest⟩
  · exact .inl h3
  · exact .inr ⟨r, cap, cur, e1, by omega, hc, rest⟩
/-- one element more in a region that draws -/
theorem step_pushE {α : Type} {E : Enc α} {P : Program} {w : World} {ops : Array Oper} {o : Oper} {a : Act} {K : Act → World → Prop} {Q : Exit → Act → World → Prop} {X : Prop} (hgd : o.guard = none) (s x : Operand) (t : TypeId)
    (ho : o.op = .call { callee := .builtin .append, args := #[s, x], argTypes := #[t, t] })
    (base : Nat) (e : TypeId) (i : TypeInfo) (z : Value) (bytes : Nat) (ht : P.underlying t = some (.slice e)) (hi : P.info? e = some i) (hz : i.zero = some z)
    (hsize : i.size = E.size) (hby : i.bytes = bytes) (hzs : z.cells.size = E.size) (hsz : 0 < E.size)
    {A : Option Addr} {n c : Nat} {M : Nat → Prop} {vs : List Value} {xs : List α} (hs : a.eval s = .slice A n c) (hown : OwnE E e base M w A n c vs xs) (hA : ∀ r, blkA A = some r → M r)
    (us : List Value) (y : α) (h1 : ∀ u ∈ us, u.oneCell' = true) (hx : a.eval x = .slice (some ⟨w.heap.size, 0, none⟩) 1 1) (hf : Firm E M w us y)
    (h63 : n + 1 ≤ 1000000000000) (hbytes : (n + 1) * bytes ≤ 140737488355328) (hbase : base ≤ w.heap.size)
    (h : ∀ O oc w', OwnE E e base (fun b => M b ∨ w.heap.size ≤ b) w' O (n + 1) oc (vs ++ us) (xs ++ [y]) → Chg (fun b => blkA A = some b) w w' → (blkA O = blkA A ∨ blkA O = some (w.heap.size + 1)) → K (a.put o.dst (.slice O (n + 1) oc)) w') :
    if Region.wanted o (yielded ops a.tmps) = true then Oper.wp P o a (w.alloc (.cells us.toArray e)) K Q else X := by
  have hus : us.length = E.size := E.len hf.ok
  have hw : Region.wanted o (yielded ops a.tmps) = true := by simp [Region.wanted, hgd]
  rw [if_pos hw]
  obtain ⟨g, cap', w', hr, h2, h3, h4, h5⟩ := run_append_lies (P := P) (w := w.alloc (.cells us.toArray e)) t o.type base e i z E.size bytes ht hi hz hsize hby hzs hsz _ n vs (hown.own.alloc _) ⟨w.heap.size, 0, none⟩ 1 1 us (by omega) (by
    intro j u hj
    rw [add_plain, Nat.zero_add]
    have := (Blk.new w e us).cell j
    rw [hj] at this
    exact this) h1 (by omega) (by unfold maxLen; omega) hbytes (by simp; omega) (w.heap.size + 1) (by simp)
  unfold Oper.wp execOp
  simp only [ho, resolve, invoke, builtin, Sem.run_bind, Sem.run_pure, Result.andThen_ok, List.map_toArray, List.map_cons, List.map_nil, hs, hx, hr]
  have hg : (w.alloc (.cells us.toArray e)).grownBy w' (blkA A) := by rw [← own_blkA A n c]; exact h3
  have hch : Chg (fun b => blkA A = some b) w w' := (Chg.of_below ((Below.refl w.heap.size w).alloc (Nat.le_refl _) (.cells us.toArray e)) _).trans (Chg.of_grown hg)
  refine h (some ⟨g, 0, none⟩) cap' w' ⟨h2, by rw [List.length_append, hown.len]; rfl, fun j u hj => ?_⟩ hch ?_
  · rcases Nat.lt_or_ge j n with hjn | hjn
    · rw [List.getElem?_append_left (by rw [hown.len]; exact hjn)] at hj
      obtain ⟨us', e1, e2⟩ := hown.elem j u hj
      refine ⟨us', fun k v hk => ?_, e2.chg (hch.mono hA)⟩
      have := e1 k v hk
      rw [List.getElem?_append_left (List.getElem?_eq_some_iff.1 this).1]
      exact this
    · rw [List.getElem?_append_right (by rw [hown.len]; exact hjn), hown.len] at hj
      have hjn2 : j = n := by
        have := (List.getElem?_eq_some_iff.1 hj).1
        simp at this
        omega
      subst hjn2
      simp at hj
      subst hj
      refine ⟨us, fun k v hk => ?_, hf.chg (hch.mono hA)⟩
      rw [List.getElem?_append_right (by rw [hown.vlen]; omega), hown.vlen, Nat.add_sub_cancel_left]
      exact hk
  · rw [own_blkA] at h4
    rcases h4 with h4 | h4
    · exact .inl h4.symm
    · exact .inr (by rw [h4]; rfl)
/-- the rows of a copy that is being made -/
structure CpA where
  gT : Nat
  gO : Nat
  B0 : Nat
  H1 : Nat
  AI : Option Addr
  nI : Nat
  cI : Nat
  AG : Option Addr
  nG : Nat
  cG : Nat
def zeroTask : List Value := [.int .i64 0, .slice none 0 0, .slice none 0 0, .slice none 0 0]
/-- what stands while the operators are copied -/
structure CpS (w W : World) (T : Tsk) (tc : List Value) (a : CpA) (k : Nat) (O : Option Addr) (oc : Nat) (vs : List Value) : Prop where
  par : Blk 25 W a.gT tc
  res : Blk 25 W (a.gT + 1) zeroTask
  out : Blk 25 W a.gO [.int .i64 T.facts, .slice a.AI a.nI a.cI, .slice a.AG a.nG a.cG, .slice O k oc]
  low : Below w.heap.size w W
  own : OwnE Enc.op 27 a.H1 (fun b => blkA O = some b ∨ b < a.H1 ∨ W.heap.size ≤ b) W O k oc vs (T.ops.take k)
  size : a.H1 ≤ W.heap.size
  init : RdM (fun b => b < a.B0 ∨ b = a.gO ∨ a.H1 ≤ b) W a.AI a.nI a.cI T.init
  goal : RdM (fun b => b < a.B0 ∨ b = a.gO ∨ a.H1 ≤ b) W a.AG a.nG a.cG T.goal
  g1 : a.gT = w.heap.size
  g2 : a.gT + 1 < a.B0
  g3 : a.B0 ≤ a.gO
  g4 : a.gO < a.H1
section
variable {w W W' : World} {T : Tsk} {tc : List Value} {a : CpA} {k oc : Nat} {O : Option Addr} {vs : List Value}
theorem CpS.keep (h : CpS w W T tc a k O oc vs) (hb : Below W.heap.size W W') : CpS w W' T tc a k O oc vs :=
  ⟨h.par.keep hb, h.res.keep hb, h.out.keep hb, h.low.trans (hb.mono h.low.size), (h.own.keep hb).less (fun i hi e => by have := hb.size; rcases e with e | e | e; exact .inl e; exact .inr (.inl e); exact .inr (.inr (by omega))), by have := h.size; have := hb.size; omega, h.init.keep hb, h.goal.keep hb, h.g1, h.g2, h.g3, h.g4⟩
theorem CpS.blk (h : CpS w W T tc a k O oc vs) {r : Nat} (hr : blkA O = some r) : a.H1 ≤ r ∧ r < W.heap.size := h.own.base hr
/-- one operator more, and its store -/
theorem CpS.push (h : CpS w W T tc a k O oc vs) {o : Opr} (ho : T.ops[k]? = some o) {us : List Value} {O' : Option Addr} {oc' : Nat}
    (hown : OwnE Enc.op 27 a.H1 (fun b => (blkA O = some b ∨ b < a.H1 ∨ W.heap.size ≤ b) ∨ W.heap.size ≤ b) W' O' (k + 1) oc' (vs ++ us) (T.ops.take k ++ [o])) (hch : Chg (fun b => blkA O = some b) W W') (hat : blkA O' = blkA O ∨ blkA O' = some (W.heap.size + 1)) :
    CpS w (W'.setCell ⟨a.gO, 3, none⟩ (.slice O' (k + 1) oc')) T tc a (k + 1) O' oc' (vs ++ us) := by
  have hO : ∀ r, blkA O = some r → a.H1 ≤ r := fun r hr => (h.blk hr).1
  have g1 := h.g1
  have g2 := h.g2
  have g3 := h.g3
  have g4 := h.g4
  have hsz := hch.size
  have hz := h.size
  have hn : ∀ g, g < a.H1 → ¬ blkA O = some g := fun g hg e => by have := hO g e; omega
  have hout := (hch.blk h.out (hn _ g4)).set 3 (.slice O' (k + 1) oc')
  simp only [List.set_cons_zero, List.set_cons_succ] at hout
  refine ⟨(hch.blk h.par (hn _ (by omega))).far (p := ⟨a.gO, 3, none⟩) (by show a.gT ≠ a.gO; omega) _, (hch.blk h.res (hn _ (by omega))).far (p := ⟨a.gO, 3, none⟩) (by show a.gT + 1 ≠ a.gO; omega) _, hout,
    below_set (row_below h.low h.low.size hch (fun r hr => by have := hO r hr; omega)) (by omega) 3 _, ?_, by have : a.H1 ≤ W'.heap.size := by omega
                                                                                                              simpa using this, ?_, ?_, g1, g2, g3, g4⟩
  · rw [List.take_add_one, ho]
    have h2 : OwnE Enc.op 27 a.H1 (fun b => blkA O' = some b ∨ b < a.H1 ∨ W'.heap.size ≤ b) W' O' (k + 1) oc' (vs ++ us) (T.ops.take k ++ [o]) := hown.less (fun i hi e => by
      rcases e with e | e | e
      · rcases hat with hat | hat
        · exact .inl (.inl (by rw [← hat]; exact e))
        · rw [hat] at e
          injection e with e
          exact .inr (by omega)
      · exact .inl (.inr (.inl e))
      · omega)
    have h3 := h2.chg (M' := fun b => b = a.gO) (Chg.set W' a.gO 3 (.slice O' (k + 1) oc')) (fun i e => .inr (.inl (by omega))) (fun r hr e => by have := (h2.base hr).1; omega)
    refine h3.less (fun i hi e => ?_)
    rcases e with e | e | e
    · exact .inl e
    · exact .inr (.inl e)
    · simp at e
      exact .inr (.inr e)
  · exact (h.init.chg (hch.mono fun b e => .inr (.inr (hO b e)))).set (.inr (.inl rfl)) 3 _
  · exact (h.goal.chg (hch.mono fun b e => .inr (.inr (hO b e)))).set (.inr (.inl rfl)) 3 _
/-- an operator of fresh rows -/
theorem CpS.firm (h : CpS w W T tc a k O oc vs) {b4 : Nat} (h4 : a.H1 ≤ b4) (hO : ∀ r, blkA O = some r → r < b4) {o : Opr} {D1 D2 D3 : Option Addr} {n1 e1 n2 e2 n3 e3 : Nat}
    (r1 : W.ownsRow b4 3 1 (.slice D1 n1 e1) n1 (o.pre.map (Value.int .i64))) (r2 : W.ownsRow b4 3 1 (.slice D2 n2 e2) n2 (o.add.map (Value.int .i64))) (r3 : W.ownsRow b4 3 1 (.slice D3 n3 e3) n3 (o.del.map (Value.int .i64)))
    (l1 : o.pre.length = n1) (l2 : o.add.length = n2) (l3 : o.del.length = n3) (i1 : ∀ x ∈ o.pre, -9223372036854775808 ≤ x ∧ x ≤ 9223372036854775807) (i2 : ∀ x ∈ o.add, -9223372036854775808 ≤ x ∧ x ≤ 9223372036854775807) (i3 : ∀ x ∈ o.del, -9223372036854775808 ≤ x ∧ x ≤ 9223372036854775807) (hc : I64s o.cost) :
    Firm Enc.op (fun b => blkA O = some b ∨ b < a.H1 ∨ W.heap.size ≤ b) W [.slice D1 n1 e1, .slice D2 n2 e2, .slice D3 n3 e3, .int .i64 o.cost] o := by
  have key : ∀ {D : Option Addr} {n e : Nat} {l : List Int}, W.ownsRow b4 3 1 (.slice D n e) n (l.map (Value.int .i64)) → l.length = n → (∀ x ∈ l, -9223372036854775808 ≤ x ∧ x ≤ 9223372036854775807) → RdM (fun b => blkA O = some b ∨ b < a.H1 ∨ W.heap.size ≤ b) W D n e l := fun {D n e l} hr hl hi =>
    RdM.own hr (fun r hr' e => by
      have h1 := own_base hr (by rw [own_blkA]; exact hr')
      have h2 := (own_block hr (r := r) (by rw [own_blkA]; exact hr')).1
      rcases e with e | e | e
      · have := hO r e; omega
      · omega
      · omega) hl hi
  exact fun w' hw => ⟨D1, n1, e1, D2, n2, e2, D3, n3, e3, rfl, key r1 l1 i1 w' hw, key r2 l2 i2 w' hw, key r3 l3 i3 w' hw, hc⟩
end
/-- what a copy of a task is -/
def CloneP (w : World) (T : Tsk) (nI nG nO : Nat) (e : Ending) (w' : World) : Prop :=
  Below w.heap.size w w' ∧ ∃ (B : Nat) (AI : Option Addr) (cI : Nat) (AG : Option Addr) (cG : Nat) (O : Option Addr) (oc : Nat) (vs : List Value), e = .returned (.agg #[.int .i64 T.facts, .slice AI nI cI, .slice AG nG cG, .slice O nO oc]) ∧
    w.heap.size ≤ B ∧ B ≤ w'.heap.size ∧ RdM (fun b => b < w.heap.size ∨ B ≤ b) w' AI nI cI T.init ∧ RdM (fun b => b < w.heap.size ∨ B ≤ b) w' AG nG cG T.goal ∧
    OwnE Enc.op 27 B (fun b => blkA O = some b ∨ b < B ∨ w'.heap.size ≤ b) w' O nO oc vs T.ops
end Go.Proofs.Ytnfeknfakkdbhaa
