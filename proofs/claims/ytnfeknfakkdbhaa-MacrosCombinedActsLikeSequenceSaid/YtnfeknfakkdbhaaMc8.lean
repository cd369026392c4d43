/- A task with macros: what it is, and what is kept while it is made. -/
import Derived.Test.YtnfeknfakkdbhaaMc5
namespace Go.Proofs.Ytnfeknfakkdbhaa
set_option linter.unusedVariables false
set_option linter.unusedSimpArgs false
open Go.RowKit

theorem comb_cost : ∀ (ls : List Opr) (out o : Opr), (∀ p ∈ ls, 0 ≤ p.cost ∧ p.cost ≤ 100) → combF out ls = some o → out.cost ≤ o.cost ∧ o.cost ≤ out.cost + 100 * (ls.length : Int) := by
  intro ls
  induction ls with
  | nil =>
    intro out o _ h
    unfold combF at h
    obtain rfl := Option.some.inj h
    simp
  | cons p ls ih =>
    intro out o hp h
    unfold combF at h
    split at h
    · cases h
    · obtain ⟨h1, h2⟩ := ih _ o (fun q hq => hp q (List.mem_cons_of_mem _ hq)) h
      have h3 := hp p (List.mem_cons_self ..)
      have h4 : (combStep out p).cost = out.cost + p.cost := rfl
      rw [h4] at h1 h2
      rw [List.length_cons]
      omega
theorem opAt_mem {os : List Opr} {x : Int} (h0 : 0 ≤ x) (h1 : x < os.length) : opAt os x ∈ os := by
  obtain ⟨k, rfl⟩ : ∃ k : Nat, x = k := ⟨x.toNat, by omega⟩
  have hk : k < os.length := by omega
  rw [opAt_eq (List.getElem?_eq_getElem hk)]
  exact List.getElem_mem _
theorem comb_small {T : Tsk} {N : Nat} (hok : OkT T N) {l : List Int} (hr : ∀ x ∈ l, 0 ≤ x ∧ x < T.ops.length) (hl : l.length ≤ 6) {o : Opr} (h : combF zeroOp (l.map (opAt T.ops)) = some o) : 0 ≤ o.cost ∧ o.cost ≤ 600 := by
  have := comb_cost _ _ o (fun p hp => by
    obtain ⟨x, hx, rfl⟩ := List.mem_map.1 hp
    have := hok.ops _ (opAt_mem (hr x hx).1 (hr x hx).2)
    exact ⟨this.low, this.high⟩) h
  rw [List.length_map] at this
  have hz : zeroOp.cost = 0 := rfl
  omega
def zeroT : Tsk := ⟨0, [], [], []⟩
def extLoop (T : Tsk) : List Opr → Nat → List (List Int) → Tsk × Int × Int
  | os, _, [] => (⟨T.facts, T.init, T.goal, os⟩, 0, 0)
  | os, i, l :: ms =>
    if (seqFault T.ops.length l (-20 - (i : Int))).1 ≠ 0 then (zeroT, seqFault T.ops.length l (-20 - (i : Int))) else
    match combF zeroOp (l.map (opAt T.ops)) with
    | none => (zeroT, 11, -20 - (i : Int))
    | some o => if 100 < o.cost then (zeroT, 10, -20 - (i : Int)) else extLoop T (os ++ [o]) (i + 1) ms
/-- what Extend answers -/
def extendR (T : Tsk) (ms : List (List Int)) : Tsk × Int × Int :=
  if (taskFault T).1 ≠ 0 then (zeroT, taskFault T) else if 8 < ms.length ∨ 40 < T.ops.length + ms.length then (zeroT, 2, -8) else extLoop T T.ops 0 ms
def taskV (T : Tsk) (a : TA) : Value := .agg #[.int .i64 T.facts, .slice a.I a.nI a.cI, .slice a.G a.nG a.cG, .slice a.O a.nO a.cO]
def ExtP (w : World) (r : Tsk × Int × Int) (e : Ending) (w' : World) : Prop :=
  Below w.heap.size w w' ∧ ∃ a : TA, e = .returned (.tuple #[taskV r.1 a, fault r.2.1 r.2.2]) ∧ ∀ w'', Chg (fun b => b < w.heap.size) w' w'' → TkR w'' a r.1
theorem ext_zero {w w' : World} (h : Below w.heap.size w w') (c i : Int) : ExtP w (zeroT, c, i) (.returned (.tuple #[.agg #[.int .i64 0, .slice none 0 0, .slice none 0 0, .slice none 0 0], fault c i])) w' :=
  ⟨h, ⟨none, 0, 0, none, 0, 0, none, 0, 0⟩, rfl, fun _ _ => ⟨by unfold zeroT I64s; simp, Rd.nil_ _ _, Rd.nil_ _ _, Rd.nil_ _ _⟩⟩
structure ExA where
  gT : Nat
  gX : Nat
  B : Nat
  Bl : Nat
  AI : Option Addr
  nI : Nat
  cI : Nat
  AG : Option Addr
  nG : Nat
  cG : Nat
/-- what stands while the macros are added -/
structure ExS (w W : World) (T : Tsk) (tc : List Value) (a : ExA) (n : Nat) (O : Option Addr) (oc : Nat) (vs : List Value) (os : List Opr) : Prop where
  par : Blk 25 W a.gT tc
  res : Blk 25 W (a.gT + 1) zeroTask
  flt : Blk 29 W (a.gT + 1 + 1) [.int .i64 0, .int .i64 0]
  out : Blk 25 W a.gX [.int .i64 T.facts, .slice a.AI a.nI a.cI, .slice a.AG a.nG a.cG, .slice O n oc]
  low : Below w.heap.size w W
  own : OwnE Enc.op 27 a.B (fun b => blkA O = some b ∨ b < a.B ∨ b = a.gX ∨ W.heap.size ≤ b) W O n oc vs os
  ne : ∀ r, blkA O = some r → r ≠ a.gX
  init : RdM (fun b => b < a.Bl ∨ a.B ≤ b) W a.AI a.nI a.cI T.init
  goal : RdM (fun b => b < a.Bl ∨ a.B ≤ b) W a.AG a.nG a.cG T.goal
  g1 : a.gT = w.heap.size
  g2 : a.gT + 1 + 1 < a.Bl
  g3 : a.Bl ≤ a.B
  g4 : a.B ≤ a.gX
section
variable {w W W' : World} {T : Tsk} {tc : List Value} {a : ExA} {n oc : Nat} {O : Option Addr} {vs : List Value} {os : List Opr}
theorem ExS.keep (h : ExS w W T tc a n O oc vs os) (hb : Below W.heap.size W W') : ExS w W' T tc a n O oc vs os :=
  ⟨h.par.keep hb, h.res.keep hb, h.flt.keep hb, h.out.keep hb, h.low.trans (hb.mono h.low.size), (h.own.keep hb).less (fun i hi e => by
    have := hb.size
    rcases e with e | e | e | e
    · exact .inl e
    · exact .inr (.inl e)
    · exact .inr (.inr (.inl e))
    · exact .inr (.inr (.inr (by omega)))), h.ne, h.init.keep hb, h.goal.keep hb, h.g1, h.g2, h.g3, h.g4⟩
/-- one operator more, and its store -/
theorem ExS.push (h : ExS w W T tc a n O oc vs os) {o : Opr} {us : List Value} {O' : Option Addr} {oc' : Nat}
    (hown : OwnE Enc.op 27 a.B (fun b => (blkA O = some b ∨ b < a.B ∨ b = a.gX ∨ W.heap.size ≤ b) ∨ W.heap.size ≤ b) W' O' (n + 1) oc' (vs ++ us) (os ++ [o])) (hch : Chg (fun b => blkA O = some b) W W') (hat : blkA O' = blkA O ∨ blkA O' = some (W.heap.size + 1)) :
    ExS w (W'.setCell ⟨a.gX, 3, none⟩ (.slice O' (n + 1) oc')) T tc a (n + 1) O' oc' (vs ++ us) (os ++ [o]) := by
  have hO : ∀ r, blkA O = some r → a.B ≤ r := fun r hr => (h.own.base hr).1
  have g1 := h.g1
  have g2 := h.g2
  have g3 := h.g3
  have g4 := h.g4
  have hx := h.out.lt
  have hsz := hch.size
  have hn : ∀ g, g < a.B → ¬ blkA O = some g := fun g hg e => by have := hO g e; omega
  have hnX : ¬ blkA O = some a.gX := fun e => h.ne _ e rfl
  have hnX' : ∀ r, blkA O' = some r → r ≠ a.gX := fun r hr e => by
    rcases hat with hat | hat
    · exact h.ne r (by rw [← hat]; exact hr) e
    · rw [hat] at hr
      injection hr with hr
      omega
  have hout := (hch.blk h.out hnX).set 3 (.slice O' (n + 1) oc')
  simp only [List.set_cons_zero, List.set_cons_succ] at hout
  refine ⟨(hch.blk h.par (hn _ (by omega))).far (p := ⟨a.gX, 3, none⟩) (by show a.gT ≠ a.gX; omega) _, (hch.blk h.res (hn _ (by omega))).far (p := ⟨a.gX, 3, none⟩) (by show a.gT + 1 ≠ a.gX; omega) _, (hch.blk h.flt (hn _ (by omega))).far (p := ⟨a.gX, 3, none⟩) (by show a.gT + 1 + 1 ≠ a.gX; omega) _, hout,
    below_set (row_below h.low h.low.size hch (fun r hr => by have := hO r hr; omega)) (by omega) 3 _, ?_, hnX', ?_, ?_, g1, g2, g3, g4⟩
  · have h2 : OwnE Enc.op 27 a.B (fun b => blkA O' = some b ∨ b < a.B ∨ b = a.gX ∨ W'.heap.size ≤ b) W' O' (n + 1) oc' (vs ++ us) (os ++ [o]) := hown.less (fun i hi e => by
      rcases e with e | e | e | e
      · rcases hat with hat | hat
        · exact .inl (.inl (by rw [← hat]; exact e))
        · rw [hat] at e
          injection e with e
          exact .inr (by omega)
      · exact .inl (.inr (.inl e))
      · exact .inl (.inr (.inr (.inl e)))
      · omega)
    have h3 := h2.chg (M' := fun b => b = a.gX) (Chg.set W' a.gX 3 (.slice O' (n + 1) oc')) (fun i e => .inr (.inr (.inl e))) hnX'
    refine h3.less (fun i hi e => ?_)
    rcases e with e | e | e | e
    · exact .inl e
    · exact .inr (.inl e)
    · exact .inr (.inr (.inl e))
    · simp at e
      exact .inr (.inr (.inr e))
  · exact (h.init.chg (hch.mono fun b e => .inr (hO b e))).set (.inr g4) 3 _
  · exact (h.goal.chg (hch.mono fun b e => .inr (hO b e))).set (.inr g4) 3 _
/-- an operator that a call has handed back -/
theorem ExS.firm (h : ExS w W T tc a n O oc vs os) {X : Nat} {o : Opr} {A1 A2 A3 : Option Addr} {n1 c1 n2 c2 n3 c3 : Nat} (hX : a.gX ≤ X) (hO : ∀ r, blkA O = some r → r ≤ X)
    (r1 : RdN X W A1 n1 c1 o.pre) (r2 : RdN X W A2 n2 c2 o.add) (r3 : RdN X W A3 n3 c3 o.del) (hc : I64s o.cost) :
    Firm Enc.op (fun b => blkA O = some b ∨ b < a.B ∨ b = a.gX ∨ W.heap.size ≤ b) W [.slice A1 n1 c1, .slice A2 n2 c2, .slice A3 n3 c3, .int .i64 o.cost] o := by
  have g4 := h.g4
  have hM : ∀ i, i < W.heap.size → (blkA O = some i ∨ i < a.B ∨ i = a.gX ∨ W.heap.size ≤ i) → i ≤ X := fun i hi e => by
    rcases e with e | e | e | e
    · exact hO i e
    · omega
    · omega
    · omega
  exact fun w' hw => ⟨A1, n1, c1, A2, n2, c2, A3, n3, c3, rfl, r1.toM hM w' hw, r2.toM hM w' hw, r3.toM hM w' hw, hc⟩
/-- the end -/
theorem ExS.done (h : ExS w W T tc a n O oc vs os) (hf : I64s T.facts) (hc : Chg (fun b => b = a.gT + 1 ∨ b = a.gT + 1 + 1) W W') :
    ExtP w (⟨T.facts, T.init, T.goal, os⟩, 0, 0) (.returned (.tuple #[.agg #[.int .i64 T.facts, .slice a.AI a.nI a.cI, .slice a.AG a.nG a.cG, .slice O n oc], fault 0 0])) W' := by
  have g1 := h.g1
  have g2 := h.g2
  have g3 := h.g3
  refine ⟨h.low.trans (hc.below (fun i e => by omega) h.low.size), ⟨a.AI, a.nI, a.cI, a.AG, a.nG, a.cG, O, n, oc⟩, rfl, fun w'' hk => ?_⟩
  have hc2 : Chg (fun b => b < a.Bl) W w'' := (hc.mono (fun b e => by omega)).trans (hk.mono (fun b e => by omega))
  refine ⟨hf, (h.init.chg (hc2.mono fun b e => .inl e)).rd, (h.goal.chg (hc2.mono fun b e => .inl e)).rd, ?_⟩
  exact (h.own.chg hc2 (fun i e => .inr (.inl (by omega))) (fun r hr e => by have := (h.own.base hr).1; omega)).rd
end
end Go.Proofs.Ytnfeknfakkdbhaa
