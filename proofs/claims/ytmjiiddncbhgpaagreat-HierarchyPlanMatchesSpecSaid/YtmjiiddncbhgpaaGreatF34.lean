/- The law HierarchyPlanMatchesSpec of the package hierarchy holds, without a condition., part 34: Rh3 Rm Rh4. -/
import Derived.Test.YtmjiiddncbhgpaaGreatF1
import Derived.Test.YtmjiiddncbhgpaaGreatF2
import Derived.Test.YtmjiiddncbhgpaaGreatF3
import Derived.Test.YtmjiiddncbhgpaaGreatF4
import Derived.Test.YtmjiiddncbhgpaaGreatF5
import Derived.Test.YtmjiiddncbhgpaaGreatF13
import Derived.Test.YtmjiiddncbhgpaaGreatF14
import Derived.Test.YtmjiiddncbhgpaaGreatF15
import Derived.Test.YtmjiiddncbhgpaaGreatF16
import Derived.Test.YtmjiiddncbhgpaaGreatF17
import Derived.Test.YtmjiiddncbhgpaaGreatF18
import Derived.Test.YtmjiiddncbhgpaaGreatF33
import Derived.BigQuiet
import Derived.Deep.AppendLies
import Derived.Deep.DeepCutAuto
import Derived.Deep.Draws
import Derived.Deep.Fields
import Derived.Deep.LoopGhost
import Derived.Deep.QuietTactic
import Derived.Deep.RegionHeld3
import Derived.Deep.Slices
import Derived.Ground.Names2Prog
import Derived.Ground.SlgnProg
import Derived.Ground.SlsfProg
import Derived.IntWalk
import Derived.Laws.AppendOwnNone
import Derived.Laws.BitsAllLaws
import Derived.Laws.OwnMore
import Derived.Laws.StructEq
import Derived.Lib.Hide
import Derived.Lib.SlicesCompact
import Derived.Maps.AppendAt
import Derived.Shelf.Slices.Cells
import Derived.Shelf.Slices.Clone
import Derived.Shelf.Slices.CompactI
import Derived.Shelf.Slices.Empties
import Derived.Shelf.Slices.In.SortNone
import Derived.Shelf.Slices.SearchI
import Derived.Shelf.Sort.Plain
import Derived.Sort.OwnSortedInts
import Derived.StillTailTactics
import Derived.Test.YtmjiiddncbhgpaaGreatProg
import Derived.WalkKit
namespace Go.Proofs.YtmjiiddncbhgpaaGreat
set_option linter.unusedVariables false
set_option linter.unusedSimpArgs false
open Go.RowKit
/-- the states so far: the run goes on from the last one -/
structure RunAt (os : List Opr) (s0 : List Int) (plan : List Int) (i : Nat) (outs : List (List Int)) (s : List Int) : Prop where
  len : outs.length = i + 1
  last : outs[i]? = some s
  run : runF os s0 plan = outs.take i ++ runF os s (plan.drop i)
theorem RunAt.start (os : List Opr) (s0 plan : List Int) : RunAt os s0 plan 0 [s0] s0 := ⟨rfl, rfl, by simp⟩
theorem RunAt.take {os : List Opr} {s0 plan s : List Int} {i : Nat} {outs : List (List Int)} (h : RunAt os s0 plan i outs s) : outs = outs.take i ++ [s] := by
  obtain ⟨h1, h2⟩ := List.getElem?_eq_some_iff.1 h.last
  have hl := h.len
  rw [← h2, List.take_append_getElem, List.take_of_length_le (by omega)]
theorem RunAt.next {os : List Opr} {s0 plan s : List Int} {i : Nat} {outs : List (List Int)} {x : Int} (h : RunAt os s0 plan i outs s) (hx : plan[i]? = some x) (hp : subsetB (opAt os x).pre s = true) : RunAt os s0 plan (i + 1) (outs ++ [updF s (opAt os x).add (opAt os x).del]) (updF s (opAt os x).add (opAt os x).del) := by
  have hl := h.len
  have ht := h.take
  obtain ⟨hlt, rfl⟩ := List.getElem?_eq_some_iff.1 hx
  refine ⟨by rw [List.length_append, hl]; rfl, by rw [List.getElem?_append_right (by omega), hl, Nat.sub_self]; rfl, ?_⟩
  have e : (outs ++ [updF s (opAt os plan[i]).add (opAt os plan[i]).del]).take (i + 1) = outs := by rw [List.take_append_of_le_length (by omega), List.take_of_length_le (by omega)]
  rw [e, h.run, List.drop_eq_getElem_cons hlt]
  conv => rhs; rw [ht]
  rw [List.append_assoc]
  congr 1
  unfold runF
  rw [List.map_cons]
  conv => lhs; unfold runT
  rw [if_pos hp]
  rfl
theorem RunAt.stop {os : List Opr} {s0 plan s : List Int} {i : Nat} {outs : List (List Int)} {x : Int} (h : RunAt os s0 plan i outs s) (hx : plan[i]? = some x) (hp : subsetB (opAt os x).pre s = false) : ¬ (runF os s0 plan).length = plan.length + 1 := by
  have hl := h.len
  obtain ⟨hlt, rfl⟩ := List.getElem?_eq_some_iff.1 hx
  rw [h.run, List.drop_eq_getElem_cons hlt]
  unfold runF
  rw [List.map_cons]
  unfold runT
  rw [if_neg (by rw [hp]; simp), List.length_append, List.length_take]
  simp
  omega
theorem RunAt.done {os : List Opr} {s0 plan s : List Int} {n : Nat} {outs : List (List Int)} (h : RunAt os s0 plan n outs s) (hn : plan.length = n) : runF os s0 plan = outs := by
  rw [h.run, List.drop_eq_nil_of_le (by omega)]
  exact h.take.symm
theorem KnSp.len {ms : List Hm} {plan : List Int} {st : Nat → List Int} {K n m : Nat} {kn : List Spn} (h : KnSp ms plan st K n kn) (hl : kn.length = m) (hK : K ≤ 16) (hn : n ≤ 100) : m ≤ 163216 ∧ m ≤ K * ((n + 1) * (n + 1)) := by
  have h1 := h.few
  have h2 : (n + 1) * (n + 1) ≤ 101 * 101 := Nat.mul_le_mul (by omega) (by omega)
  have h3 : K * ((n + 1) * (n + 1)) ≤ 16 * (101 * 101) := Nat.mul_le_mul hK h2
  omega
/-- the last place of a start -/
theorem Quieted.shut {ms : List Hm} {plan : List Int} {st : Nat → List Int} {n a b : Nat} {g : Nat → Nat → Nat → Prop} {m : Hm} (h : Quieted ms plan st n g a b) (hm : ms[a]? = some m) (hg : ∀ t i j, g t i j → i ≤ j ∧ j ≤ n) (hn : plan.length = n) (hb : b ≤ n)
    (hk : ∀ j, b ≤ j → j < n + 1 → subsetB m.pre (st b) = true → Chain plan g m.steps b j → g m.task.toNat b j) : Quieted ms plan st n g a (b + 1) :=
  h.step fun m' hm' hp j hc => by
    obtain rfl : m = m' := Option.some.inj (hm.symm.trans hm')
    have := chain_le hn hg _ _ _ hb hc
    exact hk j this.1 (by omega) hp hc
def lenSl (v : Value) : Nat := match v with
  | .slice _ n _ => n
  | _ => 0
theorem spnInfo : (Tryz.prog.info? 122).map (fun i => (i.zero, i.size, i.bytes)) = some (some (.agg #[.int .i64 0, .int .i64 0, .int .i64 0]), 3, 24) := by kernel_rfl
/-- a row of the call's own that reads as these spans -/
def RowK (B : Nat) (w : World) (A : Option Addr) (n c : Nat) (xs : List Spn) : Prop := ∃ vs, OwnE Enc.spn 122 B (fun _ => True) w A n c vs xs
section
variable {B n c : Nat} {w w' : World} {A : Option Addr} {xs : List Spn}
theorem RowK.nil (B : Nat) (w : World) : RowK B w none 0 0 [] := ⟨_, OwnE.nil _ _ _ _ _⟩
theorem RowK.len (h : RowK B w A n c xs) : xs.length = n := let ⟨_, k⟩ := h; k.len
theorem RowK.rd (h : RowK B w A n c xs) : Rd Enc.spn w A n c xs := let ⟨_, k⟩ := h; k.rd
theorem RowK.keep (h : RowK B w A n c xs) (hb : Below w.heap.size w w') : RowK B w' A n c xs := let ⟨_, k⟩ := h; ⟨_, k.keep hb⟩
theorem RowK.base (h : RowK B w A n c xs) {r : Nat} (hr : blkA A = some r) : B ≤ r ∧ r < w.heap.size := let ⟨_, k⟩ := h; k.base hr
end
/-- one span more -/
theorem wpList_pushK {w : World} {ops : Array Oper} {rest : List Oper} {o : Oper} {a : Act} {Q : Exit → Act → World → Prop} (hgd : o.guard = none) (s x : Operand)
    (ho : o.op = .call { callee := .builtin .append, args := #[s, x], argTypes := #[120, 120] })
    {B : Nat} {A : Option Addr} {n c : Nat} {xs : List Spn} (hs : a.eval s = .slice A n c) (hown : RowK B w A n c xs) (y : Spn) (hx : a.eval x = .slice (some ⟨w.heap.size, 0, none⟩) 1 1) (hn : n ≤ 1000000) (hbase : B ≤ w.heap.size)
    (h : ∀ O oc w', RowK B w' O (n + 1) oc (xs ++ [y]) → Below B w w' → wpList Tryz.prog ops Q rest (a.put o.dst (.slice O (n + 1) oc)) w') :
    wpList Tryz.prog ops Q (o :: rest) a (w.alloc (.cells #[.int .i64 (y.t : Nat), .int .i64 (y.i : Nat), .int .i64 (y.j : Nat)] 122)) := by
  obtain ⟨i1, hi1, hy0, hy1, hy2⟩ := info_parts spnInfo
  have hbs : ∀ r, blkA A = some r → B ≤ r := fun r hr => (hown.base hr).1
  obtain ⟨vs, hown⟩ := hown
  exact wpList_pushE hgd s x 120 ho B 122 i1 (.agg #[.int .i64 0, .int .i64 0, .int .i64 0]) 24 Tryz.underlying120 hi1 hy0 hy1 hy2 rfl (by decide) hs hown (fun _ _ => trivial) (spnC y) y (by intro u hu; simp only [spnC, List.mem_cons, List.not_mem_nil, or_false] at hu; rcases hu with rfl | rfl | rfl <;> rfl) hx (fun _ _ => rfl) (by omega) (by omega) hbase
    fun O oc w' hown' hch hat => h O oc w' ⟨_, hown'.less fun _ _ _ => .inl trivial⟩ (hch.below hbs hbase)
/-- what stands while the states are made -/
structure RfH (w W : World) (gT : Nat) (tc : List Value) (B1 : Nat) (S : Option Addr) (n oc : Nat) (vs : List Value) (outs : List (List Int)) : Prop where
  low : Below w.heap.size w W
  par : Blk 50 W gT tc
  out : OwnE (Enc.sl Enc.int) 22 B1 (fun b => blkA S = some b ∨ W.heap.size ≤ b) W S n oc vs outs
  g0 : w.heap.size ≤ gT
  g1 : gT < B1
  g2 : B1 ≤ W.heap.size
section
variable {w W W' : World} {gT B1 : Nat} {tc : List Value} {S : Option Addr} {n oc : Nat} {vs : List Value} {outs : List (List Int)}
theorem RfH.keep (h : RfH w W gT tc B1 S n oc vs outs) (hb : Below W.heap.size W W') : RfH w W' gT tc B1 S n oc vs outs :=
  ⟨h.low.trans (hb.mono h.low.size), h.par.keep hb, (h.out.keep hb).less (fun i hi e => by have := hb.size; rcases e with e | e; exact .inl e; exact .inr (by omega)), h.g0, h.g1, Nat.le_trans h.g2 hb.size⟩
/-- one state more -/
theorem RfH.push (h : RfH w W gT tc B1 S n oc vs outs) {us : List Value} {O' : Option Addr} {oc' : Nat} {s : List Int}
    (hown : OwnE (Enc.sl Enc.int) 22 B1 (fun b => (blkA S = some b ∨ W.heap.size ≤ b) ∨ W.heap.size ≤ b) W' O' (n + 1) oc' (vs ++ us) (outs ++ [s])) (hch : Chg (fun b => blkA S = some b) W W') (hat : blkA O' = blkA S ∨ blkA O' = some (W.heap.size + 1)) :
    RfH w W' gT tc B1 O' (n + 1) oc' (vs ++ us) (outs ++ [s]) := by
  have hO : ∀ r, blkA S = some r → B1 ≤ r := fun r hr => (h.out.base hr).1
  have hg0 := h.g0
  have hg1 := h.g1
  have hg2 := h.g2
  refine ⟨h.low.trans (hch.below (fun i hi => by have := hO i hi; omega) h.low.size), hch.blk h.par (fun e => by have := hO _ e; omega), hown.less (fun i hi e => ?_), hg0, hg1, Nat.le_trans hg2 hch.size⟩
  rcases e with e | e
  · rcases hat with a | a
    · exact .inl (.inl (by rw [← a]; exact e))
    · rw [a] at e
      injection e with e
      exact .inr (by omega)
  · have := hch.size
    exact .inr (by omega)
end
theorem own_oneH {α : Type} {E : Enc α} {t : TypeId} {M : Nat → Prop} {w : World} {us : List Value} {x : α} (hf : ∀ W, Below w.heap.size w W → Firm E M W us x) : OwnE E t w.heap.size M (w.alloc (.cells us.toArray t)) (some ⟨w.heap.size, 0, none⟩) 1 1 us [x] :=
  ⟨⟨by rw [E.len (hf w (Below.refl _ _)).ok]; omega, .inr ⟨w.heap.size, 1, us.toArray, rfl, Nat.le_refl _, Blk.new w t us, Nat.le_refl _, by unfold maxLen; omega, by simpa using E.len (hf w (Below.refl _ _)).ok, by simp; exact List.take_of_length_le (by rw [E.len (hf w (Below.refl _ _)).ok]; omega)⟩⟩, rfl, fun i y hi => by
    cases i with
    | zero =>
      simp at hi
      subst hi
      exact ⟨us, fun j v hj => by simpa using hj, hf _ ((Below.refl _ _).alloc (Nat.le_refl _) _)⟩
    | succ i => simp at hi⟩
theorem upd_setH {N : Nat} {s : List Int} {o : Opr} (hs : setB N s = true) (ho : OkOp N o) : setB N (updF s o.add o.del) = true := updF_set (setB_iff.1 hs).2 (setB_iff.1 ho.add).2
theorem rowInfoHI : (Tryz.prog.info? 22).map (fun i => (i.zero, i.size, i.bytes)) = some (some (.slice none 0 0), 1, 24) := by kernel_rfl
theorem firm_rowH {w : World} {B : Nat} {M : Nat → Prop} {A : Option Addr} {n c : Nat} {l : List Int} (h : w.ownsRow B 3 1 (.slice A n c) n (l.map (Value.int .i64))) (hl : l.length = n) (hr : ∀ x ∈ l, -9223372036854775808 ≤ x ∧ x ≤ 9223372036854775807) (hM : ∀ r, blkA A = some r → ¬ M r) : Firm (Enc.sl Enc.int) M w [.slice A n c] l :=
  fun w' hc => ⟨A, n, c, rfl, own_rd (hc.own h (fun r hr => hM r (by rw [own_blkA] at hr; exact hr))) hl hr⟩
/-- Refines' answer -/
def RefQ (w : World) (h : Hy) (plan : List Int) (e : Ending) (w' : World) : Prop := Below w.heap.size w w' ∧ ∃ bb, e = .returned (.bool bb) ∧ (bb = true ↔ RefP h plan)
end Go.Proofs.YtmjiiddncbhgpaaGreat
namespace Go.Proofs.YtmjiiddncbhgpaaGreat
set_option linter.unusedVariables false
set_option linter.unusedSimpArgs false
open Go.RowKit
/-- two rows of rows that grow, apart from each other: the next level's lists and their states -/
structure LvS (W0 W : World) (X : Option Addr) (n c : Nat) (vs : List Value) (xs : List (List Int)) (Y : Option Addr) (m d : Nat) (us : List Value) (ys : List (List Int)) : Prop where
  low : Below W0.heap.size W0 W
  nx : OwnE (Enc.sl Enc.int) 22 W0.heap.size (fun b => blkA X = some b ∨ blkA Y = some b ∨ W.heap.size ≤ b) W X n c vs xs
  af : OwnE (Enc.sl Enc.int) 22 W0.heap.size (fun b => blkA X = some b ∨ blkA Y = some b ∨ W.heap.size ≤ b) W Y m d us ys
  ap : ∀ r, blkA X = some r → ¬ blkA Y = some r
section
variable {W0 W W' : World} {X Y X' Y' : Option Addr} {n c m d c' d' : Nat} {vs us zs : List Value} {xs ys : List (List Int)} {x : List Int}
theorem LvS.nil (W0 : World) : LvS W0 W0 none 0 0 [] [] none 0 0 [] [] := ⟨Below.refl _ _, OwnE.nil _ _ _ _ _, OwnE.nil _ _ _ _ _, fun r hr => by cases hr⟩
theorem LvS.keep (h : LvS W0 W X n c vs xs Y m d us ys) (hb : Below W.heap.size W W') : LvS W0 W' X n c vs xs Y m d us ys :=
  ⟨h.low.trans (hb.mono h.low.size), (h.nx.keep hb).less (fun i hi e => by have := hb.size; rcases e with e | e | e; exact .inl e; exact .inr (.inl e); exact .inr (.inr (by omega))), (h.af.keep hb).less (fun i hi e => by have := hb.size; rcases e with e | e | e; exact .inl e; exact .inr (.inl e); exact .inr (.inr (by omega))), h.ap⟩
/-- one list more -/
theorem LvS.pushX (h : LvS W0 W X n c vs xs Y m d us ys)
    (hown : OwnE (Enc.sl Enc.int) 22 W0.heap.size (fun b => (blkA X = some b ∨ blkA Y = some b ∨ W.heap.size ≤ b) ∨ W.heap.size ≤ b) W' X' (n + 1) c' (vs ++ zs) (xs ++ [x])) (hch : Chg (fun b => blkA X = some b) W W') (hat : blkA X' = blkA X ∨ blkA X' = some (W.heap.size + 1)) :
    LvS W0 W' X' (n + 1) c' (vs ++ zs) (xs ++ [x]) Y m d us ys := by
  have hX : ∀ r, blkA X = some r → W0.heap.size ≤ r := fun r hr => (h.nx.base hr).1
  have hsz := h.low.size
  have hs2 := hch.size
  have hm : ∀ i, i < W'.heap.size → blkA X' = some i → blkA X = some i ∨ W.heap.size ≤ i := fun i hi e => by
    rcases hat with a | a
    · exact .inl (by rw [← a]; exact e)
    · rw [a] at e
      injection e with e
      exact .inr (by omega)
  refine ⟨h.low.trans (hch.below hX hsz), hown.less (fun i hi e => ?_), (h.af.chg hch (fun i e => .inl e) (fun r hr e => h.ap r e hr)).less (fun i hi e => ?_), fun r hr e => ?_⟩
  · rcases e with e | e | e
    · rcases hm i hi e with e | e
      · exact .inl (.inl e)
      · exact .inr e
    · exact .inl (.inr (.inl e))
    · omega
  · rcases e with e | e | e
    · rcases hm i hi e with e | e
      · exact .inl e
      · exact .inr (.inr e)
    · exact .inr (.inl e)
    · omega
  · have hl := (h.af.base e).2
    rcases hm r (by omega) hr with e2 | e2
    · exact h.ap r e2 e
    · omega
/-- one state more -/
theorem LvS.pushY (h : LvS W0 W X n c vs xs Y m d us ys)
    (hown : OwnE (Enc.sl Enc.int) 22 W0.heap.size (fun b => (blkA X = some b ∨ blkA Y = some b ∨ W.heap.size ≤ b) ∨ W.heap.size ≤ b) W' Y' (m + 1) d' (us ++ zs) (ys ++ [x])) (hch : Chg (fun b => blkA Y = some b) W W') (hat : blkA Y' = blkA Y ∨ blkA Y' = some (W.heap.size + 1)) :
    LvS W0 W' X n c vs xs Y' (m + 1) d' (us ++ zs) (ys ++ [x]) := by
  have hY : ∀ r, blkA Y = some r → W0.heap.size ≤ r := fun r hr => (h.af.base hr).1
  have hsz := h.low.size
  have hs2 := hch.size
  have hm : ∀ i, blkA Y' = some i → blkA Y = some i ∨ W.heap.size ≤ i := fun i e => by
    rcases hat with a | a
    · exact .inl (by rw [← a]; exact e)
    · rw [a] at e
      injection e with e
      exact .inr (by omega)
  refine ⟨h.low.trans (hch.below hY hsz), (h.nx.chg hch (fun i e => .inr (.inl e)) (fun r hr e => h.ap r hr e)).less (fun i hi e => ?_), hown.less (fun i hi e => ?_), fun r hr e => ?_⟩
  · rcases e with e | e | e
    · exact .inl e
    · rcases hm i e with e | e
      · exact .inr (.inl e)
      · exact .inr (.inr e)
    · omega
  · rcases e with e | e | e
    · exact .inl (.inl e)
    · rcases hm i e with e | e
      · exact .inl (.inr (.inl e))
      · exact .inr e
    · omega
  · have hl := (h.nx.base hr).2
    rcases hm r e with e2 | e2
    · exact h.ap r hr e2
    · omega
end
/-- a row of the call's own, as a row that can grow -/
theorem rowI_of {B : Nat} {w : World} {A : Option Addr} {k e : Nat} {l : List Int} (hrow : w.ownsRow B 3 1 (.slice A k e) k (l.map (Value.int .i64))) (hl : l.length = k) (hr : ∀ x ∈ l, -9223372036854775808 ≤ x ∧ x ≤ 9223372036854775807) : RowI B w A k e l :=
  ⟨_, hrow, hl, fun i x hx => ⟨[.int .i64 x], fun j v hj => by
    cases j with
    | zero =>
      simp only [List.getElem?_cons_zero, Option.some.injEq] at hj
      subst hj
      simp only [Enc.int, Nat.mul_one, Nat.add_zero, List.getElem?_map, hx, Option.map_some]
    | succ j => simp at hj, firm_int (hr x (List.mem_of_getElem? hx)).1 (hr x (List.mem_of_getElem? hx)).2⟩⟩
/-- a row of ints of the call's own, made behind all else, reads so whatever happens to the rows that grow -/
theorem LvS.firm {W0 W : World} {X Y : Option Addr} {n c m d : Nat} {vs us : List Value} {xs ys : List (List Int)} (h : LvS W0 W X n c vs xs Y m d us ys) {W' : World} {A : Option Addr} {k e : Nat} {l : List Int}
    (hrow : RowI W.heap.size W' A k e l) :
    Firm (Enc.sl Enc.int) (fun b => blkA X = some b ∨ blkA Y = some b ∨ W'.heap.size ≤ b) W' [.slice A k e] l :=
  fun w' hc => ⟨A, k, e, rfl, (hrow.chg hc (fun r hr e2 => by
    obtain ⟨h1, h2⟩ := hrow.base hr
    rcases e2 with e2 | e2 | e2
    · have := (h.nx.base e2).2; omega
    · have := (h.af.base e2).2; omega
    · omega)).rd⟩
end Go.Proofs.YtmjiiddncbhgpaaGreat
namespace Go.Proofs.YtmjiiddncbhgpaaGreat
set_option linter.unusedVariables false
set_option linter.unusedSimpArgs false
open Go.RowKit
/-- an invariant of a loop: what the place, the known spans and the mark say -/
structure LpI (P : Nat → Option Addr → Nat → Nat → List Spn → Bool → World → Prop) (kv av iv : Value) (wr : World) : Prop where
  ex : ∃ (q : Nat) (Kn : Option Addr) (m kc : Nat) (kn : List Spn) (ag : Bool), iv = .int .i64 q ∧ kv = .slice Kn m kc ∧ av = .bool ag ∧ P q Kn m kc kn ag wr
set_option maxRecDepth 100000 in
set_option maxHeartbeats 25600000 in
theorem Refines_ct (b : HA) (h : Hy) (N KK : Nat) (hok : OkH h N KK) (A : Option Addr) (n c : Nat) (plan : List Int) (w : World) (hh : HyR w b h) (hp : Rd Enc.int w A n c plan) (hn : n ≤ 100) (hx : ∀ x ∈ plan, (0 : Int) ≤ x ∧ x < h.T.ops.length) :
    Calls Tryz.prog 27 #[.agg #[.int .i64 h.T.facts, .slice b.a.I b.a.nI b.a.cI, .slice b.a.G b.a.nG b.a.cG, .slice b.a.O b.a.nO b.a.cO, .int .i64 h.tasks, .slice b.M b.nM b.cM, .slice b.L b.nL b.cL], .slice A n c] w (RefQ w h plan) := by
  have happ := fun B m d l q W h2 hl hq => RApplies_ct b.a h.T B m d l q W h2 hl hq
  have haft := fun B m d l q W hh hl hq => RAfter_ct b.a h.T N B m d l q W hh hok.task.facts (by have := hok.task.low; omega) hl hq
  have hon := hh.task.ops.low
  have hol := hh.task.ops.len
  have hml := hh.ms.len
  have hmw := hh.ms.low
  obtain ⟨i1, hi1, hy0, hy1, hy2⟩ := info_parts rowInfoHI
  obtain ⟨⟨I, nI, cI, G, nG, cG, O, nO, cO⟩, M, nM, cM, L, nL, cL⟩ := b
  obtain ⟨T, K, ms, li⟩ := h
  try simp only at happ haft hon hol hml hmw hx ⊢
  have hset := hok.task.init
  have hN := hok.task.low
  have hop := hok.task.ops
  have Happ := hide happ
  have Haft := hide haft
  have Hol := hide hol
  have Hml := hide hml
  have Hset := hide hset
  have Hop := hide hop
  have Hx := hide hx
  have HH := hide hh
  have HP := hide hp
  have Hpl := hide hp.len
  have Hok := hide hok
  have hpw := hp.low
  clear happ haft hol hml hset hop hx hh hp hok
  go_enter Tryz.func27, Tryz.ntmps27
  go_upto_region 1 with (fail)
  have hT := Blk.new w 50 [.int .i64 T.facts, .slice I nI cI, .slice G nG cG, .slice O nO cO, .int .i64 K, .slice M nM cM, .slice L nL cL]
  have hb0 := (Below.refl w.heap.size w).alloc (Nat.le_refl _) (.cells #[.int .i64 T.facts, .slice I nI cI, .slice G nG cG, .slice O nO cO, .int .i64 K, .slice M nM cM, .slice L nL cL] 50)
  have hz0 : (w.alloc (.cells #[.int .i64 T.facts, .slice I nI cI, .slice G nG cG, .slice O nO cO, .int .i64 K, .slice M nM cM, .slice L nL cL] 50)).heap.size = w.heap.size + 1 := by simp only [World.size_alloc]
  obtain ⟨W0, hW0⟩ : ∃ W0, W0 = w.alloc (.cells #[.int .i64 T.facts, .slice I nI cI, .slice G nG cG, .slice O nO cO, .int .i64 K, .slice M nM cM, .slice L nL cL] 50) := ⟨_, rfl⟩
  rw [← hW0] at hT hb0 hz0 ⊢
  clear hW0
  have t0 := hT.cell 0
  have t1 := hT.cell 1
  have tl := hT.lt
  simp only [List.getElem?_cons_zero, List.getElem?_cons_succ] at t0 t1
  have hM : ∀ W, Below W0.heap.size W0 W → Firm (Enc.sl Enc.int) (fun b => W0.heap.size ≤ b) W [.slice I nI cI] T.init := fun W hb => firm_old (w0 := w) (E := Enc.sl Enc.int) ⟨I, nI, cI, rfl, HH.out.task.init⟩ (hb0.trans (hb.mono (by omega))) (fun i hi => by omega)
  have ho := own_oneH (t := 22) hM
  have hb1 := (Below.refl W0.heap.size W0).alloc (Nat.le_refl _) (.cells #[.slice I nI cI] 22)
  have hz1 : (W0.alloc (.cells #[.slice I nI cI] 22)).heap.size = w.heap.size + 1 + 1 := by simp only [World.size_alloc, hz0]
  have HT := hide hT
  have Hb0 := hide hb0
  have Hz0 := hide hz0
  rw [hz0] at ho
  have Ho := hide ho
  clear hT hb0 ho hM
  go_upto_region 2 with (fail)
  obtain ⟨W1, hW1⟩ : ∃ W1, W1 = W0.alloc (.cells #[.slice I nI cI] 22) := ⟨_, rfl⟩
  rw [← hW1] at hb1 hz1 Ho ⊢
  clear hW1
  have hb01 := Hb0.out.trans (hb1.mono (by omega))
  have hS : RfH w W1 w.heap.size [.int .i64 T.facts, .slice I nI cI, .slice G nG cG, .slice O nO cO, .int .i64 K, .slice M nM cM, .slice L nL cL] (w.heap.size + 1) (some ⟨w.heap.size + 1, 0, none⟩) 1 1 [.slice I nI cI] [T.init] := by
    have hlt : ∀ r, blkA (some (⟨w.heap.size + 1, 0, none⟩ : Addr)) = some r → w.heap.size + 1 = r := fun r hr => by simpa [blkA] using hr
    refine ⟨hb01, HT.out.keep hb1, Ho.out.less (fun i hi e => ?_), Nat.le_refl _, by omega, by omega⟩
    have := Hz0.out
    rcases e with e | e
    · have := hlt i e; omega
    · omega
  have HS := hide hS
  have hz0 := Hz0.out
  rw [hz0] at tl
  clear hS hz1 hz0 hb1 hb01 Ho HT Hb0 Hz0 t0 t1 tl
  generalize hB1 : w.heap.size + 1 = B1 at HS ⊢
  generalize hgT : w.heap.size = gT at HS ⊢
  have HgT := hide hgT
  clear hB1 hgT
  go_wp2_with fail
  go_loopw [5, 6] (fun sv iv wr => ∃ (i ns : Nat) (S : Option Addr) (oc : Nat) (vs : List Value) (outs : List (List Int)) (s : List Int), iv = .int .i64 i ∧ sv = .slice S ns oc ∧ ns = i + 1 ∧ i ≤ n ∧
      RfH w wr gT [.int .i64 T.facts, .slice I nI cI, .slice G nG cG, .slice O nO cO, .int .i64 K, .slice M nM cM, .slice L nL cL] B1 S ns oc vs outs ∧ RunAt T.ops T.init plan i outs s ∧ setB N s = true) (fun _ iv _ => n - (intOf iv).toNat)
  case atStart => exact ⟨0, 1, _, 1, _, _, _, rfl, rfl, rfl, by omega, HS.out, RunAt.start _ _ _, Hset.out⟩
  case round =>
    obtain ⟨i, ns, S, oc, vs, outs, s, rfl, rfl, hns, hin, hS, hrun, hs⟩ := hrel
    have Hns := hide hns
    clear HS
    have HS := hide hS
    have Hrun := hide hrun
    have Hs := hide hs
    clear hS hrun hs
    have t0 := HS.out.par.cell 0
    have t1 := HS.out.par.cell 1
    have t2 := HS.out.par.cell 2
    have t3 := HS.out.par.cell 3
    have t4 := HS.out.par.cell 4
    have t5 := HS.out.par.cell 5
    have t6 := HS.out.par.cell 6
    have tl := HS.out.par.lt
    simp only [List.getElem?_cons_zero, List.getElem?_cons_succ] at t0 t1 t2 t3 t4 t5 t6

    by_cases hlt : i < n
    · obtain ⟨b1, o1, si', A1, n1, c1, e1, hx1, hcx, hrd⟩ := HS.out.out.rd.sl (show i < ns by omega)
      obtain rfl : s = si' := Option.some.inj (Hrun.out.last.symm.trans hx1)
      have hbO : blkA S = some b1 := by rw [e1]; rfl
      obtain ⟨b2, o2, x, e2, hx2, _, _, hpx⟩ := (HP.out.keep HS.out.low).int hlt
      have hxr := Hx.out x (List.mem_of_getElem? hx2)
      have hHP0 : ∀ W, Below w.heap.size w W → W.cell? ⟨b2, o2 + i, none⟩ = some (.int .i64 x) := fun W hb => by
        obtain ⟨b9, o9, x9, e9, hx9, _, _, hp9⟩ := (HP.out.keep hb).int hlt
        rw [e2] at e9
        injection e9 with e9
        injection e9 with e9 e10
        subst e9 e10
        rw [hx2] at hx9
        injection hx9 with hx9
        rw [hx9]
        exact hp9
      obtain ⟨q, rfl⟩ : ∃ q : Nat, x = (q : Int) := ⟨x.toNat, by omega⟩
      have hql : q < T.ops.length := by omega
      have hqO : q < nO := by rw [← Hol.out]; exact hql
      have hoq : T.ops[q]? = some (opAt T.ops q) := by
        rw [opAt_eq (List.getElem?_eq_getElem hql)]
        exact List.getElem?_eq_getElem hql
      have hop := Hop.out _ (List.mem_of_getElem? hoq)
      have Hrd := hide hrd
      have HX2 := hide hx2
      have Hopq := hide hop
      subst e1 e2
      have Hcx := hide hcx
      have Hpx := hide hpx
      clear hx1 hrd hx2 hop hoq hxr
      have hini : ((i : Nat) : Int) < (n : Int) := by omega
      have hini2 : ((i : Nat) : Int) < (ns : Int) := by omega
      have hns2 : ns ≤ 101 := by omega
      clear hns
      go_upto_region 5 with (fail)
      go_still_tail 10, (by kernel_rfl)
      change wpList _ _ _ _ _ wr.drew
      obtain ⟨w5, hW⟩ : ∃ W, W = wr.drew := ⟨_, rfl⟩
      have hb : Below wr.heap.size wr w5 := by rw [hW]; exact (Below.refl _ _).drew
      rw [← hW]
      clear hW
      clear t0 t1 t2 t3 t4 t5 t6 tl
      replace HS := hide (HS.out.keep hb)
      replace Hrd := hide (Hrd.out.keep hb)
      replace Hcx := hide (cellOf_lowH hb Hcx.out)
      replace Hpx := hide (cellOf_lowH hb Hpx.out)
      clear hb hcx hpx
      have hcx := Hcx.out
      have hpx := Hpx.out
      have t0 := HS.out.par.cell 0
      have t1 := HS.out.par.cell 1
      have t2 := HS.out.par.cell 2
      have t3 := HS.out.par.cell 3
      have t4 := HS.out.par.cell 4
      have t5 := HS.out.par.cell 5
      have t6 := HS.out.par.cell 6
      have tl := HS.out.par.lt
      simp only [List.getElem?_cons_zero, List.getElem?_cons_succ] at t0 t1 t2 t3 t4 t5 t6

      have hct := Happ.out A1 n1 c1 s q w5 (HH.out.task.keep HS.out.low) Hrd.out hqO
      obtain ⟨v1, hv1⟩ : ∃ z, z = subsetB (opAt T.ops q).pre s := ⟨_, rfl⟩
      rw [← hv1] at hct
      have Hv1 := hide hv1
      have Hct := hide hct
      clear hv1 hct
      go_wp2_with fail
      with_reducible refine Hct.out.mono ?_
      rintro e w6 ⟨rfl, hb⟩
      clear Hct
      clear t0 t1 t2 t3 t4 t5 t6 tl
      replace HS := hide (HS.out.keep hb)
      replace Hrd := hide (Hrd.out.keep hb)
      replace Hcx := hide (cellOf_lowH hb Hcx.out)
      replace Hpx := hide (cellOf_lowH hb Hpx.out)
      clear hb hcx hpx
      have hcx := Hcx.out
      have hpx := Hpx.out
      have t0 := HS.out.par.cell 0
      have t1 := HS.out.par.cell 1
      have t2 := HS.out.par.cell 2
      have t3 := HS.out.par.cell 3
      have t4 := HS.out.par.cell 4
      have t5 := HS.out.par.cell 5
      have t6 := HS.out.par.cell 6
      have tl := HS.out.par.lt
      simp only [List.getElem?_cons_zero, List.getElem?_cons_succ] at t0 t1 t2 t3 t4 t5 t6

      cases v1 with
      | false =>
        have hstop := Hrun.out.stop HX2.out Hv1.out.symm
        have Hstop := hide hstop
        clear hstop
        go_wp2_with fail
        go_ret
        exact ⟨HS.out.low, false, rfl, fun hf => (by cases hf), fun hr => absurd hr.1 Hstop.out⟩
      | true =>
        go_upto_region 7 with (fail)
        refine wp_region_held_drew (S := (fun w7 => w7.cell? ⟨gT, 0, none⟩ = some (.int .i64 T.facts) ∧ w7.cell? ⟨gT, 1, none⟩ = some (.slice I nI cI) ∧ w7.cell? ⟨gT, 2, none⟩ = some (.slice G nG cG) ∧ w7.cell? ⟨gT, 3, none⟩ = some (.slice O nO cO) ∧ w7.cell? ⟨b2, o2 + i, none⟩ = some (.int .i64 q))) (by kernel_rfl) ?_ (fun hHeld => ?_)
        · (try dsimp only); exact ⟨t0, t1, t2, t3, hpx⟩
        obtain ⟨w7, hW⟩ : ∃ W, W = w6.drew := ⟨_, rfl⟩
        have hb : Below w6.heap.size w6 w7 := by rw [hW]; exact (Below.refl _ _).drew
        rw [← hW] at hHeld ⊢
        clear hW
        clear t0 t1 t2 t3 t4 t5 t6 tl
        replace HS := hide (HS.out.keep hb)
        replace Hrd := hide (Hrd.out.keep hb)
        replace Hcx := hide (cellOf_lowH hb Hcx.out)
        replace Hpx := hide (cellOf_lowH hb Hpx.out)
        clear hb hcx hpx
        have hcx := Hcx.out
        have hpx := Hpx.out
        have t0 := HS.out.par.cell 0
        have t1 := HS.out.par.cell 1
        have t2 := HS.out.par.cell 2
        have t3 := HS.out.par.cell 3
        have t4 := HS.out.par.cell 4
        have t5 := HS.out.par.cell 5
        have t6 := HS.out.par.cell 6
        have tl := HS.out.par.lt
        simp only [List.getElem?_cons_zero, List.getElem?_cons_succ] at t0 t1 t2 t3 t4 t5 t6

        refine takeC (i := 0) (v := ?_) (some 35) rfl rfl (by kernel_rfl) (by kernel_rfl) (by kernel_rfl) (fun _ _ _ h => h) (Or.inl ⟨by rfl, ?_⟩) (by assumption) ?_
        rotate_left
        · intro w hSw; (try dsimp only at hSw); obtain ⟨s1, s2, s3, s4, s5⟩ := hSw; first | (go_simp; done) | (go_simp; with_reducible rfl)
        try simp only [Act.put, List.setIfInBounds_toArray, List.set_cons_zero, List.set_cons_succ]
        refine takeC (i := 1) (v := ?_) (some 36) rfl rfl (by kernel_rfl) (by kernel_rfl) (by kernel_rfl) (fun _ _ _ h => h) (Or.inl ⟨by rfl, ?_⟩) (by assumption) ?_
        rotate_left
        · intro w hSw; (try dsimp only at hSw); obtain ⟨s1, s2, s3, s4, s5⟩ := hSw; first | (go_simp; done) | (go_simp; with_reducible rfl)
        try simp only [Act.put, List.setIfInBounds_toArray, List.set_cons_zero, List.set_cons_succ]
        refine takeC (i := 2) (v := ?_) (some 37) rfl rfl (by kernel_rfl) (by kernel_rfl) (by kernel_rfl) (fun _ _ _ h => h) (Or.inl ⟨by rfl, ?_⟩) (by assumption) ?_
        rotate_left
        · intro w hSw; (try dsimp only at hSw); obtain ⟨s1, s2, s3, s4, s5⟩ := hSw; first | (go_simp; done) | (go_simp; with_reducible rfl)
        try simp only [Act.put, List.setIfInBounds_toArray, List.set_cons_zero, List.set_cons_succ]
        refine takeC (i := 3) (v := ?_) (some 38) rfl rfl (by kernel_rfl) (by kernel_rfl) (by kernel_rfl) (fun _ _ _ h => h) (Or.inl ⟨by rfl, ?_⟩) (by assumption) ?_
        rotate_left
        · intro w hSw; (try dsimp only at hSw); obtain ⟨s1, s2, s3, s4, s5⟩ := hSw; first | (go_simp; done) | (go_simp; with_reducible rfl)
        try simp only [Act.put, List.setIfInBounds_toArray, List.set_cons_zero, List.set_cons_succ]
        refine takeC (i := 4) (v := ?_) (some 39) rfl rfl (by kernel_rfl) (by kernel_rfl) (by kernel_rfl) (fun _ _ _ h => h) (Or.inl ⟨by rfl, ?_⟩) (by assumption) ?_
        rotate_left
        · intro w hSw; (try dsimp only at hSw); obtain ⟨s1, s2, s3, s4, s5⟩ := hSw; first | (go_simp; done) | (go_simp; with_reducible rfl)
        try simp only [Act.put, List.setIfInBounds_toArray, List.set_cons_zero, List.set_cons_succ]
        refine takeC (i := 5) (v := ?_) (some 40) rfl rfl (by kernel_rfl) (by kernel_rfl) (by kernel_rfl) (fun _ _ _ h => h) (Or.inl ⟨by rfl, ?_⟩) (by assumption) ?_
        rotate_left
        · intro w hSw; (try dsimp only at hSw); obtain ⟨s1, s2, s3, s4, s5⟩ := hSw; first | (go_simp; done) | (go_simp; with_reducible rfl)
        try simp only [Act.put, List.setIfInBounds_toArray, List.set_cons_zero, List.set_cons_succ]
        refine takeC (i := 7) (v := ?_) (some 42) rfl rfl (by kernel_rfl) (by kernel_rfl) (by kernel_rfl) (fun _ _ _ h => h) (Or.inl ⟨by rfl, ?_⟩) (by assumption) ?_
        rotate_left
        · intro w hSw; (try dsimp only at hSw); obtain ⟨s1, s2, s3, s4, s5⟩ := hSw; first | (go_simp; done) | (go_simp; with_reducible rfl)
        try simp only [Act.put, List.setIfInBounds_toArray, List.set_cons_zero, List.set_cons_succ]
        refine takeC (i := 8) (v := ?_) (some 43) rfl rfl (by kernel_rfl) (by kernel_rfl) (by kernel_rfl) (fun _ _ _ h => h) (Or.inl ⟨by rfl, ?_⟩) (by assumption) ?_
        rotate_left
        · intro w hSw; (try dsimp only at hSw); obtain ⟨s1, s2, s3, s4, s5⟩ := hSw; first | (go_simp; done) | (go_simp; with_reducible rfl)
        try simp only [Act.put, List.setIfInBounds_toArray, List.set_cons_zero, List.set_cons_succ]
        refine takeC (i := 9) (v := ?_) (some 44) rfl rfl (by kernel_rfl) (by kernel_rfl) (by kernel_rfl) (fun _ _ _ h => h) (Or.inl ⟨by rfl, ?_⟩) (by assumption) ?_
        rotate_left
        · intro w hSw; (try dsimp only at hSw); obtain ⟨s1, s2, s3, s4, s5⟩ := hSw; first | (go_simp; done) | (go_simp; with_reducible rfl)
        try simp only [Act.put, List.setIfInBounds_toArray, List.set_cons_zero, List.set_cons_succ]
        refine takeC (i := 10) (v := ?_) (some 45) rfl rfl (by kernel_rfl) (by kernel_rfl) (by kernel_rfl) (fun _ _ _ h => h) (Or.inl ⟨by rfl, ?_⟩) (by assumption) ?_
        rotate_left
        · intro w hSw; (try dsimp only at hSw); obtain ⟨s1, s2, s3, s4, s5⟩ := hSw; first | (go_simp; done) | (go_simp; with_reducible rfl)
        try simp only [Act.put, List.setIfInBounds_toArray, List.set_cons_zero, List.set_cons_succ]
        refine wpAnyH_ready (rs := [6]) (by kernel_rfl) (by simp) ?_
        refine AllReadyH.cons rfl (fun K hK => ?_) AllReadyH.nil
        go_simp
        refine hK.out _ _ ?_ (fun hHeld2 => ?_)
        · (try dsimp only); exact ⟨t0, t1, t2, t3, hpx⟩
        clear hK K hHeld
        try simp only [Act.put, List.setIfInBounds_toArray, List.set_cons_zero, List.set_cons_succ]
        have hHeld := hHeld2; clear hHeld2
        have hct := Haft.out A1 n1 c1 s q w7 (HH.out.task.keep HS.out.low) Hrd.out hqO
        rw [aftR_upd Hopq.out Hs.out] at hct
        have Hct := hide hct
        clear hct
        refine wpAnyH_ready (rs := [11]) (by kernel_rfl) (by simp) ?_
        refine AllReadyH.cons rfl (fun K2 hK => ?_) AllReadyH.nil
        go_simp
        with_reducible refine Hct.out.mono ?_
        rintro e w8 ⟨hb, A2, c2, rfl, hown⟩
        have hO8 : ∀ r, blkA A2 = some r → w7.heap.size ≤ r := fun r hr => own_base hown (by rw [own_blkA]; exact hr)
        have hOl : ∀ r, blkA (some (⟨b1, o1, none⟩ : Addr)) = some r → r < w7.heap.size := fun r hr => (HS.out.out.base hr).2
        clear Hct
        clear t0 t1 t2 t3 t4 t5 t6 tl
        replace HS := hide (HS.out.keep hb)
        replace Hrd := hide (Hrd.out.keep hb)
        replace Hcx := hide (cellOf_lowH hb Hcx.out)
        replace Hpx := hide (cellOf_lowH hb Hpx.out)
        clear hb hcx hpx
        have hcx := Hcx.out
        have hpx := Hpx.out
        have t0 := HS.out.par.cell 0
        have t1 := HS.out.par.cell 1
        have t2 := HS.out.par.cell 2
        have t3 := HS.out.par.cell 3
        have t4 := HS.out.par.cell 4
        have t5 := HS.out.par.cell 5
        have t6 := HS.out.par.cell 6
        have tl := HS.out.par.lt
        simp only [List.getElem?_cons_zero, List.getElem?_cons_succ] at t0 t1 t2 t3 t4 t5 t6

        have hnx := upd_setH Hs.out Hopq.out
        have hrn := Hrun.out.next HX2.out Hv1.out.symm
        obtain ⟨nx, hnxe⟩ : ∃ nx, nx = updF s (opAt T.ops q).add (opAt T.ops q).del := ⟨_, rfl⟩
        rw [← hnxe] at hown hnx hrn ⊢
        have hni : ∀ x ∈ nx, -9223372036854775808 ≤ x ∧ x ≤ 9223372036854775807 := fun x hx => by
          have := (setB_iff.1 hnx).2 x hx
          omega
        have hfirm := firm_rowH (M := fun b => blkA (some (⟨b1, o1, none⟩ : Addr)) = some b ∨ w8.heap.size ≤ b) hown rfl hni (fun r hr e => by
          have h1 := hO8 r hr
          have h2 := (own_block hown (r := r) (by rw [own_blkA]; exact hr)).1
          rcases e with e | e
          · have := hOl r e; omega
          · omega)
        obtain ⟨ln, hln⟩ : ∃ ln, ln = nx.length := ⟨_, rfl⟩
        rw [← hln] at hfirm ⊢
        have Hnx := hide hnx
        have Hrn := hide hrn
        have Hfirm := hide hfirm
        clear hown hO8 hOl hnx hnxe hni hfirm hln hrn
        refine hK.out _ _ ?_ (fun hHeld2 => ?_)
        · (try dsimp only); exact ⟨t0, t1, t2, t3, hpx⟩
        clear hK K2 hHeld
        try simp only [Act.put, List.setIfInBounds_toArray, List.set_cons_zero, List.set_cons_succ]
        have hHeld := hHeld2; clear hHeld2
        refine wpAnyH_ready (rs := [12]) (by kernel_rfl) (by simp) ?_
        refine AllReadyH.cons rfl (fun K2 hK => ?_) AllReadyH.nil
        go_simp
        have hT8 := HS.out.par.alloc (.cells #[.slice A2 ln c2] 22)
        have hp8 : (w8.alloc (.cells #[.slice A2 ln c2] 22)).cell? ⟨b2, o2 + i, none⟩ = some (.int .i64 q) := cellOf_lowH ((Below.refl _ _).alloc (Nat.le_refl _) _) hpx
        refine hK.out _ _ ?_ (fun hHeld2 => ?_)
        · (try dsimp only); exact ⟨hT8.cell 0, hT8.cell 1, hT8.cell 2, hT8.cell 3, hp8⟩
        clear hK K2 hHeld hT8 hp8
        try simp only [Act.put, List.setIfInBounds_toArray, List.set_cons_zero, List.set_cons_succ]
        have hHeld := hHeld2; clear hHeld2
        refine wpAnyH_ready (rs := [13]) (by kernel_rfl) (by simp) ?_
        refine AllReadyH.cons rfl (fun K2 hK => ?_) AllReadyH.nil
        refine step_pushE (E := Enc.sl Enc.int) rfl _ _ 42 rfl B1 22 i1 (.slice none 0 0) 24 Tryz.underlying42 hi1 hy0 hy1 hy2 rfl (by decide) (A := some ⟨b1, o1, none⟩) (n := ns) (c := oc) (by first | rfl | (go_simp; done)) HS.out.out (fun r hr => .inl hr) [.slice A2 ln c2] nx (by intro u hu; simp at hu; subst hu; rfl) (by first | rfl | (go_simp; done)) Hfirm.out (by omega) (by omega) HS.out.g2 ?_
        intro O6 oc6 w9 hown6 hch6 hat6
        have hlow8 := HS.out.low
        have hp9 := (HP.out.keep hlow8)
        have HS9 := hide (HS.out.push hown6 hch6 hat6)
        have hpc := hHP0 w9 HS9.out.low
        have k0 := HS9.out.par.cell 0
        have k1 := HS9.out.par.cell 1
        have k2 := HS9.out.par.cell 2
        have k3 := HS9.out.par.cell 3
        simp only [List.getElem?_cons_zero, List.getElem?_cons_succ] at k0 k1 k2 k3
        refine hK.out _ _ ?_ (fun hHeld2 => ?_)
        · (try dsimp only); exact ⟨k0, k1, k2, k3, hpc⟩
        clear hK K2 hHeld hown6 hch6 hat6 hlow8 hp9 k0 k1 k2 k3 hpc
        try simp only [Act.put, List.setIfInBounds_toArray, List.set_cons_zero, List.set_cons_succ]
        have hHeld := hHeld2; clear hHeld2
        refine takeC (i := 14) (v := ?_) (some 5) rfl rfl (by kernel_rfl) (by kernel_rfl) (by kernel_rfl) (fun _ _ _ h => h) (Or.inl ⟨by rfl, ?_⟩) (by assumption) ?_
        rotate_left
        · intro w hSw; (try dsimp only at hSw); obtain ⟨s1, s2, s3, s4, s5⟩ := hSw; first | (go_simp; done) | (go_simp; with_reducible rfl)
        try simp only [Act.put, List.setIfInBounds_toArray, List.set_cons_zero, List.set_cons_succ]
        refine wpAnyH_done (by kernel_rfl) ?_ _
        go_wp2_with fail
        go_roundw
        case rel => exact ⟨i + 1, ns + 1, O6, oc6, _, _, _, by go_num, rfl, by have := Hns.out; omega, by omega, HS9.out, Hrn.out, Hnx.out⟩
        case measure => simp [intOf]; omega
    · obtain rfl : n = i := by omega
      have hrun := Hrun.out.done Hpl.out
      have Hrun2 := hide hrun
      have hlo := Hrun.out.len
      have Hlo := hide hlo
      clear hrun hlo
      clear hns
      obtain ⟨W1, rfl⟩ : ∃ V, V = wr := ⟨_, rfl⟩
      have HH1 := hide (HH.out.keep HS.out.low)
      have HP1 := hide (HP.out.keep HS.out.low)
      have HO := hide HS.out.out.rd
      have HB := hide HS.out.par
      have Hlow := hide HS.out.low
      obtain ⟨st, hst⟩ : ∃ st, st = stH T plan := ⟨_, rfl⟩
      have hste : ∀ (f : Nat) (s2 : List Int), outs[f]? = some s2 → st f = s2 := fun f s2 h2 => by rw [hst]; unfold stH; rw [Hrun2.out, h2]; rfl
      have Hst := hide hst
      have Hste := hide hste
      clear hst hste HS Hrun Hs
      have hkk : KK ≤ 16 := Hok.out.low
      clear t0 t1 t2 t3 t4 t5 t6 tl
      go_wp2_with fail
      obtain ⟨LIM, hLIM⟩ : ∃ z, z = KK * ((n + 1) * (n + 1)) := ⟨_, rfl⟩
      have HLIM := hide hLIM
      clear hLIM
      go_loopw [7, 8] (fun kv av wr => ∃ (Kn : Option Addr) (m kc : Nat) (kn : List Spn) (ag : Bool), kv = .slice Kn m kc ∧ av = .bool ag ∧ Below W1.heap.size W1 wr ∧ RowK W1.heap.size wr Kn m kc kn ∧ KnSp ms plan st KK n kn ∧ (ag = false → Quieted ms plan st n (knG kn) ms.length 0)) (fun kv av _ => bitV av + 2 * (LIM - lenSl kv))
      case atStart => exact ⟨none, 0, 0, [], true, rfl, rfl, Below.refl _ _, RowK.nil _ _, KnSp.nil, fun h2 => (by cases h2)⟩
      case round =>
        obtain ⟨Kn, m, kc, kn, ag, rfl, rfl, hb, hrow, hkn, hqu⟩ := hrel
        have Hb := hide hb
        have Hrow := hide hrow
        have Hkn := hide hkn
        clear hb hrow hkn

        cases ag with
        | false =>
          have hcl := (hqu rfl).done Hpl.out
          have Hcl := hide hcl
          clear hqu hcl
          have hdt := divides_ct kn plan nL wr Kn m kc A n c L cL li 0 n Hrow.out.rd (HP1.out.keep Hb.out) (HH1.out.keep Hb.out).list (by omega) (by omega) (Nat.le_refl _)
          obtain ⟨bb, hbb⟩ : ∃ z, z = divF kn plan li 0 n := ⟨_, rfl⟩
          have h00 : ((0 : Nat) : Int) = 0 := rfl
          rw [← hbb, h00] at hdt
          clear h00
          have Hbb := hide hbb
          have Hdt := hide hdt
          clear hbb hdt
          have t5 := (HB.out.keep Hb.out).cell 5
          have t6 := (HB.out.keep Hb.out).cell 6
          simp only [List.getElem?_cons_zero, List.getElem?_cons_succ] at t5 t6

          go_wp2_with fail
          with_reducible refine Hdt.out.mono ?_
          rintro e w2 ⟨rfl, hb⟩
          have Hb2 := hide hb
          clear hb t5 t6
          go_wp2_with fail
          go_ret
          refine ⟨Hlow.out.trans ((Hb.out.trans (Hb2.out.mono Hb.out.size)).mono Hlow.out.size), bb, rfl, ?_⟩
          have h1 := divF_chain Hpl.out Hkn.out.ok (l := li) (Nat.zero_le n) (Nat.le_refl n)
          have h2 := chain_iff Hkn.out.sound Hcl.out (l := li) (i := 0) (j := n) (Nat.zero_le _)
          rw [Hbb.out, h1, h2]
          unfold RefP
          simp only
          rw [Hrun2.out, ← Hst.out, Hpl.out]
          exact ⟨fun h3 => ⟨by rw [Hlo.out], h3⟩, fun h3 => h3.2⟩
        | true =>
          clear hqu
          obtain ⟨m0, kn0, hm0⟩ : ∃ (m0 : Nat) (kn0 : Nat), m0 = m := ⟨m, 0, rfl⟩
          have Hm0 := hide hm0
          clear hm0
          obtain ⟨wq, rfl⟩ : ∃ V, V = wr := ⟨_, rfl⟩
          go_wp2_with fail
          go_loopw [7, 8, 9] (LpI (fun q Kn m kc kn ag wr => q ≤ nM ∧ Below W1.heap.size W1 wr ∧ RowK W1.heap.size wr Kn m kc kn ∧ KnSp ms plan st KK n kn ∧ (ag = false → m = m0 ∧ Quieted ms plan st n (knG kn) q 0) ∧ (ag = true → m0 < m))) (fun _ _ iv _ => nM - (intOf iv).toNat)
          case atStart => exact ⟨⟨0, Kn, m, kc, kn, false, rfl, rfl, rfl, by omega, Hb.out, Hrow.out, Hkn.out, fun _ => ⟨Hm0.out.symm, Quieted.start⟩, fun h2 => (by cases h2)⟩⟩
          case round =>
            clear Hb Hrow Hkn
            obtain ⟨⟨q, Kn, m, kc, kn, ag, rfl, rfl, rfl, hq, hb, hrow, hkn, hfa, htr⟩⟩ := hrel
            have Hb := hide hb
            have Hrow := hide hrow
            have Hkn := hide hkn
            clear hb hrow hkn

            have Hfa := hide hfa
            have Htr := hide htr
            clear hfa htr
            obtain ⟨wu, rfl⟩ : ∃ V, V = wr := ⟨_, rfl⟩
            have t5 := (HB.out.keep Hb.out).cell 5
            have t6 := (HB.out.keep Hb.out).cell 6
            simp only [List.getElem?_cons_zero, List.getElem?_cons_succ] at t5 t6

            by_cases hlt : q < nM
            rotate_left
            · obtain rfl : q = nM := by omega
              have hlen := Hkn.out.len Hrow.out.len hkk hn
              rw [← HLIM.out] at hlen
              go_wp2_with fail
              go_roundw
              case rel => exact ⟨Kn, m, kc, kn, ag, rfl, rfl, Hb.out, Hrow.out, Hkn.out, fun h2 => by rw [Hml.out]; exact (Hfa.out h2).2⟩
              case measure =>
                cases ag with
                | false => have := (Hfa.out rfl).1; have := Hm0.out; simp [bitV, lenSl]; omega
                | true => have := Htr.out rfl; have := Hm0.out; simp [bitV, lenSl]; omega
            have hqi : (q : Int) < (nM : Int) := by omega
            obtain ⟨bM, oM, mm, A1, n1, c1, A2, n2, c2, rfl, hxm, y0, y1, y2, mt, r1, r2⟩ := HH1.out.ms.me hlt
            have hmem := List.mem_of_getElem? hxm
            have hmt := Hok.out.mt mm hmem
            simp only at hmt hxm
            obtain ⟨tk, htk⟩ : ∃ tk : Nat, mm.task = (tk : Int) := ⟨mm.task.toNat, by omega⟩
            rw [htk] at y0
            have Htk := hide htk
            have Y0 := hide y0
            have Y1 := hide y1
            have Y2 := hide y2
            have R1 := hide r1
            have R2' := hide r2
            have Hxm := hide hxm
            have Hmem := hide hmem
            have Hmt := hide hmt
            clear htk y0 y1 y2 r1 r2 hxm hmem hmt mt
            go_wp2_with fail
            clear t5 t6
            go_loopw [7, 8, 10] (LpI (fun f Kn m kc kn ag wr => f ≤ n + 1 ∧ Below W1.heap.size W1 wr ∧ RowK W1.heap.size wr Kn m kc kn ∧ KnSp ms plan st KK n kn ∧ (ag = false → m = m0 ∧ Quieted ms plan st n (knG kn) q f) ∧ (ag = true → m0 < m))) (fun _ _ fv _ => n + 1 - (intOf fv).toNat)
            case atStart => exact ⟨⟨0, Kn, m, kc, kn, ag, rfl, rfl, rfl, by omega, Hb.out, Hrow.out, Hkn.out, Hfa.out, Htr.out⟩⟩
            case round =>
              clear Hb Hrow Hkn Hfa Htr
              obtain ⟨⟨f, Kn, m, kc, kn, ag, rfl, rfl, rfl, hf, hb, hrow, hkn, hfa, htr⟩⟩ := hrel
              have Hb := hide hb
              have Hrow := hide hrow
              have Hkn := hide hkn
              clear hb hrow hkn

              have Hfa := hide hfa
              have Htr := hide htr
              clear hfa htr
              obtain ⟨wv, rfl⟩ : ∃ V, V = wr := ⟨_, rfl⟩
              by_cases hltf : f ≤ n
              rotate_left
              · obtain rfl : f = n + 1 := by omega
                have hnfi : ¬ (((n + 1 : Nat)) : Int) ≤ (n : Int) := by omega
                go_wp2_with fail
                go_roundw
                case rel => exact ⟨⟨q + 1, Kn, m, kc, kn, ag, by go_num, rfl, rfl, by omega, Hb.out, Hrow.out, Hkn.out, fun h2 => ⟨(Hfa.out h2).1, (Hfa.out h2).2.next⟩, Htr.out⟩⟩
                case measure => simp [intOf]; omega
              have hfi : (f : Int) ≤ (n : Int) := by omega
              obtain ⟨bS, oS, sf, A3, n3, c3, hSe, hxs, hcs, hrs⟩ := HO.out.sl (show f < ns by have := Hns.out; omega)
              have hsf := Hste.out f sf hxs
              have Hsf := hide hsf
              have Hcs := hide hcs
              have Hrs := hide hrs
              clear hsf hxs hcs hrs
              go_wp2_with fail
              go_loopw [7, 8, 11] (LpI (fun t Kn m kc kn ag wr => f ≤ t ∧ t ≤ n + 1 ∧ Below W1.heap.size W1 wr ∧ RowK W1.heap.size wr Kn m kc kn ∧ KnSp ms plan st KK n kn ∧ (ag = false → m = m0 ∧ Quieted ms plan st n (knG kn) q f ∧ ∀ j, f ≤ j → j < t → subsetB mm.pre (st f) = true → Chain plan (knG kn) mm.steps f j → knG kn mm.task.toNat f j) ∧ (ag = true → m0 < m))) (fun _ _ tv _ => n + 1 - (intOf tv).toNat)
              case atStart => exact ⟨⟨f, Kn, m, kc, kn, ag, rfl, rfl, rfl, Nat.le_refl _, by omega, Hb.out, Hrow.out, Hkn.out, fun h2 => ⟨(Hfa.out h2).1, (Hfa.out h2).2, fun j h3 h4 => by omega⟩, Htr.out⟩⟩
              case round =>
                clear Hb Hrow Hkn Hfa Htr
                obtain ⟨⟨t, Kn, m, kc, kn, ag, rfl, rfl, rfl, hft, ht, hb, hrow, hkn, hfa, htr⟩⟩ := hrel
                have Hb := hide hb
                have Hrow := hide hrow
                have Hkn := hide hkn
                clear hb hrow hkn

                have Hfa := hide hfa
                have Htr := hide htr
                clear hfa htr
                by_cases hltt : t ≤ n
                rotate_left
                · obtain rfl : t = n + 1 := by omega
                  have hnti : ¬ (((n + 1 : Nat)) : Int) ≤ (n : Int) := by omega
                  go_wp2_with fail
                  go_roundw
                  case rel => exact ⟨⟨f + 1, Kn, m, kc, kn, ag, by go_num, rfl, rfl, by omega, Hb.out, Hrow.out, Hkn.out, fun h2 => ⟨(Hfa.out h2).1, (Hfa.out h2).2.1.shut Hxm.out (fun t i j h3 => Hkn.out.ok.le _ h3) Hpl.out hltf (Hfa.out h2).2.2⟩, Htr.out⟩⟩
                  case measure => simp [intOf]; omega
                have hti : (t : Int) ≤ (n : Int) := by omega
                have t5 := (HB.out.keep Hb.out).cell 5
                have t6 := (HB.out.keep Hb.out).cell 6
                simp only [List.getElem?_cons_zero, List.getElem?_cons_succ] at t5 t6

                have y0 := cellOf_lowH Hb.out Y0.out
                have y1 := cellOf_lowH Hb.out Y1.out
                have y2 := cellOf_lowH Hb.out Y2.out
                have ys := cellOf_lowH Hb.out Hcs.out
                go_upto_region 22 with (fail)
                have hbA := (Below.refl wr.heap.size wr).alloc (Nat.le_refl _) (.cells #[.int .i64 (tk : Nat), .int .i64 (f : Nat), .int .i64 (t : Nat)] 122)
                have hX := Blk.new wr 122 [.int .i64 (tk : Nat), .int .i64 (f : Nat), .int .i64 (t : Nat)]
                obtain ⟨w21, hW⟩ : ∃ W, W = wr.alloc (.cells #[.int .i64 (tk : Nat), .int .i64 (f : Nat), .int .i64 (t : Nat)] 122) := ⟨_, rfl⟩
                rw [← hW] at hX hbA ⊢
                clear hW
                replace Hb := hide (Hb.out.trans (hbA.mono Hb.out.size))
                replace Hrow := hide (Hrow.out.keep hbA)
                have HX := hide hX
                clear hbA hX t5 t6 y0 y1 y2 ys
                generalize wr.heap.size = gx at HX ⊢
                have t5 := (HB.out.keep Hb.out).cell 5
                have x0 := HX.out.cell 0
                have x1 := HX.out.cell 1
                have x2 := HX.out.cell 2
                simp only [List.getElem?_cons_zero, List.getElem?_cons_succ] at t5 x0 x1 x2
                have y1 := cellOf_lowH Hb.out Y1.out
                have y2 := cellOf_lowH Hb.out Y2.out
                have ys := cellOf_lowH Hb.out Hcs.out
                have hfsi : (f : Int) < (ns : Int) := by have := Hns.out; omega
                obtain ⟨s, hs⟩ : ∃ z : Spn, z = ⟨tk, f, t⟩ := ⟨_, rfl⟩
                have Hs := hide hs
                clear hs
                have hXs := hide (fun W => spanIn_ct Kn m kc kn ⟨tk, f, t⟩ W)
                rcases hu : kn.contains ⟨tk, f, t⟩ with _ | _
                rotate_left
                · have hmem : knG kn mm.task.toNat f t := by
                    unfold knG
                    rw [Htk.out, Int.toNat_natCast]
                    exact List.contains_iff_mem.1 hu
                  have Hmem2 := hide hmem
                  have Hu := hide hu
                  clear hmem hu
                  refine wp_region_held_drew (S := (fun w22 => w22.cell? ⟨gT, 5, none⟩ = some (.slice (some ⟨bM, oM, none⟩) nM cM) ∧ w22.cell? ⟨gx, 0, none⟩ = some (.int .i64 (tk : Nat)) ∧ w22.cell? ⟨gx, 1, none⟩ = some (.int .i64 (f : Nat)) ∧ w22.cell? ⟨gx, 2, none⟩ = some (.int .i64 (t : Nat)) ∧ w22.cell? ⟨bM, oM + q * 3 + 1, none⟩ = some (.slice A1 n1 c1) ∧ w22.cell? ⟨bM, oM + q * 3 + 2, none⟩ = some (.slice A2 n2 c2) ∧ w22.cell? ⟨bS, oS + f, none⟩ = some (.slice A3 n3 c3))) (by kernel_rfl) ?_ (fun hHeld => ?_)
                  · (try dsimp only); exact ⟨t5, x0, x1, x2, y1, y2, ys⟩
                  obtain ⟨w22, hW⟩ : ∃ W, W = w21.drew := ⟨_, rfl⟩
                  have hb : Below w21.heap.size w21 w22 := by rw [hW]; exact (Below.refl _ _).drew
                  rw [← hW] at hHeld ⊢
                  clear hW
                  replace Hb := hide (Hb.out.trans (hb.mono Hb.out.size))
                  replace Hrow := hide (Hrow.out.keep hb)
                  replace HX := hide (HX.out.keep hb)
                  clear hb t5 x0 x1 x2 y1 y2 ys
                  have t5 := (HB.out.keep Hb.out).cell 5
                  have x0 := HX.out.cell 0
                  have x1 := HX.out.cell 1
                  have x2 := HX.out.cell 2
                  simp only [List.getElem?_cons_zero, List.getElem?_cons_succ] at t5 x0 x1 x2
                  have y1 := cellOf_lowH Hb.out Y1.out
                  have y2 := cellOf_lowH Hb.out Y2.out
                  have ys := cellOf_lowH Hb.out Hcs.out

                  refine takeC (i := 0) (v := ?_) (some 79) rfl rfl (by kernel_rfl) (by kernel_rfl) (by kernel_rfl) (fun _ _ _ h => h) (Or.inl ⟨by rfl, ?_⟩) (by assumption) ?_
                  rotate_left
                  · intro w hSw; (try dsimp only at hSw); obtain ⟨s1, s2, s3, s4, s5, s6, s7⟩ := hSw; first | (go_simp; done) | (go_simp; with_reducible rfl)
                  try simp only [Act.put, List.setIfInBounds_toArray, List.set_cons_zero, List.set_cons_succ]
                  refine takeC (i := 1) (v := ?_) (some 80) rfl rfl (by kernel_rfl) (by kernel_rfl) (by kernel_rfl) (fun _ _ _ h => h) (Or.inl ⟨by rfl, ?_⟩) (by assumption) ?_
                  rotate_left
                  · intro w hSw; (try dsimp only at hSw); obtain ⟨s1, s2, s3, s4, s5, s6, s7⟩ := hSw; first | (go_simp; done) | (go_simp; with_reducible rfl)
                  try simp only [Act.put, List.setIfInBounds_toArray, List.set_cons_zero, List.set_cons_succ]
                  have hsp := hXs.out w22 Hrow.out.rd
                  rw [Hu.out] at hsp
                  have Hsp := hide hsp
                  clear hsp
                  refine wpAnyH_ready (rs := [2]) (by kernel_rfl) (by simp) ?_
                  refine AllReadyH.cons rfl (fun K hK => ?_) AllReadyH.nil
                  go_simp
                  with_reducible refine Hsp.out.mono ?_
                  rintro e w23 ⟨rfl, hb⟩
                  replace Hb := hide (Hb.out.trans (hb.mono Hb.out.size))
                  replace Hrow := hide (Hrow.out.keep hb)
                  replace HX := hide (HX.out.keep hb)
                  clear hb t5 x0 x1 x2 y1 y2 ys
                  have t5 := (HB.out.keep Hb.out).cell 5
                  have x0 := HX.out.cell 0
                  have x1 := HX.out.cell 1
                  have x2 := HX.out.cell 2
                  simp only [List.getElem?_cons_zero, List.getElem?_cons_succ] at t5 x0 x1 x2
                  have y1 := cellOf_lowH Hb.out Y1.out
                  have y2 := cellOf_lowH Hb.out Y2.out
                  have ys := cellOf_lowH Hb.out Hcs.out
                  refine hK.out _ _ ?_ (fun hHeld2 => ?_)
                  · (try dsimp only); exact ⟨t5, x0, x1, x2, y1, y2, ys⟩
                  clear hK K hHeld
                  try simp only [Act.put, List.setIfInBounds_toArray, List.set_cons_zero, List.set_cons_succ]
                  have hHeld := hHeld2; clear hHeld2
                  refine takeC (i := 3) (v := ?_) (some 82) rfl rfl (by kernel_rfl) (by kernel_rfl) (by kernel_rfl) (fun _ _ _ h => h) (Or.inl ⟨by rfl, ?_⟩) (by assumption) ?_
                  rotate_left
                  · intro w hSw; (try dsimp only at hSw); obtain ⟨s1, s2, s3, s4, s5, s6, s7⟩ := hSw; first | (go_simp; done) | (go_simp; with_reducible rfl)
                  try simp only [Act.put, List.setIfInBounds_toArray, List.set_cons_zero, List.set_cons_succ]
                  refine takeC (i := 4) (v := ?_) (some 83) rfl rfl (by kernel_rfl) (by kernel_rfl) (by kernel_rfl) (fun _ _ _ h => h) (Or.inl ⟨by rfl, ?_⟩) (by assumption) ?_
                  rotate_left
                  · intro w hSw; (try dsimp only at hSw); obtain ⟨s1, s2, s3, s4, s5, s6, s7⟩ := hSw; first | (go_simp; done) | (go_simp; with_reducible rfl)
                  try simp only [Act.put, List.setIfInBounds_toArray, List.set_cons_zero, List.set_cons_succ]
                  refine takeC (i := 5) (v := undef) (some 84) rfl rfl (by kernel_rfl) (by kernel_rfl) (by kernel_rfl) (fun _ _ _ h => h) (Or.inr ⟨by rfl, rfl⟩) (by assumption) ?_
                  try simp only [Act.put, List.setIfInBounds_toArray, List.set_cons_zero, List.set_cons_succ]
                  refine takeC (i := 6) (v := undef) (some 85) rfl rfl (by kernel_rfl) (by kernel_rfl) (by kernel_rfl) (fun _ _ _ h => h) (Or.inr ⟨by rfl, rfl⟩) (by assumption) ?_
                  try simp only [Act.put, List.setIfInBounds_toArray, List.set_cons_zero, List.set_cons_succ]
                  refine takeC (i := 7) (v := undef) (some 86) rfl rfl (by kernel_rfl) (by kernel_rfl) (by kernel_rfl) (fun _ _ _ h => h) (Or.inr ⟨by rfl, rfl⟩) (by assumption) ?_
                  try simp only [Act.put, List.setIfInBounds_toArray, List.set_cons_zero, List.set_cons_succ]
                  refine takeC (i := 8) (v := undef) (some 87) rfl rfl (by kernel_rfl) (by kernel_rfl) (by kernel_rfl) (fun _ _ _ h => h) (Or.inr ⟨by rfl, rfl⟩) (by assumption) ?_
                  try simp only [Act.put, List.setIfInBounds_toArray, List.set_cons_zero, List.set_cons_succ]
                  refine takeC (i := 9) (v := undef) (some 88) rfl rfl (by kernel_rfl) (by kernel_rfl) (by kernel_rfl) (fun _ _ _ h => h) (Or.inr ⟨by rfl, rfl⟩) (by assumption) ?_
                  try simp only [Act.put, List.setIfInBounds_toArray, List.set_cons_zero, List.set_cons_succ]
                  refine takeC (i := 10) (v := undef) (some 89) rfl rfl (by kernel_rfl) (by kernel_rfl) (by kernel_rfl) (fun _ _ _ h => h) (Or.inr ⟨by rfl, rfl⟩) (by assumption) ?_
                  try simp only [Act.put, List.setIfInBounds_toArray, List.set_cons_zero, List.set_cons_succ]
                  refine takeC (i := 11) (v := undef) (some 90) rfl rfl (by kernel_rfl) (by kernel_rfl) (by kernel_rfl) (fun _ _ _ h => h) (Or.inr ⟨by rfl, rfl⟩) (by assumption) ?_
                  try simp only [Act.put, List.setIfInBounds_toArray, List.set_cons_zero, List.set_cons_succ]
                  refine takeC (i := 12) (v := undef) (some 91) rfl rfl (by kernel_rfl) (by kernel_rfl) (by kernel_rfl) (fun _ _ _ h => h) (Or.inr ⟨by rfl, rfl⟩) (by assumption) ?_
                  try simp only [Act.put, List.setIfInBounds_toArray, List.set_cons_zero, List.set_cons_succ]
                  refine takeC (i := 13) (v := undef) (some 92) rfl rfl (by kernel_rfl) (by kernel_rfl) (by kernel_rfl) (fun _ _ _ h => h) (Or.inr ⟨by rfl, rfl⟩) (by assumption) ?_
                  try simp only [Act.put, List.setIfInBounds_toArray, List.set_cons_zero, List.set_cons_succ]
                  refine takeC (i := 14) (v := undef) (some 93) rfl rfl (by kernel_rfl) (by kernel_rfl) (by kernel_rfl) (fun _ _ _ h => h) (Or.inr ⟨by rfl, rfl⟩) (by assumption) ?_
                  try simp only [Act.put, List.setIfInBounds_toArray, List.set_cons_zero, List.set_cons_succ]
                  refine takeC (i := 15) (v := undef) (some 94) rfl rfl (by kernel_rfl) (by kernel_rfl) (by kernel_rfl) (fun _ _ _ h => h) (Or.inr ⟨by rfl, rfl⟩) (by assumption) ?_
                  try simp only [Act.put, List.setIfInBounds_toArray, List.set_cons_zero, List.set_cons_succ]
                  refine takeC (i := 16) (v := ?_) (some 95) rfl rfl (by kernel_rfl) (by kernel_rfl) (by kernel_rfl) (fun _ _ _ h => h) (Or.inl ⟨by rfl, ?_⟩) (by assumption) ?_
                  rotate_left
                  · intro w hSw; (try dsimp only at hSw); obtain ⟨s1, s2, s3, s4, s5, s6, s7⟩ := hSw; first | (go_simp; done) | (go_simp; with_reducible rfl)
                  try simp only [Act.put, List.setIfInBounds_toArray, List.set_cons_zero, List.set_cons_succ]
                  refine takeC (i := 17) (v := ?_) (some 96) rfl rfl (by kernel_rfl) (by kernel_rfl) (by kernel_rfl) (fun _ _ _ h => h) (Or.inl ⟨by rfl, ?_⟩) (by assumption) ?_
                  rotate_left
                  · intro w hSw; (try dsimp only at hSw); obtain ⟨s1, s2, s3, s4, s5, s6, s7⟩ := hSw; first | (go_simp; done) | (go_simp; with_reducible rfl)
                  try simp only [Act.put, List.setIfInBounds_toArray, List.set_cons_zero, List.set_cons_succ]
                  refine takeC (i := 18) (v := undef) (some 97) rfl rfl (by kernel_rfl) (by kernel_rfl) (by kernel_rfl) (fun _ _ _ h => h) (Or.inr ⟨by rfl, rfl⟩) (by assumption) ?_
                  try simp only [Act.put, List.setIfInBounds_toArray, List.set_cons_zero, List.set_cons_succ]
                  refine takeC (i := 19) (v := undef) (some 98) rfl rfl (by kernel_rfl) (by kernel_rfl) (by kernel_rfl) (fun _ _ _ h => h) (Or.inr ⟨by rfl, rfl⟩) (by assumption) ?_
                  try simp only [Act.put, List.setIfInBounds_toArray, List.set_cons_zero, List.set_cons_succ]
                  refine takeC (i := 20) (v := undef) (some 99) rfl rfl (by kernel_rfl) (by kernel_rfl) (by kernel_rfl) (fun _ _ _ h => h) (Or.inr ⟨by rfl, rfl⟩) (by assumption) ?_
                  try simp only [Act.put, List.setIfInBounds_toArray, List.set_cons_zero, List.set_cons_succ]
                  refine takeC (i := 21) (v := undef) (some 100) rfl rfl (by kernel_rfl) (by kernel_rfl) (by kernel_rfl) (fun _ _ _ h => h) (Or.inr ⟨by rfl, rfl⟩) (by assumption) ?_
                  try simp only [Act.put, List.setIfInBounds_toArray, List.set_cons_zero, List.set_cons_succ]
                  refine takeC (i := 22) (v := undef) (some 101) rfl rfl (by kernel_rfl) (by kernel_rfl) (by kernel_rfl) (fun _ _ _ h => h) (Or.inr ⟨by rfl, rfl⟩) (by assumption) ?_
                  try simp only [Act.put, List.setIfInBounds_toArray, List.set_cons_zero, List.set_cons_succ]
                  refine takeC (i := 23) (v := undef) (some 102) rfl rfl (by kernel_rfl) (by kernel_rfl) (by kernel_rfl) (fun _ _ _ h => h) (Or.inr ⟨by rfl, rfl⟩) (by assumption) ?_
                  try simp only [Act.put, List.setIfInBounds_toArray, List.set_cons_zero, List.set_cons_succ]
                  refine takeC (i := 24) (v := undef) (some 103) rfl rfl (by kernel_rfl) (by kernel_rfl) (by kernel_rfl) (fun _ _ _ h => h) (Or.inr ⟨by rfl, rfl⟩) (by assumption) ?_
                  try simp only [Act.put, List.setIfInBounds_toArray, List.set_cons_zero, List.set_cons_succ]
                  refine takeC (i := 25) (v := undef) (some 104) rfl rfl (by kernel_rfl) (by kernel_rfl) (by kernel_rfl) (fun _ _ _ h => h) (Or.inr ⟨by rfl, rfl⟩) (by assumption) ?_
                  try simp only [Act.put, List.setIfInBounds_toArray, List.set_cons_zero, List.set_cons_succ]
                  refine takeC (i := 26) (v := undef) (some 105) rfl rfl (by kernel_rfl) (by kernel_rfl) (by kernel_rfl) (fun _ _ _ h => h) (Or.inr ⟨by rfl, rfl⟩) (by assumption) ?_
                  try simp only [Act.put, List.setIfInBounds_toArray, List.set_cons_zero, List.set_cons_succ]
                  refine takeC (i := 27) (v := undef) (some 106) rfl rfl (by kernel_rfl) (by kernel_rfl) (by kernel_rfl) (fun _ _ _ h => h) (Or.inr ⟨by rfl, rfl⟩) (by assumption) ?_
                  try simp only [Act.put, List.setIfInBounds_toArray, List.set_cons_zero, List.set_cons_succ]
                  refine takeC (i := 28) (v := undef) (some 107) rfl rfl (by kernel_rfl) (by kernel_rfl) (by kernel_rfl) (fun _ _ _ h => h) (Or.inr ⟨by rfl, rfl⟩) (by assumption) ?_
                  try simp only [Act.put, List.setIfInBounds_toArray, List.set_cons_zero, List.set_cons_succ]
                  refine takeC (i := 29) (v := ?_) (some 108) rfl rfl (by kernel_rfl) (by kernel_rfl) (by kernel_rfl) (fun _ _ _ h => h) (Or.inl ⟨by rfl, ?_⟩) (by assumption) ?_
                  rotate_left
                  · intro w hSw; (try dsimp only at hSw); obtain ⟨s1, s2, s3, s4, s5, s6, s7⟩ := hSw; first | (go_simp; done) | (go_simp; with_reducible rfl)
                  try simp only [Act.put, List.setIfInBounds_toArray, List.set_cons_zero, List.set_cons_succ]
                  refine wpAnyH_done (by kernel_rfl) ?_ _
                  go_wp2_with fail
                  go_roundw
                  case rel =>
                    first
                      | exact ⟨⟨t + 1, Kn, m, kc, kn, ag, by go_num, rfl, rfl, by omega, by omega, Hb.out, Hrow.out, Hkn.out, fun h2 => ⟨(Hfa.out h2).1, (Hfa.out h2).2.1, fun j h3 h4 h5 h6 => by
                    rcases Nat.lt_or_ge j t with h7 | h7
                    · exact (Hfa.out h2).2.2 j h3 h7 h5 h6
                    · obtain rfl : j = t := by omega
                      exact Hmem2.out⟩, Htr.out⟩⟩
                      | exact ⟨_, _, .int .i64 ((t + 1 : Nat) : Int), ⟨⟨t + 1, Kn, m, kc, kn, ag, rfl, rfl, rfl, by omega, by omega, Hb.out, Hrow.out, Hkn.out, fun h2 => ⟨(Hfa.out h2).1, (Hfa.out h2).2.1, fun j h3 h4 h5 h6 => by
                    rcases Nat.lt_or_ge j t with h7 | h7
                    · exact (Hfa.out h2).2.2 j h3 h7 h5 h6
                    · obtain rfl : j = t := by omega
                      exact Hmem2.out⟩, Htr.out⟩⟩, rfl, rfl, by go_num⟩
                  case measure => simp [intOf]; omega
                rcases hv : subsetB mm.pre sf with _ | _
                · have Hu := hide hu
                  have Hv := hide hv
                  clear hu hv
                  refine wp_region_held_drew (S := (fun w22 => w22.cell? ⟨gT, 5, none⟩ = some (.slice (some ⟨bM, oM, none⟩) nM cM) ∧ w22.cell? ⟨gx, 0, none⟩ = some (.int .i64 (tk : Nat)) ∧ w22.cell? ⟨gx, 1, none⟩ = some (.int .i64 (f : Nat)) ∧ w22.cell? ⟨gx, 2, none⟩ = some (.int .i64 (t : Nat)) ∧ w22.cell? ⟨bM, oM + q * 3 + 1, none⟩ = some (.slice A1 n1 c1) ∧ w22.cell? ⟨bM, oM + q * 3 + 2, none⟩ = some (.slice A2 n2 c2) ∧ w22.cell? ⟨bS, oS + f, none⟩ = some (.slice A3 n3 c3))) (by kernel_rfl) ?_ (fun hHeld => ?_)
                  · (try dsimp only); exact ⟨t5, x0, x1, x2, y1, y2, ys⟩
                  obtain ⟨w22, hW⟩ : ∃ W, W = w21.drew := ⟨_, rfl⟩
                  have hb : Below w21.heap.size w21 w22 := by rw [hW]; exact (Below.refl _ _).drew
                  rw [← hW] at hHeld ⊢
                  clear hW
                  replace Hb := hide (Hb.out.trans (hb.mono Hb.out.size))
                  replace Hrow := hide (Hrow.out.keep hb)
                  replace HX := hide (HX.out.keep hb)
                  clear hb t5 x0 x1 x2 y1 y2 ys
                  have t5 := (HB.out.keep Hb.out).cell 5
                  have x0 := HX.out.cell 0
                  have x1 := HX.out.cell 1
                  have x2 := HX.out.cell 2
                  simp only [List.getElem?_cons_zero, List.getElem?_cons_succ] at t5 x0 x1 x2
                  have y1 := cellOf_lowH Hb.out Y1.out
                  have y2 := cellOf_lowH Hb.out Y2.out
                  have ys := cellOf_lowH Hb.out Hcs.out

                  refine takeC (i := 0) (v := ?_) (some 79) rfl rfl (by kernel_rfl) (by kernel_rfl) (by kernel_rfl) (fun _ _ _ h => h) (Or.inl ⟨by rfl, ?_⟩) (by assumption) ?_
                  rotate_left
                  · intro w hSw; (try dsimp only at hSw); obtain ⟨s1, s2, s3, s4, s5, s6, s7⟩ := hSw; first | (go_simp; done) | (go_simp; with_reducible rfl)
                  try simp only [Act.put, List.setIfInBounds_toArray, List.set_cons_zero, List.set_cons_succ]
                  refine takeC (i := 1) (v := ?_) (some 80) rfl rfl (by kernel_rfl) (by kernel_rfl) (by kernel_rfl) (fun _ _ _ h => h) (Or.inl ⟨by rfl, ?_⟩) (by assumption) ?_
                  rotate_left
                  · intro w hSw; (try dsimp only at hSw); obtain ⟨s1, s2, s3, s4, s5, s6, s7⟩ := hSw; first | (go_simp; done) | (go_simp; with_reducible rfl)
                  try simp only [Act.put, List.setIfInBounds_toArray, List.set_cons_zero, List.set_cons_succ]
                  have hsp := hXs.out w22 Hrow.out.rd
                  rw [Hu.out] at hsp
                  have Hsp := hide hsp
                  clear hsp
                  refine wpAnyH_ready (rs := [2]) (by kernel_rfl) (by simp) ?_
                  refine AllReadyH.cons rfl (fun K hK => ?_) AllReadyH.nil
                  go_simp
                  with_reducible refine Hsp.out.mono ?_
                  rintro e w23 ⟨rfl, hb⟩
                  replace Hb := hide (Hb.out.trans (hb.mono Hb.out.size))
                  replace Hrow := hide (Hrow.out.keep hb)
                  replace HX := hide (HX.out.keep hb)
                  clear hb t5 x0 x1 x2 y1 y2 ys
                  have t5 := (HB.out.keep Hb.out).cell 5
                  have x0 := HX.out.cell 0
                  have x1 := HX.out.cell 1
                  have x2 := HX.out.cell 2
                  simp only [List.getElem?_cons_zero, List.getElem?_cons_succ] at t5 x0 x1 x2
                  have y1 := cellOf_lowH Hb.out Y1.out
                  have y2 := cellOf_lowH Hb.out Y2.out
                  have ys := cellOf_lowH Hb.out Hcs.out
                  refine hK.out _ _ ?_ (fun hHeld2 => ?_)
                  · (try dsimp only); exact ⟨t5, x0, x1, x2, y1, y2, ys⟩
                  clear hK K hHeld
                  try simp only [Act.put, List.setIfInBounds_toArray, List.set_cons_zero, List.set_cons_succ]
                  have hHeld := hHeld2; clear hHeld2
                  refine takeC (i := 3) (v := ?_) (some 82) rfl rfl (by kernel_rfl) (by kernel_rfl) (by kernel_rfl) (fun _ _ _ h => h) (Or.inl ⟨by rfl, ?_⟩) (by assumption) ?_
                  rotate_left
                  · intro w hSw; (try dsimp only at hSw); obtain ⟨s1, s2, s3, s4, s5, s6, s7⟩ := hSw; first | (go_simp; done) | (go_simp; with_reducible rfl)
                  try simp only [Act.put, List.setIfInBounds_toArray, List.set_cons_zero, List.set_cons_succ]
                  refine takeC (i := 4) (v := ?_) (some 83) rfl rfl (by kernel_rfl) (by kernel_rfl) (by kernel_rfl) (fun _ _ _ h => h) (Or.inl ⟨by rfl, ?_⟩) (by assumption) ?_
                  rotate_left
                  · intro w hSw; (try dsimp only at hSw); obtain ⟨s1, s2, s3, s4, s5, s6, s7⟩ := hSw; first | (go_simp; done) | (go_simp; with_reducible rfl)
                  try simp only [Act.put, List.setIfInBounds_toArray, List.set_cons_zero, List.set_cons_succ]
                  refine takeC (i := 5) (v := ?_) (some 84) rfl rfl (by kernel_rfl) (by kernel_rfl) (by kernel_rfl) (fun _ _ _ h => h) (Or.inl ⟨by rfl, ?_⟩) (by assumption) ?_
                  rotate_left
                  · intro w hSw; (try dsimp only at hSw); obtain ⟨s1, s2, s3, s4, s5, s6, s7⟩ := hSw; first | (go_simp; done) | (go_simp; with_reducible rfl)
                  try simp only [Act.put, List.setIfInBounds_toArray, List.set_cons_zero, List.set_cons_succ]
                  refine takeC (i := 6) (v := ?_) (some 85) rfl rfl (by kernel_rfl) (by kernel_rfl) (by kernel_rfl) (fun _ _ _ h => h) (Or.inl ⟨by rfl, ?_⟩) (by assumption) ?_
                  rotate_left
                  · intro w hSw; (try dsimp only at hSw); obtain ⟨s1, s2, s3, s4, s5, s6, s7⟩ := hSw; first | (go_simp; done) | (go_simp; with_reducible rfl)
                  try simp only [Act.put, List.setIfInBounds_toArray, List.set_cons_zero, List.set_cons_succ]
                  refine takeC (i := 7) (v := ?_) (some 86) rfl rfl (by kernel_rfl) (by kernel_rfl) (by kernel_rfl) (fun _ _ _ h => h) (Or.inl ⟨by rfl, ?_⟩) (by assumption) ?_
                  rotate_left
                  · intro w hSw; (try dsimp only at hSw); obtain ⟨s1, s2, s3, s4, s5, s6, s7⟩ := hSw; first | (go_simp; done) | (go_simp; with_reducible rfl)
                  try simp only [Act.put, List.setIfInBounds_toArray, List.set_cons_zero, List.set_cons_succ]
                  refine takeC (i := 8) (v := ?_) (some 87) rfl rfl (by kernel_rfl) (by kernel_rfl) (by kernel_rfl) (fun _ _ _ h => h) (Or.inl ⟨by rfl, ?_⟩) (by assumption) ?_
                  rotate_left
                  · intro w hSw; (try dsimp only at hSw); obtain ⟨s1, s2, s3, s4, s5, s6, s7⟩ := hSw; first | (go_simp; done) | (go_simp; with_reducible rfl)
                  try simp only [Act.put, List.setIfInBounds_toArray, List.set_cons_zero, List.set_cons_succ]
                  refine takeC (i := 9) (v := ?_) (some 88) rfl rfl (by kernel_rfl) (by kernel_rfl) (by kernel_rfl) (fun _ _ _ h => h) (Or.inl ⟨by rfl, ?_⟩) (by assumption) ?_
                  rotate_left
                  · intro w hSw; (try dsimp only at hSw); obtain ⟨s1, s2, s3, s4, s5, s6, s7⟩ := hSw; first | (go_simp; done) | (go_simp; with_reducible rfl)
                  try simp only [Act.put, List.setIfInBounds_toArray, List.set_cons_zero, List.set_cons_succ]
                  refine takeC (i := 10) (v := ?_) (some 89) rfl rfl (by kernel_rfl) (by kernel_rfl) (by kernel_rfl) (fun _ _ _ h => h) (Or.inl ⟨by rfl, ?_⟩) (by assumption) ?_
                  rotate_left
                  · intro w hSw; (try dsimp only at hSw); obtain ⟨s1, s2, s3, s4, s5, s6, s7⟩ := hSw; first | (go_simp; done) | (go_simp; with_reducible rfl)
                  try simp only [Act.put, List.setIfInBounds_toArray, List.set_cons_zero, List.set_cons_succ]
                  refine takeC (i := 11) (v := ?_) (some 90) rfl rfl (by kernel_rfl) (by kernel_rfl) (by kernel_rfl) (fun _ _ _ h => h) (Or.inl ⟨by rfl, ?_⟩) (by assumption) ?_
                  rotate_left
                  · intro w hSw; (try dsimp only at hSw); obtain ⟨s1, s2, s3, s4, s5, s6, s7⟩ := hSw; first | (go_simp; done) | (go_simp; with_reducible rfl)
                  try simp only [Act.put, List.setIfInBounds_toArray, List.set_cons_zero, List.set_cons_succ]
                  refine takeC (i := 12) (v := ?_) (some 91) rfl rfl (by kernel_rfl) (by kernel_rfl) (by kernel_rfl) (fun _ _ _ h => h) (Or.inl ⟨by rfl, ?_⟩) (by assumption) ?_
                  rotate_left
                  · intro w hSw; (try dsimp only at hSw); obtain ⟨s1, s2, s3, s4, s5, s6, s7⟩ := hSw; first | (go_simp; done) | (go_simp; with_reducible rfl)
                  try simp only [Act.put, List.setIfInBounds_toArray, List.set_cons_zero, List.set_cons_succ]
                  refine takeC (i := 13) (v := ?_) (some 92) rfl rfl (by kernel_rfl) (by kernel_rfl) (by kernel_rfl) (fun _ _ _ h => h) (Or.inl ⟨by rfl, ?_⟩) (by assumption) ?_
                  rotate_left
                  · intro w hSw; (try dsimp only at hSw); obtain ⟨s1, s2, s3, s4, s5, s6, s7⟩ := hSw; first | (go_simp; done) | (go_simp; with_reducible rfl)
                  try simp only [Act.put, List.setIfInBounds_toArray, List.set_cons_zero, List.set_cons_succ]
                  refine takeC (i := 14) (v := ?_) (some 93) rfl rfl (by kernel_rfl) (by kernel_rfl) (by kernel_rfl) (fun _ _ _ h => h) (Or.inl ⟨by rfl, ?_⟩) (by assumption) ?_
                  rotate_left
                  · intro w hSw; (try dsimp only at hSw); obtain ⟨s1, s2, s3, s4, s5, s6, s7⟩ := hSw; first | (go_simp; done) | (go_simp; with_reducible rfl)
                  try simp only [Act.put, List.setIfInBounds_toArray, List.set_cons_zero, List.set_cons_succ]
                  have hsb := Subset_ct A1 A3 n1 c1 n3 c3 mm.pre sf w23 (R1.out.keep Hb.out) (Hrs.out.keep Hb.out)
                  rw [Hv.out] at hsb
                  have Hsb := hide hsb
                  clear hsb
                  refine wpAnyH_ready (rs := [15]) (by kernel_rfl) (by simp) ?_
                  refine AllReadyH.cons rfl (fun K hK => ?_) AllReadyH.nil
                  go_simp
                  with_reducible refine Hsb.out.mono ?_
                  rintro e w24 ⟨rfl, hq⟩
                  have hb := hq.below w23.heap.size
                  clear hq
                  replace Hb := hide (Hb.out.trans (hb.mono Hb.out.size))
                  replace Hrow := hide (Hrow.out.keep hb)
                  replace HX := hide (HX.out.keep hb)
                  clear hb t5 x0 x1 x2 y1 y2 ys
                  have t5 := (HB.out.keep Hb.out).cell 5
                  have x0 := HX.out.cell 0
                  have x1 := HX.out.cell 1
                  have x2 := HX.out.cell 2
                  simp only [List.getElem?_cons_zero, List.getElem?_cons_succ] at t5 x0 x1 x2
                  have y1 := cellOf_lowH Hb.out Y1.out
                  have y2 := cellOf_lowH Hb.out Y2.out
                  have ys := cellOf_lowH Hb.out Hcs.out
                  refine hK.out _ _ ?_ (fun hHeld2 => ?_)
                  · (try dsimp only); exact ⟨t5, x0, x1, x2, y1, y2, ys⟩
                  clear hK K hHeld
                  try simp only [Act.put, List.setIfInBounds_toArray, List.set_cons_zero, List.set_cons_succ]
                  have hHeld := hHeld2; clear hHeld2
                  refine takeC (i := 16) (v := ?_) (some 95) rfl rfl (by kernel_rfl) (by kernel_rfl) (by kernel_rfl) (fun _ _ _ h => h) (Or.inl ⟨by rfl, ?_⟩) (by assumption) ?_
                  rotate_left
                  · intro w hSw; (try dsimp only at hSw); obtain ⟨s1, s2, s3, s4, s5, s6, s7⟩ := hSw; first | (go_simp; done) | (go_simp; with_reducible rfl)
                  try simp only [Act.put, List.setIfInBounds_toArray, List.set_cons_zero, List.set_cons_succ]
                  refine takeC (i := 17) (v := ?_) (some 96) rfl rfl (by kernel_rfl) (by kernel_rfl) (by kernel_rfl) (fun _ _ _ h => h) (Or.inl ⟨by rfl, ?_⟩) (by assumption) ?_
                  rotate_left
                  · intro w hSw; (try dsimp only at hSw); obtain ⟨s1, s2, s3, s4, s5, s6, s7⟩ := hSw; first | (go_simp; done) | (go_simp; with_reducible rfl)
                  try simp only [Act.put, List.setIfInBounds_toArray, List.set_cons_zero, List.set_cons_succ]
                  refine takeC (i := 18) (v := undef) (some 97) rfl rfl (by kernel_rfl) (by kernel_rfl) (by kernel_rfl) (fun _ _ _ h => h) (Or.inr ⟨by rfl, rfl⟩) (by assumption) ?_
                  try simp only [Act.put, List.setIfInBounds_toArray, List.set_cons_zero, List.set_cons_succ]
                  refine takeC (i := 19) (v := undef) (some 98) rfl rfl (by kernel_rfl) (by kernel_rfl) (by kernel_rfl) (fun _ _ _ h => h) (Or.inr ⟨by rfl, rfl⟩) (by assumption) ?_
                  try simp only [Act.put, List.setIfInBounds_toArray, List.set_cons_zero, List.set_cons_succ]
                  refine takeC (i := 20) (v := undef) (some 99) rfl rfl (by kernel_rfl) (by kernel_rfl) (by kernel_rfl) (fun _ _ _ h => h) (Or.inr ⟨by rfl, rfl⟩) (by assumption) ?_
                  try simp only [Act.put, List.setIfInBounds_toArray, List.set_cons_zero, List.set_cons_succ]
                  refine takeC (i := 21) (v := undef) (some 100) rfl rfl (by kernel_rfl) (by kernel_rfl) (by kernel_rfl) (fun _ _ _ h => h) (Or.inr ⟨by rfl, rfl⟩) (by assumption) ?_
                  try simp only [Act.put, List.setIfInBounds_toArray, List.set_cons_zero, List.set_cons_succ]
                  refine takeC (i := 22) (v := undef) (some 101) rfl rfl (by kernel_rfl) (by kernel_rfl) (by kernel_rfl) (fun _ _ _ h => h) (Or.inr ⟨by rfl, rfl⟩) (by assumption) ?_
                  try simp only [Act.put, List.setIfInBounds_toArray, List.set_cons_zero, List.set_cons_succ]
                  refine takeC (i := 23) (v := undef) (some 102) rfl rfl (by kernel_rfl) (by kernel_rfl) (by kernel_rfl) (fun _ _ _ h => h) (Or.inr ⟨by rfl, rfl⟩) (by assumption) ?_
                  try simp only [Act.put, List.setIfInBounds_toArray, List.set_cons_zero, List.set_cons_succ]
                  refine takeC (i := 24) (v := undef) (some 103) rfl rfl (by kernel_rfl) (by kernel_rfl) (by kernel_rfl) (fun _ _ _ h => h) (Or.inr ⟨by rfl, rfl⟩) (by assumption) ?_
                  try simp only [Act.put, List.setIfInBounds_toArray, List.set_cons_zero, List.set_cons_succ]
                  refine takeC (i := 25) (v := undef) (some 104) rfl rfl (by kernel_rfl) (by kernel_rfl) (by kernel_rfl) (fun _ _ _ h => h) (Or.inr ⟨by rfl, rfl⟩) (by assumption) ?_
                  try simp only [Act.put, List.setIfInBounds_toArray, List.set_cons_zero, List.set_cons_succ]
                  refine takeC (i := 26) (v := undef) (some 105) rfl rfl (by kernel_rfl) (by kernel_rfl) (by kernel_rfl) (fun _ _ _ h => h) (Or.inr ⟨by rfl, rfl⟩) (by assumption) ?_
                  try simp only [Act.put, List.setIfInBounds_toArray, List.set_cons_zero, List.set_cons_succ]
                  refine takeC (i := 27) (v := undef) (some 106) rfl rfl (by kernel_rfl) (by kernel_rfl) (by kernel_rfl) (fun _ _ _ h => h) (Or.inr ⟨by rfl, rfl⟩) (by assumption) ?_
                  try simp only [Act.put, List.setIfInBounds_toArray, List.set_cons_zero, List.set_cons_succ]
                  refine takeC (i := 28) (v := undef) (some 107) rfl rfl (by kernel_rfl) (by kernel_rfl) (by kernel_rfl) (fun _ _ _ h => h) (Or.inr ⟨by rfl, rfl⟩) (by assumption) ?_
                  try simp only [Act.put, List.setIfInBounds_toArray, List.set_cons_zero, List.set_cons_succ]
                  refine takeC (i := 29) (v := ?_) (some 108) rfl rfl (by kernel_rfl) (by kernel_rfl) (by kernel_rfl) (fun _ _ _ h => h) (Or.inl ⟨by rfl, ?_⟩) (by assumption) ?_
                  rotate_left
                  · intro w hSw; (try dsimp only at hSw); obtain ⟨s1, s2, s3, s4, s5, s6, s7⟩ := hSw; first | (go_simp; done) | (go_simp; with_reducible rfl)
                  try simp only [Act.put, List.setIfInBounds_toArray, List.set_cons_zero, List.set_cons_succ]
                  refine wpAnyH_done (by kernel_rfl) ?_ _
                  go_wp2_with fail
                  go_roundw
                  case rel =>
                    first
                      | exact ⟨⟨t + 1, Kn, m, kc, kn, ag, by go_num, rfl, rfl, by omega, by omega, Hb.out, Hrow.out, Hkn.out, fun h2 => ⟨(Hfa.out h2).1, (Hfa.out h2).2.1, fun j h3 h4 h5 h6 => by
                    rcases Nat.lt_or_ge j t with h7 | h7
                    · exact (Hfa.out h2).2.2 j h3 h7 h5 h6
                    · rw [Hsf.out, Hv.out] at h5
                      cases h5⟩, Htr.out⟩⟩
                      | exact ⟨_, _, .int .i64 ((t + 1 : Nat) : Int), ⟨⟨t + 1, Kn, m, kc, kn, ag, rfl, rfl, rfl, by omega, by omega, Hb.out, Hrow.out, Hkn.out, fun h2 => ⟨(Hfa.out h2).1, (Hfa.out h2).2.1, fun j h3 h4 h5 h6 => by
                    rcases Nat.lt_or_ge j t with h7 | h7
                    · exact (Hfa.out h2).2.2 j h3 h7 h5 h6
                    · rw [Hsf.out, Hv.out] at h5
                      cases h5⟩, Htr.out⟩⟩, rfl, rfl, by go_num⟩
                  case measure => simp [intOf]; omega
                have Hu := hide hu
                have Hv := hide hv
                clear hu hv
                obtain ⟨d, hd⟩ : ∃ z, z = divF kn plan mm.steps f t := ⟨_, rfl⟩
                have Hd := hide hd
                clear hd
                refine wp_region_held_drew (S := (fun w22 => w22.cell? ⟨gT, 5, none⟩ = some (.slice (some ⟨bM, oM, none⟩) nM cM) ∧ w22.cell? ⟨gx, 0, none⟩ = some (.int .i64 (tk : Nat)) ∧ w22.cell? ⟨gx, 1, none⟩ = some (.int .i64 (f : Nat)) ∧ w22.cell? ⟨gx, 2, none⟩ = some (.int .i64 (t : Nat)) ∧ w22.cell? ⟨bM, oM + q * 3 + 1, none⟩ = some (.slice A1 n1 c1) ∧ w22.cell? ⟨bM, oM + q * 3 + 2, none⟩ = some (.slice A2 n2 c2) ∧ w22.cell? ⟨bS, oS + f, none⟩ = some (.slice A3 n3 c3))) (by kernel_rfl) ?_ (fun hHeld => ?_)
                · (try dsimp only); exact ⟨t5, x0, x1, x2, y1, y2, ys⟩
                obtain ⟨w22, hW⟩ : ∃ W, W = w21.drew := ⟨_, rfl⟩
                have hb : Below w21.heap.size w21 w22 := by rw [hW]; exact (Below.refl _ _).drew
                rw [← hW] at hHeld ⊢
                clear hW
                replace Hb := hide (Hb.out.trans (hb.mono Hb.out.size))
                replace Hrow := hide (Hrow.out.keep hb)
                replace HX := hide (HX.out.keep hb)
                clear hb t5 x0 x1 x2 y1 y2 ys
                have t5 := (HB.out.keep Hb.out).cell 5
                have x0 := HX.out.cell 0
                have x1 := HX.out.cell 1
                have x2 := HX.out.cell 2
                simp only [List.getElem?_cons_zero, List.getElem?_cons_succ] at t5 x0 x1 x2
                have y1 := cellOf_lowH Hb.out Y1.out
                have y2 := cellOf_lowH Hb.out Y2.out
                have ys := cellOf_lowH Hb.out Hcs.out

                refine takeC (i := 0) (v := ?_) (some 79) rfl rfl (by kernel_rfl) (by kernel_rfl) (by kernel_rfl) (fun _ _ _ h => h) (Or.inl ⟨by rfl, ?_⟩) (by assumption) ?_
                rotate_left
                · intro w hSw; (try dsimp only at hSw); obtain ⟨s1, s2, s3, s4, s5, s6, s7⟩ := hSw; first | (go_simp; done) | (go_simp; with_reducible rfl)
                try simp only [Act.put, List.setIfInBounds_toArray, List.set_cons_zero, List.set_cons_succ]
                refine takeC (i := 1) (v := ?_) (some 80) rfl rfl (by kernel_rfl) (by kernel_rfl) (by kernel_rfl) (fun _ _ _ h => h) (Or.inl ⟨by rfl, ?_⟩) (by assumption) ?_
                rotate_left
                · intro w hSw; (try dsimp only at hSw); obtain ⟨s1, s2, s3, s4, s5, s6, s7⟩ := hSw; first | (go_simp; done) | (go_simp; with_reducible rfl)
                try simp only [Act.put, List.setIfInBounds_toArray, List.set_cons_zero, List.set_cons_succ]
                have hsp := hXs.out w22 Hrow.out.rd
                rw [Hu.out] at hsp
                have Hsp := hide hsp
                clear hsp
                refine wpAnyH_ready (rs := [2]) (by kernel_rfl) (by simp) ?_
                refine AllReadyH.cons rfl (fun K hK => ?_) AllReadyH.nil
                go_simp
                with_reducible refine Hsp.out.mono ?_
                rintro e w23 ⟨rfl, hb⟩
                replace Hb := hide (Hb.out.trans (hb.mono Hb.out.size))
                replace Hrow := hide (Hrow.out.keep hb)
                replace HX := hide (HX.out.keep hb)
                clear hb t5 x0 x1 x2 y1 y2 ys
                have t5 := (HB.out.keep Hb.out).cell 5
                have x0 := HX.out.cell 0
                have x1 := HX.out.cell 1
                have x2 := HX.out.cell 2
                simp only [List.getElem?_cons_zero, List.getElem?_cons_succ] at t5 x0 x1 x2
                have y1 := cellOf_lowH Hb.out Y1.out
                have y2 := cellOf_lowH Hb.out Y2.out
                have ys := cellOf_lowH Hb.out Hcs.out
                refine hK.out _ _ ?_ (fun hHeld2 => ?_)
                · (try dsimp only); exact ⟨t5, x0, x1, x2, y1, y2, ys⟩
                clear hK K hHeld
                try simp only [Act.put, List.setIfInBounds_toArray, List.set_cons_zero, List.set_cons_succ]
                have hHeld := hHeld2; clear hHeld2
                refine takeC (i := 3) (v := ?_) (some 82) rfl rfl (by kernel_rfl) (by kernel_rfl) (by kernel_rfl) (fun _ _ _ h => h) (Or.inl ⟨by rfl, ?_⟩) (by assumption) ?_
                rotate_left
                · intro w hSw; (try dsimp only at hSw); obtain ⟨s1, s2, s3, s4, s5, s6, s7⟩ := hSw; first | (go_simp; done) | (go_simp; with_reducible rfl)
                try simp only [Act.put, List.setIfInBounds_toArray, List.set_cons_zero, List.set_cons_succ]
                refine takeC (i := 4) (v := ?_) (some 83) rfl rfl (by kernel_rfl) (by kernel_rfl) (by kernel_rfl) (fun _ _ _ h => h) (Or.inl ⟨by rfl, ?_⟩) (by assumption) ?_
                rotate_left
                · intro w hSw; (try dsimp only at hSw); obtain ⟨s1, s2, s3, s4, s5, s6, s7⟩ := hSw; first | (go_simp; done) | (go_simp; with_reducible rfl)
                try simp only [Act.put, List.setIfInBounds_toArray, List.set_cons_zero, List.set_cons_succ]
                refine takeC (i := 5) (v := ?_) (some 84) rfl rfl (by kernel_rfl) (by kernel_rfl) (by kernel_rfl) (fun _ _ _ h => h) (Or.inl ⟨by rfl, ?_⟩) (by assumption) ?_
                rotate_left
                · intro w hSw; (try dsimp only at hSw); obtain ⟨s1, s2, s3, s4, s5, s6, s7⟩ := hSw; first | (go_simp; done) | (go_simp; with_reducible rfl)
                try simp only [Act.put, List.setIfInBounds_toArray, List.set_cons_zero, List.set_cons_succ]
                refine takeC (i := 6) (v := ?_) (some 85) rfl rfl (by kernel_rfl) (by kernel_rfl) (by kernel_rfl) (fun _ _ _ h => h) (Or.inl ⟨by rfl, ?_⟩) (by assumption) ?_
                rotate_left
                · intro w hSw; (try dsimp only at hSw); obtain ⟨s1, s2, s3, s4, s5, s6, s7⟩ := hSw; first | (go_simp; done) | (go_simp; with_reducible rfl)
                try simp only [Act.put, List.setIfInBounds_toArray, List.set_cons_zero, List.set_cons_succ]
                refine takeC (i := 7) (v := ?_) (some 86) rfl rfl (by kernel_rfl) (by kernel_rfl) (by kernel_rfl) (fun _ _ _ h => h) (Or.inl ⟨by rfl, ?_⟩) (by assumption) ?_
                rotate_left
                · intro w hSw; (try dsimp only at hSw); obtain ⟨s1, s2, s3, s4, s5, s6, s7⟩ := hSw; first | (go_simp; done) | (go_simp; with_reducible rfl)
                try simp only [Act.put, List.setIfInBounds_toArray, List.set_cons_zero, List.set_cons_succ]
                refine takeC (i := 8) (v := ?_) (some 87) rfl rfl (by kernel_rfl) (by kernel_rfl) (by kernel_rfl) (fun _ _ _ h => h) (Or.inl ⟨by rfl, ?_⟩) (by assumption) ?_
                rotate_left
                · intro w hSw; (try dsimp only at hSw); obtain ⟨s1, s2, s3, s4, s5, s6, s7⟩ := hSw; first | (go_simp; done) | (go_simp; with_reducible rfl)
                try simp only [Act.put, List.setIfInBounds_toArray, List.set_cons_zero, List.set_cons_succ]
                refine takeC (i := 9) (v := ?_) (some 88) rfl rfl (by kernel_rfl) (by kernel_rfl) (by kernel_rfl) (fun _ _ _ h => h) (Or.inl ⟨by rfl, ?_⟩) (by assumption) ?_
                rotate_left
                · intro w hSw; (try dsimp only at hSw); obtain ⟨s1, s2, s3, s4, s5, s6, s7⟩ := hSw; first | (go_simp; done) | (go_simp; with_reducible rfl)
                try simp only [Act.put, List.setIfInBounds_toArray, List.set_cons_zero, List.set_cons_succ]
                refine takeC (i := 10) (v := ?_) (some 89) rfl rfl (by kernel_rfl) (by kernel_rfl) (by kernel_rfl) (fun _ _ _ h => h) (Or.inl ⟨by rfl, ?_⟩) (by assumption) ?_
                rotate_left
                · intro w hSw; (try dsimp only at hSw); obtain ⟨s1, s2, s3, s4, s5, s6, s7⟩ := hSw; first | (go_simp; done) | (go_simp; with_reducible rfl)
                try simp only [Act.put, List.setIfInBounds_toArray, List.set_cons_zero, List.set_cons_succ]
                refine takeC (i := 11) (v := ?_) (some 90) rfl rfl (by kernel_rfl) (by kernel_rfl) (by kernel_rfl) (fun _ _ _ h => h) (Or.inl ⟨by rfl, ?_⟩) (by assumption) ?_
                rotate_left
                · intro w hSw; (try dsimp only at hSw); obtain ⟨s1, s2, s3, s4, s5, s6, s7⟩ := hSw; first | (go_simp; done) | (go_simp; with_reducible rfl)
                try simp only [Act.put, List.setIfInBounds_toArray, List.set_cons_zero, List.set_cons_succ]
                refine takeC (i := 12) (v := ?_) (some 91) rfl rfl (by kernel_rfl) (by kernel_rfl) (by kernel_rfl) (fun _ _ _ h => h) (Or.inl ⟨by rfl, ?_⟩) (by assumption) ?_
                rotate_left
                · intro w hSw; (try dsimp only at hSw); obtain ⟨s1, s2, s3, s4, s5, s6, s7⟩ := hSw; first | (go_simp; done) | (go_simp; with_reducible rfl)
                try simp only [Act.put, List.setIfInBounds_toArray, List.set_cons_zero, List.set_cons_succ]
                refine takeC (i := 13) (v := ?_) (some 92) rfl rfl (by kernel_rfl) (by kernel_rfl) (by kernel_rfl) (fun _ _ _ h => h) (Or.inl ⟨by rfl, ?_⟩) (by assumption) ?_
                rotate_left
                · intro w hSw; (try dsimp only at hSw); obtain ⟨s1, s2, s3, s4, s5, s6, s7⟩ := hSw; first | (go_simp; done) | (go_simp; with_reducible rfl)
                try simp only [Act.put, List.setIfInBounds_toArray, List.set_cons_zero, List.set_cons_succ]
                refine takeC (i := 14) (v := ?_) (some 93) rfl rfl (by kernel_rfl) (by kernel_rfl) (by kernel_rfl) (fun _ _ _ h => h) (Or.inl ⟨by rfl, ?_⟩) (by assumption) ?_
                rotate_left
                · intro w hSw; (try dsimp only at hSw); obtain ⟨s1, s2, s3, s4, s5, s6, s7⟩ := hSw; first | (go_simp; done) | (go_simp; with_reducible rfl)
                try simp only [Act.put, List.setIfInBounds_toArray, List.set_cons_zero, List.set_cons_succ]
                have hsb := Subset_ct A1 A3 n1 c1 n3 c3 mm.pre sf w23 (R1.out.keep Hb.out) (Hrs.out.keep Hb.out)
                rw [Hv.out] at hsb
                have Hsb := hide hsb
                clear hsb
                refine wpAnyH_ready (rs := [15]) (by kernel_rfl) (by simp) ?_
                refine AllReadyH.cons rfl (fun K hK => ?_) AllReadyH.nil
                go_simp
                with_reducible refine Hsb.out.mono ?_
                rintro e w24 ⟨rfl, hq⟩
                have hb := hq.below w23.heap.size
                clear hq
                replace Hb := hide (Hb.out.trans (hb.mono Hb.out.size))
                replace Hrow := hide (Hrow.out.keep hb)
                replace HX := hide (HX.out.keep hb)
                clear hb t5 x0 x1 x2 y1 y2 ys
                have t5 := (HB.out.keep Hb.out).cell 5
                have x0 := HX.out.cell 0
                have x1 := HX.out.cell 1
                have x2 := HX.out.cell 2
                simp only [List.getElem?_cons_zero, List.getElem?_cons_succ] at t5 x0 x1 x2
                have y1 := cellOf_lowH Hb.out Y1.out
                have y2 := cellOf_lowH Hb.out Y2.out
                have ys := cellOf_lowH Hb.out Hcs.out
                refine hK.out _ _ ?_ (fun hHeld2 => ?_)
                · (try dsimp only); exact ⟨t5, x0, x1, x2, y1, y2, ys⟩
                clear hK K hHeld
                try simp only [Act.put, List.setIfInBounds_toArray, List.set_cons_zero, List.set_cons_succ]
                have hHeld := hHeld2; clear hHeld2
                refine takeC (i := 16) (v := ?_) (some 95) rfl rfl (by kernel_rfl) (by kernel_rfl) (by kernel_rfl) (fun _ _ _ h => h) (Or.inl ⟨by rfl, ?_⟩) (by assumption) ?_
                rotate_left
                · intro w hSw; (try dsimp only at hSw); obtain ⟨s1, s2, s3, s4, s5, s6, s7⟩ := hSw; first | (go_simp; done) | (go_simp; with_reducible rfl)
                try simp only [Act.put, List.setIfInBounds_toArray, List.set_cons_zero, List.set_cons_succ]
                refine takeC (i := 17) (v := ?_) (some 96) rfl rfl (by kernel_rfl) (by kernel_rfl) (by kernel_rfl) (fun _ _ _ h => h) (Or.inl ⟨by rfl, ?_⟩) (by assumption) ?_
                rotate_left
                · intro w hSw; (try dsimp only at hSw); obtain ⟨s1, s2, s3, s4, s5, s6, s7⟩ := hSw; first | (go_simp; done) | (go_simp; with_reducible rfl)
                try simp only [Act.put, List.setIfInBounds_toArray, List.set_cons_zero, List.set_cons_succ]
                refine takeC (i := 18) (v := ?_) (some 97) rfl rfl (by kernel_rfl) (by kernel_rfl) (by kernel_rfl) (fun _ _ _ h => h) (Or.inl ⟨by rfl, ?_⟩) (by assumption) ?_
                rotate_left
                · intro w hSw; (try dsimp only at hSw); obtain ⟨s1, s2, s3, s4, s5, s6, s7⟩ := hSw; first | (go_simp; done) | (go_simp; with_reducible rfl)
                try simp only [Act.put, List.setIfInBounds_toArray, List.set_cons_zero, List.set_cons_succ]
                refine takeC (i := 19) (v := ?_) (some 98) rfl rfl (by kernel_rfl) (by kernel_rfl) (by kernel_rfl) (fun _ _ _ h => h) (Or.inl ⟨by rfl, ?_⟩) (by assumption) ?_
                rotate_left
                · intro w hSw; (try dsimp only at hSw); obtain ⟨s1, s2, s3, s4, s5, s6, s7⟩ := hSw; first | (go_simp; done) | (go_simp; with_reducible rfl)
                try simp only [Act.put, List.setIfInBounds_toArray, List.set_cons_zero, List.set_cons_succ]
                refine takeC (i := 20) (v := ?_) (some 99) rfl rfl (by kernel_rfl) (by kernel_rfl) (by kernel_rfl) (fun _ _ _ h => h) (Or.inl ⟨by rfl, ?_⟩) (by assumption) ?_
                rotate_left
                · intro w hSw; (try dsimp only at hSw); obtain ⟨s1, s2, s3, s4, s5, s6, s7⟩ := hSw; first | (go_simp; done) | (go_simp; with_reducible rfl)
                try simp only [Act.put, List.setIfInBounds_toArray, List.set_cons_zero, List.set_cons_succ]
                refine takeC (i := 21) (v := ?_) (some 100) rfl rfl (by kernel_rfl) (by kernel_rfl) (by kernel_rfl) (fun _ _ _ h => h) (Or.inl ⟨by rfl, ?_⟩) (by assumption) ?_
                rotate_left
                · intro w hSw; (try dsimp only at hSw); obtain ⟨s1, s2, s3, s4, s5, s6, s7⟩ := hSw; first | (go_simp; done) | (go_simp; with_reducible rfl)
                try simp only [Act.put, List.setIfInBounds_toArray, List.set_cons_zero, List.set_cons_succ]
                refine takeC (i := 22) (v := ?_) (some 101) rfl rfl (by kernel_rfl) (by kernel_rfl) (by kernel_rfl) (fun _ _ _ h => h) (Or.inl ⟨by rfl, ?_⟩) (by assumption) ?_
                rotate_left
                · intro w hSw; (try dsimp only at hSw); obtain ⟨s1, s2, s3, s4, s5, s6, s7⟩ := hSw; first | (go_simp; done) | (go_simp; with_reducible rfl)
                try simp only [Act.put, List.setIfInBounds_toArray, List.set_cons_zero, List.set_cons_succ]
                refine takeC (i := 23) (v := ?_) (some 102) rfl rfl (by kernel_rfl) (by kernel_rfl) (by kernel_rfl) (fun _ _ _ h => h) (Or.inl ⟨by rfl, ?_⟩) (by assumption) ?_
                rotate_left
                · intro w hSw; (try dsimp only at hSw); obtain ⟨s1, s2, s3, s4, s5, s6, s7⟩ := hSw; first | (go_simp; done) | (go_simp; with_reducible rfl)
                try simp only [Act.put, List.setIfInBounds_toArray, List.set_cons_zero, List.set_cons_succ]
                refine takeC (i := 24) (v := ?_) (some 103) rfl rfl (by kernel_rfl) (by kernel_rfl) (by kernel_rfl) (fun _ _ _ h => h) (Or.inl ⟨by rfl, ?_⟩) (by assumption) ?_
                rotate_left
                · intro w hSw; (try dsimp only at hSw); obtain ⟨s1, s2, s3, s4, s5, s6, s7⟩ := hSw; first | (go_simp; done) | (go_simp; with_reducible rfl)
                try simp only [Act.put, List.setIfInBounds_toArray, List.set_cons_zero, List.set_cons_succ]
                refine takeC (i := 25) (v := ?_) (some 104) rfl rfl (by kernel_rfl) (by kernel_rfl) (by kernel_rfl) (fun _ _ _ h => h) (Or.inl ⟨by rfl, ?_⟩) (by assumption) ?_
                rotate_left
                · intro w hSw; (try dsimp only at hSw); obtain ⟨s1, s2, s3, s4, s5, s6, s7⟩ := hSw; first | (go_simp; done) | (go_simp; with_reducible rfl)
                try simp only [Act.put, List.setIfInBounds_toArray, List.set_cons_zero, List.set_cons_succ]
                refine takeC (i := 26) (v := ?_) (some 105) rfl rfl (by kernel_rfl) (by kernel_rfl) (by kernel_rfl) (fun _ _ _ h => h) (Or.inl ⟨by rfl, ?_⟩) (by assumption) ?_
                rotate_left
                · intro w hSw; (try dsimp only at hSw); obtain ⟨s1, s2, s3, s4, s5, s6, s7⟩ := hSw; first | (go_simp; done) | (go_simp; with_reducible rfl)
                try simp only [Act.put, List.setIfInBounds_toArray, List.set_cons_zero, List.set_cons_succ]
                refine takeC (i := 27) (v := ?_) (some 106) rfl rfl (by kernel_rfl) (by kernel_rfl) (by kernel_rfl) (fun _ _ _ h => h) (Or.inl ⟨by rfl, ?_⟩) (by assumption) ?_
                rotate_left
                · intro w hSw; (try dsimp only at hSw); obtain ⟨s1, s2, s3, s4, s5, s6, s7⟩ := hSw; first | (go_simp; done) | (go_simp; with_reducible rfl)
                try simp only [Act.put, List.setIfInBounds_toArray, List.set_cons_zero, List.set_cons_succ]
                have hdd := divides_ct kn plan n2 w24 Kn m kc A n c A2 c2 mm.steps f t Hrow.out.rd (HP1.out.keep Hb.out) (R2'.out.keep Hb.out) (by omega) hltf hltt
                rw [← Hd.out] at hdd
                have Hdd := hide hdd
                clear hdd
                refine wpAnyH_ready (rs := [28]) (by kernel_rfl) (by simp) ?_
                refine AllReadyH.cons rfl (fun K hK => ?_) AllReadyH.nil
                go_simp
                with_reducible refine Hdd.out.mono ?_
                rintro e w25 ⟨rfl, hb⟩
                replace Hb := hide (Hb.out.trans (hb.mono Hb.out.size))
                replace Hrow := hide (Hrow.out.keep hb)
                replace HX := hide (HX.out.keep hb)
                clear hb t5 x0 x1 x2 y1 y2 ys
                have t5 := (HB.out.keep Hb.out).cell 5
                have x0 := HX.out.cell 0
                have x1 := HX.out.cell 1
                have x2 := HX.out.cell 2
                simp only [List.getElem?_cons_zero, List.getElem?_cons_succ] at t5 x0 x1 x2
                have y1 := cellOf_lowH Hb.out Y1.out
                have y2 := cellOf_lowH Hb.out Y2.out
                have ys := cellOf_lowH Hb.out Hcs.out
                refine hK.out _ _ ?_ (fun hHeld2 => ?_)
                · (try dsimp only); exact ⟨t5, x0, x1, x2, y1, y2, ys⟩
                clear hK K hHeld
                try simp only [Act.put, List.setIfInBounds_toArray, List.set_cons_zero, List.set_cons_succ]
                have hHeld := hHeld2; clear hHeld2
                refine takeC (i := 29) (v := ?_) (some 108) rfl rfl (by kernel_rfl) (by kernel_rfl) (by kernel_rfl) (fun _ _ _ h => h) (Or.inl ⟨by rfl, ?_⟩) (by assumption) ?_
                rotate_left
                · intro w hSw; (try dsimp only at hSw); obtain ⟨s1, s2, s3, s4, s5, s6, s7⟩ := hSw; first | (go_simp; done) | (go_simp; with_reducible rfl)
                try simp only [Act.put, List.setIfInBounds_toArray, List.set_cons_zero, List.set_cons_succ]
                refine wpAnyH_done (by kernel_rfl) ?_ _
                cases d with
                | false =>
                  go_wp2_with fail
                  go_roundw
                  case rel =>
                    first
                      | exact ⟨⟨t + 1, Kn, m, kc, kn, ag, by go_num, rfl, rfl, by omega, by omega, Hb.out, Hrow.out, Hkn.out, fun h2 => ⟨(Hfa.out h2).1, (Hfa.out h2).2.1, fun j h3 h4 h5 h6 => by
                    rcases Nat.lt_or_ge j t with h7 | h7
                    · exact (Hfa.out h2).2.2 j h3 h7 h5 h6
                    · obtain rfl : j = t := by omega
                      have := (divF_chain Hpl.out Hkn.out.ok hltf hltt).2 h6
                      rw [← Hd.out] at this
                      cases this⟩, Htr.out⟩⟩
                      | exact ⟨_, _, .int .i64 ((t + 1 : Nat) : Int), ⟨⟨t + 1, Kn, m, kc, kn, ag, rfl, rfl, rfl, by omega, by omega, Hb.out, Hrow.out, Hkn.out, fun h2 => ⟨(Hfa.out h2).1, (Hfa.out h2).2.1, fun j h3 h4 h5 h6 => by
                    rcases Nat.lt_or_ge j t with h7 | h7
                    · exact (Hfa.out h2).2.2 j h3 h7 h5 h6
                    · obtain rfl : j = t := by omega
                      have := (divF_chain Hpl.out Hkn.out.ok hltf hltt).2 h6
                      rw [← Hd.out] at this
                      cases this⟩, Htr.out⟩⟩, rfl, rfl, by go_num⟩
                  case measure => simp [intOf]; omega
                | true =>
                  have hno : (⟨mm.task.toNat, f, t⟩ : Spn) ∉ kn := fun h2 => by
                    have h3 := List.contains_iff_mem.2 h2
                    rw [Htk.out, Int.toNat_natCast, Hu.out] at h3
                    cases h3
                  have hkn2 := Hkn.out.push Hpl.out Hmem.out Hmt.out.1 Hmt.out.2 hft hltt hno (by rw [Hsf.out]; exact Hv.out) Hd.out.symm
                  rw [Htk.out, Int.toNat_natCast] at hkn2
                  have Hkn2 := hide hkn2
                  have hlen := (Hkn.out.len Hrow.out.len hkk hn).1
                  clear hno hkn2
                  go_wp2_with (at_builtin
                               refine wpList_pushK rfl _ _ rfl rfl Hrow.out ⟨tk, f, t⟩ rfl (by omega) Hb.out.size ?_
                               intro O9 oc9 w9 hrow9 hb9
                               have Hrow9 := hide hrow9
                               have Hb9 := hide (Hb.out.trans hb9)
                               clear hrow9 hb9)
                  go_roundw
                  case rel =>
                    first
                      | exact ⟨⟨t + 1, O9, m + 1, oc9, _, true, by go_num, rfl, rfl, by omega, by omega, Hb9.out, Hrow9.out, Hkn2.out, fun h2 => (by cases h2), fun _ => by
                    cases ag with
                    | false => have := (Hfa.out rfl).1; omega
                    | true => have := Htr.out rfl; omega⟩⟩
                      | exact ⟨_, _, .int .i64 ((t + 1 : Nat) : Int), ⟨⟨t + 1, O9, m + 1, oc9, _, true, rfl, rfl, rfl, by omega, by omega, Hb9.out, Hrow9.out, Hkn2.out, fun h2 => (by cases h2), fun _ => by
                    cases ag with
                    | false => have := (Hfa.out rfl).1; omega
                    | true => have := Htr.out rfl; omega⟩⟩, rfl, rfl, by go_num⟩
                  case measure => simp [intOf]; omega
end Go.Proofs.YtmjiiddncbhgpaaGreat
