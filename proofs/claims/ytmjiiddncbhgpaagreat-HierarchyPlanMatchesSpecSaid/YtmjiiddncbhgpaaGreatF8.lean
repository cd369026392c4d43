/- The law HierarchyPlanMatchesSpec of the package hierarchy holds, without a condition., part 8: Sw6 Sw7 Dr Sw9. -/
import Derived.Test.YtmjiiddncbhgpaaGreatF1
import Derived.Test.YtmjiiddncbhgpaaGreatF2
import Derived.Test.YtmjiiddncbhgpaaGreatF3
import Derived.Test.YtmjiiddncbhgpaaGreatF4
import Derived.Test.YtmjiiddncbhgpaaGreatF5
import Derived.Test.YtmjiiddncbhgpaaGreatF6
import Derived.Test.YtmjiiddncbhgpaaGreatF7
import Derived.BigQuiet
import Derived.Deep.AppendLies
import Derived.Deep.Draws
import Derived.Deep.Fields
import Derived.Deep.LoopGhost
import Derived.Deep.QuietTactic
import Derived.Deep.Slices
import Derived.DeepKeys4
import Derived.Laws.AppendOwnNone
import Derived.Laws.BitsAllLaws
import Derived.Laws.OwnMore
import Derived.Lib.Hide
import Derived.Lib.SlicesCompact
import Derived.LoopIn
import Derived.LoopNIn
import Derived.Maps.AppendAt
import Derived.Maps.OwnIn
import Derived.Maps.OwnOps
import Derived.Maps.OwnSet
import Derived.OwnWalkIn
import Derived.RangeFuncBound
import Derived.RangeFuncCalls
import Derived.RangeFuncLeaves
import Derived.RangeFuncNested
import Derived.Shelf.Abstract
import Derived.Shelf.RegionOpen
import Derived.TacticsInMore
import Derived.Test.YtmjiiddncbhgpaaGreatProg
import Derived.WalkKit
namespace Go.Proofs.YtmjiiddncbhgpaaGreat
set_option linter.unusedVariables false
set_option linter.unusedSimpArgs false
open Go.RowKit Go.Maps
def Enc.word : Enc Nat where
  size := 1
  ok := fun _ vs x => vs = [.int .u32 x] ∧ x < 4294967296
  len := fun h => by rw [h.1]; rfl
  keep := fun h _ => h
theorem firm_word {M : Nat → Prop} {w : World} {x : Nat} (h : x < 4294967296) : Firm Enc.word M w [.int .u32 x] x := fun _ _ => ⟨rfl, h⟩
theorem Rd.word {w : World} {A : Option Addr} {n c k : Nat} {xs : List Nat} (h : Rd Enc.word w A n c xs) (hk : k < n) :
    ∃ b off x, A = some ⟨b, off, none⟩ ∧ xs[k]? = some x ∧ x < 4294967296 ∧ w.cell? ⟨b, off + k, none⟩ = some (.int .u32 x) := by
  obtain ⟨b, off, x, vs, e, hx, ⟨hvs, h1⟩, hv⟩ := h.get hk
  subst hvs
  have := hv 0 _ rfl
  simp only [Enc.word, Nat.mul_one, Nat.add_zero] at this
  exact ⟨b, off, x, e, hx, h1, this⟩
theorem Rd.words {w : World} {A : Option Addr} {n c : Nat} {xs : List Nat} (h : Rd Enc.word w A n c xs) : ∀ x ∈ xs, x < 4294967296 := fun x hx => by
  obtain ⟨k, hk⟩ := List.getElem?_of_mem hx
  obtain ⟨_, _, y, _, hy, h1, _⟩ := h.word (show k < n by rw [← h.len]; exact (List.getElem?_eq_some_iff.1 hk).1)
  rw [hk] at hy
  obtain rfl := Option.some.inj hy
  exact h1
/-- a row of the call's own that reads as these words, whatever happens to other blocks -/
def RowW (B : Nat) (w : World) (A : Option Addr) (n c : Nat) (xs : List Nat) : Prop := ∃ vs, OwnE Enc.word 78 B (fun _ => True) w A n c vs xs
section
variable {B n c : Nat} {w w' : World} {A : Option Addr} {xs : List Nat}
theorem RowW.nil (B : Nat) (w : World) : RowW B w none 0 0 [] := ⟨_, OwnE.nil _ _ _ _ _⟩
theorem RowW.len (h : RowW B w A n c xs) : xs.length = n := let ⟨_, k⟩ := h; k.len
theorem RowW.rd (h : RowW B w A n c xs) : Rd Enc.word w A n c xs := let ⟨_, k⟩ := h; k.rd
theorem RowW.chg {M : Nat → Prop} (h : RowW B w A n c xs) (hc : Chg M w w') (hA : ∀ r, blkA A = some r → ¬ M r) : RowW B w' A n c xs := let ⟨_, k⟩ := h; ⟨_, k.chg hc (fun _ _ => trivial) hA⟩
theorem RowW.keep (h : RowW B w A n c xs) (hb : Below w.heap.size w w') : RowW B w' A n c xs := let ⟨_, k⟩ := h; ⟨_, k.keep hb⟩
theorem RowW.base (h : RowW B w A n c xs) {r : Nat} (hr : blkA A = some r) : B ≤ r ∧ r < w.heap.size := let ⟨_, k⟩ := h; k.base hr
theorem RowW.cells (h : RowW B w A n c xs) {r : Nat} (hr : blkA A = some r) : ∃ cs e m, w.heap[r]? = some (.cells cs e m) := by
  obtain ⟨_, k⟩ := h
  obtain ⟨_, cs, m, e⟩ := own_block k.own (by rw [own_blkA]; exact hr)
  exact ⟨cs, _, m, e⟩
theorem RowW.cap (h : RowW B w A n c xs) : n ≤ c ∧ c ≤ 9223372036854775807 := let ⟨_, k⟩ := h; own_nil_or k.own
theorem RowW.addr (h : RowW B w A n c xs) (hn : 0 < n) : ∃ g, A = some ⟨g, 0, none⟩ := let ⟨_, k⟩ := h; own_addr k.own hn
theorem RowW.low {B' : Nat} (h : RowW B w A n c xs) (hB : B' ≤ B) : RowW B' w A n c xs := by
  obtain ⟨vs, k⟩ := h
  refine ⟨vs, ⟨⟨k.own.1, ?_⟩, k.len, k.elem⟩⟩
  rcases k.own.2 with h3 | ⟨r, cap, cur, e1, hr, hc, rest⟩
  · exact .inl h3
  · exact .inr ⟨r, cap, cur, e1, by omega, hc, rest⟩
/-- cut short -/
theorem RowW.cut {m : Nat} (h : RowW B w A n c xs) (hm : m ≤ n) : RowW B w A m c (xs.take m) := by
  obtain ⟨vs, k⟩ := h
  refine ⟨vs.take m, own_cut k.own hm, by rw [List.length_take, k.len]; omega, fun i x hx => ?_⟩
  rw [List.getElem?_take] at hx
  split at hx
  · rename_i hi
    obtain ⟨us, h1, h2⟩ := k.elem i x hx
    refine ⟨us, fun j v hj => ?_, h2⟩
    have h3 := h1 j v hj
    have hl := (List.getElem?_eq_some_iff.1 hj).1
    have hl2 := Enc.word.len h2.ok
    have hl3 : us.length = 1 := hl2
    have e : i * Enc.word.size + j = i := by show i * 1 + j = i; omega
    rw [e] at h3 ⊢
    rw [List.getElem?_take, if_pos hi]
    exact h3
  · cases hx
end
theorem wordInfo : (Tryz.prog.info? 78).map (fun i => (i.zero, i.size, i.bytes)) = some (some (.int .u32 0), 1, 4) := by kernel_rfl
/-- one word more -/
theorem wpList_pushW {w : World} {ops : Array Oper} {rest : List Oper} {o : Oper} {a : Act} {Q : Exit → Act → World → Prop} (hgd : o.guard = none) (s x : Operand)
    (ho : o.op = .call { callee := .builtin .append, args := #[s, x], argTypes := #[92, 92] })
    {B : Nat} {A : Option Addr} {n c : Nat} {xs : List Nat} (hs : a.eval s = .slice A n c) (hown : RowW B w A n c xs) (y : Nat) (hy : y < 4294967296) (hx : a.eval x = .slice (some ⟨w.heap.size, 0, none⟩) 1 1) (hn : n ≤ 1000000) (hbase : B ≤ w.heap.size)
    (h : ∀ O oc w', RowW B w' O (n + 1) oc (xs ++ [y]) → Chg (fun b => blkA A = some b) w w' → (blkA O = blkA A ∨ blkA O = some (w.heap.size + 1)) → wpList Tryz.prog ops Q rest (a.put o.dst (.slice O (n + 1) oc)) w') :
    wpList Tryz.prog ops Q (o :: rest) a (w.alloc (.cells #[.int .u32 y] 78)) := by
  obtain ⟨i1, hi1, hy0, hy1, hy2⟩ := info_parts wordInfo
  obtain ⟨vs, hown⟩ := hown
  exact wpList_pushE hgd s x 92 ho B 78 i1 (.int .u32 0) 4 Tryz.underlying92 hi1 hy0 hy1 hy2 rfl (by decide) hs hown (fun _ _ => trivial) [.int .u32 y] y (by intro u hu; simp at hu; subst hu; rfl) hx (firm_word hy) (by omega) (by omega) hbase
    fun O oc w' hown' hch hat => h O oc w' ⟨_, hown'.less fun _ _ _ => .inl trivial⟩ hch hat
/-- one element more, inside a fence -/
theorem wpListIn_pushE {F : Fence} {nF : Nat} {α : Type} {E : Enc α} {P : Program} {w : World} {ops : Array Oper} {rest : List Oper} {o : Oper} {a : Act} {Q : Exit → Act → World → Prop} (hgd : o.guard = none) (s x : Operand) (t : TypeId)
    (ho : o.op = .call { callee := .builtin .append, args := #[s, x], argTypes := #[t, t] })
    (base : Nat) (e : TypeId) (i : TypeInfo) (z : Value) (bytes : Nat) (ht : P.underlying t = some (.slice e)) (hi : P.info? e = some i) (hz : i.zero = some z)
    (hsize : i.size = E.size) (hby : i.bytes = bytes) (hzs : z.cells.size = E.size) (hsz : 0 < E.size)
    {A : Option Addr} {n c : Nat} {M : Nat → Prop} {vs : List Value} {xs : List α} (hs : a.eval s = .slice A n c) (hown : OwnE E e base M w A n c vs xs) (hA : ∀ r, blkA A = some r → M r)
    (us : List Value) (y : α) (h1 : ∀ u ∈ us, u.oneCell' = true) (hx : a.eval x = .slice (some ⟨w.heap.size, 0, none⟩) 1 1) (hf : Firm E M w us y)
    (h63 : n + 1 ≤ 1000000000000) (hbytes : (n + 1) * bytes ≤ 140737488355328) (hbase : base ≤ w.heap.size)
    (h : ∀ O oc w', OwnE E e base (fun b => M b ∨ w.heap.size ≤ b) w' O (n + 1) oc (vs ++ us) (xs ++ [y]) → (w.alloc (.cells us.toArray e)).grownBy w' (blkA A) → (blkA O = blkA A ∨ blkA O = some (w.heap.size + 1)) → wpListIn F nF P ops Q rest (a.put o.dst (.slice O (n + 1) oc)) w') :
    wpListIn F nF P ops Q (o :: rest) a (w.alloc (.cells us.toArray e)) := by
  have hus : us.length = E.size := E.len hf.ok
  refine wpListIn_plain hgd fun K hK' => ?_
  obtain ⟨v', w', hrun, r1, r2, _, r4⟩ := run_append_own_at (P := P) (w := w.alloc (.cells us.toArray e)) base t o.type e i z E.size bytes ht hi hz hsize hby hzs hsz _ n vs (hown.own.alloc _) ⟨w.heap.size, 0, none⟩ 1 1 us (by omega) (by
    intro j u hj
    rw [add_plain, Nat.zero_add]
    have := (Blk.new w e us).cell j
    rw [hj] at this
    exact this) h1 (by unfold maxLen; omega) hbytes (by simp; omega)
  obtain ⟨O, oc, rfl⟩ : ∃ O oc, v' = .slice O (n + 1) oc := by
    rcases r1.2 with ⟨_, h0⟩ | ⟨g, cap, cur, e', _⟩
    · omega
    · exact ⟨_, _, e'⟩
  rw [own_blkA] at r2
  rw [own_blkA, own_blkA, World.size_alloc] at r4
  have hch : Chg (fun b => blkA A = some b) w w' := (Chg.of_below ((Below.refl w.heap.size w).alloc (Nat.le_refl _) (.cells us.toArray e)) _).trans (Chg.of_grown r2)
  unfold Oper.wpIn
  refine ⟨?_, ?_⟩
  · simp [Oper.about, ho, resolve, Target.leads, Sem.run_pure]
  · rw [Oper.semAt_plain F _ _ (by rw [ho]; intro c hc'; cases hc')]
    simp [execOp, ho, resolve, invoke, builtin, hs, hx, hrun, Result.andThen]
    refine hK' _ _ (h O oc w' ⟨r1, by rw [List.length_append, hown.len]; rfl, fun j u hj => ?_⟩ r2 r4)
    rcases Nat.lt_or_ge j n with hjn | hjn
    · rw [List.getElem?_append_left (by rw [hown.len]; exact hjn)] at hj
      obtain ⟨us', e1, e2⟩ := hown.elem j u hj
      refine ⟨us', fun k v hk => ?_, e2.chg (hch.mono hA)⟩
      have := e1 k v hk
      rw [List.getElem?_append_left (List.getElem?_eq_some_iff.1 this).1]
      exact this
    · rw [List.getElem?_append_right (by rw [hown.len]; exact hjn), hown.len] at hj
      have hjn2 : j = n := by
        have := (List.getElem?_eq_some_iff.1 hj).1
        simp at this
        omega
      subst hjn2
      simp at hj
      subst hj
      refine ⟨us, fun k v hk => ?_, hf.chg (hch.mono hA)⟩
      rw [List.getElem?_append_right (by rw [hown.vlen]; omega), hown.vlen, Nat.add_sub_cancel_left]
      exact hk
theorem wpListIn_pushW {F : Fence} {nF : Nat} {w : World} {ops : Array Oper} {rest : List Oper} {o : Oper} {a : Act} {Q : Exit → Act → World → Prop} (hgd : o.guard = none) (s x : Operand)
    (ho : o.op = .call { callee := .builtin .append, args := #[s, x], argTypes := #[92, 92] })
    {B : Nat} {A : Option Addr} {n c : Nat} {xs : List Nat} (hs : a.eval s = .slice A n c) (hown : RowW B w A n c xs) (y : Nat) (hy : y < 4294967296) (hx : a.eval x = .slice (some ⟨w.heap.size, 0, none⟩) 1 1) (hn : n ≤ 1000000) (hbase : B ≤ w.heap.size)
    (h : ∀ O oc w', RowW B w' O (n + 1) oc (xs ++ [y]) → (w.alloc (.cells #[.int .u32 y] 78)).grownBy w' (blkA A) → (blkA O = blkA A ∨ blkA O = some (w.heap.size + 1)) → wpListIn F nF Tryz.prog ops Q rest (a.put o.dst (.slice O (n + 1) oc)) w') :
    wpListIn F nF Tryz.prog ops Q (o :: rest) a (w.alloc (.cells #[.int .u32 y] 78)) := by
  obtain ⟨i1, hi1, hy0, hy1, hy2⟩ := info_parts wordInfo
  obtain ⟨vs, hown⟩ := hown
  exact wpListIn_pushE hgd s x 92 ho B 78 i1 (.int .u32 0) 4 Tryz.underlying92 hi1 hy0 hy1 hy2 rfl (by decide) hs hown (fun _ _ => trivial) [.int .u32 y] y (by intro u hu; simp at hu; subst hu; rfl) hx (firm_word hy) (by omega) (by omega) hbase
    fun O oc w' hown' hg hat => h O oc w' ⟨_, hown'.less fun _ _ _ => .inl trivial⟩ hg hat
section
variable {F : Fence} {nF : Nat} {P : Program} {w w' : World} {ops : Array Oper} {rest : List Oper} {o : Oper} {a : Act} {Q : Exit → Act → World → Prop} {m x v : Operand} {t k : TypeId} {c : Bool} {M key val r : Value}
end
end Go.Proofs.YtmjiiddncbhgpaaGreat
namespace Go.Proofs.YtmjiiddncbhgpaaGreat
set_option linter.unusedVariables false
set_option linter.unusedSimpArgs false
open Go.RowKit Go.Shelf Go.Maps
/-- a mark of a range over a function among the deferred calls -/
def markD (D : Nat) : Deferred := { target := .collected D, args := #[] }
theorem leaves_marks {F : Fence} {n : Nat} {P : Program} {fn : Func} {tmps : Array Value} {R : Ending → World → Prop} : ∀ (Ds : List Nat) (W : World), (∀ D ∈ Ds, W.heap[D]? = some (.deferred (some []))) → Ds.Nodup →
    (∀ W', Chg (fun b => b ∈ Ds) W W' → LeavesInM F n P fn tmps R [] .returning W') → LeavesInM F n P fn tmps R (Ds.map markD) .returning W := by
  intro Ds
  induction Ds with
  | nil => intro W _ _ h; exact h W (Chg.refl _ _)
  | cons D Ds ih =>
    intro W hD hn h
    obtain ⟨hn1, hn2⟩ := List.nodup_cons.1 hn
    have hK := hD D List.mem_cons_self
    refine ⟨by simp, .inl ⟨D, _, rfl, run_takeDeferred hK, ?_⟩⟩
    have hg := grownBy_putObj' W D (.deferred none)
    refine ih _ (fun E hE => ?_) hn2 (fun W' hc => h W' ?_)
    · have hne : E ≠ D := fun e => hn1 (e ▸ hE)
      exact (hg.block E (Array.getElem?_eq_some_iff.1 (hD E (List.mem_cons_of_mem _ hE))).1 (fun e => hne (by injection e))).trans (hD E (List.mem_cons_of_mem _ hE))
    · exact ((Chg.of_grown hg).mono (fun i e => by injection e with e; rw [← e]; exact List.mem_cons_self)).trans (hc.mono fun i e => List.mem_cons_of_mem _ e)
/-- a slice literal of one word -/
theorem rowW_one (w : World) (x : Nat) (hx : x < 4294967296) : RowW w.heap.size (w.alloc (.cells #[.int .u32 x] 78)) (some ⟨w.heap.size, 0, none⟩) 1 1 [x] := by
  refine ⟨[.int .u32 x], ⟨⟨rfl, .inr ⟨w.heap.size, 1, #[.int .u32 x], rfl, Nat.le_refl _, heap_alloc_new w _, by omega, by unfold maxLen; omega, rfl, rfl⟩⟩, rfl, fun i y hy => ?_⟩⟩
  cases i with
  | zero => simp at hy; subst hy; exact ⟨[.int .u32 x], fun j v h => by simpa using h, firm_word hx⟩
  | succ i => simp at hy
/-- what is no cells stays as it was, but block mb -/
structure KeepsBut (mb : Nat) (W W' : World) : Prop where
  size : W.heap.size ≤ W'.heap.size
  same : ∀ (k : Nat) (o : Obj), k ≠ mb → W.heap[k]? = some o → o.isCells = false → W'.heap[k]? = some o
section
variable {mb B : Nat} {A C W W' : World}
theorem KeepsBut.refl (mb : Nat) (W : World) : KeepsBut mb W W := ⟨Nat.le_refl _, fun _ _ _ h _ => h⟩
theorem KeepsBut.trans (h : KeepsBut mb A W) (k : KeepsBut mb W C) : KeepsBut mb A C := ⟨Nat.le_trans h.size k.size, fun i o hn hi ho => k.same i o hn (h.same i o hn hi ho) ho⟩
theorem KeepsBut.of (h : KeepsOthers W W') (mb : Nat) : KeepsBut mb W W' := ⟨h.size, fun i o _ hi ho => h.same i o hi ho⟩
theorem KeepsBut.map (h : W.grownBy W' (some mb)) : KeepsBut mb W W' := ⟨h.size, fun i o hn hi _ => (h.block i (Array.getElem?_eq_some_iff.1 hi).1 (fun e => hn (by injection e))).trans hi⟩
theorem KeepsBut.row {row : Option Nat} (h : W.grownBy W' row) (hr : ∀ r, row = some r → ∃ cs e m, W.heap[r]? = some (.cells cs e m)) (mb : Nat) : KeepsBut mb W W' :=
  ⟨h.size, fun i o _ hi ho => (h.block i (Array.getElem?_eq_some_iff.1 hi).1 (fun e => by
    obtain ⟨cs, e', m, hc⟩ := hr i e.symm
    rw [hi] at hc
    cases hc
    cases ho)).trans hi⟩
theorem KeepsBut.from (h : KeepsBut mb W W') (hB : mb < B) : KeepsFrom B W W' := ⟨h.size, fun i o hb hi ho => h.same i o (by omega) hi ho⟩
theorem Blk.cells {t : TypeId} {g : Nat} {cs : List Value} (h : Blk t W g cs) : ∃ ds e m, W.heap[g]? = some (.cells ds e m) := ⟨_, _, _, h⟩
/-- a turn of a block that is no cells leaves cells -/
theorem turn_ne {row : Option Nat} {g : Nat} (hr : ∀ r, row = some r → B ≤ r ∧ ∃ o : Obj, W.heap[r]? = some o ∧ o.isCells = false) (hg : ∃ ds e m, W.heap[g]? = some (.cells ds e m)) : some g ≠ row := fun e => by
  obtain ⟨_, o, ho, hc⟩ := hr g e.symm
  obtain ⟨ds, e', m, hd⟩ := hg
  rw [hd] at ho
  cases ho
  cases hc
end
/-- what stands in memory: the boxes of the stack and of the map, the map, the rows of what waits and of what is done -/
structure AllS (w W : World) (Sb Mb mb : Nat) (A : Option Addr) (n c : Nat) (O : Option Addr) (q oc : Nat) (out st : List Nat) : Prop where
  low : Below w.heap.size w W
  sb : Blk 92 W Sb [.slice A n c]
  mbx : Blk 205 W Mb [.map (some mb)]
  row : RowW w.heap.size W A n c st
  res : RowW w.heap.size W O q oc out
  map : MapV Tryz.prog 78 encW W mb (out ++ st).length (fun k => if k ∈ out ++ st then some (.agg #[]) else none)
  s1 : w.heap.size ≤ Sb
  s2 : w.heap.size ≤ Mb
  s3 : w.heap.size ≤ mb
  n1 : Sb ≠ Mb
  a1 : ∀ r, blkA A = some r → r ≠ Sb ∧ r ≠ Mb
  a2 : ∀ r, blkA O = some r → r ≠ Sb ∧ r ≠ Mb ∧ blkA A ≠ some r
section
variable {w W W' : World} {Sb Mb mb : Nat} {A O : Option Addr} {n c q oc : Nat} {out st : List Nat}
theorem AllS.n2 (h : AllS w W Sb Mb mb A n c O q oc out st) : mb ≠ Sb := h.map.ne h.sb
theorem AllS.n3 (h : AllS w W Sb Mb mb A n c O q oc out st) : mb ≠ Mb := h.map.ne h.mbx
theorem AllS.nrow {r : Nat} {xs : List Nat} {X : Option Addr} {k d : Nat} (h : AllS w W Sb Mb mb A n c O q oc out st) (hx : RowW w.heap.size W X k d xs) (hr : blkA X = some r) : r ≠ mb := by
  rintro rfl
  obtain ⟨es, clock, e⟩ := h.map.isMap
  obtain ⟨cs, e', m, hc⟩ := hx.cells hr
  rw [e] at hc
  cases hc
theorem AllS.keep (h : AllS w W Sb Mb mb A n c O q oc out st) (hb : Below W.heap.size W W') : AllS w W' Sb Mb mb A n c O q oc out st :=
  ⟨h.low.trans (hb.mono h.low.size), h.sb.keep hb, h.mbx.keep hb, h.row.keep hb, h.res.keep hb, h.map.keep hb, h.s1, h.s2, h.s3, h.n1, h.a1, h.a2⟩
/-- a turn of a block that is no cells and lies behind the map -/
theorem AllS.turn {row : Option Nat} {B : Nat} (h : AllS w W Sb Mb mb A n c O q oc out st) (hg : W.grownBy W' row) (hr : ∀ r, row = some r → B ≤ r ∧ ∃ o : Obj, W.heap[r]? = some o ∧ o.isCells = false) (hB : w.heap.size ≤ B) (hm : mb < B) : AllS w W' Sb Mb mb A n c O q oc out st := by
  have hc := (Chg.of_grown hg)
  refine ⟨h.low.grown hg h.low.size (fun k e => by have := (hr k e).1; omega), h.sb.grown hg (turn_ne hr h.sb.cells), h.mbx.grown hg (turn_ne hr h.mbx.cells), h.row.chg hc (fun r e1 e2 => turn_ne hr (h.row.cells e1) e2.symm), h.res.chg hc (fun r e1 e2 => turn_ne hr (h.res.cells e1) e2.symm),
    h.map.of_block (hg.block mb h.map.lt (fun e => by have := (hr mb e.symm).1; omega)), h.s1, h.s2, h.s3, h.n1, h.a1, h.a2⟩
/-- the stack is cut short and the state goes over to what is done: the store, then the row of what is done grows -/
theorem AllS.take {s : Nat} {st0 : List Nat} {O' : Option Addr} {oc' : Nat} (h : AllS w W Sb Mb mb A (n + 1) c O q oc out (st0 ++ [s])) (hres : RowW w.heap.size W' O' (q + 1) oc' (out ++ [s])) (hch : Chg (fun b => blkA O = some b) (W.setCell ⟨Sb, 0, none⟩ (.slice A n c)) W')
    (hat : blkA O' = blkA O ∨ blkA O' = some ((W.setCell ⟨Sb, 0, none⟩ (.slice A n c)).heap.size + 1)) : AllS w W' Sb Mb mb A n c O' (q + 1) oc' (out ++ [s]) st0 := by
  have hs1 : (W.setCell ⟨Sb, 0, none⟩ (.slice A n c)).heap.size = W.heap.size := by simp [World.setCell]
  have hset := Chg.set W Sb 0 (.slice A n c)
  have hrow : RowW w.heap.size W A n c st0 := by
    have := h.row.cut (m := n) (by omega)
    rwa [List.take_left' (by have := h.row.len; simp at this; omega)] at this
  have hsb := h.sb.set 0 (.slice A n c)
  have hO : ∀ r, blkA O = some r → w.heap.size ≤ r := fun r hr => (h.res.base hr).1
  have hnew : ∀ r, blkA O' = some r → r ≠ Sb ∧ r ≠ Mb ∧ blkA A ≠ some r := fun r hr => by
    rcases hat with e | e
    · exact h.a2 r (by rw [← e]; exact hr)
    · rw [e, hs1] at hr
      injection hr with hr
      have l1 := h.sb.lt
      have l2 := h.mbx.lt
      refine ⟨by omega, by omega, fun e2 => ?_⟩
      have := (h.row.base e2).2
      omega
  refine ⟨(h.low.trans (((Below.refl _ W).setCell (p := ⟨Sb, 0, none⟩) h.s1 _))).trans (hch.below (fun i hi => hO i hi) (by rw [hs1]; exact h.low.size)), hch.blk hsb (fun e => (h.a2 _ e).1 rfl), hch.blk (hset.blk h.mbx (fun e => h.n1 e.symm)) (fun e => (h.a2 _ e).2.1 rfl),
    (hrow.chg hset (fun r hr e => (h.a1 r hr).1 e)).chg hch (fun r hr e => (h.a2 r e).2.2 hr), hres, ?_, h.s1, h.s2, h.s3, h.n1, h.a1, hnew⟩
  have hm := ((h.map.chg hset (fun e => h.n2 e)).chg hch (fun e => h.nrow h.res e rfl))
  have e1 : (out ++ [s] ++ st0).length = (out ++ (st0 ++ [s])).length := by simp only [List.length_append]; omega
  rw [e1]
  refine hm.ext fun k => ?_
  have : k ∈ out ++ [s] ++ st0 ↔ k ∈ out ++ (st0 ++ [s]) := by simp only [List.mem_append, List.mem_singleton]; grind
  simp only [this]
/-- a new state: the map's store, then the stack's row grows, then its store -/
theorem AllS.new {x : Nat} {A' : Option Addr} {c' : Nat} {W1 W2 : World} (h : AllS w W Sb Mb mb A n c O q oc out st) (hx : x ∉ out ++ st)
    (hm1 : MapV Tryz.prog 78 encW W1 mb (if (if x ∈ out ++ st then some (Value.agg #[]) else none).isSome then (out ++ st).length else (out ++ st).length + 1) (putV (fun k => if k ∈ out ++ st then some (.agg #[]) else none) x (.agg #[]))) (hg1 : W.grownBy W1 (some mb))
    (hrow : RowW w.heap.size W2 A' (n + 1) c' (st ++ [x])) (hg2 : (W1.alloc (.cells #[.int .u32 x] 78)).grownBy W2 (blkA A)) (hat : blkA A' = blkA A ∨ blkA A' = some (W1.heap.size + 1)) :
    AllS w (W2.setCell ⟨Sb, 0, none⟩ (.slice A' (n + 1) c')) Sb Mb mb A' (n + 1) c' O q oc out (st ++ [x]) ∧ Below w.heap.size W (W2.setCell ⟨Sb, 0, none⟩ (.slice A' (n + 1) c')) ∧ KeepsBut mb W (W2.setCell ⟨Sb, 0, none⟩ (.slice A' (n + 1) c')) ∧
      ∀ b, b < W.heap.size → b ≠ mb → blkA A ≠ some b → b ≠ Sb → (W2.setCell ⟨Sb, 0, none⟩ (.slice A' (n + 1) c')).heap[b]? = W.heap[b]? := by
  have hz := h.low.size
  have c1 := (Chg.of_grown hg1).mono (M' := fun b => b = mb) (fun i e => by injection e with e; exact e.symm)
  have c2 : Chg (fun b => blkA A = some b) W1 W2 := (Chg.of_below ((Below.refl W1.heap.size W1).alloc (Nat.le_refl _) (.cells #[.int .u32 x] 78)) _).trans (Chg.of_grown hg2)
  have c3 := Chg.set W2 Sb 0 (.slice A' (n + 1) c')
  have hA : ∀ r, blkA A = some r → w.heap.size ≤ r := fun r hr => (h.row.base hr).1
  have hlow : Below w.heap.size W (W2.setCell ⟨Sb, 0, none⟩ (.slice A' (n + 1) c')) :=
    (((Below.refl _ W).trans (c1.below (fun i hi => by have := h.s3; omega) hz)).trans (c2.below (fun i hi => hA i hi) (Nat.le_trans hz c1.size))).trans ((Below.refl _ W2).setCell (p := ⟨Sb, 0, none⟩) h.s1 _)
  have hsbW2 : Blk 92 W2 Sb [.slice A n c] := c2.blk (c1.blk h.sb (fun e => h.n2 e.symm)) (fun e => (h.a1 _ e).1 rfl)
  have hsb := hsbW2.set 0 (.slice A' (n + 1) c')
  have hnew : ∀ r, blkA A' = some r → r ≠ Sb ∧ r ≠ Mb ∧ ∀ k, blkA O = some k → k ≠ r := fun r hr => by
    rcases hat with e | e
    · have e2 : blkA A = some r := by rw [← e]; exact hr
      exact ⟨(h.a1 r e2).1, (h.a1 r e2).2, fun k hk e3 => (h.a2 k hk).2.2 (by rw [e3]; exact e2)⟩
    · rw [e] at hr
      injection hr with hr
      have l1 := h.sb.lt
      have l2 := h.mbx.lt
      have l3 := c1.size
      refine ⟨by omega, by omega, fun k hk e3 => ?_⟩
      have := (h.res.base hk).2
      omega
  have hmx : (if x ∈ out ++ st then some (Value.agg #[]) else none) = none := by rw [if_neg hx]
  rw [hmx] at hm1
  refine ⟨⟨h.low.trans hlow, hsb, c3.blk (c2.blk (c1.blk h.mbx (fun e => h.n3 e.symm)) (fun e => (h.a1 _ e).2 rfl)) (fun e => h.n1 e.symm), hrow.chg c3 (fun r hr e => (hnew r hr).1 e),
    ((h.res.chg c1 (fun r hr e => h.nrow h.res hr e)).chg c2 (fun r hr e => (h.a2 r hr).2.2 e)).chg c3 (fun r hr e => (h.a2 r hr).1 e), ?_, h.s1, h.s2, h.s3, h.n1, fun r hr => ⟨(hnew r hr).1, (hnew r hr).2.1⟩, fun r hr => ⟨(h.a2 r hr).1, (h.a2 r hr).2.1, fun e => (hnew r e).2.2 r hr rfl⟩⟩, hlow, ?_, ?_⟩
  · have hm2 := (hm1.chg c2 (fun e => h.nrow h.row e rfl)).chg c3 (fun e => h.n2 e)
    have e1 : (out ++ (st ++ [x])).length = (out ++ st).length + 1 := by simp only [List.length_append, List.length_singleton]; omega
    rw [e1]
    refine MapV.ext (M := putV (fun k => if k ∈ out ++ st then some (.agg #[]) else none) x (.agg #[])) (by simpa using hm2) fun k => ?_
    unfold putV
    by_cases hk : k = x
    · subst hk; simp
    · have : k ∈ out ++ (st ++ [x]) ↔ k ∈ out ++ st := by simp only [List.mem_append, List.mem_singleton]; grind
      simp only [this, if_neg hk]
  · refine ((KeepsBut.map hg1).trans (KeepsBut.of (KeepsOthers.alloc _ _) _)).trans ((KeepsBut.row hg2 (fun r hr => ?_) _).trans (KeepsBut.of (KeepsOthers.setCell _ _ _) _))
    obtain ⟨cs, e, m, hc⟩ := h.row.cells hr
    have hl := (h.row.base hr).2
    refine ⟨cs, e, m, ?_⟩
    rw [Below.heap_alloc _ _ _ (Nat.lt_of_lt_of_le hl c1.size), c1.block r hl (h.nrow h.row hr)]
    exact hc
  · intro b hb h1 h2 h3
    rw [c3.block b (by have := c1.size; have := c2.size; omega) h3, c2.block b (by have := c1.size; omega) h2, c1.block b hb h1]
end
/-- what the search gives -/
def AllP (w : World) (ms : List Mk) (s0 : Nat) (e : Ending) (w' : World) : Prop :=
  Below w.heap.size w w' ∧ ((∃ (l : List Nat) (O : Option Addr) (oc : Nat), e = .returned (.tuple #[.slice O l.length oc, .bool true]) ∧ RowW w.heap.size w' O l.length oc l ∧ AllOf (stepW ms) s0 l ∧ l.length ≤ 2000) ∨
    (e = .returned (.tuple #[.slice none 0 0, .bool false]) ∧ ∃ m : List Nat, m.Nodup ∧ (∀ x ∈ m, Reach (stepW ms) s0 x) ∧ m.length = 2001))
end Go.Proofs.YtmjiiddncbhgpaaGreat
namespace Go.Proofs.YtmjiiddncbhgpaaGreat
set_option linter.unusedVariables false
set_option linter.unusedSimpArgs false
open Go.RowKit
theorem view_drawn {P : Program} {w w1 : World} {at_ : Addr} {u : TypeId} {k : Addr} {v : Value} {b : Bool} {l : List Addr} (h : w.viewStore P at_ u k v b = .ok (w1, l)) : w1.drawn = w.drawn := by
  unfold World.viewStore at h
  simp only [bind, Except.bind, pure, Except.pure, throw, throwThe, MonadExceptOf.throw] at h
  repeat' (split at h <;> try cases h)
  all_goals rfl
theorem far_drawn {P : Program} {w w1 : World} {a : Addr} {v : Value} {b : Bool} {l : List Addr} (h : w.farStore P a v b = .ok (w1, l)) : w1.drawn = w.drawn := by
  unfold World.farStore at h
  split at h
  · split at h
    · rename_i r hr
      injection h with h
      subst h
      exact view_drawn hr
    · cases h
  · cases h
theorem ask_drawn {α : Type} : ∀ (q : Ask α) (w : World), w.drawn ≤ (w.ask q).2.drawn := by
  intro q
  induction q with
  | done a => intro w; exact Nat.le_refl _
  | ask what range k ih =>
    intro w
    unfold World.ask
    simp only
    split
    · exact ih _ w
    · have h1 := ih ((Question.extern what range).cut (w.tape w.drawn (Question.extern what range))) { w with drawn := w.drawn + 1 }
      simp only at h1
      omega
theorem sys_drawn (w : World) (c : Sys) : w.drawn ≤ (w.sys c).2.drawn := by
  have h := ask_drawn (Kernel.perform c w.os) w
  unfold World.sys
  split
  · exact Nat.le_refl _
  · rename_i e
    rw [e] at h
    exact h
theorem run_drawn {α : Type} {P : Program} : ∀ (s : Sem α) (w : World) (a : α) (w' : World), s.run P w = .ok a w' → w.drawn ≤ w'.drawn := by
  intro s
  induction s with
  | pure a => intro w b w' h; unfold Sem.run at h; injection h with _ h; rw [h]; exact Nat.le_refl _
  | load m a k ih =>
    intro w b w' h
    unfold Sem.run at h
    split at h
    · exact ih _ w b w' h
    · split at h
      · exact ih _ w b w' h
      · cases h
  | store m a v k ih =>
    intro w b w' h
    cases v <;> simp only [Sem.run] at h
    case agg => cases h
    case tuple => cases h
    all_goals
      split at h
      · split at h
        · cases h
        · have h2 := ih _ b w' h
          exact h2
      · split at h
        · rename_i w1 l hf
          have h1 := far_drawn hf
          have h2 := ih _ b w' h
          omega
        · cases h
  | new o k ih => intro w b w' h; unfold Sem.run at h; have h2 := ih _ _ b w' h; exact h2
  | shape r k ih => intro w b w' h; unfold Sem.run at h; exact ih _ w b w' h
  | freeze a n k ih =>
    intro w b w' h
    unfold Sem.run at h
    have h1 := ih _ b w' h
    unfold World.freeze at h1
    split at h1 <;> exact h1
  | frozen a k ih => intro w b w' h; unfold Sem.run at h; exact ih _ w b w' h
  | getObj r k ih =>
    intro w b w' h
    unfold Sem.run at h
    split at h
    · cases h
    · exact ih _ w b w' h
    · cases h
  | setObj r o k ih =>
    intro w b w' h
    unfold Sem.run at h
    split at h
    · cases h
    · have h2 := ih _ b w' h
      exact h2
    · cases h
  | choose q k ih =>
    intro w b w' h
    unfold Sem.run at h
    split at h
    · exact ih _ w b w' h
    · have h1 := ih _ _ b w' h
      simp only at h1
      omega
  | sys c k ih =>
    intro w b w' h
    unfold Sem.run at h
    exact Nat.le_trans (sys_drawn w c) (ih _ _ b w' h)
  | program k ih => intro w b w' h; unfold Sem.run at h; exact ih _ w b w' h
  | mark m k ih => intro w b w' h; unfold Sem.run at h; exact ih w b w' h
  | halt h0 => intro w b w' h; unfold Sem.run at h; cases h
/-- one element more, and how often the tape was asked -/
theorem wpList_pushD {α : Type} {E : Enc α} {P : Program} {w : World} {ops : Array Oper} {rest : List Oper} {o : Oper} {a : Act} {Q : Exit → Act → World → Prop} (hgd : o.guard = none) (s x : Operand) (t : TypeId)
    (ho : o.op = .call { callee := .builtin .append, args := #[s, x], argTypes := #[t, t] })
    (base : Nat) (e : TypeId) (i : TypeInfo) (z : Value) (bytes : Nat) (ht : P.underlying t = some (.slice e)) (hi : P.info? e = some i) (hz : i.zero = some z)
    (hsize : i.size = E.size) (hby : i.bytes = bytes) (hzs : z.cells.size = E.size) (hsz : 0 < E.size)
    {A : Option Addr} {n c : Nat} {M : Nat → Prop} {vs : List Value} {xs : List α} (hs : a.eval s = .slice A n c) (hown : OwnE E e base M w A n c vs xs) (hA : ∀ r, blkA A = some r → M r)
    (us : List Value) (y : α) (h1 : ∀ u ∈ us, u.oneCell' = true) (hx : a.eval x = .slice (some ⟨w.heap.size, 0, none⟩) 1 1) (hf : Firm E M w us y)
    (h63 : n + 1 ≤ 1000000000000) (hbytes : (n + 1) * bytes ≤ 140737488355328) (hbase : base ≤ w.heap.size)
    (h : ∀ O oc w', OwnE E e base (fun b => M b ∨ w.heap.size ≤ b) w' O (n + 1) oc (vs ++ us) (xs ++ [y]) → Chg (fun b => blkA A = some b) w w' → (blkA O = blkA A ∨ blkA O = some (w.heap.size + 1)) → w.drawn ≤ w'.drawn → wpList P ops Q rest (a.put o.dst (.slice O (n + 1) oc)) w') :
    wpList P ops Q (o :: rest) a (w.alloc (.cells us.toArray e)) := by
  have hus : us.length = E.size := E.len hf.ok
  refine wpList_plain hgd fun K hK' => ?_
  obtain ⟨v', w', hrun, r1, r2, _, r4⟩ := run_append_own_at (P := P) (w := w.alloc (.cells us.toArray e)) base t o.type e i z E.size bytes ht hi hz hsize hby hzs hsz _ n vs (hown.own.alloc _) ⟨w.heap.size, 0, none⟩ 1 1 us (by omega) (by
    intro j u hj
    rw [add_plain, Nat.zero_add]
    have := (Blk.new w e us).cell j
    rw [hj] at this
    exact this) h1 (by unfold maxLen; omega) hbytes (by simp; omega)
  obtain ⟨O, oc, rfl⟩ : ∃ O oc, v' = .slice O (n + 1) oc := by
    rcases r1.2 with ⟨_, h0⟩ | ⟨g, cap, cur, e', _⟩
    · omega
    · exact ⟨_, _, e'⟩
  rw [own_blkA] at r2
  rw [own_blkA, own_blkA, World.size_alloc] at r4
  have hch : Chg (fun b => blkA A = some b) w w' := (Chg.of_below ((Below.refl w.heap.size w).alloc (Nat.le_refl _) (.cells us.toArray e)) _).trans (Chg.of_grown r2)
  have hdr0 := run_drawn _ _ _ _ hrun
  have hdr : w.drawn ≤ w'.drawn := hdr0
  unfold Oper.wp
  simp [execOp, ho, resolve, invoke, builtin, hs, hx, hrun, Result.andThen]
  refine hK' _ _ (h O oc w' ⟨r1, by rw [List.length_append, hown.len]; rfl, fun j u hj => ?_⟩ hch r4 hdr)
  rcases Nat.lt_or_ge j n with hjn | hjn
  · rw [List.getElem?_append_left (by rw [hown.len]; exact hjn)] at hj
    obtain ⟨us', e1, e2⟩ := hown.elem j u hj
    refine ⟨us', fun k v hk => ?_, e2.chg (hch.mono hA)⟩
    have := e1 k v hk
    rw [List.getElem?_append_left (List.getElem?_eq_some_iff.1 this).1]
    exact this
  · rw [List.getElem?_append_right (by rw [hown.len]; exact hjn), hown.len] at hj
    have hjn2 : j = n := by
      have := (List.getElem?_eq_some_iff.1 hj).1
      simp at this
      omega
    subst hjn2
    simp at hj
    subst hj
    refine ⟨us, fun k v hk => ?_, hf.chg (hch.mono hA)⟩
    rw [List.getElem?_append_right (by rw [hown.vlen]; omega), hown.vlen, Nat.add_sub_cancel_left]
    exact hk
set_option maxRecDepth 100000 in
set_option maxHeartbeats 3200000 in
theorem FactsD_ct (m : Nat) (w : World) (hm : m < 4294967296) :
    Calls Tryz.prog 75 #[.int .u32 m] w (fun e w' => MadeF w (factsF m) e w' ∧ w.drawn ≤ w'.drawn) := by
  obtain ⟨i1, hi1, hy0, hy1, hy2⟩ := info_parts intInfoS
  go_enter Tryz.func75, Tryz.ntmps75
  go_wp2
  go_loopw [3, 5] (fun o i wr => ∃ (k : Nat) (O : Option Addr) (q oc : Nat) (vs : List Value), k ≤ 32 ∧ i = .int .i64 k ∧ o = .slice O q oc ∧ OwnE Enc.int 3 w.heap.size (fun b => w.heap.size ≤ b) wr O q oc vs (factsTo m k) ∧ Below w.heap.size w wr ∧ w.drawn ≤ wr.drawn) (fun _ i _ => 32 - (intOf i).toNat)
  case atStart => exact ⟨0, none, 0, 0, [], by omega, rfl, rfl, OwnE.nil _ _ _ _ _, Below.refl _ _, Nat.le_refl _⟩
  case round =>
    obtain ⟨k, O, q, oc, vs, hk, rfl, rfl, hown, hb, hd⟩ := hrel
    have hqk : q ≤ k := by rw [← hown.len]; exact factsTo_len m k
    have hsz := hb.size
    have Hft := hide (factsTo_succ m k)
    have Hown := hide hown
    have Hb := hide hb
    have Hd := hide hd
    clear hown hb hd
    by_cases hlt : k < 32
    · have hbit := bit_test m k hm
      cases hb2 : m.testBit k with
      | false =>
        rw [hb2] at Hft hbit
        clear hb2
        go_wp2
        go_roundw
        case rel => exact ⟨k + 1, O, q, oc, vs, by omega, by go_num, rfl, by rw [Hft.out]; simpa using Hown.out, Hb.out, Hd.out⟩
        case measure => simp [intOf]; omega
      | true =>
        rw [hb2] at Hft hbit
        clear hb2
        go_wp2_with
          (at_builtin
           refine wpList_pushD rfl _ _ 22 rfl w.heap.size 3 i1 (.int .i64 0) 8 Tryz.underlying22 hi1 hy0 hy1 hy2 rfl (by decide) rfl Hown.out (fun r hr => (Hown.out.base hr).1) [.int .i64 k] (k : Int) (by intro u hu; simp at hu; subst hu; rfl) rfl (firm_int (by omega) (by omega)) (by omega) (by omega) hsz ?_
           intro O6 oc6 w6 hown6 hch6 hat6 hd6
           have hown6 := hown6.less (M' := fun b => w.heap.size ≤ b) (fun i _ e => .inl e)
           have hb6 := row_below Hb.out hsz hch6 (fun r hr => (Hown.out.base hr).1)
           have Hown6 := hide hown6
           have Hb6 := hide hb6
           have Hd6 := hide (Nat.le_trans Hd.out hd6)
           clear hown6 hch6 hat6 hb6 hd6)
        go_roundw
        case rel => exact ⟨k + 1, O6, q + 1, oc6, _, by omega, by go_num, rfl, by rw [Hft.out]; simpa using Hown6.out, Hb6.out, Hd6.out⟩
        case measure => simp [intOf]; omega
    · obtain rfl : k = 32 := by omega
      go_wp2
      go_ret
      have hl : q = (factsF m).length := by rw [← Hown.out.len, factsTo_all]
      subst hl
      exact ⟨⟨Hb.out, _, _, _, rfl, Hown.out⟩, Hd.out⟩
end Go.Proofs.YtmjiiddncbhgpaaGreat
namespace Go.Proofs.YtmjiiddncbhgpaaGreat
set_option linter.unusedVariables false
set_option linter.unusedSimpArgs false
open Go.RowKit
set_option maxHeartbeats 1600000 in
theorem nanI_ct (x : Int) (w : World) : Calls Tryz.prog 154 #[.int .i64 x] w (Same w (.bool false)) := by
  go_enter Tryz.func154, Tryz.ntmps154
  go_wp2
  go_ret
  exact ⟨ret_bool (by simp), rfl⟩
set_option maxHeartbeats 1600000 in
theorem CmpI_ct (x y : Int) (w : World) : Calls Tryz.prog 137 #[.int .i64 x, .int .i64 y] w (Same w (.int .i64 (cmpI x y))) := by
  have HN := hide (fun x w => nanI_ct x w)
  have hc : cmpI x y = if x < y then -1 else if y < x then 1 else 0 := rfl
  have Hc := hide hc
  clear hc
  by_cases h1 : x < y
  · go_enter Tryz.func137, Tryz.ntmps137
    go_wp2_with (go_at_call 154; refine (HN.out _ _).mono ?_; rintro e w1 ⟨rfl, rfl⟩)
    go_ret
    exact ⟨ret_int (by rw [Hc.out, if_pos h1]), rfl⟩
  · by_cases h2 : y < x
    · go_enter Tryz.func137, Tryz.ntmps137
      go_wp2_with (go_at_call 154; refine (HN.out _ _).mono ?_; rintro e w1 ⟨rfl, rfl⟩)
      go_ret
      exact ⟨ret_int (by rw [Hc.out, if_neg (by omega), if_pos h2]), rfl⟩
    · go_enter Tryz.func137, Tryz.ntmps137
      go_wp2_with (go_at_call 154; refine (HN.out _ _).mono ?_; rintro e w1 ⟨rfl, rfl⟩)
      go_ret
      exact ⟨ret_int (by rw [Hc.out, if_neg (by omega), if_neg (by omega)]), rfl⟩
theorem cmpL_drop {a b : List Int} {k : Nat} {x y : Int} (hx : a[k]? = some x) (hy : b[k]? = some y) : cmpL (a.drop k) (b.drop k) = if cmpI x y = 0 then cmpL (a.drop (k + 1)) (b.drop (k + 1)) else cmpI x y := by
  rw [drop_cons hx, drop_cons hy]
  rfl
set_option maxRecDepth 100000 in
set_option maxHeartbeats 3200000 in
theorem Compare_ct (A B : Option Addr) (n c m d : Nat) (a b : List Int) (w : World) (ha : Rd Enc.int w A n c a) (hb : Rd Enc.int w B m d b) :
    Calls Tryz.prog 99 #[.slice A n c, .slice B m d] w (Same w (.int .i64 (cmpL a b))) := by
  have hs1 := ha.low
  have hs2 := hb.low
  have HC := hide (fun x y w => CmpI_ct x y w)
  have Hla := hide ha.len
  have Hlb := hide hb.len
  go_enter Tryz.func99, Tryz.ntmps99
  go_wp2
  go_loop [11] (fun i => ∃ k : Nat, k ≤ n ∧ k ≤ m ∧ i = .int .i64 k ∧ cmpL a b = cmpL (a.drop k) (b.drop k)) (fun i => n - (intOf i).toNat)
  case atStart => exact ⟨0, by omega, by omega, rfl, by simp⟩
  case round =>
    obtain ⟨k, hk, hkm, rfl, heq⟩ := hrel
    have Heq := hide heq
    clear heq
    by_cases hlt : k < n
    · obtain ⟨b1, off1, x, rfl, hx, _, _, hcx⟩ := ha.int hlt
      by_cases hlm : k < m
      · obtain ⟨b2, off2, y, rfl, hy, _, _, hcy⟩ := hb.int hlm
        have Hd := hide (cmpL_drop hx hy)
        clear hx hy
        by_cases h0 : cmpI x y = 0
        · have HC2 := hide (fun w => (HC.out x y w))
          obtain ⟨z, hz⟩ : ∃ z, z = cmpI x y := ⟨_, rfl⟩
          rw [← hz] at h0
          rw [if_pos (by rw [← hz]; exact h0)] at Hd
          simp only [← hz] at HC2
          subst h0
          clear hz
          go_wp2_with (go_at_call 137; refine (HC2.out _).mono ?_; rintro e w1 ⟨rfl, rfl⟩)
          go_round
          case rel => exact ⟨k + 1, by omega, by omega, by go_num, by rw [Heq.out, Hd.out]⟩
          case measure => simp [intOf]; omega
        · have HC2 := hide (fun w => (HC.out x y w))
          rw [if_neg h0] at Hd
          obtain ⟨z, hz⟩ : ∃ z, z = cmpI x y := ⟨_, rfl⟩
          rw [← hz] at h0 Hd
          simp only [← hz] at HC2
          clear hz
          have hne : (z != 0) = true := by rw [bne_iff_ne]; exact h0
          go_wp2_with (go_at_call 137; refine (HC2.out _).mono ?_; rintro e w1 ⟨rfl, rfl⟩)
          go_ret
          exact ⟨ret_int (by rw [Heq.out, Hd.out]), rfl⟩
      · obtain rfl : k = m := by omega
        go_wp2_with fail
        go_ret
        refine ⟨ret_int ?_, rfl⟩
        rw [Heq.out, drop_cons hx, List.drop_eq_nil_of_le (show b.length ≤ k by rw [Hlb.out]; omega)]
        rfl
    · obtain rfl : k = n := by omega
      have e1 : a.drop k = [] := List.drop_eq_nil_of_le (by rw [Hla.out]; omega)
      have E1 := hide e1
      clear e1
      by_cases hlm : k < m
      · go_wp2_with fail
        go_ret
        refine ⟨ret_int ?_, rfl⟩
        have hy : b[k]? = some (b[k]'(by rw [Hlb.out]; exact hlm)) := List.getElem?_eq_getElem _
        rw [Heq.out, E1.out, drop_cons hy]
        rfl
      · obtain rfl : k = m := by omega
        go_wp2_with fail
        go_ret
        refine ⟨ret_int ?_, rfl⟩
        rw [Heq.out, E1.out, List.drop_eq_nil_of_le (show b.length ≤ k by rw [Hlb.out]; omega)]
        rfl
set_option maxRecDepth 100000 in
set_option maxHeartbeats 3200000 in
theorem Checked1_ct (a b : Nat) (ha : a < 4294967296) (hb : b < 4294967296) (w : World) :
    Calls Tryz.prog 98 #[.int .u32 a, .int .u32 b] w fun e w' => e = .returned (.int .i64 (cmpL (factsF a) (factsF b))) ∧ Below w.heap.size w w' ∧ w.drawn ≤ w'.drawn := by
  go_enter Tryz.func98, Tryz.ntmps98
  go_wp2_with fail
  refine (FactsD_ct a w ha).mono ?_
  rintro e w1 ⟨⟨hb1, A1, c1, vs1, rfl, hown1⟩, hd1⟩
  have Hr1 := hide hown1.rd
  have Hb1 := hide hb1
  have Hd1 := hide hd1
  clear hb1 hd1 hown1
  go_wp2_with fail
  refine (FactsD_ct b w1 hb).mono ?_
  rintro e w2 ⟨⟨hb2, A2, c2, vs2, rfl, hown2⟩, hd2⟩
  have Hr2 := hide hown2.rd
  have Hr1' := hide (Hr1.out.keep hb2)
  have Hb2 := hide (Hb1.out.trans (hb2.mono Hb1.out.size))
  have Hd2 := hide (Nat.le_trans Hd1.out hd2)
  clear hb2 hd2 hown2
  go_wp2_with fail
  refine (Compare_ct A1 A2 _ c1 _ c2 _ _ w2 Hr1'.out Hr2.out).mono ?_
  rintro e w3 ⟨rfl, rfl⟩
  go_wp2_with fail
  go_ret
  exact ⟨rfl, Hb2.out, Hd2.out⟩
end Go.Proofs.YtmjiiddncbhgpaaGreat
