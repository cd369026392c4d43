/- The law on And and Or against the reference, in plain Lean. -/
import Derived.Test.YtgenpcokpodhkaaDgPure11
import Derived.Maps.AppendAt
namespace Go.Proofs.Ytgenpcokpodhkaa
open Go.RowKit

theorem binary_may (L : Int) (ns : List DI) (r L2 : Int) (ns2 : List DI) (r2 : Int) :
    ((faultD L ns r).1 ≠ 0 → ∀ op, combineR op L ns r L2 ns2 r2 = ((0, [], 0), faultD L ns r)) ∧
    ((faultD L ns r).1 = 0 → (faultD L ns r).2 = 0) ∧ ((faultD L2 ns2 r2).1 = 0 → (faultD L2 ns2 r2).2 = 0) ∧
    (faultD L ns r = (0, 0) → (faultD L2 ns2 r2).1 ≠ 0 → ∀ op, combineR op L ns r L2 ns2 r2 = ((0, [], 0), ((faultD L2 ns2 r2).1, -4))) ∧
    (faultD L ns r = (0, 0) → faultD L2 ns2 r2 = (0, 0) → L ≠ L2 → ∀ op, combineR op L ns r L2 ns2 r2 = ((0, [], 0), (9, -5))) ∧
    (faultD L ns r = (0, 0) → faultD L2 ns2 r2 = (0, 0) → L = L2 → ∃ (L' r' r2' : Nat) (ds ds2 : List BN), L = L' ∧ r = r' ∧ r2 = r2' ∧ ns = ds.map castN ∧ ns2 = ds2.map castN ∧ Valid L' ds r' ∧ Valid L' ds2 r2' ∧
      ∀ op, combineR op L ns r L2 ns2 r2 = limF L' (diaF L' (fun s => opF op (sem ds r' s) (sem ds2 r2' s)))) := by
  refine ⟨fun h op => ?_, fun h => by rw [fault_code h], fun h => by rw [fault_code h], fun h h2 op => ?_, fun h h2 hl op => ?_, fun h h2 hl => ?_⟩
  · unfold combineR
    rw [if_neg (fun e => h (by rw [e]))]
  · unfold combineR
    rw [if_pos h, if_neg (fun e => h2 (by rw [e]))]
  · unfold combineR
    rw [if_pos h, if_pos h2, if_neg hl]
  · obtain ⟨hv, e1, e2, e3⟩ := faultD_valid h
    obtain ⟨hv2, e1', e2', e3'⟩ := faultD_valid h2
    subst hl
    refine ⟨L.toNat, r.toNat, r2.toNat, ns.map natN, ns2.map natN, e2.symm, e3.symm, e3'.symm, e1.symm, e1'.symm, hv, hv2, fun op => ?_⟩
    unfold combineR
    rw [if_pos h, if_pos h2, if_pos rfl]
theorem table_get {L : Nat} {φ : Fun} {j : Nat} {x : Bool} (h : (tableF L φ)[j]? = some x) : x = φ (bits L 0 j) := by
  unfold tableF at h
  rw [List.getElem?_map] at h
  cases hr : (List.range (2 ^ L))[j]? with
  | none => rw [hr] at h; cases h
  | some q =>
    rw [hr] at h
    obtain ⟨_, e⟩ := List.getElem?_eq_some_iff.1 hr
    rw [List.getElem_range] at e
    subst e
    exact (Option.some.inj h).symm

/-- one element more on a row of the call's own; where the row lies now -/
theorem wpList_pushA {P : Program} {w : World} {ops : Array Oper} {rest : List Oper} {o : Oper} {a : Act} {Q : Exit → Act → World → Prop} (hgd : o.guard = none) (s x : Operand) (t : TypeId)
    (ho : o.op = .call { callee := .builtin .append, args := #[s, x], argTypes := #[t, t] })
    (base : Nat) (e : TypeId) (i : TypeInfo) (z : Value) (size bytes : Nat) (ht : P.underlying t = some (.slice e)) (hi : P.info? e = some i) (hz : i.zero = some z)
    (hsize : i.size = size) (hby : i.bytes = bytes) (hzs : z.cells.size = size) (hsz : 0 < size)
    (v : Value) (n : Nat) (xs : List Value) (hs : a.eval s = v) (hown : w.ownsRow base e size v n xs)
    (us : List Value) (hus : us.length = size) (h1 : ∀ u ∈ us, u.oneCell' = true) (hx : a.eval x = .slice (some ⟨w.heap.size, 0, none⟩) 1 1)
    (h63 : n + 1 ≤ 1000000000000) (hbytes : (n + 1) * bytes ≤ 140737488355328) (hbase : base ≤ w.heap.size)
    (h : ∀ O oc w', w'.ownsRow base e size (.slice O (n + 1) oc) (n + 1) (xs ++ us) → (w.alloc (.cells us.toArray e)).grownBy w' v.ownBlock → ((Value.slice O (n + 1) oc).ownBlock = v.ownBlock ∨ (Value.slice O (n + 1) oc).ownBlock = some (w.heap.size + 1)) → wpList P ops Q rest (a.put o.dst (.slice O (n + 1) oc)) w') :
    wpList P ops Q (o :: rest) a (w.alloc (.cells us.toArray e)) := by
  refine wpList_append_own_at _ hgd s x t ho base e i z size bytes ht hi hz hsize hby hzs hsz v n xs hs (hown.alloc _) ⟨w.heap.size, 0, none⟩ 1 1 us hx (by omega) ?_ h1 (by unfold maxLen; omega) hbytes (by simp; omega) ?_
  · intro j u hj
    rw [add_plain, Nat.zero_add]
    have := (Blk.new w e us).cell j
    rw [hj] at this
    exact this
  · intro v' w' hown' hg _ hat
    have hsh : ∃ O oc, v' = .slice O (n + 1) oc := by
      rcases hown'.2 with ⟨_, h0⟩ | ⟨g, cap, cur, e', _⟩
      · omega
      · exact ⟨_, _, e'⟩
    obtain ⟨O, oc, rfl⟩ := hsh
    exact h O oc w' hown' hg (by simpa using hat)
/-- two rows of the call's own that lie apart -/
structure TwoR (w : World) (B : Nat) (t : TypeId) (v1 v2 : Value) (n1 n2 : Nat) (l1 l2 : List Value) : Prop where
  one : w.ownsRow B t 1 v1 n1 l1
  two : w.ownsRow B t 1 v2 n2 l2
  apart : ∀ r, v2.ownBlock = some r → some r ≠ v1.ownBlock
theorem TwoR.push1 {w w' : World} {B : Nat} {t : TypeId} {v1 v2 v1' : Value} {n1 n2 n1' : Nat} {l1 l2 l1' : List Value} (h : TwoR w B t v1 v2 n1 n2 l1 l2) {o : Obj} (ho : w'.ownsRow B t 1 v1' n1' l1') (hg : (w.alloc o).grownBy w' v1.ownBlock)
    (hat : v1'.ownBlock = v1.ownBlock ∨ v1'.ownBlock = some (w.heap.size + 1)) : TwoR w' B t v1' v2 n1' n2 l1' l2 := by
  refine ⟨ho, own_other (h.two.alloc _) hg h.apart, fun r hr e => ?_⟩
  rcases hat with hat | hat
  · exact h.apart r hr (e.trans hat)
  · rw [hat] at e
    injection e with e
    have := (own_block h.two hr).1
    omega
theorem TwoR.push2 {w w' : World} {B : Nat} {t : TypeId} {v1 v2 v2' : Value} {n1 n2 n2' : Nat} {l1 l2 l2' : List Value} (h : TwoR w B t v1 v2 n1 n2 l1 l2) {o : Obj} (ho : w'.ownsRow B t 1 v2' n2' l2') (hg : (w.alloc o).grownBy w' v2.ownBlock)
    (hat : v2'.ownBlock = v2.ownBlock ∨ v2'.ownBlock = some (w.heap.size + 1)) : TwoR w' B t v1 v2' n1 n2' l1 l2' := by
  refine ⟨own_other (h.one.alloc _) hg (fun r hr e => h.apart r e.symm hr.symm), ho, fun r hr e => ?_⟩
  rcases hat with hat | hat
  · exact h.apart r (hat.symm.trans hr) e
  · rw [hat] at hr
    injection hr with hr
    have := (own_block h.one e.symm).1
    omega
theorem TwoR.below {w w' w0 : World} {B : Nat} {t : TypeId} {size n : Nat} {v : Value} {xs : List Value} (hb : Below B w0 w) (hB : B ≤ w.heap.size) {o : Obj} (h : w.ownsRow B t size v n xs) (hg : (w.alloc o).grownBy w' v.ownBlock) : Below B w0 w' :=
  (hb.alloc hB o).grown hg (by simp; omega) (fun k hk => own_base h hk)
end Go.Proofs.Ytgenpcokpodhkaa
