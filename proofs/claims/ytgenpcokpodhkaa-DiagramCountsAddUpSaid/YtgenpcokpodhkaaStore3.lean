/- Contracts of the store: NewStore, both, And, Or, Literal. -/
import Derived.Test.YtgenpcokpodhkaaStore2
namespace Go.Proofs.Ytgenpcokpodhkaa
open Go.RowKit Go.Maps

/-- what an operation does to two values -/
def opF (op : Nat) (x y : Bool) : Bool := if op = 0 then x && y else x || y
/-- the pairs that a store remembers mean what they say -/
def PairsOk (ns : List BN) (M : BN → Option Int) : Prop :=
  ∀ op a b c, M (op, a, b) = some c → ∃ k : Nat, c = k ∧ k < ns.length + 2 ∧ a < ns.length + 2 ∧ b < ns.length + 2 ∧ ∀ s, sem ns k s = opF op (sem ns a s) (sem ns b s)
/-- a store of these nodes, all in order; at most C nodes and remembered pairs -/
def St (L B g bf bp : Nat) (w : World) (ns : List BN) (C : Nat) : Prop :=
  ns.length ≤ C ∧ OkD L ns ∧ ∃ np M, np ≤ C ∧ StoreAt L B g bf bp w ns np M ∧ PairsOk ns M
/-- returned a node, of a store with more nodes -/
def StP (L B g bf bp : Nat) (w : World) (ns : List BN) (C : Nat) (Q : List BN → Nat → Prop) (e : Ending) (w' : World) : Prop :=
  ∃ ms k, e = .returned (.int .i64 (k : Nat)) ∧ St L B g bf bp w' (ns ++ ms) C ∧ Kept B g bf bp w w' ∧ k < (ns ++ ms).length + 2 ∧ Q (ns ++ ms) k

theorem PairsOk.more {L : Nat} {ns : List BN} {M : BN → Option Int} (ok : OkD L ns) (h : PairsOk ns M) (ms : List BN) : PairsOk (ns ++ ms) M := fun op a b c hc => by
  obtain ⟨k, h1, h2, h3, h4, h5⟩ := h op a b c hc
  refine ⟨k, h1, by simp; omega, by simp; omega, by simp; omega, fun s => ?_⟩
  rw [sem_add ok ms h2, sem_add ok ms h3, sem_add ok ms h4, h5]
section
variable {L B g bf bp : Nat} {w w' : World} {ns : List BN} {C : Nat}
theorem St.keep (h : St L B g bf bp w ns C) (hb : Below w.heap.size w w') : St L B g bf bp w' ns C := by
  obtain ⟨h1, h2, np, M, h3, h4, h5⟩ := h
  exact ⟨h1, h2, np, M, h3, h4.keep hb, h5⟩
theorem St.mono (h : St L B g bf bp w ns C) {C' : Nat} (hC : C ≤ C') : St L B g bf bp w ns C' := by
  obtain ⟨h1, h2, np, M, h3, h4, h5⟩ := h
  exact ⟨by omega, h2, np, M, by omega, h4, h5⟩
theorem St.ok (h : St L B g bf bp w ns C) : OkD L ns := h.2.1
theorem St.base (h : St L B g bf bp w ns C) : B ≤ w.heap.size := by
  obtain ⟨_, _, np, M, _, h4, _⟩ := h
  exact h4.base.2.2.2.2
theorem St.lt (h : St L B g bf bp w ns C) : g < w.heap.size := by
  obtain ⟨_, _, np, M, _, h4, _⟩ := h
  exact h4.lt
theorem St.free (h : St L B g bf bp w ns C) {t : TypeId} {b : Nat} {cs : List Value} (hb : Blk t w b cs) (hg : b ≠ g) (ht : t ≠ 69) : Free w g bf bp b := by
  obtain ⟨_, _, np, M, _, h4, _⟩ := h
  exact h4.free hb hg ht
theorem St.low (h : St L B g bf bp w ns C) : L ≤ 24 := by
  obtain ⟨_, _, np, M, _, h4, _⟩ := h
  exact h4.low
end

/-- a node of whose value only the variables from m on matter stands at m or below -/
theorem lvl_of_dep {L : Nat} {ns : List BN} (ok : OkD L ns) {k m : Nat} (hk : k < ns.length + 2) (hm : m ≤ L) (h : ∀ s t : Nat → Bool, (∀ v, m ≤ v → s v = t v) → sem ns k s = sem ns k t) : m ≤ lvl L ns k := by
  by_cases h2 : k < 2
  · rw [lvl_small ns h2]
    exact hm
  · obtain ⟨i, v, l, h', rfl, hn⟩ := node_of (ns := ns) (by omega) hk
    rw [lvl_node hn]
    apply Classical.byContradiction
    intro hlt
    obtain ⟨s, hs⟩ := sem_looks ok hn
    exact hs (h _ _ (fun u hu => by rw [setV_other _ _ (by omega), setV_other _ _ (by omega)]))

/-- the pure side of Node -/
theorem nodeF_ok {L : Nat} {ns : List BN} (ok : OkD L ns) {v l h : Nat} (hv : v < L) (hl : l < ns.length + 2) (hh : h < ns.length + 2) (h1 : v < lvl L ns l) (h2 : v < lvl L ns h) :
    ∃ ms k, nodeF ns v l h = (ns ++ ms, k) ∧ OkD L (ns ++ ms) ∧ ms.length ≤ 1 ∧ k < (ns ++ ms).length + 2 ∧ ∀ s, sem (ns ++ ms) k s = if s v = true then sem ns h s else sem ns l s := by
  unfold nodeF
  by_cases hlh : l = h
  · subst hlh
    rw [if_pos rfl]
    exact ⟨[], l, by simp, by simpa using ok, by simp, by simpa using hl, fun s => by simp⟩
  · rw [if_neg hlh]
    cases hp : posN ns (v, l, h) 2 with
    | some k =>
      obtain ⟨t, rfl, ht⟩ := posN_some hp
      have := (List.getElem?_eq_some_iff.1 ht).1
      refine ⟨[], 2 + t, by simp, by simpa using ok, by simp, by simp; omega, fun s => ?_⟩
      rw [List.append_nil, Nat.add_comm, sem_node ok ht]
    | none =>
      have ok' := ok.push hv hl hh hlh h1 h2 (posN_none.1 hp)
      refine ⟨[(v, l, h)], ns.length + 2, rfl, ok', by simp, by simp, fun s => ?_⟩
      have hlast : (ns ++ [(v, l, h)])[ns.length]? = some (v, l, h) := by simp
      rw [sem_node ok' hlast, sem_add ok _ hl, sem_add ok _ hh]

theorem Node_st {L B g bf bp : Nat} {w : World} {ns : List BN} {C : Nat} (h : St L B g bf bp w ns C) {v l h' : Nat} (hv : v < L) (hl : l < ns.length + 2) (hh : h' < ns.length + 2) (h1 : v < lvl L ns l) (h2 : v < lvl L ns h') (hroom : C < 1000000000000) :
    Calls Try.prog 60 #[.pointer (some ⟨g, 0, none⟩), .int .i64 v, .int .i64 l, .int .i64 h'] w
      (StP L B g bf bp w ns (C + 1) fun ns' k => (∀ s, sem ns' k s = if s v = true then sem ns h' s else sem ns l s) ∧ (ns', k) = nodeF ns v l h') := by
  have hL := h.low
  obtain ⟨g1, ok, np, M, g3, g4, g5⟩ := h
  obtain ⟨ms, k, e1, e2, e3, e4, e5⟩ := nodeF_ok ok hv hl hh h1 h2
  have hn := Node_ct g4 (v := v) (l := l) (h' := h') (by omega) hl hh (by omega)
  rw [e1] at hn
  refine hn.mono ?_
  rintro e w' ⟨rfl, h3, h4⟩
  exact ⟨ms, k, rfl, ⟨by simp; omega, e2, np, M, by omega, h3, g5.more ok ms⟩, h4, e4, e5, e1.symm⟩

/-- returned a store without nodes -/
def NewP (L : Nat) (w : World) (e : Ending) (w' : World) : Prop :=
  Below w.heap.size w w' ∧ ∃ g bf bp, e = .returned (.pointer (some ⟨g, 0, none⟩)) ∧ St L w.heap.size g bf bp w' [] 0
theorem NewStore_ct (L : Nat) (hL : L ≤ 24) (w : World) : Calls Try.prog 36 #[.int .i64 L] w (NewP L w) := by
  have hm1 := fun w => run_makeMap (P := Try.prog) 82 w
  have hm2 := fun w => run_makeMap (P := Try.prog) 83 w
  go_enter Try.func36, Try.ntmps36
  go_wp2
  go_ret
  have h1 := MapAt.made w Try.prog 69 3 encN
  have h2 := MapAt.made (w.alloc (.map #[] 0)) Try.prog 93 3 encN
  simp only [World.size_alloc] at h2
  have hb := Blk.new ((w.alloc (.map #[] 0)).alloc (.map #[] 0)) 85 [.int .i64 L, .slice none 0 0, .map (some w.heap.size), .map (some (w.heap.size + 1))]
  simp only [World.size_alloc] at hb
  refine ⟨(((Below.refl _ _).alloc (Nat.le_refl _) _).alloc (by simp) _).alloc (by simp; omega) _, w.heap.size + 1 + 1, w.heap.size, w.heap.size + 1, rfl, by simp, OkD.nil L, 0, fun _ => none, Nat.le_refl _, ⟨hL, by simp, ⟨none, 0, hb, World.ownsRow_nil _ _ _ _⟩, (h1.alloc _).alloc _, h2.alloc _, by omega, by omega, by omega, by omega, by simp; omega⟩, fun op a b c hc => by cases hc⟩

theorem StP.stay {L B g bf bp : Nat} {w : World} {ns : List BN} {C C' k : Nat} {Q : List BN → Nat → Prop} (h : St L B g bf bp w ns C) (hC : C ≤ C') (hk : k < ns.length + 2) (hQ : Q ns k) : StP L B g bf bp w ns C' Q (.returned (.int .i64 (k : Nat))) w :=
  ⟨[], k, rfl, by simpa using h.mono hC, Kept.refl _ _ _ _ _, by simpa using hk, by simpa using hQ⟩

set_option maxHeartbeats 1600000 in
set_option maxRecDepth 100000 in
theorem both_end {L B g bf bp : Nat} {op : Nat} (hop : op = 0 ∨ op = 1) {w : World} {ns : List BN} {C : Nat} (h : St L B g bf bp w ns C) {a b : Nat} (ha : a < ns.length + 2) (hb : b < ns.length + 2) (hend : a = b ∨ a < 2 ∨ b < 2) :
    Calls Try.prog 59 #[.pointer (some ⟨g, 0, none⟩), .int .i64 op, .int .i64 a, .int .i64 b] w (StP L B g bf bp w ns C fun ns' k => ∀ s, sem ns' k s = opF op (sem ns a s) (sem ns b s)) := by
  have hlen : ns.length ≤ 1000000000000 := by
    obtain ⟨_, _, np, M, _, h4, _⟩ := h
    exact h4.few.1
  have Hst := hide h
  have Hend := hide hend
  clear h hend
  by_cases hab : a = b
  · subst hab
    have hQ : ∀ s, sem ns a s = opF op (sem ns a s) (sem ns a s) := fun s => by
      unfold opF
      split <;> cases sem ns a s <;> rfl
    have HQ := hide hQ
    clear hQ
    go_enter Try.func59, Try.ntmps59
    go_wp2
    go_ret
    exact StP.stay Hst.out (Nat.le_refl _) ha HQ.out
  · have ends : ∀ k, k < ns.length + 2 → (∀ s, sem ns k s = opF op (sem ns a s) (sem ns b s)) → StP L B g bf bp w ns C (fun ns' k => ∀ s, sem ns' k s = opF op (sem ns a s) (sem ns b s)) (.returned (.int .i64 (k : Nat))) w :=
      fun k hk hQ => StP.stay Hst.out (Nat.le_refl _) hk hQ
    by_cases ha2 : a < 2
    · rcases (show a = 0 ∨ a = 1 by omega) with rfl | rfl <;> rcases hop with rfl | rfl
      · have He := hide (ends 0 (by omega) (fun s => by simp [opF, sem_zero]))
        clear ends
        by_cases hb2 : b < 2
        · obtain rfl : b = 1 := by omega
          go_enter Try.func59, Try.ntmps59
          go_wp2
          go_ret
          exact He.out
        · go_enter Try.func59, Try.ntmps59
          go_wp2
          go_ret
          exact He.out
      · have He := hide (ends b (by omega) (fun s => by simp [opF, sem_zero]))
        clear ends
        go_enter Try.func59, Try.ntmps59
        go_wp2
        go_ret
        exact He.out
      · have He := hide (ends b (by omega) (fun s => by simp [opF, sem_one]))
        clear ends
        go_enter Try.func59, Try.ntmps59
        go_wp2
        go_ret
        exact He.out
      · have He := hide (ends 1 (by omega) (fun s => by simp [opF, sem_one]))
        clear ends
        by_cases hb2 : b < 2
        · obtain rfl : b = 0 := by omega
          go_enter Try.func59, Try.ntmps59
          go_wp2
          go_ret
          exact He.out
        · go_enter Try.func59, Try.ntmps59
          go_wp2
          go_ret
          exact He.out
    · have hb2 : b < 2 := by
        rcases Hend.out with h | h | h
        · exact absurd h hab
        · exact absurd h ha2
        · exact h
      rcases (show b = 0 ∨ b = 1 by omega) with rfl | rfl <;> rcases hop with rfl | rfl
      · have He := hide (ends 0 (by omega) (fun s => by simp [opF, sem_zero]))
        clear ends
        go_enter Try.func59, Try.ntmps59
        go_wp2
        go_ret
        exact He.out
      · have He := hide (ends a (by omega) (fun s => by simp [opF, sem_zero]))
        clear ends
        go_enter Try.func59, Try.ntmps59
        go_wp2
        go_ret
        exact He.out
      · have He := hide (ends a (by omega) (fun s => by simp [opF, sem_one]))
        clear ends
        go_enter Try.func59, Try.ntmps59
        go_wp2
        go_ret
        exact He.out
      · have He := hide (ends 1 (by omega) (fun s => by simp [opF, sem_one]))
        clear ends
        go_enter Try.func59, Try.ntmps59
        go_wp2
        go_ret
        exact He.out
end Go.Proofs.Ytgenpcokpodhkaa
