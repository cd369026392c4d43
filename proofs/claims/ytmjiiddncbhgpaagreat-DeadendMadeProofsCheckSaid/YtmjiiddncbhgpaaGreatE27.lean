/- What the law asks for, part 27: Maps. -/
import Derived.Test.YtmjiiddncbhgpaaGreatE1
import Derived.BigQuiet
import Derived.Deep.AppendLies
import Derived.Deep.Draws
import Derived.Deep.Fields
import Derived.Deep.LoopGhost
import Derived.Deep.QuietTactic
import Derived.Deep.Slices
import Derived.DeepKeys4
import Derived.Laws.AppendOwnNone
import Derived.Laws.OwnMore
import Derived.Lib.Hide
import Derived.Maps.OwnOps
import Derived.Maps.OwnSet
import Derived.Test.YtmjiiddncbhgpaaGreatProg
import Derived.WalkKit
namespace Go.Proofs.YtmjiiddncbhgpaaGreat
open Go.RowKit Go.Maps
/-- block b is a map of at most n entries, int elements of type E, keys of type K, that holds what M says; 'enc': how a key lies in memory -/
def MapAt {κ : Type} (P : Program) (K E : TypeId) (enc : κ → Value) (w : World) (b n : Nat) (M : κ → Option Int) : Prop :=
  ∃ D : DataW Unit, w.ownsMap P K (plainElem P E) b n D ∧ ∀ key kl, keyOf P K (enc key) = some kl →
    Maps.has D kl = (M key).isSome ∧ ∀ c, M key = some c → D.atKey kl (.lit (.int .i64 0)) = .lit (.int .i64 c)
def putM {κ : Type} [DecidableEq κ] (M : κ → Option Int) (key : κ) (c : Int) : κ → Option Int := fun k => if k = key then some c else M k
theorem putM_same {κ : Type} [DecidableEq κ] (M : κ → Option Int) (key : κ) (c : Int) : putM M key c key = some c := by simp [putM]
theorem putM_other {κ : Type} [DecidableEq κ] (M : κ → Option Int) {key k : κ} (c : Int) (h : k ≠ key) : putM M key c k = M k := by simp [putM, h]

section
variable {κ : Type} {P : Program} {K E T : TypeId} {enc : κ → Value} {w w' : World} {b n : Nat} {M : κ → Option Int}
theorem MapAt.lt (h : MapAt P K E enc w b n M) : b < w.heap.size := let ⟨_, h1, _⟩ := h; h1.lt
theorem MapAt.isMap (h : MapAt P K E enc w b n M) : ∃ es clock, w.heap[b]? = some (.map es clock) := by
  obtain ⟨D, ⟨es, clock, hb, _⟩, _⟩ := h
  exact ⟨es, clock, hb⟩
theorem MapAt.of_block (h : MapAt P K E enc w b n M) (e : w'.heap[b]? = w.heap[b]?) : MapAt P K E enc w' b n M := by
  obtain ⟨D, ⟨es, clock, hb, r⟩, h2⟩ := h
  exact ⟨D, ⟨es, clock, e.trans hb, r⟩, h2⟩
theorem MapAt.alloc (h : MapAt P K E enc w b n M) (o : Obj) : MapAt P K E enc (w.alloc o) b n M := h.of_block (Below.heap_alloc w o b h.lt)
theorem MapAt.drewN (h : MapAt P K E enc w b n M) (d : Nat) : MapAt P K E enc (w.drewN d) b n M := h.of_block rfl
theorem MapAt.mono (h : MapAt P K E enc w b n M) {n' : Nat} (hn : n ≤ n') : MapAt P K E enc w b n' M := let ⟨D, h1, h2⟩ := h; ⟨D, h1.mono hn, h2⟩
theorem MapAt.made (w : World) (P : Program) (K E : TypeId) (enc : κ → Value) : MapAt P K E enc (w.alloc (.map #[] 0)) w.heap.size 0 (fun _ => none) :=
  ⟨.map [], World.ownsMap_made w P K _, fun key kl _ => ⟨by simp [Maps.has], fun c h => by cases h⟩⟩
/-- 'v, ok := m[key]' -/
theorem MapAt.look (h : MapAt P K E enc w b n M) (law : Keyed P K) (ht : P.underlying T = some (.map K E)) (he : P.underlying E = some (.int .i64)) (hz : ∀ w : World, (zeroValue E).run P w = .ok (.int .i64 0) w) {key : κ} {kl : Lit} (hkey : keyOf P K (enc key) = some kl) :
    ∃ c, (Instr.lookup T (.map (some b)) (enc key) true).run P w = .ok (.tuple #[.int .i64 c, .bool (M key).isSome]) w ∧ (-9223372036854775808 ≤ c ∧ c ≤ 9223372036854775807) ∧ ∀ c', M key = some c' → c = c' := by
  obtain ⟨D, h1, h2⟩ := h
  obtain ⟨g1, g2⟩ := h2 key kl hkey
  obtain ⟨v, ps, hrun, hv⟩ := h1.look_ok law ht (hz w) (plainElem_int he (a := 0) (by decide)) hkey
  obtain ⟨c, rfl, hc, hw⟩ := plainElem_int_inv he hv
  refine ⟨c, by rw [← g1]; exact hrun, ?_, fun c' hc' => ?_⟩
  · simpa [Lit.wf, IntKind.min, IntKind.max, IntKind.bits, IntKind.signed] using hw
  · simp only [Prod.mk.injEq] at hc
    have := hc.1.symm.trans (g2 c' hc')
    injection this with this
    injection this
/-- 'v, ok := m[key]', in every world in which the map's block is the same -/
theorem MapAt.looks (h : MapAt P K E enc w b n M) (law : Keyed P K) (ht : P.underlying T = some (.map K E)) (he : P.underlying E = some (.int .i64)) (hz : ∀ w : World, (zeroValue E).run P w = .ok (.int .i64 0) w) {key : κ} {kl : Lit} (hkey : keyOf P K (enc key) = some kl) :
    ∃ c, (∀ w' : World, w'.heap[b]? = w.heap[b]? → (Instr.lookup T (.map (some b)) (enc key) true).run P w' = .ok (.tuple #[.int .i64 c, .bool (M key).isSome]) w') ∧ (-9223372036854775808 ≤ c ∧ c ≤ 9223372036854775807) ∧ ∀ c', M key = some c' → c = c' := by
  obtain ⟨D, h1, h2⟩ := h
  obtain ⟨g1, g2⟩ := h2 key kl hkey
  have all : ∀ w' : World, w'.heap[b]? = w.heap[b]? → ∃ c, (Instr.lookup T (.map (some b)) (enc key) true).run P w' = .ok (.tuple #[.int .i64 c, .bool (M key).isSome]) w' ∧ DataW.lit (.int .i64 c) = D.atKey kl (.lit (.int .i64 0)) ∧ (Lit.int .i64 c).wf = true := by
    intro w' e
    have h1' : w'.ownsMap P K (plainElem P E) b n D := by
      obtain ⟨es, clock, hb, r⟩ := h1
      exact ⟨es, clock, e.trans hb, r⟩
    obtain ⟨v, ps, hrun, hv⟩ := h1'.look_ok law ht (hz w') (plainElem_int he (a := 0) (by decide)) hkey
    obtain ⟨c, rfl, hc, hw⟩ := plainElem_int_inv he hv
    simp only [Prod.mk.injEq] at hc
    exact ⟨c, by rw [← g1]; exact hrun, hc.1.symm, hw⟩
  obtain ⟨c, _, hc, hw⟩ := all w rfl
  refine ⟨c, fun w' e => ?_, ?_, fun c' hc' => ?_⟩
  · obtain ⟨c', hr, hc', _⟩ := all w' e
    have := hc'.trans hc.symm
    injection this with this
    injection this with _ this
    subst this
    exact hr
  · simpa [Lit.wf, IntKind.min, IntKind.max, IntKind.bits, IntKind.signed] using hw
  · have := hc.trans (g2 c' hc')
    injection this with this
    injection this
/-- 'v := m[key]', the key there -/
theorem MapAt.look1 (h : MapAt P K E enc w b n M) (law : Keyed P K) (ht : P.underlying T = some (.map K E)) (he : P.underlying E = some (.int .i64)) (hz : ∀ w : World, (zeroValue E).run P w = .ok (.int .i64 0) w) {key : κ} {kl : Lit} (hkey : keyOf P K (enc key) = some kl) {c : Int} (hc : M key = some c) :
    (Instr.lookup T (.map (some b)) (enc key) false).run P w = .ok (.int .i64 c) w := by
  obtain ⟨D, h1, h2⟩ := h
  obtain ⟨c', hr, ha, _⟩ := h1.lookup_int law ht he (hz w) hkey
  have := ha.symm.trans ((h2 key kl hkey).2 c hc)
  injection this with this
  injection this with _ this
  rw [← this]
  exact hr
/-- 'm[key] = c' -/
theorem MapAt.put [DecidableEq κ] (h : MapAt P K E enc w b n M) (henc : ∀ a b, enc a = enc b → a = b) (law : Keyed P K) (ht : P.underlying T = some (.map K E)) (he : P.underlying E = some (.int .i64)) (hn : n < 5800000000000) {key : κ} {kl : Lit} (hkey : keyOf P K (enc key) = some kl) (c : Int) (hc : -9223372036854775808 ≤ c ∧ c ≤ 9223372036854775807) :
    ∃ w1, (Instr.mapUpdate T (.map (some b)) (enc key) (.int .i64 c)).run P w = .ok () w1 ∧ MapAt P K E enc w1 b (n + 1) (putM M key c) ∧ w.grownBy w1 (some b) ∧ w1.heap.size = w.heap.size := by
  obtain ⟨D, h1, h2⟩ := h
  have hwf : (Lit.int .i64 c).wf = true := by simp [Lit.wf, IntKind.min, IntKind.max, IntKind.bits, IntKind.signed]; omega
  obtain ⟨w1, hrun, hown, hturn⟩ := h1.store law ht (Nat.lt_of_lt_of_le hn (by unfold maxLen; omega)) hkey (plainElem_int he hwf)
  refine ⟨w1, hrun, ⟨_, hown, fun k kl' hk' => ?_⟩, hturn.grown, ?_⟩
  · by_cases hkk : k = key
    · subst hkk
      obtain rfl : kl = kl' := Option.some.inj (hkey.symm.trans hk')
      rw [putM_same]
      refine ⟨Maps.has_put_same h1.isMap (law.key hkey) _, fun c' hc' => ?_⟩
      injection hc' with hc'
      rw [Maps.atKey_put_same h1.isMap (law.key hkey), hc']
    · have hne : kl' ≠ kl := fun e => hkk (henc _ _ (law.inj (by rw [← e]; exact hk') hkey))
      rw [putM_other _ _ hkk]
      obtain ⟨g1, g2⟩ := h2 k kl' hk'
      exact ⟨by rw [Maps.has_put_other hne]; exact g1, fun c' hc' => by rw [Maps.atKey_put_other hne]; exact g2 c' hc'⟩
  · obtain ⟨es, clock, es', clock', _, rfl⟩ := hturn
    simp [Go.ChangeMaps.setBlock]
end
end Go.Proofs.YtmjiiddncbhgpaaGreat
