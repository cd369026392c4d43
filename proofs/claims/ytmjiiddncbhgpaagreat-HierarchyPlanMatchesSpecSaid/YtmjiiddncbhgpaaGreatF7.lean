/- The law HierarchyPlanMatchesSpec of the package hierarchy holds, without a condition., part 7: MapV. -/
import Derived.Test.YtmjiiddncbhgpaaGreatF1
import Derived.Test.YtmjiiddncbhgpaaGreatF3
import Derived.BigQuiet
import Derived.Deep.AppendLies
import Derived.Deep.Draws
import Derived.Deep.Fields
import Derived.Deep.LoopGhost
import Derived.Deep.QuietTactic
import Derived.Deep.Slices
import Derived.DeepKeys4
import Derived.Laws.AppendOwnNone
import Derived.Laws.OwnMore
import Derived.Lib.Hide
import Derived.Maps.AppendAt
import Derived.Maps.OwnOps
import Derived.Maps.OwnSet
import Derived.Test.YtmjiiddncbhgpaaGreatProg
import Derived.WalkKit
namespace Go.Proofs.YtmjiiddncbhgpaaGreat
set_option linter.unusedVariables false
open Go.RowKit Go.Maps
/-- an element as it stands -/
def rawElem (v : Value) : Option (DataW Value × List MemPlace) := some (.held v, [])
/-- block b is a map of cnt keys that holds what M says; 'enc': how a key lies in memory -/
def MapV {κ : Type} (P : Program) (K : TypeId) (enc : κ → Value) (w : World) (b cnt : Nat) (M : κ → Option Value) : Prop :=
  ∃ D : DataW Value, w.ownsMap P K rawElem b cnt D ∧ Maps.size D = cnt ∧ ∀ key kl, keyOf P K (enc key) = some kl →
    Maps.has D kl = (M key).isSome ∧ ∀ v z, M key = some v → D.atKey kl z = .held v
def putV {κ : Type} [DecidableEq κ] (M : κ → Option Value) (key : κ) (v : Value) : κ → Option Value := fun k => if k = key then some v else M k
def delV {κ : Type} [DecidableEq κ] (M : κ → Option Value) (key : κ) : κ → Option Value := fun k => if k = key then none else M k
theorem putV_same {κ : Type} [DecidableEq κ] (M : κ → Option Value) (key : κ) (v : Value) : putV M key v key = some v := by simp [putV]
theorem putV_other {κ : Type} [DecidableEq κ] (M : κ → Option Value) {key k : κ} (v : Value) (h : k ≠ key) : putV M key v k = M k := by simp [putV, h]
theorem delV_same {κ : Type} [DecidableEq κ] (M : κ → Option Value) (key : κ) : delV M key key = none := by simp [delV]
theorem delV_other {κ : Type} [DecidableEq κ] (M : κ → Option Value) {key k : κ} (h : k ≠ key) : delV M key k = M k := by simp [delV, h]
theorem own_size {H : Type} {P : Program} {K : TypeId} {R : Value → Option (DataW H × List MemPlace)} {w : World} {b n : Nat} {D : DataW H} (h : w.ownsMap P K R b n D) : w.ownsMap P K R b (Maps.size D) D := by
  obtain ⟨es, clock, hb, F, hs, rfl⟩ := h
  refine ⟨es, clock, hb, F, ?_, rfl⟩
  rw [Maps.size_eq, length_read]
  exact Nat.le_refl _

section
variable {κ : Type} {P : Program} {K E T : TypeId} {enc : κ → Value} {w w' : World} {b cnt : Nat} {M : κ → Option Value}
theorem MapV.lt (h : MapV P K enc w b cnt M) : b < w.heap.size := let ⟨_, h1, _⟩ := h; h1.lt
theorem MapV.isMap (h : MapV P K enc w b cnt M) : ∃ es clock, w.heap[b]? = some (.map es clock) := by
  obtain ⟨D, ⟨es, clock, hb, _⟩, _⟩ := h
  exact ⟨es, clock, hb⟩
theorem MapV.of_block (h : MapV P K enc w b cnt M) (e : w'.heap[b]? = w.heap[b]?) : MapV P K enc w' b cnt M := by
  obtain ⟨D, ⟨es, clock, hb, r⟩, h2⟩ := h
  exact ⟨D, ⟨es, clock, e.trans hb, r⟩, h2⟩
theorem MapV.alloc (h : MapV P K enc w b cnt M) (o : Obj) : MapV P K enc (w.alloc o) b cnt M := h.of_block (Below.heap_alloc w o b h.lt)
theorem MapV.drewN (h : MapV P K enc w b cnt M) (d : Nat) : MapV P K enc (w.drewN d) b cnt M := h.of_block rfl
theorem MapV.keep (h : MapV P K enc w b cnt M) (hb : Below w.heap.size w w') : MapV P K enc w' b cnt M := h.of_block (hb.block b h.lt)
theorem MapV.chg {C : Nat → Prop} (h : MapV P K enc w b cnt M) (hc : Chg C w w') (hb : ¬ C b) : MapV P K enc w' b cnt M := h.of_block (hc.block b h.lt hb)
theorem MapV.far (h : MapV P K enc w b cnt M) {p : Addr} (hp : b ≠ p.block) (u : Value) : MapV P K enc (w.setCell p u) b cnt M := h.of_block (Below.heap_setCell w p u b hp)
/-- a block of cells is not the map's -/
theorem MapV.ne {t : TypeId} {g : Nat} {cs : List Value} (h : MapV P K enc w b cnt M) (hg : Blk t w g cs) : b ≠ g := by
  rintro rfl
  obtain ⟨es, clock, e⟩ := h.isMap
  unfold Blk at hg
  rw [e] at hg
  cases hg
theorem MapV.made (w : World) (P : Program) (K : TypeId) (enc : κ → Value) : MapV P K enc (w.alloc (.map #[] 0)) w.heap.size 0 (fun _ => none) :=
  ⟨.map [], World.ownsMap_made w P K _, rfl, fun key kl _ => ⟨by simp [Maps.has], fun v z h => by cases h⟩⟩
theorem MapV.ext (h : MapV P K enc w b cnt M) {M' : κ → Option Value} (e : ∀ k, M' k = M k) : MapV P K enc w b cnt M' := by
  obtain rfl : M' = M := funext e
  exact h
/-- 'v, ok := m[key]', in every world in which the map's block is the same -/
theorem MapV.look (h : MapV P K enc w b cnt M) (law : Keyed P K) (ht : P.underlying T = some (.map K E)) {z : Value} (hz : ∀ w : World, (zeroValue E).run P w = .ok z w) {key : κ} {kl : Lit} (hkey : keyOf P K (enc key) = some kl) (w' : World) (e : w'.heap[b]? = w.heap[b]?) :
    (Instr.lookup T (.map (some b)) (enc key) true).run P w' = .ok (.tuple #[(M key).getD z, .bool (M key).isSome]) w' := by
  obtain ⟨D, h1, _, h2⟩ := h.of_block e
  obtain ⟨g1, g2⟩ := h2 key kl hkey
  obtain ⟨v, ps, hrun, hv⟩ := h1.look_ok law ht (hz w') (zd := .held z) (zp := []) rfl hkey
  simp only [rawElem, Option.some.injEq, Prod.mk.injEq] at hv
  rw [g1] at hrun
  rw [hrun]
  cases hm : M key with
  | none =>
    rw [hm] at g1
    have h3 := Maps.atKey_of_not_has (h := g1) (DataW.held z)
    rw [h3] at hv
    injection hv.1 with hv1
    rw [hv1]
    rfl
  | some u =>
    rw [g2 u _ hm] at hv
    injection hv.1 with hv1
    rw [hv1]
    rfl
/-- 'v := m[key]' -/
theorem MapV.look1 (h : MapV P K enc w b cnt M) (law : Keyed P K) (ht : P.underlying T = some (.map K E)) {z : Value} (hz : ∀ w : World, (zeroValue E).run P w = .ok z w) {key : κ} {kl : Lit} (hkey : keyOf P K (enc key) = some kl) (w' : World) (e : w'.heap[b]? = w.heap[b]?) :
    (Instr.lookup T (.map (some b)) (enc key) false).run P w' = .ok ((M key).getD z) w' := by
  obtain ⟨D, h1, _, h2⟩ := h.of_block e
  obtain ⟨g1, g2⟩ := h2 key kl hkey
  obtain ⟨es, clock, hb, F, _, rfl⟩ := h1
  rcases Maps.fit_look false law ht (hz w') hb F hkey with ⟨hrun, _, hat⟩ | ⟨e0, y, _, _, hrun, hRv, hat, _⟩
  · have h3 := Maps.has_false_of_atKey hat
    rw [h3] at g1
    have hm : M key = none := by cases hm : M key with | none => rfl | some u => rw [hm] at g1; cases g1
    rw [hm]
    exact hrun
  · have h3 := Maps.has_true_of_atKey hat
    rw [h3] at g1
    cases hm : M key with
    | none => rw [hm] at g1; cases g1
    | some u =>
      have h4 := g2 u (.held z) hm
      rw [hat] at h4
      simp only [rawElem, Option.some.injEq] at hRv
      rw [← hRv] at h4
      injection h4 with h4
      rw [← h4]
      exact hrun
theorem turned_size {w w1 : World} {b : Nat} (h : w.mapTurned w1 b) : w1.heap.size = w.heap.size := by
  obtain ⟨es, clock, es', clock', _, rfl⟩ := h
  simp [Go.ChangeMaps.setBlock]
/-- 'm[key] = v' -/
theorem MapV.put [DecidableEq κ] (h : MapV P K enc w b cnt M) (henc : ∀ a b, enc a = enc b → a = b) (law : Keyed P K) (ht : P.underlying T = some (.map K E)) (hn : cnt < 1000000000000) {key : κ} {kl : Lit} (hkey : keyOf P K (enc key) = some kl) (v : Value) :
    ∃ w1, (Instr.mapUpdate T (.map (some b)) (enc key) v).run P w = .ok () w1 ∧ MapV P K enc w1 b (if (M key).isSome then cnt else cnt + 1) (putV M key v) ∧ w.grownBy w1 (some b) ∧ w1.heap.size = w.heap.size := by
  obtain ⟨D, h1, hsz, h2⟩ := h
  obtain ⟨w1, hrun, hown, hturn⟩ := h1.store law ht (Nat.lt_of_lt_of_le hn (by unfold maxLen; omega)) hkey (val := v) (d := .held v) (ps := []) rfl
  have hcnt : Maps.size (D.put kl (.held v)) = if (M key).isSome then cnt else cnt + 1 := by
    rw [Maps.size_put (h1.tidy law), (h2 key kl hkey).1, hsz]
  refine ⟨w1, hrun, ⟨_, by rw [← hcnt]; exact own_size hown, hcnt, fun k kl' hk' => ?_⟩, hturn.grown, turned_size hturn⟩
  by_cases hkk : k = key
  · subst hkk
    obtain rfl : kl = kl' := Option.some.inj (hkey.symm.trans hk')
    rw [putV_same]
    refine ⟨Maps.has_put_same h1.isMap (law.key hkey) _, fun c' z hc' => ?_⟩
    injection hc' with hc'
    rw [Maps.atKey_put_same h1.isMap (law.key hkey), hc']
  · have hne : kl' ≠ kl := fun e => hkk (henc _ _ (law.inj (by rw [← e]; exact hk') hkey))
    rw [putV_other _ _ hkk]
    obtain ⟨g1, g2⟩ := h2 k kl' hk'
    exact ⟨by rw [Maps.has_put_other hne]; exact g1, fun c' z hc' => by rw [Maps.atKey_put_other hne]; exact g2 c' z hc'⟩
/-- 'delete(m, key)' -/
theorem MapV.del [DecidableEq κ] (h : MapV P K enc w b cnt M) (henc : ∀ a b, enc a = enc b → a = b) (law : Keyed P K) (ht : P.underlying T = some (.map K E)) {key : κ} {kl : Lit} (hkey : keyOf P K (enc key) = some kl) (ty : TypeId) :
    ∃ w1, (Builtin.delete_ #[T, K] ty #[.map (some b), enc key]).run P w = .ok (.tuple #[]) w1 ∧ MapV P K enc w1 b (if (M key).isSome then cnt - 1 else cnt) (delV M key) ∧ w.grownBy w1 (some b) ∧ w1.heap.size = w.heap.size := by
  obtain ⟨D, h1, hsz, h2⟩ := h
  obtain ⟨w1, hrun, hown, hturn⟩ := h1.drop law ht hkey ty
  have hcnt : Maps.size (D.del kl) = if (M key).isSome then cnt - 1 else cnt := by
    have := Maps.size_del (k := kl) (h1.tidy law)
    rw [(h2 key kl hkey).1, hsz] at this
    split at this <;> rename_i hi <;> simp only [hi] <;> simp <;> omega
  refine ⟨w1, hrun, ⟨_, by rw [← hcnt]; exact own_size hown, hcnt, fun k kl' hk' => ?_⟩, hturn.grown, turned_size hturn⟩
  by_cases hkk : k = key
  · subst hkk
    obtain rfl : kl = kl' := Option.some.inj (hkey.symm.trans hk')
    rw [delV_same]
    exact ⟨Maps.has_del_same, fun c' z hc' => by cases hc'⟩
  · have hne : kl' ≠ kl := fun e => hkk (henc _ _ (law.inj (by rw [← e]; exact hk') hkey))
    rw [delV_other _ hkk]
    obtain ⟨g1, g2⟩ := h2 k kl' hk'
    exact ⟨by rw [Maps.has_del_other hne]; exact g1, fun c' z hc' => by rw [Maps.atKey_del_other hne]; exact g2 c' z hc'⟩
/-- 'len(m)' -/
theorem MapV.len (h : MapV P K enc w b cnt M) (ht : P.underlying T = some (.map K E)) (ty : TypeId) : (Builtin.len_ #[T] ty #[.map (some b)]).run P w = .ok (.int .i64 cnt) w := by
  obtain ⟨D, h1, hsz, h2⟩ := h
  rw [h1.len ht ty, hsz]
end
/-- a word as a map's key -/
def encW (s : Nat) : Value := .int .u32 s
theorem encW_inj (a b : Nat) (h : encW a = encW b) : a = b := by unfold encW at h; injection h with _ h; omega
theorem keyW {P : Program} {K : TypeId} (hk : P.underlying K = some (.int .u32)) {s : Nat} (hs : s < 4294967296) : keyOf P K (encW s) = some (.int .u32 s) :=
  keyOf_int_mk hk (by simp [Lit.wf, IntKind.min, IntKind.max, IntKind.bits, IntKind.signed]; omega)
end Go.Proofs.YtmjiiddncbhgpaaGreat
