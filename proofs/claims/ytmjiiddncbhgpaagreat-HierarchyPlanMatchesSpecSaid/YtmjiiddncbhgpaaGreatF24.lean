/- The law HierarchyPlanMatchesSpec of the package hierarchy holds, without a condition., part 24: MapE. -/
import Derived.Test.YtmjiiddncbhgpaaGreatF1
import Derived.Test.YtmjiiddncbhgpaaGreatF3
import Derived.Test.YtmjiiddncbhgpaaGreatF7
import Derived.BigQuiet
import Derived.Deep.AppendLies
import Derived.Deep.Draws
import Derived.Deep.Fields
import Derived.Deep.LoopGhost
import Derived.Deep.QuietTactic
import Derived.Deep.Slices
import Derived.DeepKeys4
import Derived.Laws.AppendOwnNone
import Derived.Laws.OwnMore
import Derived.Lib.Hide
import Derived.Maps.AppendAt
import Derived.Maps.OwnOps
import Derived.Maps.OwnSet
import Derived.Test.YtmjiiddncbhgpaaGreatProg
import Derived.WalkKit
import Derived.WideKeyEntry
namespace Go.Proofs.YtmjiiddncbhgpaaGreat
set_option linter.unusedVariables false
set_option linter.unusedSimpArgs false
open Go.RowKit Go.Maps Go.WideElems Go.ChangeMaps Go.MapKept
/-- the entry's place and the store into it: together they are the map's store -/
theorem entry_storeK {H : Type} {P : Program} {w : World} {t k e : TypeId} {R : Value → Option (DataW H × List MemPlace)} {b : Nat} {es : Array MapEntry} {clock : Nat} (K : Keyed P k) (ht : P.underlying t = some (.map k e)) {z : Value} (hz : ∀ u : World, (zeroValue e).run P u = .ok z u) (hb : w.heap[b]? = some (.map es clock)) (F : Fit P k R es clock)
    {key : Value} {kl : Lit} (hkey : keyOf P k key = some kl) :
    ∃ (v0 : Value) (st : Nat) (es1 : Array MapEntry) (clock1 : Nat), (Instr.mapEntry t (.map (some b)) key).run P w = .ok (.tuple #[v0, goInt st]) (setBlock w b (.map es1 clock1)) ∧ (Instr.lookup t (.map (some b)) key false).run P w = .ok v0 w ∧
      ∀ (w2 : World) (val : Value), w2.heap[b]? = some (.map es1 clock1) → ∃ es' clock', (Instr.entryStore t (.map (some b)) (goInt st) val).run P w2 = .ok () (setBlock w2 b (.map es' clock')) ∧
        (Instr.mapUpdate t (.map (some b)) key val).run P w = .ok () (setBlock w b (.map es' clock')) := by
  obtain ⟨s1, s2, _⟩ := F.stamped
  rcases K.find w hkey es.toList F.keys with ⟨h1, h2⟩ | ⟨j, e0, h1, h2, h3⟩
  · refine ⟨z, clock, es.push ⟨key, z, clock⟩, clock + 1, ?_, ?_, fun w2 val hw2 => ⟨es.push ⟨key, val, clock⟩, clock + 1, ?_, ?_⟩⟩
    · simp [Instr.mapEntry, run_underlying ht, MapKept.run_getObj_map hb, K.check w false hkey, h1, hz, MapKept.run_setObj_map _ hb, Result.andThen, setBlock]
    · simp [Instr.lookup, run_underlying ht, MapKept.run_getObj_map hb, K.check w _ hkey, h1, hz, Result.andThen]
    · have hidx : (es.push ⟨key, z, clock⟩).findIdx? (fun e => ((e.born : Nat) : Int) == ((clock : Nat) : Int)) = some es.size := by
        rw [findIdx_arr]
        have := findIdx_born (l := (es.push ⟨key, z, clock⟩).toList) (j := es.size) (e0 := ⟨key, z, clock⟩) (by
          simp only [Array.toList_push, List.map_append, List.map_cons, List.map_nil]
          refine List.nodup_append.2 ⟨s2, by simp, fun a ha c hc e1 => ?_⟩
          simp only [List.mem_singleton] at hc
          obtain ⟨x, hx, rfl⟩ := List.mem_map.1 ha
          have := s1 x hx
          omega) (by simp)
        exact this
      have hmod : (es.push ⟨key, z, clock⟩).modify es.size (fun e => { e with val := val }) = es.push ⟨key, val, clock⟩ := by
        apply Array.ext'
        rw [Array.toList_modify, Array.toList_push, Array.toList_push, ← Array.length_toList, modify_last]
      simp [Instr.entryStore, MapKept.run_getObj_map hw2, asInt, asIntOf, goInt, hidx, hmod, MapKept.run_setObj_map _ hw2, Result.andThen, setBlock]
    · simp [Instr.mapUpdate, run_underlying ht, MapKept.run_getObj_map hb, K.check w false hkey, h1, MapKept.run_setObj_map _ hb, Result.andThen, setBlock]
  · have hj : es[j]? = some e0 := by simpa using h2
    have hsame : es.modify j (fun e => { e with key := key }) = es := by
      apply Array.ext'
      rw [Array.toList_modify, modify_eq_set _ _ _ _ h2]
      have : ({ e0 with key := key } : MapEntry) = e0 := by rw [← h3]
      rw [this]
      exact set_self _ _ _ h2
    refine ⟨e0.val, e0.born, es, clock, ?_, ?_, fun w2 val hw2 => ⟨es.modify j (fun e' => { e' with key := key, val := val }), clock, ?_, ?_⟩⟩
    · simp [Instr.mapEntry, run_underlying ht, MapKept.run_getObj_map hb, K.check w false hkey, h1, hj, h3, K.stays w hkey, hsame, MapKept.run_setObj_map _ hb, Result.andThen, setBlock]
    · simp [Instr.lookup, run_underlying ht, MapKept.run_getObj_map hb, K.check w _ hkey, h1, Result.andThen]
    · have hidx : es.findIdx? (fun e => ((e.born : Nat) : Int) == ((e0.born : Nat) : Int)) = some j := by
        rw [findIdx_arr]
        exact findIdx_born s2 h2
      have hmod : es.modify j (fun e => { e with val := val }) = es.modify j (fun e' => { e' with key := key, val := val }) := by
        apply Array.ext'
        rw [Array.toList_modify, Array.toList_modify, modify_eq_set _ _ _ _ h2, modify_eq_set _ _ _ _ h2, ← h3]
      simp [Instr.entryStore, MapKept.run_getObj_map hw2, asInt, asIntOf, goInt, hidx, hmod, MapKept.run_setObj_map _ hw2, Result.andThen, setBlock]
    · simp [Instr.mapUpdate, run_underlying ht, MapKept.run_getObj_map hb, K.check w false hkey, h1, hj, h3, K.stays w hkey, MapKept.run_setObj_map _ hb, Result.andThen, setBlock]
theorem set_at {w : World} {b : Nat} {o o' : Obj} (h : w.heap[b]? = some o) : (setBlock w b o').heap[b]? = some o' := by
  have := (Array.getElem?_eq_some_iff.1 h).1
  simp [setBlock, Array.getElem?_setIfInBounds, this]
/-- 'm[key] op= ..' -/
theorem MapV.entry {κ : Type} [DecidableEq κ] {P : Program} {K E T : TypeId} {enc : κ → Value} {w : World} {b cnt : Nat} {M : κ → Option Value} (h : MapV P K enc w b cnt M) (henc : ∀ a b, enc a = enc b → a = b) (law : Keyed P K) (ht : P.underlying T = some (.map K E)) (hn : cnt < 1000000000000) {z : Value} (hz : ∀ w : World, (zeroValue E).run P w = .ok z w) {key : κ} {kl : Lit} (hkey : keyOf P K (enc key) = some kl) :
    ∃ (st : Nat) (w1 : World), (Instr.mapEntry T (.map (some b)) (enc key)).run P w = .ok (.tuple #[(M key).getD z, goInt st]) w1 ∧ w.grownBy w1 (some b) ∧ w1.heap.size = w.heap.size ∧
      ∀ (w2 : World) (v : Value), w2.heap[b]? = w1.heap[b]? → ∃ w3, (Instr.entryStore T (.map (some b)) (goInt st) v).run P w2 = .ok () w3 ∧ MapV P K enc w3 b (if (M key).isSome then cnt else cnt + 1) (putV M key v) ∧ w2.grownBy w3 (some b) ∧ w3.heap.size = w2.heap.size := by
  have hput := fun v => h.put henc law ht hn hkey v
  have hlk := h.look1 law ht hz hkey w rfl
  obtain ⟨D, ⟨es, clock, hb, F, _, _⟩, _⟩ := h
  obtain ⟨v0, st, es1, clock1, h1, h2, h3⟩ := entry_storeK law ht hz hb F hkey
  rw [h2] at hlk
  injection hlk with hlk
  subst hlk
  have ht1 : w.mapTurned (setBlock w b (.map es1 clock1)) b := ⟨_, _, _, _, hb, rfl⟩
  refine ⟨st, _, h1, ht1.grown, turned_size ht1, fun w2 v hw2 => ?_⟩
  have hb2 : w2.heap[b]? = some (.map es1 clock1) := hw2.trans (set_at hb)
  obtain ⟨es', clock', h4, h5⟩ := h3 w2 v hb2
  obtain ⟨wp, h6, h7, _, _⟩ := hput v
  rw [h5] at h6
  injection h6 with _ h6
  have ht2 : w2.mapTurned (setBlock w2 b (.map es' clock')) b := ⟨_, _, _, _, hb2, rfl⟩
  refine ⟨_, h4, h7.of_block ?_, ht2.grown, turned_size ht2⟩
  rw [set_at hb2, ← h6, set_at hb]
end Go.Proofs.YtmjiiddncbhgpaaGreat
