/- The sort of what is learned. -/
import Derived.Test.YtnfeknfakkdbhaaRs7
import Derived.Test.YtnfeknfakkdbhaaShF
import Derived.Sort.OwnSortedInts
namespace Go.Proofs.Ytnfeknfakkdbhaa
set_option linter.unusedVariables false
set_option linter.unusedSimpArgs false
open Go.RowKit

/-- the literals of V variables, as values -/
abbrev LitV (V : Nat) : Type := {x : Int // Fits V x}
def encRow (V : Nat) (x : LitV V) : Value := .int .i64 x.1
section
variable {V : Nat} [Inhabited (LitV V)]
theorem mapV_get (d : Array (LitV V)) {j : Nat} (hj : j < d.size) : (d.map (·.1))[j]! = (d[j]!).1 := by
  rw [getElem!_pos d j hj, getElem!_pos _ j (by simpa using hj), Array.getElem_map]
theorem putCellsV (d : Array (LitV V)) (c : Array Value) : Go.Sort.putCells (encRow V) 0 d c = Go.Sort.putCells (Value.int .i64) 0 (d.map (·.1)) c := by
  unfold Go.Sort.putCells
  congr 1
  funext k x
  simp only [Array.size_map]
  split
  · rw [mapV_get d (by omega)]
    rfl
  · rfl
theorem sortWorldV (w : World) (g n : Nat) (d : Array (LitV V)) (os : Array Obj) : Go.Proofs.sortWorld (encRow V) w g 0 n d os = Go.Sort.grow (Go.Sort.putRow (Value.int .i64) (Go.Sort.ahead w n) g 0 (d.map (·.1))) os := by
  unfold Go.Proofs.sortWorld Go.Sort.putRow
  rw [show Go.Sort.putCells (encRow V) 0 d = Go.Sort.putCells (Value.int .i64) 0 (d.map (·.1)) from funext (putCellsV d)]
end
theorem swoV (V : Nat) : Go.Sort.SWO (Go.Proofs.ltOf fun x y : LitV V => litVar x.1 - litVar y.1) where
  irrefl x := by simp [Go.Proofs.ltOf]
  trans x y z h1 h2 := by simp only [Go.Proofs.ltOf, decide_eq_true_eq] at *; omega
  ntrans x y z h1 h2 := by simp only [Go.Proofs.ltOf, decide_eq_false_iff_not] at *; omega
set_option maxRecDepth 100000 in
theorem cmpV_ct {V : Nat} (x y : Int) (hx : Fits V x) (hy : Fits V y) (hV : V ≤ 1000) (W : World) : Calls Try.prog 123 #[.int .i64 x, .int .i64 y] W (Same W (.int .i64 (litVar x - litVar y))) := by
  have hxv := hx.var
  have hyv := hy.var
  have h1 := hx.2
  have h2 := hy.2
  have c1 := fun W => Variable_ct x W (by omega) (by omega)
  have c2 := fun W => Variable_ct y W (by omega) (by omega)
  generalize litVar x = p at *
  generalize litVar y = q at *
  have C1 := hide c1
  have C2 := hide c2
  have b1 : -9223372036854775808 ≤ p - q := by omega
  have b2 : p - q ≤ 9223372036854775807 := by omega
  clear c1 c2
  go_enter Try.func123, Try.ntmps123
  go_wp2_with fail
  with_reducible refine (C1.out _).mono ?_
  rintro e w1 ⟨rfl, rfl⟩
  go_wp2_with fail
  with_reducible refine (C2.out _).mono ?_
  rintro e w1 ⟨rfl, rfl⟩
  go_wp2_with fail
  go_ret
  exact ⟨rfl, rfl⟩
set_option maxRecDepth 100000 in
theorem sort_ct {V : Nat} (hV : V ≤ 1000) : SortC V := by
  intro w base g n oc C ho hlen hn hnV hf
  haveI : Inhabited (LitV V) := ⟨⟨1, by refine ⟨by omega, by omega, by omega⟩⟩⟩
  obtain ⟨d0, hd0⟩ : ∃ d0 : List (LitV V), d0.map (·.1) = C := ⟨C.pmap Subtype.mk hf, by rw [List.map_pmap]; simp⟩
  obtain ⟨d, hd⟩ : ∃ d : Array (LitV V), d = d0.toArray := ⟨_, rfl⟩
  have hdm : d.map (·.1) = C.toArray := by rw [hd, ← hd0]; simp
  have hds : d.size = n := by rw [hd]; simp [← hlen, ← hd0]
  rcases ho.2 with ⟨h0, _⟩ | ⟨g', cap, cur, hv, hg, hb, hnc, hcm, hcs, htake⟩
  · cases h0
  injection hv with hv1 hv2 hv3
  injection hv1 with hv1
  injection hv1 with hv1
  subst hv1 hv3
  rw [Nat.mul_one] at htake
  have hH : Go.Sort.Holds (encRow V) w g 0 d := by
    have h1 := holds_of_blockI (ss := C) hb (by rw [hlen]; exact htake)
    intro j hj
    have h2 := h1 j (by simp; omega)
    rw [← hdm, mapV_get d hj] at h2
    exact h2
  have hgl : g < w.heap.size := (Array.getElem?_eq_some_iff.1 hb).1
  have hcon := Try.slices_SortFunc (encRow V) (fun _ => rfl) (fun x y : LitV V => litVar x.1 - litVar y.1) (swoV V) 123 #[] g 0 oc d w (Go.Proofs.enters_of Try.func123 (by kernel_rfl) rfl)
    (Go.Proofs.CmpReads.lays (fun m os dk _ x y => (cmpV_ct x.1 y.1 x.2 y.2 hV _).mono fun e w' h => ⟨h.1, 0, h.2.symm⟩)) hH hgl (by omega)
  rw [hds] at hcon
  refine hcon.mono ?_
  rintro e w' ⟨rfl, d', m, os, hp, hs, rfl⟩
  obtain ⟨hp1, _, hp2⟩ := hp
  obtain ⟨ts, hts⟩ : ∃ ts, ts = (d'.map (·.1)).toList := ⟨_, rfl⟩
  have hda : d'.map (·.1) = ts.toArray := by rw [hts]
  have hperm : ts.Perm C := by
    have e1 : d'.extract 0 n = d' := by rw [show n = d'.size from by omega]; simp
    have e2 : d.extract 0 n = d := by rw [show n = d.size from by omega]; simp
    rw [e1, e2] at hp2
    have := hp2.map (·.1)
    rw [hts, show C = (d.map (·.1)).toList from by rw [hdm]]
    simpa using this
  rw [sortWorldV, hda]
  refine ⟨rfl, grownBy_sortedI _, ts, hperm, ?_, ?_⟩
  · rw [List.pairwise_iff_getElem]
    intro i j hi hj hij
    have hl := hperm.length_eq
    have h1 := hs i j (Nat.zero_le _) hij (by omega)
    have g1 := mapV_get d' (j := i) (by omega)
    have g2 := mapV_get d' (j := j) (by omega)
    rw [hda] at g1 g2
    rw [getElem!_pos _ i (by simpa using hi)] at g1
    rw [getElem!_pos _ j (by simpa using hj)] at g2
    simp only [Go.Proofs.ltOf, decide_eq_false_iff_not] at h1
    rw [← g1, ← g2] at h1
    simp only [List.getElem_toArray] at h1
    omega
  · have := ownsRow_sortedI (n := m) (os := os) (ss := C) (ts := ts) hperm.length_eq hg hb (by omega) hcm hcs
    rw [hlen] at this
    exact this
end Go.Proofs.Ytnfeknfakkdbhaa
