/- What the law asks for, part 14: Rs8 Rs9. -/
import Derived.Test.YtemiecammmbjdaaGreatL1
import Derived.Test.YtemiecammmbjdaaGreatL2
import Derived.Test.YtemiecammmbjdaaGreatL4
import Derived.Test.YtemiecammmbjdaaGreatL5
import Derived.Test.YtemiecammmbjdaaGreatL11
import Derived.Test.YtemiecammmbjdaaGreatL12
import Derived.Test.YtemiecammmbjdaaGreatL13
import Derived.BigQuiet
import Derived.Deep.AppendLies
import Derived.Deep.DeepCutAuto
import Derived.Deep.Draws
import Derived.Deep.Fields
import Derived.Deep.LoopGhost
import Derived.Deep.QuietTactic
import Derived.Deep.RegionHeld3
import Derived.Deep.Slices
import Derived.Ground.Names2Prog
import Derived.Ground.SlgnProg
import Derived.Ground.SlsfProg
import Derived.Laws.AppendOwnNone
import Derived.Laws.OwnMore
import Derived.Lib.Hide
import Derived.Maps.AppendAt
import Derived.Shelf.SlSortCmp.Whole1
import Derived.Shelf.SlicesE.Clone
import Derived.Sort.OwnSortedInts
import Derived.Test.YtemiecammmbjdaaGreatProg
import Derived.WalkKit
import Init
namespace Go.Proofs.YtemiecammmbjdaaGreat
set_option linter.unusedVariables false
set_option linter.unusedSimpArgs false
open Go.RowKit
/-- the literals of V variables, as values -/
abbrev LitV (V : Nat) : Type := {x : Int // Fits V x}
def encRow (V : Nat) (x : LitV V) : Value := .int .i64 x.1
section
variable {V : Nat} [Inhabited (LitV V)]
theorem mapV_get (d : Array (LitV V)) {j : Nat} (hj : j < d.size) : (d.map (·.1))[j]! = (d[j]!).1 := by
  rw [getElem!_pos d j hj, getElem!_pos _ j (by simpa using hj), Array.getElem_map]
theorem putCellsV (d : Array (LitV V)) (c : Array Value) : Go.Sort.putCells (encRow V) 0 d c = Go.Sort.putCells (Value.int .i64) 0 (d.map (·.1)) c := by
  unfold Go.Sort.putCells
  congr 1
  funext k x
  simp only [Array.size_map]
  split
  · rw [mapV_get d (by omega)]
    rfl
  · rfl
theorem sortWorldV (w : World) (g n : Nat) (d : Array (LitV V)) (os : Array Obj) : Go.Proofs.sortWorld (encRow V) w g 0 n d os = Go.Sort.grow (Go.Sort.putRow (Value.int .i64) (Go.Sort.ahead w n) g 0 (d.map (·.1))) os := by
  unfold Go.Proofs.sortWorld Go.Sort.putRow
  rw [show Go.Sort.putCells (encRow V) 0 d = Go.Sort.putCells (Value.int .i64) 0 (d.map (·.1)) from funext (putCellsV d)]
end
theorem swoV (V : Nat) : Go.Sort.SWO (Go.Proofs.ltOf fun x y : LitV V => litVar x.1 - litVar y.1) where
  irrefl x := by simp [Go.Proofs.ltOf]
  trans x y z h1 h2 := by simp only [Go.Proofs.ltOf, decide_eq_true_eq] at *; omega
  ntrans x y z h1 h2 := by simp only [Go.Proofs.ltOf, decide_eq_false_iff_not] at *; omega
set_option maxRecDepth 100000 in
theorem cmpV_ct {V : Nat} (x y : Int) (hx : Fits V x) (hy : Fits V y) (hV : V ≤ 1000) (W : World) : Calls Tryz.prog 110 #[.int .i64 x, .int .i64 y] W (Same W (.int .i64 (litVar x - litVar y))) := by
  have hxv := hx.var
  have hyv := hy.var
  have h1 := hx.2
  have h2 := hy.2
  have c1 := fun W => Variable_ct x W (by omega) (by omega)
  have c2 := fun W => Variable_ct y W (by omega) (by omega)
  generalize litVar x = p at *
  generalize litVar y = q at *
  have C1 := hide c1
  have C2 := hide c2
  have b1 : -9223372036854775808 ≤ p - q := by omega
  have b2 : p - q ≤ 9223372036854775807 := by omega
  clear c1 c2
  go_enter Tryz.func110, Tryz.ntmps110
  go_wp2_with fail
  with_reducible refine (C1.out _).mono ?_
  rintro e w1 ⟨rfl, rfl⟩
  go_wp2_with fail
  with_reducible refine (C2.out _).mono ?_
  rintro e w1 ⟨rfl, rfl⟩
  go_wp2_with fail
  go_ret
  exact ⟨rfl, rfl⟩
set_option maxRecDepth 100000 in
theorem sort_ct {V : Nat} (hV : V ≤ 1000) : SortC V := by
  intro w base g n oc C ho hlen hn hnV hf
  haveI : Inhabited (LitV V) := ⟨⟨1, by refine ⟨by omega, by omega, by omega⟩⟩⟩
  obtain ⟨d0, hd0⟩ : ∃ d0 : List (LitV V), d0.map (·.1) = C := ⟨C.pmap Subtype.mk hf, by rw [List.map_pmap]; simp⟩
  obtain ⟨d, hd⟩ : ∃ d : Array (LitV V), d = d0.toArray := ⟨_, rfl⟩
  have hdm : d.map (·.1) = C.toArray := by rw [hd, ← hd0]; simp
  have hds : d.size = n := by rw [hd]; simp [← hlen, ← hd0]
  rcases ho.2 with ⟨h0, _⟩ | ⟨g', cap, cur, hv, hg, hb, hnc, hcm, hcs, htake⟩
  · cases h0
  injection hv with hv1 hv2 hv3
  injection hv1 with hv1
  injection hv1 with hv1
  subst hv1 hv3
  rw [Nat.mul_one] at htake
  have hH : Go.Sort.Holds (encRow V) w g 0 d := by
    have h1 := holds_of_blockI (ss := C) hb (by rw [hlen]; exact htake)
    intro j hj
    have h2 := h1 j (by simp; omega)
    rw [← hdm, mapV_get d hj] at h2
    exact h2
  have hgl : g < w.heap.size := (Array.getElem?_eq_some_iff.1 hb).1
  have hcon := Tryz.slices_SortFunc_f109 (encRow V) (fun _ => rfl) (fun x y : LitV V => litVar x.1 - litVar y.1) (swoV V) 110 #[] g 0 oc d w (Go.Proofs.enters_of Tryz.func110 (by kernel_rfl) rfl)
    (Go.Proofs.CmpReads.lays (fun m os dk _ x y => (cmpV_ct x.1 y.1 x.2 y.2 hV _).mono fun e w' h => ⟨h.1, 0, h.2.symm⟩)) hH hgl (by omega)
  rw [hds] at hcon
  refine hcon.mono ?_
  rintro e w' ⟨rfl, d', m, os, hp, hs, rfl⟩
  obtain ⟨hp1, _, hp2⟩ := hp
  obtain ⟨ts, hts⟩ : ∃ ts, ts = (d'.map (·.1)).toList := ⟨_, rfl⟩
  have hda : d'.map (·.1) = ts.toArray := by rw [hts]
  have hperm : ts.Perm C := by
    have e1 : d'.extract 0 n = d' := by rw [show n = d'.size from by omega]; simp
    have e2 : d.extract 0 n = d := by rw [show n = d.size from by omega]; simp
    rw [e1, e2] at hp2
    have := hp2.map (·.1)
    rw [hts, show C = (d.map (·.1)).toList from by rw [hdm]]
    simpa using this
  rw [sortWorldV, hda]
  refine ⟨rfl, grownBy_sortedI _, ts, hperm, ?_, ?_⟩
  · rw [List.pairwise_iff_getElem]
    intro i j hi hj hij
    have hl := hperm.length_eq
    have h1 := hs i j (Nat.zero_le _) hij (by omega)
    have g1 := mapV_get d' (j := i) (by omega)
    have g2 := mapV_get d' (j := j) (by omega)
    rw [hda] at g1 g2
    rw [getElem!_pos _ i (by simpa using hi)] at g1
    rw [getElem!_pos _ j (by simpa using hj)] at g2
    simp only [Go.Proofs.ltOf, decide_eq_false_iff_not] at h1
    rw [← g1, ← g2] at h1
    simp only [List.getElem_toArray] at h1
    omega
  · have := ownsRow_sortedI (n := m) (os := os) (ss := C) (ts := ts) hperm.length_eq hg hb (by omega) hcm hcs
    rw [hlen] at this
    exact this
end Go.Proofs.YtemiecammmbjdaaGreat
namespace Go.Proofs.YtemiecammmbjdaaGreat
set_option linter.unusedVariables false
set_option linter.unusedSimpArgs false
open Go.RowKit
theorem rd_other {w w' : World} {A : Option Addr} {n c : Nat} {x : List Int} (h : Rd Enc.int w A n c x) {row : Option Nat} (hb : w.grownBy w' row) (hne : ∀ b off, A = some ⟨b, off, none⟩ → 0 < n → row ≠ some b) : Rd Enc.int w' A n c x :=
  h.block (fun _ _ h => h) (fun b off e hn => by
    obtain ⟨b', off', e', hlt⟩ := rd_heap h hn (by decide)
    rw [e] at e'
    injection e' with e'
    injection e' with e' _
    subst e'
    exact hb.block b hlt (fun e4 => hne b off e hn e4.symm))
theorem Sv.pushS {B : Nat} {w w' : World} {g : Nat} {a : SA} {V : Nat} {cs ln : List (List Int)} {vals lev rea t : List Int} {starts : List Nat} (h : Sv B w g a V cs ln vals lev rea t starts) {x : Nat} {O : Option Addr} {oc : Nat} {o : Obj}
    (ho : w'.ownsRow B 3 1 (.slice O (starts.length + 1) oc) (starts.length + 1) ((starts.map fun s : Nat => Value.int .i64 (s : Int)) ++ [.int .i64 (x : Int)])) (hg : (w.alloc o).grownBy w' (Value.slice a.S starts.length a.sc).ownBlock)
    (hat : (Value.slice O (starts.length + 1) oc).ownBlock = (Value.slice a.S starts.length a.sc).ownBlock ∨ (Value.slice O (starts.length + 1) oc).ownBlock = some (w.heap.size + 1)) :
    Sv B (w'.setCell ⟨g, 7, none⟩ (.slice O (starts.length + 1) oc)) g { a with S := O, sc := oc } V cs ln vals lev rea t (starts ++ [x]) ∧ Below B w (w'.setCell ⟨g, 7, none⟩ (.slice O (starts.length + 1) oc)) := by
  have hB : B ≤ w.heap.size := by have := h.ge 0 g rfl; have := h.blk.lt; omega
  have hb0 : Below w.heap.size w (w.alloc o) := (Below.refl _ _).alloc (Nat.le_refl _) _
  have h1 := h.keep hb0
  rw [own_blkO, own_blkO] at hat
  rw [own_blkO] at hg
  obtain ⟨ap', ro'⟩ := roles_grown (w := w) (a' := { a with S := O, sc := oc }) (k := 5) (O := O) (fun i => ro_S i) h.ap (fun i r => h.lt) hat
  have ge' : ∀ i r, ro g { a with S := O, sc := oc } i = some r → B ≤ r := fun i r hi => by
    rcases ro' i r hi with ⟨j, hj⟩ | hge
    · exact h.ge j r hj
    · omega
  have hOg : blkO O ≠ some g := fun e => by
    have := ap' 5 0 g (by rw [ro_S]; exact e) (by rw [ro_S]; rfl)
    omega
  have hs := only_set w' g 7 (.slice O (starts.length + 1) oc)
  have neT : ∀ {r j}, j ≠ 5 → ro g a j = some r → some r ≠ blkO a.S := fun {r j} hj hr e => hj (h.ap j 5 r hr e.symm)
  have neg0 : ∀ {r j}, j ≠ 0 → ro g a j = some r → some r ≠ some g := fun {r j} hj hr e => by
    injection e with e
    subst e
    exact hj (h.ap j 0 r hr rfl)
  have other : ∀ {A : Option Addr} {n c : Nat} {xs : List (List Int)} (j : Nat), j ≠ 5 → j ≠ 0 → ro g a j = blkO A → Rows B w (Mine g a) A n c xs → Rows B (w'.setCell ⟨g, 7, none⟩ (.slice O (starts.length + 1) oc)) (Mine g { a with S := O, sc := oc }) A n c xs := fun {A n c xs} j hj hj0 hro hr => by
    have r1 : Rows B w (fun b => Mine g a b ∨ Mine g { a with S := O, sc := oc } b) A n c xs := hr.more (fun b hb => by
      rcases hb with hb | ⟨i, hi⟩
      · exact .inl hb
      · rcases ro' i b hi with ⟨q, hq⟩ | hge
        · exact .inl ⟨q, hq⟩
        · exact .inr hge)
    have r2 := (r1.keep hb0).other (row := blkO a.S) (fun r e => .inl ⟨5, e⟩) hg (fun r e e2 => neT hj (hro.trans e) e2.symm)
    have r3 := r2.other (row := some g) (fun r e => by injection e with e; subst e; exact .inl ⟨0, rfl⟩) hs (fun r e e2 => neg0 hj0 (hro.trans e) e2.symm)
    exact r3.mono (fun b hb => .inr hb)
  have bB : Below B w (w'.setCell ⟨g, 7, none⟩ (.slice O (starts.length + 1) oc)) :=
    (((Below.refl B w).alloc hB o).grown hg (by simp; omega) (fun k hk => h.ge 5 k hk)).setCell (h.ge 0 g rfl) _
  have hblk := ((h1.blk.grown hg (neT (r := g) (j := 0) (by decide) rfl)).set 7 (.slice O (starts.length + 1) oc))
  simp only [List.set_cons_zero, List.set_cons_succ] at hblk
  have hrow := own_other ho hs (fun r hr e => hOg (by rw [own_blkO] at hr; rw [hr, e]))
  exact ⟨⟨ge', ap', (by simpa using hblk), ((h1.val.grown hg (neT (j := 1) (by decide) rfl)).grown hs (neg0 (j := 1) (by decide) rfl)), h.vlen, ((h1.lvl.grown hg (neT (j := 2) (by decide) rfl)).grown hs (neg0 (j := 2) (by decide) rfl)), h.llen, ((h1.rsn.grown hg (neT (j := 3) (by decide) rfl)).grown hs (neg0 (j := 3) (by decide) rfl)), h.rlen, (own_other (own_other h1.trl hg (fun r hr => neT (j := 4) (by decide) (by rw [own_blkO] at hr; exact hr))) hs (fun r hr => neg0 (j := 4) (by decide) (by rw [own_blkO] at hr; exact hr))), (by simpa using hrow), (other 6 (by decide) (by decide) rfl h.lst), (other 7 (by decide) (by decide) rfl h.lrn)⟩, bB⟩
theorem Sv.pushL {B : Nat} {w w' : World} {g : Nat} {a : SA} {V : Nat} {cs ln : List (List Int)} {vals lev rea t : List Int} {starts : List Nat} (h : Sv B w g a V cs ln vals lev rea t starts) {C : List Int} {A1 : Option Addr} {n1 c1 : Nat} {vs : List Value} {O : Option Addr} {oc : Nat} {o : Obj} (hC : Rd Enc.int w A1 n1 c1 C) (hnm : ∀ b off, A1 = some ⟨b, off, none⟩ → 0 < n1 → ¬ Mine g a b) (hvs : vs.length = cs.length)
    (hvx : ∀ (i : Nat) (x : List Int), cs[i]? = some x → ∃ A' n' c', vs[i]? = some (Value.slice A' n' c') ∧ Rd Enc.int w A' n' c' x ∧ ∀ b off, A' = some ⟨b, off, none⟩ → 0 < n' → ¬ Mine g a b)
    (ho : w'.ownsRow B 22 1 (.slice O (cs.length + 1) oc) (cs.length + 1) (vs ++ [.slice A1 n1 c1])) (hg : (w.alloc o).grownBy w' (Value.slice a.L cs.length a.lc).ownBlock)
    (hat : (Value.slice O (cs.length + 1) oc).ownBlock = (Value.slice a.L cs.length a.lc).ownBlock ∨ (Value.slice O (cs.length + 1) oc).ownBlock = some (w.heap.size + 1)) :
    Sv B (w'.setCell ⟨g, 1, none⟩ (.slice O (cs.length + 1) oc)) g { a with L := O, lc := oc } V (cs ++ [C]) ln vals lev rea t starts ∧ Below B w (w'.setCell ⟨g, 1, none⟩ (.slice O (cs.length + 1) oc)) ∧ ∀ (A' : Option Addr) (n' c' : Nat) (x : List Int), Rd Enc.int w A' n' c' x → (∀ b off, A' = some ⟨b, off, none⟩ → 0 < n' → ¬ Mine g a b) →
      Rd Enc.int (w'.setCell ⟨g, 1, none⟩ (.slice O (cs.length + 1) oc)) A' n' c' x ∧ ∀ b off, A' = some ⟨b, off, none⟩ → 0 < n' → ¬ Mine g { a with L := O, lc := oc } b := by
  have hB : B ≤ w.heap.size := by have := h.ge 0 g rfl; have := h.blk.lt; omega
  have hb0 : Below w.heap.size w (w.alloc o) := (Below.refl _ _).alloc (Nat.le_refl _) _
  have h1 := h.keep hb0
  rw [own_blkO, own_blkO] at hat
  rw [own_blkO] at hg
  obtain ⟨ap', ro'⟩ := roles_grown (w := w) (a' := { a with L := O, lc := oc }) (k := 6) (O := O) (fun i => ro_L i) h.ap (fun i r => h.lt) hat
  have ge' : ∀ i r, ro g { a with L := O, lc := oc } i = some r → B ≤ r := fun i r hi => by
    rcases ro' i r hi with ⟨j, hj⟩ | hge
    · exact h.ge j r hj
    · omega
  have hOg : blkO O ≠ some g := fun e => by
    have := ap' 6 0 g (by rw [ro_L]; exact e) (by rw [ro_L]; rfl)
    omega
  have hs := only_set w' g 1 (.slice O (cs.length + 1) oc)
  have neT : ∀ {r j}, j ≠ 6 → ro g a j = some r → some r ≠ blkO a.L := fun {r j} hj hr e => hj (h.ap j 6 r hr e.symm)
  have neg0 : ∀ {r j}, j ≠ 0 → ro g a j = some r → some r ≠ some g := fun {r j} hj hr e => by
    injection e with e
    subst e
    exact hj (h.ap j 0 r hr rfl)
  have other : ∀ {A : Option Addr} {n c : Nat} {xs : List (List Int)} (j : Nat), j ≠ 6 → j ≠ 0 → ro g a j = blkO A → Rows B w (Mine g a) A n c xs → Rows B (w'.setCell ⟨g, 1, none⟩ (.slice O (cs.length + 1) oc)) (Mine g { a with L := O, lc := oc }) A n c xs := fun {A n c xs} j hj hj0 hro hr => by
    have r1 : Rows B w (fun b => Mine g a b ∨ Mine g { a with L := O, lc := oc } b) A n c xs := hr.more (fun b hb => by
      rcases hb with hb | ⟨i, hi⟩
      · exact .inl hb
      · rcases ro' i b hi with ⟨q, hq⟩ | hge
        · exact .inl ⟨q, hq⟩
        · exact .inr hge)
    have r2 := (r1.keep hb0).other (row := blkO a.L) (fun r e => .inl ⟨6, e⟩) hg (fun r e e2 => neT hj (hro.trans e) e2.symm)
    have r3 := r2.other (row := some g) (fun r e => by injection e with e; subst e; exact .inl ⟨0, rfl⟩) hs (fun r e e2 => neg0 hj0 (hro.trans e) e2.symm)
    exact r3.mono (fun b hb => .inr hb)
  have bB : Below B w (w'.setCell ⟨g, 1, none⟩ (.slice O (cs.length + 1) oc)) :=
    (((Below.refl B w).alloc hB o).grown hg (by simp; omega) (fun k hk => h.ge 6 k hk)).setCell (h.ge 0 g rfl) _
  have hblk := ((h1.blk.grown hg (neT (r := g) (j := 0) (by decide) rfl)).set 1 (.slice O (cs.length + 1) oc))
  simp only [List.set_cons_zero, List.set_cons_succ] at hblk
  have hrow := own_other ho hs (fun r hr e => hOg (by rw [own_blkO] at hr; rw [hr, e]))
  have key : ∀ (A' : Option Addr) (n' c' : Nat) (x : List Int), Rd Enc.int w A' n' c' x → (∀ b off, A' = some ⟨b, off, none⟩ → 0 < n' → ¬ Mine g a b) →
      Rd Enc.int (w'.setCell ⟨g, 1, none⟩ (.slice O (cs.length + 1) oc)) A' n' c' x ∧ ∀ b off, A' = some ⟨b, off, none⟩ → 0 < n' → ¬ Mine g { a with L := O, lc := oc } b := fun A' n' c' x e2 e3 => by
    refine ⟨rd_other (rd_other (e2.keep hb0) hg (fun b off e hn e4 => e3 b off e hn ⟨6, e4⟩)) hs (fun b off e hn e4 => e3 b off e hn ⟨0, e4⟩), fun b off e hn hm => ?_⟩
    obtain ⟨b', off', e', hlt⟩ := rd_heap e2 hn (by decide)
    rw [e] at e'
    injection e' with e'
    injection e' with e' _
    subst e'
    obtain ⟨i, hi⟩ := hm
    rcases ro' i b hi with ⟨q, hq⟩ | hge
    · exact e3 b off e hn ⟨q, hq⟩
    · omega
  have hrows : Rows B (w'.setCell ⟨g, 1, none⟩ (.slice O (cs.length + 1) oc)) (Mine g { a with L := O, lc := oc }) O (cs ++ [C]).length oc (cs ++ [C]) := by
    refine ⟨vs ++ [.slice A1 n1 c1], by simpa using hrow, rfl, fun i x hx => ?_⟩
    by_cases hi : i < cs.length
    · rw [List.getElem?_append_left hi] at hx
      obtain ⟨A', n', c', e1, e2, e3⟩ := hvx i x hx
      exact ⟨A', n', c', by rw [List.getElem?_append_left (by omega)]; exact e1, key A' n' c' x e2 e3⟩
    · rw [List.getElem?_append_right (by omega)] at hx
      have hj0 : i - cs.length = 0 := by
        rcases Nat.eq_zero_or_pos (i - cs.length) with h0 | h0
        · exact h0
        · rw [List.getElem?_eq_none (by simp; omega)] at hx
          cases hx
      rw [hj0] at hx
      simp at hx
      subst hx
      exact ⟨A1, n1, c1, by rw [List.getElem?_append_right (by omega), hvs, hj0]; rfl, key A1 n1 c1 C hC hnm⟩
  exact ⟨⟨ge', ap', (by simpa using hblk), ((h1.val.grown hg (neT (j := 1) (by decide) rfl)).grown hs (neg0 (j := 1) (by decide) rfl)), h.vlen, ((h1.lvl.grown hg (neT (j := 2) (by decide) rfl)).grown hs (neg0 (j := 2) (by decide) rfl)), h.llen, ((h1.rsn.grown hg (neT (j := 3) (by decide) rfl)).grown hs (neg0 (j := 3) (by decide) rfl)), h.rlen, (own_other (own_other h1.trl hg (fun r hr => neT (j := 4) (by decide) (by rw [own_blkO] at hr; exact hr))) hs (fun r hr => neg0 (j := 4) (by decide) (by rw [own_blkO] at hr; exact hr))), (own_other (own_other h1.sts hg (fun r hr => neT (j := 5) (by decide) (by rw [own_blkO] at hr; exact hr))) hs (fun r hr => neg0 (j := 5) (by decide) (by rw [own_blkO] at hr; exact hr))), hrows, (other 7 (by decide) (by decide) rfl h.lrn)⟩, bB, key⟩
theorem Sv.pushD {B : Nat} {w w' : World} {g : Nat} {a : SA} {V : Nat} {cs ln : List (List Int)} {vals lev rea t : List Int} {starts : List Nat} (h : Sv B w g a V cs ln vals lev rea t starts) {C : List Int} {A1 : Option Addr} {n1 c1 : Nat} {vs : List Value} {O : Option Addr} {oc : Nat} {o : Obj} (hC : Rd Enc.int w A1 n1 c1 C) (hnm : ∀ b off, A1 = some ⟨b, off, none⟩ → 0 < n1 → ¬ Mine g a b) (hvs : vs.length = ln.length)
    (hvx : ∀ (i : Nat) (x : List Int), ln[i]? = some x → ∃ A' n' c', vs[i]? = some (Value.slice A' n' c') ∧ Rd Enc.int w A' n' c' x ∧ ∀ b off, A' = some ⟨b, off, none⟩ → 0 < n' → ¬ Mine g a b)
    (ho : w'.ownsRow B 22 1 (.slice O (ln.length + 1) oc) (ln.length + 1) (vs ++ [.slice A1 n1 c1])) (hg : (w.alloc o).grownBy w' (Value.slice a.D ln.length a.dc).ownBlock)
    (hat : (Value.slice O (ln.length + 1) oc).ownBlock = (Value.slice a.D ln.length a.dc).ownBlock ∨ (Value.slice O (ln.length + 1) oc).ownBlock = some (w.heap.size + 1)) :
    Sv B (w'.setCell ⟨g, 2, none⟩ (.slice O (ln.length + 1) oc)) g { a with D := O, dc := oc } V cs (ln ++ [C]) vals lev rea t starts ∧ Below B w (w'.setCell ⟨g, 2, none⟩ (.slice O (ln.length + 1) oc)) ∧ ∀ (A' : Option Addr) (n' c' : Nat) (x : List Int), Rd Enc.int w A' n' c' x → (∀ b off, A' = some ⟨b, off, none⟩ → 0 < n' → ¬ Mine g a b) →
      Rd Enc.int (w'.setCell ⟨g, 2, none⟩ (.slice O (ln.length + 1) oc)) A' n' c' x ∧ ∀ b off, A' = some ⟨b, off, none⟩ → 0 < n' → ¬ Mine g { a with D := O, dc := oc } b := by
  have hB : B ≤ w.heap.size := by have := h.ge 0 g rfl; have := h.blk.lt; omega
  have hb0 : Below w.heap.size w (w.alloc o) := (Below.refl _ _).alloc (Nat.le_refl _) _
  have h1 := h.keep hb0
  rw [own_blkO, own_blkO] at hat
  rw [own_blkO] at hg
  obtain ⟨ap', ro'⟩ := roles_grown (w := w) (a' := { a with D := O, dc := oc }) (k := 7) (O := O) (fun i => ro_D i) h.ap (fun i r => h.lt) hat
  have ge' : ∀ i r, ro g { a with D := O, dc := oc } i = some r → B ≤ r := fun i r hi => by
    rcases ro' i r hi with ⟨j, hj⟩ | hge
    · exact h.ge j r hj
    · omega
  have hOg : blkO O ≠ some g := fun e => by
    have := ap' 7 0 g (by rw [ro_D]; exact e) (by rw [ro_D]; rfl)
    omega
  have hs := only_set w' g 2 (.slice O (ln.length + 1) oc)
  have neT : ∀ {r j}, j ≠ 7 → ro g a j = some r → some r ≠ blkO a.D := fun {r j} hj hr e => hj (h.ap j 7 r hr e.symm)
  have neg0 : ∀ {r j}, j ≠ 0 → ro g a j = some r → some r ≠ some g := fun {r j} hj hr e => by
    injection e with e
    subst e
    exact hj (h.ap j 0 r hr rfl)
  have other : ∀ {A : Option Addr} {n c : Nat} {xs : List (List Int)} (j : Nat), j ≠ 7 → j ≠ 0 → ro g a j = blkO A → Rows B w (Mine g a) A n c xs → Rows B (w'.setCell ⟨g, 2, none⟩ (.slice O (ln.length + 1) oc)) (Mine g { a with D := O, dc := oc }) A n c xs := fun {A n c xs} j hj hj0 hro hr => by
    have r1 : Rows B w (fun b => Mine g a b ∨ Mine g { a with D := O, dc := oc } b) A n c xs := hr.more (fun b hb => by
      rcases hb with hb | ⟨i, hi⟩
      · exact .inl hb
      · rcases ro' i b hi with ⟨q, hq⟩ | hge
        · exact .inl ⟨q, hq⟩
        · exact .inr hge)
    have r2 := (r1.keep hb0).other (row := blkO a.D) (fun r e => .inl ⟨7, e⟩) hg (fun r e e2 => neT hj (hro.trans e) e2.symm)
    have r3 := r2.other (row := some g) (fun r e => by injection e with e; subst e; exact .inl ⟨0, rfl⟩) hs (fun r e e2 => neg0 hj0 (hro.trans e) e2.symm)
    exact r3.mono (fun b hb => .inr hb)
  have bB : Below B w (w'.setCell ⟨g, 2, none⟩ (.slice O (ln.length + 1) oc)) :=
    (((Below.refl B w).alloc hB o).grown hg (by simp; omega) (fun k hk => h.ge 7 k hk)).setCell (h.ge 0 g rfl) _
  have hblk := ((h1.blk.grown hg (neT (r := g) (j := 0) (by decide) rfl)).set 2 (.slice O (ln.length + 1) oc))
  simp only [List.set_cons_zero, List.set_cons_succ] at hblk
  have hrow := own_other ho hs (fun r hr e => hOg (by rw [own_blkO] at hr; rw [hr, e]))
  have key : ∀ (A' : Option Addr) (n' c' : Nat) (x : List Int), Rd Enc.int w A' n' c' x → (∀ b off, A' = some ⟨b, off, none⟩ → 0 < n' → ¬ Mine g a b) →
      Rd Enc.int (w'.setCell ⟨g, 2, none⟩ (.slice O (ln.length + 1) oc)) A' n' c' x ∧ ∀ b off, A' = some ⟨b, off, none⟩ → 0 < n' → ¬ Mine g { a with D := O, dc := oc } b := fun A' n' c' x e2 e3 => by
    refine ⟨rd_other (rd_other (e2.keep hb0) hg (fun b off e hn e4 => e3 b off e hn ⟨7, e4⟩)) hs (fun b off e hn e4 => e3 b off e hn ⟨0, e4⟩), fun b off e hn hm => ?_⟩
    obtain ⟨b', off', e', hlt⟩ := rd_heap e2 hn (by decide)
    rw [e] at e'
    injection e' with e'
    injection e' with e' _
    subst e'
    obtain ⟨i, hi⟩ := hm
    rcases ro' i b hi with ⟨q, hq⟩ | hge
    · exact e3 b off e hn ⟨q, hq⟩
    · omega
  have hrows : Rows B (w'.setCell ⟨g, 2, none⟩ (.slice O (ln.length + 1) oc)) (Mine g { a with D := O, dc := oc }) O (ln ++ [C]).length oc (ln ++ [C]) := by
    refine ⟨vs ++ [.slice A1 n1 c1], by simpa using hrow, rfl, fun i x hx => ?_⟩
    by_cases hi : i < ln.length
    · rw [List.getElem?_append_left hi] at hx
      obtain ⟨A', n', c', e1, e2, e3⟩ := hvx i x hx
      exact ⟨A', n', c', by rw [List.getElem?_append_left (by omega)]; exact e1, key A' n' c' x e2 e3⟩
    · rw [List.getElem?_append_right (by omega)] at hx
      have hj0 : i - ln.length = 0 := by
        rcases Nat.eq_zero_or_pos (i - ln.length) with h0 | h0
        · exact h0
        · rw [List.getElem?_eq_none (by simp; omega)] at hx
          cases hx
      rw [hj0] at hx
      simp at hx
      subst hx
      exact ⟨A1, n1, c1, by rw [List.getElem?_append_right (by omega), hvs, hj0]; rfl, key A1 n1 c1 C hC hnm⟩
  exact ⟨⟨ge', ap', (by simpa using hblk), ((h1.val.grown hg (neT (j := 1) (by decide) rfl)).grown hs (neg0 (j := 1) (by decide) rfl)), h.vlen, ((h1.lvl.grown hg (neT (j := 2) (by decide) rfl)).grown hs (neg0 (j := 2) (by decide) rfl)), h.llen, ((h1.rsn.grown hg (neT (j := 3) (by decide) rfl)).grown hs (neg0 (j := 3) (by decide) rfl)), h.rlen, (own_other (own_other h1.trl hg (fun r hr => neT (j := 4) (by decide) (by rw [own_blkO] at hr; exact hr))) hs (fun r hr => neg0 (j := 4) (by decide) (by rw [own_blkO] at hr; exact hr))), (own_other (own_other h1.sts hg (fun r hr => neT (j := 5) (by decide) (by rw [own_blkO] at hr; exact hr))) hs (fun r hr => neg0 (j := 5) (by decide) (by rw [own_blkO] at hr; exact hr))), (other 6 (by decide) (by decide) rfl h.lst), hrows⟩, bB, key⟩
end Go.Proofs.YtemiecammmbjdaaGreat
