/- What Validate and the reference find wrong with a diagram, in plain Lean. -/
import Derived.Test.YtgenpcokpodhkaaDia1
namespace Go.Proofs.Ytgenpcokpodhkaa

def natN (n : DI) : BN := (n.1.toNat, n.2.1.toNat, n.2.2.toNat)
def rangeN (L : Int) (i : Nat) (n : DI) : Prop := n.1 < 0 ∨ L ≤ n.1 ∨ n.2.1 < 0 ∨ (i : Int) + 1 < n.2.1 ∨ n.2.2 < 0 ∨ (i : Int) + 1 < n.2.2
instance (L : Int) (i : Nat) (n : DI) : Decidable (rangeN L i n) := by unfold rangeN; exact inferInstance
def badN (L : Int) (ns : List DI) (i : Nat) (n : DI) : Prop := n.2.1 = n.2.2 ∨ lvlI L ns n.2.1 ≤ n.1 ∨ lvlI L ns n.2.2 ≤ n.1 ∨ n ∈ ns.take i
instance (L : Int) (ns : List DI) (i : Nat) (n : DI) : Decidable (badN L ns i n) := by unfold badN; exact inferInstance
def chkN (L : Int) (ns : List DI) (i : Nat) (n : DI) : Int := if rangeN L i n then 3 else if badN L ns i n then 5 else 0
/-- the first node that is wrong -/
def scanN (L : Int) (ns : List DI) : Nat → List DI → Option (Int × Int)
  | _, [] => none
  | i, n :: l => if chkN L ns i n = 0 then scanN L ns (i + 1) l else some (chkN L ns i n, (i : Int))
def faultD (L : Int) (ns : List DI) (r : Int) : Int × Int :=
  if L < 0 ∨ 24 < L then (3, -1) else if 300 < ns.length then (2, -1) else
    match scanN L ns 0 ns with
    | some f => f
    | none => if r < 0 ∨ (ns.length : Int) + 1 < r then (3, -2) else if (canon (ns.map natN) r.toNat).1 = ns.map natN then (0, 0) else (5, -2)
theorem scan_none {L : Int} {ns : List DI} : ∀ (l : List DI) (k : Nat), scanN L ns k l = none → ∀ i n, l[i]? = some n → chkN L ns (k + i) n = 0 := by
  intro l
  induction l with
  | nil => intro k _ i n h; simp at h
  | cons m l ih =>
    intro k h i n hn
    unfold scanN at h
    split at h
    · cases i with
      | zero =>
        simp at hn
        subst hn
        assumption
      | succ i =>
        have := ih (k + 1) h i n (by simpa using hn)
        rwa [show k + 1 + i = k + (i + 1) from by omega] at this
    · cases h
theorem chk_zero {L : Int} {ns : List DI} {i : Nat} {n : DI} (h : chkN L ns i n = 0) : ¬ rangeN L i n ∧ ¬ badN L ns i n := by
  unfold chkN at h
  split at h
  · omega
  · split at h
    · omega
    · exact ⟨by assumption, by assumption⟩
theorem lvl_nat {L : Int} {ns : List DI} {k : Int} (hk : 0 ≤ k) : (lvl L.toNat (ns.map natN) k.toNat) = (lvlI L ns k).toNat := by
  unfold lvl lvlI
  by_cases h : k < 2
  · rw [if_pos (by omega), if_pos h]
  · rw [if_neg (by omega), if_neg h, List.getElem?_map, show (k - 2).toNat = k.toNat - 2 from by omega]
    cases ns[k.toNat - 2]? <;> rfl
theorem natN_inj {L : Int} {i j : Nat} {n m : DI} (h : ¬ rangeN L i n) (h' : ¬ rangeN L j m) (e : natN n = natN m) : n = m := by
  obtain ⟨n0, n1, n2⟩ := n
  obtain ⟨m0, m1, m2⟩ := m
  simp only [rangeN, natN, Prod.mk.injEq, not_or] at *
  omega
theorem cast_nat {L : Int} {i : Nat} {n : DI} (h : ¬ rangeN L i n) : castN (natN n) = n := by
  obtain ⟨n0, n1, n2⟩ := n
  simp only [rangeN, natN, castN, Prod.mk.injEq, not_or] at *
  omega
theorem scan_ok {L : Int} {ns : List DI} (hL : 0 ≤ L) (h : scanN L ns 0 ns = none) : OkD L.toNat (ns.map natN) ∧ (ns.map natN).map castN = ns := by
  have hall : ∀ i n, ns[i]? = some n → ¬ rangeN L i n ∧ ¬ badN L ns i n := fun i n hn => by
    have := scan_none ns 0 h i n hn
    rw [Nat.zero_add] at this
    exact chk_zero this
  refine ⟨⟨fun i v l h' hn => ?_, fun i j m hi hj => ?_⟩, ?_⟩
  · rw [List.getElem?_map] at hn
    obtain ⟨n, hg, hn⟩ := Option.map_eq_some_iff.1 hn
    obtain ⟨h1, h2⟩ := hall i n hg
    obtain ⟨n0, n1, n2⟩ := n
    simp only [natN, Prod.mk.injEq] at hn
    obtain ⟨rfl, rfl, rfl⟩ := hn
    simp only [rangeN, badN, not_or] at h1 h2
    have e1 := lvl_nat (L := L) (ns := ns) (k := n1) (by omega)
    have e2 := lvl_nat (L := L) (ns := ns) (k := n2) (by omega)
    rw [e1, e2]
    omega
  · rw [List.getElem?_map] at hi hj
    obtain ⟨n, hg, hn⟩ := Option.map_eq_some_iff.1 hi
    obtain ⟨n', hg', hn'⟩ := Option.map_eq_some_iff.1 hj
    have e := natN_inj (hall i n hg).1 (hall j n' hg').1 (hn.trans hn'.symm)
    subst e
    have key : ∀ a b, a < b → ns[a]? = some n → ns[b]? = some n → False := fun a b hab ha hb => by
      have := (hall b n hb).2
      simp only [badN, not_or] at this
      refine this.2.2.2 (List.mem_of_getElem? (i := a) ?_)
      rw [List.getElem?_take, if_pos hab]
      exact ha
    rcases Nat.lt_trichotomy i j with h1 | h1 | h1
    · exact (key i j h1 hg hg').elim
    · exact h1
    · exact (key j i h1 hg' hg).elim
  · rw [List.map_map]
    refine List.ext_getElem? (fun i => ?_)
    rw [List.getElem?_map]
    cases hg : ns[i]? with
    | none => rfl
    | some n =>
      simp only [Option.map_some, Function.comp]
      rw [cast_nat (hall i n hg).1]
theorem natN_cast (l : List BN) : (l.map castN).map natN = l := by
  rw [List.map_map]
  refine (List.map_congr_left (g := id) fun n _ => ?_).trans (List.map_id l)
  simp [castN, natN]
theorem castN_inj {l m : List BN} (h : l.map castN = m.map castN) : l = m := by rw [← natN_cast l, ← natN_cast m, h]

/-- a diagram in which nothing is wrong -/
structure Valid (L : Nat) (ns : List BN) (r : Nat) : Prop where
  low : L ≤ 24
  few : ns.length ≤ 300
  ok : OkD L ns
  root : r < ns.length + 2
  canon : canon ns r = (ns, r)
theorem faultD_valid {L : Int} {ns : List DI} {r : Int} (h : faultD L ns r = (0, 0)) : Valid L.toNat (ns.map natN) r.toNat ∧ (ns.map natN).map castN = ns ∧ (L.toNat : Int) = L ∧ (r.toNat : Int) = r := by
  unfold faultD at h
  split at h
  · cases h
  · split at h
    · cases h
    · cases hs : scanN L ns 0 ns with
      | some f =>
        rw [hs] at h
        simp only at h
        exfalso
        have key : ∀ (l : List DI) (k : Nat), scanN L ns k l ≠ some (0, 0) := by
          intro l
          induction l with
          | nil => intro k h; cases h
          | cons m l ih =>
            intro k h
            unfold scanN at h
            split at h
            · exact ih _ h
            · simp only [Option.some.injEq, Prod.mk.injEq] at h
              have := h.1
              omega
        exact key ns 0 (by rw [hs, h])
      | none =>
        rw [hs] at h
        simp only at h
        split at h
        · cases h
        · split at h
          · rename_i h1 h2 h3 h4
            obtain ⟨o1, o2⟩ := scan_ok (by omega) hs
            have hr : r.toNat < (ns.map natN).length + 2 := by rw [List.length_map]; omega
            exact ⟨⟨by omega, by rw [List.length_map]; omega, o1, hr, canon_self o1 hr h4⟩, o2, by omega, by omega⟩
          · cases h
section
variable {L : Int} {ns : List DI} {r : Int} (h1 : ¬ L < 0) (h2 : ¬ 24 < L) (h3 : ¬ 300 < ns.length)
include h1 h2 h3
theorem faultD_some {f : Int × Int} (h : scanN L ns 0 ns = some f) : faultD L ns r = f := by
  unfold faultD
  rw [if_neg (by omega), if_neg (by omega), h]
theorem faultD_root (h : scanN L ns 0 ns = none) (hr : r < 0 ∨ (ns.length : Int) + 1 < r) : faultD L ns r = (3, -2) := by
  unfold faultD
  rw [if_neg (by omega), if_neg (by omega), h]
  simp only
  rw [if_pos hr]
theorem faultD_canon (h : scanN L ns 0 ns = none) (hr : ¬ (r < 0 ∨ (ns.length : Int) + 1 < r)) : faultD L ns r = if (canon (ns.map natN) r.toNat).1 = ns.map natN then (0, 0) else (5, -2) := by
  unfold faultD
  rw [if_neg (by omega), if_neg (by omega), h]
  simp only
  rw [if_neg hr]
end
end Go.Proofs.Ytgenpcokpodhkaa
