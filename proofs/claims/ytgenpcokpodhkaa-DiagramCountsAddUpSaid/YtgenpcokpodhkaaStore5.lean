/- Contracts of the store's And, Or, Literal. -/
import Derived.Test.YtgenpcokpodhkaaStore4
namespace Go.Proofs.Ytgenpcokpodhkaa
open Go.RowKit Go.Maps

theorem StP.mono {L B g bf bp : Nat} {w : World} {ns : List BN} {C C' : Nat} {Q Q' : List BN → Nat → Prop} {e : Ending} {w' : World} (h : StP L B g bf bp w ns C Q e w') (hC : C ≤ C') (hQ : ∀ ns' k, Q ns' k → Q' ns' k) : StP L B g bf bp w ns C' Q' e w' := by
  obtain ⟨ms, k, h1, h2, h3, h4, h5⟩ := h
  exact ⟨ms, k, h1, h2.mono hC, h3, h4, hQ _ _ h5⟩
theorem pow_le {d : Nat} (h : d ≤ 24) : 2 ^ (d + 1) ≤ 33554432 := by
  have : 2 ^ (d + 1) ≤ 2 ^ 25 := Nat.pow_le_pow_right (by omega) (by omega)
  simpa using this
theorem both_all {L B g bf bp : Nat} {op : Nat} (hop : op = 0 ∨ op = 1) {w : World} {ns : List BN} {C a b : Nat} (h : St L B g bf bp w ns C) (ha : a < ns.length + 2) (hb : b < ns.length + 2) (hC : C + 33554432 ≤ 1000000000000) :
    Calls Try.prog 59 #[.pointer (some ⟨g, 0, none⟩), .int .i64 op, .int .i64 a, .int .i64 b] w (StP L B g bf bp w ns (C + 33554432) fun ns' k => ∀ s, sem ns' k s = opF op (sem ns a s) (sem ns b s)) := by
  have hp := pow_le h.low
  exact (both_ct hop L w ns C a b h ha hb (Nat.sub_le _ _) (by omega)).mono (fun e w' h' => h'.mono (by omega) (fun _ _ h => h))
theorem Or_ct {L B g bf bp : Nat} {w : World} {ns : List BN} {C a b : Nat} (h : St L B g bf bp w ns C) (ha : a < ns.length + 2) (hb : b < ns.length + 2) (hC : C + 33554432 ≤ 1000000000000) :
    Calls Try.prog 37 #[.pointer (some ⟨g, 0, none⟩), .int .i64 a, .int .i64 b] w (StP L B g bf bp w ns (C + 33554432) fun ns' k => ∀ s, sem ns' k s = (sem ns a s || sem ns b s)) := by
  have hc := both_all (op := 1) (.inr rfl) h ha hb hC
  have Hc := hide hc
  clear hc
  go_enter Try.func37, Try.ntmps37
  go_wp2_with fail
  refine Hc.out.mono ?_
  rintro e w' ⟨ms, k, rfl, h2, h3, h4, h5⟩
  have H := hide (And.intro h2 (And.intro h3 (And.intro h4 h5)))
  clear h2 h3 h4 h5 h
  go_wp2
  go_ret
  exact ⟨ms, k, rfl, H.out.1, H.out.2.1, H.out.2.2.1, fun s => by rw [H.out.2.2.2 s]; rfl⟩
theorem And_ct {L B g bf bp : Nat} {w : World} {ns : List BN} {C a b : Nat} (h : St L B g bf bp w ns C) (ha : a < ns.length + 2) (hb : b < ns.length + 2) (hC : C + 33554432 ≤ 1000000000000) :
    Calls Try.prog 39 #[.pointer (some ⟨g, 0, none⟩), .int .i64 a, .int .i64 b] w (StP L B g bf bp w ns (C + 33554432) fun ns' k => ∀ s, sem ns' k s = (sem ns a s && sem ns b s)) := by
  have hc := both_all (op := 0) (.inl rfl) h ha hb hC
  have Hc := hide hc
  clear hc
  go_enter Try.func39, Try.ntmps39
  go_wp2_with fail
  refine Hc.out.mono ?_
  rintro e w' ⟨ms, k, rfl, h2, h3, h4, h5⟩
  have H := hide (And.intro h2 (And.intro h3 (And.intro h4 h5)))
  clear h2 h3 h4 h5 h
  go_wp2
  go_ret
  exact ⟨ms, k, rfl, H.out.1, H.out.2.1, H.out.2.2.1, fun s => by rw [H.out.2.2.2 s]; rfl⟩
theorem Literal_ct {L B g bf bp : Nat} {w : World} {ns : List BN} {C v : Nat} (h : St L B g bf bp w ns C) (hv : v < L) (pos : Bool) (hC : C < 1000000000000) :
    Calls Try.prog 38 #[.pointer (some ⟨g, 0, none⟩), .int .i64 v, .bool pos] w (StP L B g bf bp w ns (C + 1) fun ns' k => ∀ s, sem ns' k s = (s v == pos)) := by
  have l0 : lvl L ns 0 = L := lvl_small ns (by omega)
  have l1 : lvl L ns 1 = L := lvl_small ns (by omega)
  have hc := Node_st h (v := v) (l := 0) (h' := 1) hv (by omega) (by omega) (by omega) (by omega) hC
  have hc' := Node_st h (v := v) (l := 1) (h' := 0) hv (by omega) (by omega) (by omega) (by omega) hC
  have Hc := hide hc
  have Hc' := hide hc'
  clear hc hc' l0 l1 h
  cases pos
  · go_enter Try.func38, Try.ntmps38
    go_wp2_with fail
    refine Hc'.out.mono ?_
    rintro e w' ⟨ms, k, rfl, h2, h3, h4, h5, _⟩
    have H := hide (And.intro h2 (And.intro h3 (And.intro h4 h5)))
    clear h2 h3 h4 h5
    go_wp2
    go_ret
    exact ⟨ms, k, rfl, H.out.1, H.out.2.1, H.out.2.2.1, fun s => by rw [H.out.2.2.2 s, sem_zero, sem_one]; cases s v <;> rfl⟩
  · go_enter Try.func38, Try.ntmps38
    go_wp2_with fail
    refine Hc.out.mono ?_
    rintro e w' ⟨ms, k, rfl, h2, h3, h4, h5, _⟩
    have H := hide (And.intro h2 (And.intro h3 (And.intro h4 h5)))
    clear h2 h3 h4 h5
    go_wp2
    go_ret
    exact ⟨ms, k, rfl, H.out.1, H.out.2.1, H.out.2.2.1, fun s => by rw [H.out.2.2.2 s, sem_zero, sem_one]; cases s v <;> rfl⟩
end Go.Proofs.Ytgenpcokpodhkaa
