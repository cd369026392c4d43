/- Contracts of diagram.And and Or. -/
import Derived.Test.YtgenpcokpodhkaaDia7
namespace Go.Proofs.Ytgenpcokpodhkaa
open Go.RowKit Go.Maps

set_option maxHeartbeats 800000 in
set_option maxRecDepth 100000 in
theorem And_d (L : Int) (A : Option Addr) (n c : Nat) (ns : List DI) (r L2 : Int) (A2 : Option Addr) (n2 c2 : Nat) (ns2 : List DI) (r2 : Int) (w : World) (hL : -9223372036854775808 ≤ L ∧ L ≤ 9223372036854775807) (hr : -9223372036854775808 ≤ r ∧ r ≤ 9223372036854775807) (hL2 : -9223372036854775808 ≤ L2 ∧ L2 ≤ 9223372036854775807) (hr2 : -9223372036854775808 ≤ r2 ∧ r2 ≤ 9223372036854775807) (h : Rd Enc.node w A n c ns) (h2 : Rd Enc.node w A2 n2 c2 ns2) :
    Calls Try.prog 19 #[.agg #[.int .i64 L, .slice A n c, .int .i64 r], .agg #[.int .i64 L2, .slice A2 n2 c2, .int .i64 r2]] w (GivesDF w (combineR 0 L ns r L2 ns2 r2)) := by
  obtain ⟨hst0, hbx0, hby0⟩ := start5 w L A n c r L2 A2 n2 c2 r2
  have hc := fun W hW => combine_d 0 (by omega) L A n c ns r L2 A2 n2 c2 ns2 r2 W hL hr hL2 hr2 (h.keep hW) (h2.keep hW)
  have Hc := hide hc
  have Hst0 := hide hst0
  clear h h2 hst0 hbx0 hby0 hc
  go_enter Try.func19, Try.ntmps19
  go_wp2_with fail
  obtain ⟨V, hV⟩ : ∃ V, V = ((((w.alloc (.cells #[.int .i64 L, .slice A n c, .int .i64 r] 30)).alloc (.cells #[.int .i64 L2, .slice A2 n2 c2, .int .i64 r2] 30)).alloc (.cells #[.int .i64 0, .slice none 0 0, .int .i64 0] 30)).alloc (.cells #[.int .i64 0, .int .i64 0] 25)) := ⟨_, rfl⟩
  rw [← hV]
  have hst := Hst0.out
  rw [← hV] at hst
  have Hst := hide hst
  clear hV hst Hst0
  refine (Hc.out V Hst.out.below).mono ?_
  generalize hx : combineR 0 L ns r L2 ns2 r2 = x
  obtain ⟨⟨xl, xn, xr⟩, xf1, xf2⟩ := x
  have Hx := hide hx
  clear hx
  rintro e w3 ⟨⟨A3, n3, c3, rfl, hrd3, hnew3⟩, hb3⟩
  have hrb3 := Hst.out.keep hb3
  obtain ⟨x0, x1, x2, x3, x4, x5, x6, x7, x8, x9, x10, x11⟩ := hrb3.facts
  have Hrb3 := hide hrb3
  have Hrd3 := hide hrd3
  have Hnew3 := hide hnew3
  clear hrb3 hrd3 hnew3 hb3
  simp only [faultV]
  go_wp2
  refine bodyPost_ret (v := .tuple #[.agg #[.int .i64 xl, .slice A3 n3 c3, .int .i64 xr], faultV (xf1, xf2)]) (by simp [results, Try.results19, go_sem, faultV, x0, x1, x2, x3, x4]) rfl ?_
  rw [Hx.out]
  have hge2 := Hst.out.below.size
  refine ⟨⟨A3, n3, c3, rfl, ?_, fun b off e => by have := Hnew3.out b off e; omega⟩, Hrb3.out.put _ _ _ _ _⟩
  exact rd_put Hrd3.out _ _ _ _ _ (fun b off e _ => by
    have h1 := Hnew3.out b off e
    have h2 := Hst.out.fault.lt
    omega)

set_option maxHeartbeats 800000 in
set_option maxRecDepth 100000 in
theorem Or_d2 (L : Int) (A : Option Addr) (n c : Nat) (ns : List DI) (r L2 : Int) (A2 : Option Addr) (n2 c2 : Nat) (ns2 : List DI) (r2 : Int) (w : World) (hL : -9223372036854775808 ≤ L ∧ L ≤ 9223372036854775807) (hr : -9223372036854775808 ≤ r ∧ r ≤ 9223372036854775807) (hL2 : -9223372036854775808 ≤ L2 ∧ L2 ≤ 9223372036854775807) (hr2 : -9223372036854775808 ≤ r2 ∧ r2 ≤ 9223372036854775807) (h : Rd Enc.node w A n c ns) (h2 : Rd Enc.node w A2 n2 c2 ns2) :
    Calls Try.prog 20 #[.agg #[.int .i64 L, .slice A n c, .int .i64 r], .agg #[.int .i64 L2, .slice A2 n2 c2, .int .i64 r2]] w (GivesDF w (combineR 1 L ns r L2 ns2 r2)) := by
  obtain ⟨hst0, hbx0, hby0⟩ := start5 w L A n c r L2 A2 n2 c2 r2
  have hc := fun W hW => combine_d 1 (by omega) L A n c ns r L2 A2 n2 c2 ns2 r2 W hL hr hL2 hr2 (h.keep hW) (h2.keep hW)
  have Hc := hide hc
  have Hst0 := hide hst0
  clear h h2 hst0 hbx0 hby0 hc
  go_enter Try.func20, Try.ntmps20
  go_wp2_with fail
  obtain ⟨V, hV⟩ : ∃ V, V = ((((w.alloc (.cells #[.int .i64 L, .slice A n c, .int .i64 r] 30)).alloc (.cells #[.int .i64 L2, .slice A2 n2 c2, .int .i64 r2] 30)).alloc (.cells #[.int .i64 0, .slice none 0 0, .int .i64 0] 30)).alloc (.cells #[.int .i64 0, .int .i64 0] 25)) := ⟨_, rfl⟩
  rw [← hV]
  have hst := Hst0.out
  rw [← hV] at hst
  have Hst := hide hst
  clear hV hst Hst0
  refine (Hc.out V Hst.out.below).mono ?_
  generalize hx : combineR 1 L ns r L2 ns2 r2 = x
  obtain ⟨⟨xl, xn, xr⟩, xf1, xf2⟩ := x
  have Hx := hide hx
  clear hx
  rintro e w3 ⟨⟨A3, n3, c3, rfl, hrd3, hnew3⟩, hb3⟩
  have hrb3 := Hst.out.keep hb3
  obtain ⟨x0, x1, x2, x3, x4, x5, x6, x7, x8, x9, x10, x11⟩ := hrb3.facts
  have Hrb3 := hide hrb3
  have Hrd3 := hide hrd3
  have Hnew3 := hide hnew3
  clear hrb3 hrd3 hnew3 hb3
  simp only [faultV]
  go_wp2
  refine bodyPost_ret (v := .tuple #[.agg #[.int .i64 xl, .slice A3 n3 c3, .int .i64 xr], faultV (xf1, xf2)]) (by simp [results, Try.results20, go_sem, faultV, x0, x1, x2, x3, x4]) rfl ?_
  rw [Hx.out]
  have hge2 := Hst.out.below.size
  refine ⟨⟨A3, n3, c3, rfl, ?_, fun b off e => by have := Hnew3.out b off e; omega⟩, Hrb3.out.put _ _ _ _ _⟩
  exact rd_put Hrd3.out _ _ _ _ _ (fun b off e _ => by
    have h1 := Hnew3.out b off e
    have h2 := Hst.out.fault.lt
    omega)
end Go.Proofs.Ytgenpcokpodhkaa
