/- A formula among a law's arguments: its list of clauses lies at a plain address. -/
import Derived.Test.YtnfeknfakkdbhaaClOpen
namespace Go.Proofs.Ytnfeknfakkdbhaa
open Go.ChangeShapes Go.WideShapes Go.ChangeAt Go.RowKit

set_option maxRecDepth 100000 in
theorem plain_cnf {W : World} {base : Nat} {x : Int} {A : Option Addr} {n c : Nat} (hv : Value.okWide Try.prog W .any base 51 (.agg #[.int .i64 x, .slice A n c])) : ∀ ad, A = some ad → ∃ b off, ad = ⟨b, off, none⟩ := by
  intro ad e
  subst e
  simp only [Value.okWide, Try.underlying51] at hv
  obtain ⟨cs, e, hs, ts, ht, _, hc⟩ := hv
  injection e with e
  subst e
  obtain ⟨u, hu, hok⟩ := hc 1 _ rfl
  have hts : Try.prog.cellTypes Try.prog.depth 51 = some [3, 40] := by kernel_rfl
  rw [hts] at ht
  obtain rfl := Option.some.inj ht
  have hu : u = 40 := by simpa using hu.symm
  subst hu
  unfold Cell.okWide at hok
  rw [Try.underlying40] at hok
  simp only at hok
  unfold Cell.ok at hok
  rw [Try.underlying40] at hok
  simp only at hok
  obtain ⟨_, _, _, h2, _⟩ := hok
  exact ⟨ad.block, ad.off, by cases ad; simp_all⟩
end Go.Proofs.Ytnfeknfakkdbhaa
