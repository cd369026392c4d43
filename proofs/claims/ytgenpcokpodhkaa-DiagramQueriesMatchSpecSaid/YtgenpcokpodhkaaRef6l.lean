/- Contracts of the reference's Canonical and of the laws' made. -/
import Derived.Test.YtgenpcokpodhkaaRef6f
import Derived.Test.YtgenpcokpodhkaaRef6j
namespace Go.Proofs.Ytgenpcokpodhkaa
set_option linter.unusedVariables false
set_option linter.unusedSimpArgs false
open Go.RowKit Go.Maps

set_option maxHeartbeats 1600000 in
theorem Canonical_ct (L : Nat) (V : Option Addr) (nv cv : Nat) (vals : List Bool) (w : World) (hL : L ≤ 16) (hn : nv = 2 ^ L) (h : Rd Enc.bool w V nv cv vals) :
    Calls Try.prog 42 #[.int .i64 L, .slice V nv cv] w (GivesD w L ((canonical L vals).1.map castN) ((canonical L vals).2 : Nat)) := by
  have hp : 2 ^ L ≤ 65536 := Nat.le_trans (Nat.pow_le_pow_right (by omega) hL) (by decide)
  have hbl := below_two w (.cells #[.int .i64 0, .slice none 0 0, .int .i64 0] 30) (.cells #[.int .i64 L, .slice none 0 0, .int .i64 0] 30)
  have hb0 := Blk.new w 30 [.int .i64 0, .slice none 0 0, .int .i64 0]
  have hb1 := Blk.new (w.alloc (.cells #[.int .i64 0, .slice none 0 0, .int .i64 0] 30)) 30 [.int .i64 L, .slice none 0 0, .int .i64 0]
  simp only [World.size_alloc] at hb1
  have hb0' := hb0.alloc (.cells #[.int .i64 L, .slice none 0 0, .int .i64 0] 30)
  have hfok : FOk [] [] := ⟨(fun n hn => by cases hn), (fun p hp => by cases hp)⟩
  have hst : FoldS w ((w.alloc (.cells #[.int .i64 0, .slice none 0 0, .int .i64 0] 30)).alloc (.cells #[.int .i64 L, .slice none 0 0, .int .i64 0] 30)) [] none 0 [] none 0 :=
    ⟨World.ownsRow_nil _ _ _ _, ⟨[], rfl, World.ownsRow_nil _ _ _ _, fun x hx => by cases hx⟩, hbl⟩
  have hcall : Calls Try.prog 62 #[.agg #[.int .i64 L, .slice none 0 0, .int .i64 0], .int .i64 0, .slice V nv cv, .slice none 0 0] _ _ := folded_ct w L 0 L 0 vals V nv cv [] [] none 0 none 0 _ hst h hn (by omega) hfok (by simp; omega) (by simp; omega)
  have hres := fold_res L 0 [] vals [] (by rw [h.len, hn]) (by omega) hfok
  unfold canonical
  generalize fold (L + 1) [] 0 vals [] = res at hcall hres ⊢
  obtain ⟨out, k, known⟩ := res
  obtain ⟨r1, r2, r3, _⟩ := hres
  simp only at r1 r2 r3
  have Hcall := hide hcall
  have Hb0 := hide hb0'
  have Hb1 := hide hb1
  have Hok := hide r1
  simp only [List.length_nil] at r3
  have Hn := hide hn
  clear h hbl hb0 hb0' hb1 hst hcall hfok r1 hn
  go_enter Try.func42, Try.ntmps42
  go_wp2_with fail
  with_reducible refine Hcall.out.mono ?_
  rintro e w1 ⟨O, c1, K, ck, rfl, hs1, hr1⟩
  simp only at hs1
  have hx0 := Hb0.out.frt hr1 (by decide) (by decide)
  have hx1 := Hb1.out.frt hr1 (by decide) (by decide)
  have k0 := hx0.cell 0
  have k1 := hx0.cell 1
  have k2 := hx0.cell 2
  have d0 := hx1.cell 0
  have d1 := hx1.cell 1
  have d2 := hx1.cell 2
  have f0 := hx0.frozen 0
  have f1 := hx0.frozen 1
  have f2 := hx0.frozen 2
  have g0 := hx1.frozen 0
  have g1 := hx1.frozen 1
  have g2 := hx1.frozen 2
  have l0 := hx0.lt
  have l1 := hx1.lt
  simp only [List.getElem?_cons_zero, List.getElem?_cons_succ] at k0 k1 k2 d0 d1 d2
  have Hx0 := hide hx0
  have Hx1 := hide hx1
  have Hs1 := hide hs1
  clear hx0 hx1 hs1 hr1
  simp only
  go_upto_region 3 with (fail)
  have hr2 := ((Hs1.out.set Hx1.out (by decide) (by decide) (by omega) 0 (.int .i64 L)).set (Hx1.out.set 0 _) (by decide) (by decide) (by omega) 1 (.slice O out.length c1)).set ((Hx1.out.set 0 _).set 1 _) (by decide) (by decide) (by omega) 2 (.int .i64 0)
  have hx2 := ((Hx1.out.set 0 (.int .i64 L)).set 1 (.slice O out.length c1)).set 2 (.int .i64 0)
  have hx3 := ((Hx0.out.far (p := ⟨w.heap.size + 1, 0, none⟩) (by simp) (.int .i64 L)).far (p := ⟨w.heap.size + 1, 1, none⟩) (by simp) (.slice O out.length c1)).far (p := ⟨w.heap.size + 1, 2, none⟩) (by simp) (.int .i64 0)
  simp only [List.set_cons_zero, List.set_cons_succ] at hx2
  obtain ⟨W, hW⟩ : ∃ W, W = (((w1.setCell ⟨w.heap.size + 1, 0, none⟩ (.int .i64 L)).setCell ⟨w.heap.size + 1, 1, none⟩ (.slice O out.length c1)).setCell ⟨w.heap.size + 1, 2, none⟩ (.int .i64 0)) := ⟨_, rfl⟩
  rw [← hW] at hr2 hx2 hx3 ⊢
  clear hW k0 k1 k2 d0 d1 d2 f0 f1 f2 g0 g1 g2 l0 l1
  have k0 := hx3.cell 0
  have k1 := hx3.cell 1
  have k2 := hx3.cell 2
  have d0 := hx2.cell 0
  have d1 := hx2.cell 1
  have d2 := hx2.cell 2
  have f0 := hx3.frozen 0
  have f1 := hx3.frozen 1
  have f2 := hx3.frozen 2
  have g0 := hx2.frozen 0
  have g1 := hx2.frozen 1
  have g2 := hx2.frozen 2
  have l0 := hx3.lt
  have l1 := hx2.lt
  simp only [List.getElem?_cons_zero, List.getElem?_cons_succ] at k0 k1 k2 d0 d1 d2
  have hr3 := hr2.set hx2 (by decide) (by decide) (by omega) 2 (.int .i64 k)
  have hx4 := hx3.far (p := ⟨w.heap.size + 1, 2, none⟩) (by simp) (.int .i64 k)
  have hr4 := ((hr3.set hx4 (by decide) (by decide) (by omega) 0 (.int .i64 L)).set (hx4.set 0 _) (by decide) (by decide) (by omega) 1 (.slice O out.length c1)).set ((hx4.set 0 _).set 1 _) (by decide) (by decide) (by omega) 2 (.int .i64 k)
  have Hr4 := hide hr4
  clear hr2 hx2 hx3 hr3 hx4 hr4 Hs1 Hx0 Hx1
  go_wp2
  refine bodyPost_ret (v := .agg #[.int .i64 L, .slice O out.length c1, .int .i64 k]) (by simp [results, Try.results42, go_sem, k0, k1, k2, d0, d1, d2]) rfl ?_
  have hown := Hr4.out.own
  have hrd := own_rdN hown rfl (fun x hx => by have := Hok.out.1 x hx; omega)
  exact ⟨⟨O, out.length, c1, rfl, hrd, fun b off e => by subst e; exact own_base hown rfl⟩, Hr4.out.below⟩
end Go.Proofs.Ytgenpcokpodhkaa
