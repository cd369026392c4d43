/- What the law asks for, part 16: Rs15. -/
import Derived.Test.YtemiecammmbjdaaGreatL1
import Derived.Test.YtemiecammmbjdaaGreatL2
import Derived.Test.YtemiecammmbjdaaGreatL4
import Derived.Test.YtemiecammmbjdaaGreatL5
import Derived.Test.YtemiecammmbjdaaGreatL11
import Derived.Test.YtemiecammmbjdaaGreatL12
import Derived.Test.YtemiecammmbjdaaGreatL13
import Derived.Test.YtemiecammmbjdaaGreatL14
import Derived.Test.YtemiecammmbjdaaGreatL15
import Derived.BigQuiet
import Derived.Deep.AppendLies
import Derived.Deep.DeepCutAuto
import Derived.Deep.Draws
import Derived.Deep.Fields
import Derived.Deep.LoopGhost
import Derived.Deep.QuietTactic
import Derived.Deep.RegionHeld3
import Derived.Deep.RegionLaw
import Derived.Deep.Slices
import Derived.Ground.Names2Prog
import Derived.Ground.SlgnProg
import Derived.Ground.SlsfProg
import Derived.IntWalk
import Derived.Laws.AppendOwnNone
import Derived.Laws.OwnMore
import Derived.Lib.Hide
import Derived.Maps.AppendAt
import Derived.Shelf.SlSortCmp.Whole1
import Derived.Shelf.SlicesE.Clone
import Derived.Sort.OwnSortedInts
import Derived.Test.YtemiecammmbjdaaGreatProg
import Derived.WalkKit
import Init
namespace Go.Proofs.YtemiecammmbjdaaGreat
set_option linter.unusedVariables false
set_option linter.unusedSimpArgs false
open Go.RowKit
theorem lit_zeros {V : Nat} {x : Int} : ¬ Lit (List.replicate (V + 1) (0 : Int)) x := by
  rintro ⟨_, h⟩
  have : valOf (List.replicate (V + 1) (0 : Int)) x = 0 := by
    rw [valOf, List.getD_eq_getElem?_getD, List.getElem?_replicate]
    split <;> rfl
  rcases sgn_cases x with s | s <;> omega
theorem st_start {V : Nat} {cs : List (List Int)} (hc : ∀ c ∈ cs, Clean V c) : St V cs [] [] (List.replicate (V + 1) 0) (List.replicate (V + 1) 0) (List.replicate (V + 1) 0) :=
  ⟨Inv.start hc, (fun y hy => by rw [(List.mem_replicate.1 hy).2]; omega), (fun x hx => ⟨fun h => absurd h lit_zeros, fun h => by cases h⟩), by simp, by simp, by simp⟩
/-- an assignment -/
def Solved (w' : World) (V : Nat) (cs : List (List Int)) (A : Option Addr) (c : Nat) (m : List Bool) : Prop := m.length = V ∧ trueAll cs m = true ∧ Rd Enc.bool w' A V c m
/-- what Find answers -/
def FindP (w : World) (V : Nat) (cs : List (List Int)) (e : Ending) (w' : World) : Prop :=
  Below w.heap.size w w' ∧ ((∃ A c m, e = .returned (.tuple #[.slice A V c, .bool true]) ∧ Solved w' V cs A c m) ∨ (e = .returned (.tuple #[.slice none 0 0, .bool false]) ∧ ∀ m : List Bool, m.length = V → trueAll cs m = false))
set_option maxHeartbeats 3200000 in
theorem Find_ct (V : Nat) (A : Option Addr) (n c : Nat) (cs : List (List Int)) (w : World) (hV : V ≤ 80) (hF : Few V cs 4000000000000) (hn : n ≤ 1000000) (h : Rd (Enc.sl Enc.int) w A n c cs) (hA : ∀ ad, A = some ad → ∃ b off, ad = ⟨b, off, none⟩) (hcl : ∀ c ∈ cs, Clean V c) :
    Calls Tryz.prog 19 #[.agg #[.int .i64 V, .slice A n c]] w (FindP w V cs) := by
  have hbw : Below w.heap.size w (w.alloc (.cells #[.int .i64 V, .slice A n c] 45)) := (Below.refl _ _).alloc (Nat.le_refl _) _
  have hBl := Blk.new w 45 [.int .i64 V, .slice A n c]
  obtain ⟨w2, hw2⟩ : ∃ w2, w2 = w.alloc (.cells #[.int .i64 V, .slice A n c] 45) := ⟨_, rfl⟩
  have Hw2 := hide hw2
  have hbl' : Blk 45 w2 w.heap.size [.int .i64 V, .slice A n c] := by rw [hw2]; exact hBl
  have hbw' : Below w.heap.size w w2 := by rw [hw2]; exact hbw
  have HBl := hide hbl'
  have Hb := hide hbw'
  have Hln := hide h.len
  have H := hide h
  have HA := hide hA
  have Hst := hide (st_start hcl)
  have Hcl := hide hcl
  clear hbw h hA hcl hbl' hBl hbw' hw2
  go_enter Tryz.func19, Tryz.ntmps19
  go_wp2_with fail
  rw [← Hw2.out]
  with_reducible refine (newSolver_ct (H.out.keep Hb.out) HA.out (by omega) (by omega)).mono ?_
  rintro e w3 ⟨g, a, rfl, hb3, hsv⟩
  have Hsv := hide hsv
  have Hb3 := hide (Hb.out.trans (hb3.mono Hb.out.size))
  have hwg := hsv.ge 0 g rfl
  have hwz := Hb.out.size
  clear hsv hb3
  go_wp2_with fail
  with_reducible refine (run_ct Hsv.out Hst.out (by omega) (.inr ⟨rfl, hF⟩) (by rw [Hln.out]; omega)).mono ?_
  rintro e w4 ⟨hb4, a4, cs4, ln, vals, lev, rea, t, starts, hsv4, hrups, hclean, hl4, hres⟩
  have Hb4 := hide (Hb3.out.trans (hb4.mono (by omega)))
  have Hsv4 := hide hsv4
  have Hrups := hide hrups
  have Hclean := hide hclean
  clear hb4 hsv4 hrups hclean hl4 Hsv Hb3 Hst
  rcases hres with ⟨rfl, rfl, hst4, hcalm, hall⟩ | ⟨rfl, ln', hln⟩ | ⟨rfl, hlm, hlp⟩
  · have hmt := true_part (ds := cs) (model_true hst4 hall hcalm) (fun c hc => List.mem_append_left _ hc)
    have Hmt := hide hmt
    clear hst4 hcalm hall hmt
    go_wp2_with fail
    with_reducible refine (values_ct Hsv4.out (by omega)).mono ?_
    rintro e w5 ⟨O, oc, rfl, hb5, hown⟩
    have Hb5 := hide (Hb4.out.trans (hb5.mono Hb4.out.size))
    have Hown := hide hown
    clear hb5 hown
    go_wp2_with fail
    go_ret2
    exact ⟨Hb5.out, .inl ⟨O, oc, modelF vals V, rfl, modelF_len _ _, Hmt.out, own_rdb Hown.out (modelF_len _ _)⟩⟩
  · have hck : ∀ m : List Bool, m.length = V → trueAll cs m = false := fun m hm => by
      have h1 := Hrups.out
      have h2 := Hclean.out
      rw [hln] at h1 h2
      exact rups_no Hcl.out h2 hm h1 (List.mem_append_right _ (List.mem_singleton.2 rfl))
    have Hck := hide hck
    clear hck hln
    go_wp2_with fail
    go_ret2
    exact ⟨Hb4.out, .inr ⟨rfl, Hck.out⟩⟩
  · omega
end Go.Proofs.YtemiecammmbjdaaGreat
