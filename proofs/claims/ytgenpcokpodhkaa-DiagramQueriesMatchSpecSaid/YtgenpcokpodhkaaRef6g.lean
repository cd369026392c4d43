/- Contracts of the reference's Value and Truths. -/
import Derived.Test.YtgenpcokpodhkaaRef6d
import Derived.Test.YtgenpcokpodhkaaRef6e
namespace Go.Proofs.Ytgenpcokpodhkaa
set_option linter.unusedVariables false
set_option linter.unusedSimpArgs false
open Go.RowKit Go.Maps

theorem bits_bit {L i v : Nat} (hv : v < L) : bits L 0 i v = bitB i v L := by
  unfold bits bitB
  rw [decide_eq_true (by omega), Bool.true_and]

set_option maxHeartbeats 1600000 in
theorem Value_ct (L n c r i : Nat) (A : Option Addr) (ds : List BN) (w : World) (hv : Valid L ds r) (hi : i ≤ 4611686018427387904) (h : Rd Enc.node w A n c (ds.map castN)) :
    Calls Try.prog 30 #[.agg #[.int .i64 L, .slice A n c, .int .i64 r], .int .i64 i] w (Gives w (.bool (sem ds r (bits L 0 i)))) := by
  have hl := h.len
  rw [List.length_map] at hl
  have hcap := h.cap
  have hcs := h.small
  have hlow := hv.low
  have hfew := hv.few
  have hroot := hv.root
  have hb0 := Blk.new w 30 [.int .i64 L, .slice A n c, .int .i64 r]
  have hbl0 : Below w.heap.size w (w.alloc (.cells #[.int .i64 L, .slice A n c, .int .i64 r] 30)) := (Below.refl _ _).alloc (Nat.le_refl _) _
  have Hb0 := hide hb0
  have Hbl0 := hide hbl0
  have Hrd := hide h
  have Hv := hide hv
  clear h hv hb0 hbl0
  go_enter Try.func30, Try.ntmps30
  go_wp2_with fail
  go_loopw [5] (fun o wr => ∃ k : Nat, k < ds.length + 2 ∧ o = .int .i64 k ∧ Blk 30 wr w.heap.size [.int .i64 L, .slice A n c, .int .i64 r] ∧ Below w.heap.size w wr ∧ sem ds r (bits L 0 i) = sem ds k (bits L 0 i)) (fun o _ => (intOf o).toNat)
  case atStart => exact ⟨r, hroot, rfl, Hb0.out, Hbl0.out, rfl⟩
  case round =>
    obtain ⟨k, hk, rfl, hbx, hbw, hrel⟩ := hrel
    have f0 := hbx.cell 0
    have f1 := hbx.cell 1
    have f2 := hbx.lt
    simp only [List.getElem?_cons_zero, List.getElem?_cons_succ] at f0 f1
    have Hbx := hide hbx
    have Hbw := hide hbw
    have Hrel := hide hrel
    clear hbx hbw hrel
    by_cases hk2 : k < 2
    · have hv : sem ds r (bits L 0 i) = ((k : Int) == 1) := by
        rw [Hrel.out]
        rcases (show k = 0 ∨ k = 1 by omega) with rfl | rfl
        · rw [sem_zero]; rfl
        · rw [sem_one]; rfl
      have Hval := hide hv
      clear hv
      go_wp2
      go_ret
      exact ⟨ret_bool (by rw [Hval.out]), Hbw.out⟩
    · obtain ⟨j, rfl⟩ : ∃ j, k = j + 2 := ⟨k - 2, by omega⟩
      have hcast : ((j + 2 : Nat) : Int) = (j : Int) + 2 := rfl
      rw [hcast]
      have hjn : j < n := by omega
      obtain ⟨b, off, x, rfl, hx, hc0, hc1, hc2, hxb, hbr⟩ := (Hrd.out.keep Hbw.out).node hjn
      rw [List.getElem?_map] at hx
      cases hd : ds[j]? with
      | none => rw [hd] at hx; cases hx
      | some nd =>
        obtain ⟨v, l, h'⟩ := nd
        rw [hd] at hx
        obtain rfl : x = castN (v, l, h') := (Option.some.inj hx).symm
        simp only [castN] at hc0 hc1 hc2
        obtain ⟨q1, q2, q3, _⟩ := Hv.out.ok.node j v l h' hd
        have hsem := sem_node Hv.out.ok hd (bits L 0 i)
        rw [bits_bit q1] at hsem
        have hbit := fun W => bit_ct i v L q1 (by omega) hi W
        have Hsem := hide hsem
        have Hbit := hide hbit
        clear hx hd hsem hbit hxb
        go_wp2_with fail
        refine (Hbit.out _).mono ?_
        rintro e w1 ⟨rfl, rfl⟩
        have hs := Hsem.out
        have hbw2 := Hbw.out.alloc Hbw.out.size (.cells #[.int .i64 (v : Int), .int .i64 (l : Int), .int .i64 (h' : Int)] 69)
        have hbx2 := Hbx.out.alloc (.cells #[.int .i64 (v : Int), .int .i64 (l : Int), .int .i64 (h' : Int)] 69)
        have Hbw2 := hide hbw2
        have Hbx2 := hide hbx2
        clear hbw2 hbx2 Hsem
        cases hb : bitB i v L
        · rw [hb, if_neg (by simp)] at hs
          have Hs := hide hs
          clear hs hb
          go_wp2
          go_roundw
          case rel => exact ⟨l, by omega, rfl, Hbx2.out, Hbw2.out, by rw [Hrel.out, Hs.out]⟩
          case measure => simp [intOf]; omega
        · rw [hb, if_pos rfl] at hs
          have Hs := hide hs
          clear hs hb
          go_wp2
          go_roundw
          case rel => exact ⟨h', by omega, rfl, Hbx2.out, Hbw2.out, by rw [Hrel.out, Hs.out]⟩
          case measure => simp [intOf]; omega

/-- the first k values of a table -/
def tabK (L : Nat) (φ : Fun) (k : Nat) : List Bool := (List.range k).map fun i => φ (bits L 0 i)
theorem tabK_succ (L : Nat) (φ : Fun) (k : Nat) : tabK L φ (k + 1) = tabK L φ k ++ [φ (bits L 0 k)] := by simp [tabK, List.range_succ]
theorem tabK_all (L : Nat) (φ : Fun) : tabK L φ (2 ^ L) = tableF L φ := rfl
theorem tabK_len (L : Nat) (φ : Fun) (k : Nat) : (tabK L φ k).length = k := by simp [tabK]
/-- a list of bools in a row of the call's own -/
def MadeB (w : World) (l : List Bool) (e : Ending) (w' : World) : Prop :=
  Below w.heap.size w w' ∧ ∃ A c, e = .returned (.slice A l.length c) ∧ w'.ownsRow w.heap.size 4 1 (.slice A l.length c) l.length (l.map Value.bool)

set_option maxHeartbeats 1600000 in
theorem Truths_ct (L n c r : Nat) (A : Option Addr) (ds : List BN) (w : World) (hv : Valid L ds r) (h : Rd Enc.node w A n c (ds.map castN)) :
    Calls Try.prog 21 #[.agg #[.int .i64 L, .slice A n c, .int .i64 r]] w (MadeB w (tableF L (sem ds r))) := by
  obtain ⟨i0, hi0, hz0, hz1, hz2⟩ := info_parts boolInfo
  have hlow := hv.low
  have hp : 2 ^ L ≤ 16777216 := Nat.le_trans (Nat.pow_le_pow_right (by omega) hlow) (by decide)
  have hsh : ((2 : Int) ^ L) = ((2 ^ L : Nat) : Int) := by simp
  rw [← tabK_all]
  generalize 2 ^ L = P at *
  have hb0 := Blk.new w 30 [.int .i64 L, .slice A n c, .int .i64 r]
  have hbl0 : Below w.heap.size w (w.alloc (.cells #[.int .i64 L, .slice A n c, .int .i64 r] 30)) := (Below.refl _ _).alloc (Nat.le_refl _) _
  have hw1 : IntKind.u64.wrap (L : Int) = (L : Int) := by rw [IntWalk.u64_in _ (by omega)]
  have Hb0 := hide hb0
  have Hbl0 := hide hbl0
  have Hrd := hide h
  have Hv := hide hv
  clear h hv hb0 hbl0
  go_enter Try.func21, Try.ntmps21
  go_wp2_with fail
  go_loopw [3, 4] (fun o i wr => ∃ (k : Nat) (O : Option Addr) (oc : Nat), k ≤ P ∧ i = .int .i64 k ∧ o = .slice O k oc ∧ wr.ownsRow w.heap.size 4 1 (.slice O k oc) k ((tabK L (sem ds r) k).map Value.bool) ∧ Below w.heap.size w wr ∧ Blk 30 wr w.heap.size [.int .i64 L, .slice A n c, .int .i64 r]) (fun _ i _ => P - (intOf i).toNat)
  case atStart => exact ⟨0, none, 0, by omega, rfl, rfl, World.ownsRow_nil _ _ _ _, Hbl0.out, Hb0.out⟩
  case round =>
    obtain ⟨k, O, oc, hk, rfl, rfl, hown, hbr, hbx⟩ := hrel
    have f0 := hbx.cell 0
    have f1 := hbx.cell 1
    have f2 := hbx.cell 2
    have f3 := hbx.lt
    simp only [List.getElem?_cons_zero, List.getElem?_cons_succ] at f0 f1 f2
    have Hown := hide hown
    have Hbr := hide hbr
    have Hbx := hide hbx
    clear hown hbr hbx
    by_cases hlt : k < P
    · go_wp2_with fail
      refine (Value_ct L n c r k A ds wr Hv.out (by omega) (Hrd.out.keep Hbr.out)).mono ?_
      rintro e w1 ⟨rfl, hb1⟩
      have hown1 := own_keep Hown.out hb1
      have hbx1 := Hbx.out.keep hb1
      have hbr1 := Hbr.out.trans (hb1.mono Hbr.out.size)
      have hsz := hbr1.size
      have Hown1 := hide hown1
      have Hbx1 := hide hbx1
      have Hbr1 := hide hbr1
      have f3' := hbx1.lt
      clear hb1 hown1 hbx1 hbr1 Hown Hbx Hbr f0 f1 f2 f3
      go_wp2_with
        (at_builtin
         refine wpList_pushG rfl _ _ 35 rfl w.heap.size 4 i0 (.bool false) 1 1 Try.underlying35 hi0 hz0 hz1 hz2 rfl (by decide) _ _ _ rfl Hown1.out [.bool (sem ds r (bits L 0 k))] rfl (by intro u hu; simp at hu; subst hu; rfl) rfl (by omega) (by omega) hsz ?_
         intro O1 oc1 w2 hown2 hg2)
      go_roundw
      case rel =>
        have hba : Below w1.heap.size w1 (w1.alloc (.cells #[.bool (sem ds r (bits L 0 k))] 4)) := (Below.refl _ _).alloc (Nat.le_refl _) _
        refine ⟨k + 1, O1, oc1, by omega, by go_num, rfl, by rw [tabK_succ]; simpa using hown2, ?_, ?_⟩
        · exact (Hbr1.out.trans (hba.mono Hbr1.out.size)).grown hg2 (by simp only [World.size_alloc]; omega) (fun q hq => own_base Hown1.out hq)
        · refine (Hbx1.out.keep hba).grown hg2 (fun e => ?_)
          obtain ⟨_, cs, m, hr⟩ := own_block Hown1.out e.symm
          have hb := Hbx1.out
          unfold Blk at hb
          rw [hb] at hr
          injection hr with hr
          injection hr with _ hr _
          exact absurd hr (by decide)
      case measure => simp [intOf]; omega
    · obtain rfl : k = P := by omega
      go_wp2
      go_ret
      exact ⟨Hbr.out, O, oc, by rw [tabK_len]; rfl, by rw [tabK_len]; exact Hown.out⟩
end Go.Proofs.Ytgenpcokpodhkaa
