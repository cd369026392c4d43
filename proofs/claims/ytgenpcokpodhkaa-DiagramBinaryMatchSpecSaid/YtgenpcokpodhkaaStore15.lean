/- Pick. Pick, whose list is new. -/
import Derived.Test.YtgenpcokpodhkaaStore14
namespace Go.Proofs.Ytgenpcokpodhkaa
open Go.RowKit Go.Maps

/-- the variables of the first set, and where the walk ends -/
def pickW (ns : List BN) : Nat → Nat → List Nat × Nat
  | 0, a => ([], a)
  | f + 1, a => if a < 2 then ([], a) else
      match ns[a - 2]? with
      | none => ([], a)
      | some n => if n.2.1 = 0 then (n.1 :: (pickW ns f n.2.2).1, (pickW ns f n.2.2).2) else pickW ns f n.2.1
theorem pickW_fuel {L : Nat} {ns : List BN} (ok : OkD L ns) : ∀ (n a f f' : Nat), a ≤ n → a < f → a < f' → a < ns.length + 2 → pickW ns f a = pickW ns f' a := by
  intro n
  induction n with
  | zero =>
    intro a f f' ha hf hf' hlt
    obtain ⟨f, rfl⟩ : ∃ g, f = g + 1 := ⟨f - 1, by omega⟩
    obtain ⟨f', rfl⟩ : ∃ g, f' = g + 1 := ⟨f' - 1, by omega⟩
    rw [pickW, pickW, if_pos (by omega), if_pos (by omega)]
  | succ n ih =>
    intro a f f' ha hf hf' hlt
    obtain ⟨f, rfl⟩ : ∃ g, f = g + 1 := ⟨f - 1, by omega⟩
    obtain ⟨f', rfl⟩ : ∃ g, f' = g + 1 := ⟨f' - 1, by omega⟩
    rw [pickW, pickW]
    by_cases h2 : a < 2
    · rw [if_pos h2, if_pos h2]
    · rw [if_neg h2, if_neg h2]
      obtain ⟨i, v, l, h, rfl, hn⟩ := node_of (ns := ns) (by omega) hlt
      obtain ⟨_, b1, b2, _⟩ := ok.node i v l h hn
      simp only [Nat.add_sub_cancel, hn]
      rw [ih h f f' (by omega) (by omega) (by omega) (by omega), ih l f f' (by omega) (by omega) (by omega) (by omega)]
def pick (ns : List BN) (a : Nat) : List Nat × Nat := pickW ns (a + 1) a
theorem pick_small (ns : List BN) {a : Nat} (h : a < 2) : pick ns a = ([], a) := by rw [pick, pickW, if_pos h]
theorem pick_node {L : Nat} {ns : List BN} (ok : OkD L ns) {i v l h : Nat} (hn : ns[i]? = some (v, l, h)) : pick ns (i + 2) = if l = 0 then (v :: (pick ns h).1, (pick ns h).2) else pick ns l := by
  obtain ⟨_, b1, b2, _⟩ := ok.node i v l h hn
  have hi : i < ns.length := (List.getElem?_eq_some_iff.1 hn).1
  rw [pick, pickW, if_neg (by omega)]
  simp only [Nat.add_sub_cancel, hn]
  rw [pickW_fuel ok h h (i + 2) (h + 1) (Nat.le_refl _) (by omega) (by omega) (by omega), pickW_fuel ok l l (i + 2) (l + 1) (Nat.le_refl _) (by omega) (by omega) (by omega)]
  rfl

/-- returned the list, and whether there is a set -/
def PickP (w : World) (l : List Int) (b : Bool) (e : Ending) (w' : World) : Prop :=
  (∃ O n c, e = .returned (.tuple #[.slice O n c, .bool b]) ∧ Rd Enc.int w' O n c l) ∧ Below w.heap.size w w'

set_option maxHeartbeats 1600000 in
set_option maxRecDepth 100000 in
theorem PickS_ct {L B g bf bp : Nat} {w : World} {ns : List BN} {C a : Nat} (h : St L B g bf bp w ns C) (ha : a < ns.length + 2) (hC : C ≤ 1000000000) :
    Calls Try.prog 57 #[.pointer (some ⟨g, 0, none⟩), .int .i64 a] w (PickP w ((pick ns a).1.map Int.ofNat) (decide ((pick ns a).2 = 1))) := by
  obtain ⟨i0, hi0, hz0, hi1, hi2⟩ := info_parts (show (Try.prog.info? 3).map (fun i => (i.zero, i.size, i.bytes)) = some (some (.int .i64 0), 1, 8) by kernel_rfl)
  have hlen := h.1
  have hlow := h.low
  have hgl := h.lt
  have hok := h.ok
  obtain ⟨_, _, np, M, _, h4, _⟩ := h
  have Hst := hide h4
  have Hok := hide hok
  clear h4 hok
  go_enter Try.func57, Try.ntmps57
  go_wp2_with fail
  go_loopw [1, 6] (fun s1 s6 wr => ∃ (q m oc : Nat) (O : Option Addr) (out : List Int), s1 = .int .i64 q ∧ s6 = .slice O m oc ∧ q < ns.length + 2 ∧ m + q ≤ a ∧ wr.ownsRow w.heap.size 3 1 (.slice O m oc) m (out.map (Value.int .i64)) ∧ out.length = m ∧ (∀ x ∈ out, 0 ≤ x ∧ x ≤ 100) ∧ Below w.heap.size w wr ∧ out ++ (pick ns q).1.map Int.ofNat = (pick ns a).1.map Int.ofNat ∧ (pick ns q).2 = (pick ns a).2) (fun s1 _ _ => (intOf s1).toNat)
  case atStart => exact ⟨a, 0, 0, none, [], rfl, rfl, ha, by omega, World.ownsRow_nil _ _ _ _, rfl, by simp, Below.refl _ _, by simp, rfl⟩
  case round =>
    obtain ⟨q, m, oc, O, out, rfl, rfl, hq, hmq, hown, hol, hob, hb, hrel1, hrel2⟩ := hrel
    by_cases hq2 : q < 2
    · have hps := pick_small ns hq2
      rw [hps] at hrel1 hrel2
      simp only [List.map_nil, List.append_nil] at hrel1 hrel2
      have hrd := own_rd hown hol (fun x hx => by have := hob x hx; omega)
      have Hf : Hid (PickP w ((pick ns a).1.map Int.ofNat) (decide ((pick ns a).2 = 1)) (.returned (.tuple #[.slice O m oc, .bool (decide (q = 1))])) wr) := hide ⟨⟨O, m, oc, by rw [hrel2], by rw [← hrel1]; exact hrd⟩, hb⟩
      clear hrd hown hob hrel1 hrel2 hb hps
      go_wp2
      have hbe : ((q : Int) == 1) = decide (q = 1) := by rw [Bool.eq_iff_iff]; simp; omega
      rw [hbe]
      exact bodyPost_ret (v := .tuple #[.slice O m oc, .bool (decide (q = 1))]) (by simp [results, Try.results57, go_sem]) rfl Hf.out
    · obtain ⟨i, v, l, h', rfl, hn⟩ := node_of (ns := ns) (by omega) hq
      obtain ⟨y1, y2, y3, y4, y5, y6⟩ := Hok.out.node i v l h' hn
      have hpn := pick_node Hok.out hn
      rw [hpn] at hrel1 hrel2
      obtain ⟨r, c, hbk, hn0, hn1, hn2, hi⟩ := (Hst.out.keep hb).node hn
      have hg1 := hbk.cell 1
      simp only [List.getElem?_cons_zero, List.getElem?_cons_succ] at hg1
      have Hown := hide hown
      have Hb := hide hb
      have Hob := hide hob
      have Hrel1 := hide hrel1
      have Hrel2 := hide hrel2
      clear hown hb hob hrel1 hrel2 hbk hn hpn
      by_cases hl0 : l = 0
      · subst hl0
        go_wp2_with
          (at_builtin
           refine wpList_push2 rfl _ _ 48 rfl w.heap.size 3 i0 (.int .i64 0) 1 8 Try.underlying48 hi0 hz0 hi1 hi2 rfl (by decide) _ _ _ rfl (Hown.out.alloc _) [.int .i64 v] rfl (by intro u hu; simp at hu; subst hu; rfl) (by simp [Act.eval]) (by omega) (by omega) (by have := Hb.out.size; simp; omega) ?_
           intro O2 oc2 w2 hown2 hg2
           have hbx2 := ((Blk.new wr 69 [.int .i64 v, .int .i64 0, .int .i64 h']).alloc (.cells #[.int .i64 v] 3)).grown hg2 (fun e => absurd (own_block Hown.out e.symm).1 (Nat.lt_irrefl _))
           have he2 := hbx2.cell 2
           have hel := hbx2.lt
           simp only [List.getElem?_cons_zero, List.getElem?_cons_succ] at he2
           have hb2 := ((Hb.out.alloc Hb.out.size (.cells #[.int .i64 v, .int .i64 0, .int .i64 h'] 69)).alloc (by have := Hb.out.size; simp; omega) (.cells #[.int .i64 v] 3)).grown hg2 (by have := Hb.out.size; simp; omega) (fun k hk => own_base Hown.out hk)
           have Hown2 := hide hown2
           have Hb2 := hide hb2
           clear hown2 hg2 hbx2 hb2)
        go_roundw
        case rel =>
          refine ⟨h', m + 1, oc2, O2, out ++ [(v : Int)], rfl, rfl, by omega, by omega, by simpa using Hown2.out, by simp [hol], ?_, Hb2.out, ?_, ?_⟩
          · intro x hx
            rw [List.mem_append] at hx
            rcases hx with hx | hx
            · exact Hob.out x hx
            · simp at hx
              omega
          · rw [← Hrel1.out]
            simp
          · rw [← Hrel2.out]
            simp
        case measure => simp [intOf]; omega
      · go_wp2_with fail
        go_roundw
        case rel =>
          have h1 := Hrel1.out
          have h2 := Hrel2.out
          rw [if_neg hl0] at h1 h2
          exact ⟨l, m, oc, O, out, rfl, rfl, by omega, by omega, Hown.out.alloc _, hol, Hob.out, Hb.out.alloc Hb.out.size _, h1, h2⟩
        case measure => simp [intOf]; omega
end Go.Proofs.Ytgenpcokpodhkaa
namespace Go.Proofs.Ytgenpcokpodhkaa
open Go.RowKit Go.Maps

/-- returned the list, and whether there is a set -/
def PickP2 (w : World) (l : List Int) (b : Bool) (e : Ending) (w' : World) : Prop :=
  (∃ O n c, e = .returned (.tuple #[.slice O n c, .bool b]) ∧ Rd Enc.int w' O n c l ∧ ∀ b off, O = some ⟨b, off, none⟩ → w.heap.size ≤ b) ∧ Below w.heap.size w w'

set_option maxHeartbeats 1600000 in
set_option maxRecDepth 100000 in
theorem PickS2_ct {L B g bf bp : Nat} {w : World} {ns : List BN} {C a : Nat} (h : St L B g bf bp w ns C) (ha : a < ns.length + 2) (hC : C ≤ 1000000000) :
    Calls Try.prog 57 #[.pointer (some ⟨g, 0, none⟩), .int .i64 a] w (PickP2 w ((pick ns a).1.map Int.ofNat) (decide ((pick ns a).2 = 1))) := by
  obtain ⟨i0, hi0, hz0, hi1, hi2⟩ := info_parts (show (Try.prog.info? 3).map (fun i => (i.zero, i.size, i.bytes)) = some (some (.int .i64 0), 1, 8) by kernel_rfl)
  have hlen := h.1
  have hlow := h.low
  have hgl := h.lt
  have hok := h.ok
  obtain ⟨_, _, np, M, _, h4, _⟩ := h
  have Hst := hide h4
  have Hok := hide hok
  clear h4 hok
  go_enter Try.func57, Try.ntmps57
  go_wp2_with fail
  go_loopw [1, 6] (fun s1 s6 wr => ∃ (q m oc : Nat) (O : Option Addr) (out : List Int), s1 = .int .i64 q ∧ s6 = .slice O m oc ∧ q < ns.length + 2 ∧ m + q ≤ a ∧ wr.ownsRow w.heap.size 3 1 (.slice O m oc) m (out.map (Value.int .i64)) ∧ out.length = m ∧ (∀ x ∈ out, 0 ≤ x ∧ x ≤ 100) ∧ Below w.heap.size w wr ∧ out ++ (pick ns q).1.map Int.ofNat = (pick ns a).1.map Int.ofNat ∧ (pick ns q).2 = (pick ns a).2) (fun s1 _ _ => (intOf s1).toNat)
  case atStart => exact ⟨a, 0, 0, none, [], rfl, rfl, ha, by omega, World.ownsRow_nil _ _ _ _, rfl, by simp, Below.refl _ _, by simp, rfl⟩
  case round =>
    obtain ⟨q, m, oc, O, out, rfl, rfl, hq, hmq, hown, hol, hob, hb, hrel1, hrel2⟩ := hrel
    by_cases hq2 : q < 2
    · have hps := pick_small ns hq2
      rw [hps] at hrel1 hrel2
      simp only [List.map_nil, List.append_nil] at hrel1 hrel2
      have hrd := own_rd hown hol (fun x hx => by have := hob x hx; omega)
      have hnew : ∀ b off, O = some ⟨b, off, none⟩ → w.heap.size ≤ b := fun b off e => own_base hown (by rw [e]; rfl)
      have Hf : Hid (PickP2 w ((pick ns a).1.map Int.ofNat) (decide ((pick ns a).2 = 1)) (.returned (.tuple #[.slice O m oc, .bool (decide (q = 1))])) wr) := hide ⟨⟨O, m, oc, by rw [hrel2], by rw [← hrel1]; exact hrd, hnew⟩, hb⟩
      clear hnew hrd hown hob hrel1 hrel2 hb hps
      go_wp2
      have hbe : ((q : Int) == 1) = decide (q = 1) := by rw [Bool.eq_iff_iff]; simp; omega
      rw [hbe]
      exact bodyPost_ret (v := .tuple #[.slice O m oc, .bool (decide (q = 1))]) (by simp [results, Try.results57, go_sem]) rfl Hf.out
    · obtain ⟨i, v, l, h', rfl, hn⟩ := node_of (ns := ns) (by omega) hq
      obtain ⟨y1, y2, y3, y4, y5, y6⟩ := Hok.out.node i v l h' hn
      have hpn := pick_node Hok.out hn
      rw [hpn] at hrel1 hrel2
      obtain ⟨r, c, hbk, hn0, hn1, hn2, hi⟩ := (Hst.out.keep hb).node hn
      have hg1 := hbk.cell 1
      simp only [List.getElem?_cons_zero, List.getElem?_cons_succ] at hg1
      have Hown := hide hown
      have Hb := hide hb
      have Hob := hide hob
      have Hrel1 := hide hrel1
      have Hrel2 := hide hrel2
      clear hown hb hob hrel1 hrel2 hbk hn hpn
      by_cases hl0 : l = 0
      · subst hl0
        go_wp2_with
          (at_builtin
           refine wpList_push2 rfl _ _ 48 rfl w.heap.size 3 i0 (.int .i64 0) 1 8 Try.underlying48 hi0 hz0 hi1 hi2 rfl (by decide) _ _ _ rfl (Hown.out.alloc _) [.int .i64 v] rfl (by intro u hu; simp at hu; subst hu; rfl) (by simp [Act.eval]) (by omega) (by omega) (by have := Hb.out.size; simp; omega) ?_
           intro O2 oc2 w2 hown2 hg2
           have hbx2 := ((Blk.new wr 69 [.int .i64 v, .int .i64 0, .int .i64 h']).alloc (.cells #[.int .i64 v] 3)).grown hg2 (fun e => absurd (own_block Hown.out e.symm).1 (Nat.lt_irrefl _))
           have he2 := hbx2.cell 2
           have hel := hbx2.lt
           simp only [List.getElem?_cons_zero, List.getElem?_cons_succ] at he2
           have hb2 := ((Hb.out.alloc Hb.out.size (.cells #[.int .i64 v, .int .i64 0, .int .i64 h'] 69)).alloc (by have := Hb.out.size; simp; omega) (.cells #[.int .i64 v] 3)).grown hg2 (by have := Hb.out.size; simp; omega) (fun k hk => own_base Hown.out hk)
           have Hown2 := hide hown2
           have Hb2 := hide hb2
           clear hown2 hg2 hbx2 hb2)
        go_roundw
        case rel =>
          refine ⟨h', m + 1, oc2, O2, out ++ [(v : Int)], rfl, rfl, by omega, by omega, by simpa using Hown2.out, by simp [hol], ?_, Hb2.out, ?_, ?_⟩
          · intro x hx
            rw [List.mem_append] at hx
            rcases hx with hx | hx
            · exact Hob.out x hx
            · simp at hx
              omega
          · rw [← Hrel1.out]
            simp
          · rw [← Hrel2.out]
            simp
        case measure => simp [intOf]; omega
      · go_wp2_with fail
        go_roundw
        case rel =>
          have h1 := Hrel1.out
          have h2 := Hrel2.out
          rw [if_neg hl0] at h1 h2
          exact ⟨l, m, oc, O, out, rfl, rfl, by omega, by omega, Hown.out.alloc _, hol, Hob.out, Hb.out.alloc Hb.out.size _, h1, h2⟩
        case measure => simp [intOf]; omega
end Go.Proofs.Ytgenpcokpodhkaa
