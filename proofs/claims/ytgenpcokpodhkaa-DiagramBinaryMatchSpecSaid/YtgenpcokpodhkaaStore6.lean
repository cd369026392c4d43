/- Contracts of the store's Write and of its closure. -/
import Derived.Test.YtgenpcokpodhkaaStore
namespace Go.Proofs.Ytgenpcokpodhkaa
open Go.RowKit Go.Maps

/-- an int key -/
def encI (k : Nat) : Value := .int .i64 (k : Int)
theorem encI_inj (a b : Nat) (h : encI a = encI b) : a = b := by
  simp only [encI, Value.int.injEq, true_and, Int.natCast_inj] at h
  exact h
theorem keyI {k : Nat} (h : k ≤ 9223372036854775807) : keyOf Try.prog 3 (encI k) = some (.int .i64 (k : Int)) :=
  keyOf_int_mk Try.underlying3 (I64.wf (by unfold I64; omega))
/-- a map of ints that a call keeps -/
abbrev Known (w : World) (b n : Nat) (K : Nat → Option Int) : Prop := MapAt Try.prog 3 3 encI w b n K

def lookF (l : List (Nat × Nat)) : Nat → Option Int := fun k => (look l k).map Int.ofNat
theorem lookF_put (l : List (Nat × Nat)) (k m : Nat) : putM (lookF l) k (m : Int) = lookF ((k, m) :: l) := by
  funext j
  unfold putM lookF
  by_cases h : j = k
  · subst h
    rw [if_pos rfl, look_same]
    rfl
  · rw [if_neg h, look_other _ _ (fun e => h e.symm)]

theorem wr_ends (ns : List BN) : ∀ (f k : Nat) (at_ : List (Nat × Nat)) (out : List BN), look at_ 0 = some 0 → look at_ 1 = some 1 → look (wr ns f k at_ out).2.1 0 = some 0 ∧ look (wr ns f k at_ out).2.1 1 = some 1 := by
  intro f
  induction f with
  | zero => intro k at_ out h0 h1; exact ⟨h0, h1⟩
  | succ f ih =>
    intro k at_ out h0 h1
    rw [wr]
    cases hl : look at_ k with
    | some to => exact ⟨h0, h1⟩
    | none =>
      cases hn : ns[k - 2]? with
      | none => exact ⟨h0, h1⟩
      | some n =>
        have ha := ih n.2.1 at_ out h0 h1
        have hb := ih n.2.2 (wr ns f n.2.1 at_ out).2.1 (wr ns f n.2.1 at_ out).2.2 ha.1 ha.2
        have k0 : k ≠ 0 := fun e => by rw [e, h0] at hl; cases hl
        have k1 : k ≠ 1 := fun e => by rw [e, h1] at hl; cases hl
        simp only
        rw [look_other _ _ k0, look_other _ _ k1]
        exact hb
/-- what the closure of Write works on: its boxes, the map, the diagram that grows -/
structure WAt (W0 : World) (L g ck cs cw co mk : Nat) (w : World) (at_ : List (Nat × Nat)) (out : List BN) (C : Nat) : Prop where
  below : Below W0.heap.size W0 w
  bk : Blk 87 w ck [.map (some mk)]
  bs : Blk 62 w cs [.pointer (some ⟨g, 0, none⟩)]
  bw : Blk 74 w cw [.func (Fn.func 61) #[] #[.pointer (some ⟨ck, 0, none⟩), .pointer (some ⟨cs, 0, none⟩), .pointer (some ⟨cw, 0, none⟩), .pointer (some ⟨co, 0, none⟩)]]
  bo : ∃ A c, Blk 30 w co [.int .i64 L, .slice A out.length c, .int .i64 0] ∧ w.ownsRow W0.heap.size 69 3 (.slice A out.length c) out.length (nodesC out)
  map : ∃ n, n ≤ C ∧ Known w mk n (lookF at_)
  new : W0.heap.size ≤ ck ∧ W0.heap.size ≤ cs ∧ W0.heap.size ≤ cw ∧ W0.heap.size ≤ co ∧ W0.heap.size ≤ mk
  few : out.length ≤ C
  vals : ∀ k m, look at_ k = some m → m ≤ 2000000000000
section
variable {W0 w w' : World} {L g ck cs cw co mk : Nat} {at_ : List (Nat × Nat)} {out : List BN} {C : Nat}
theorem WAt.keep (h : WAt W0 L g ck cs cw co mk w at_ out C) (hb : Below w.heap.size w w') : WAt W0 L g ck cs cw co mk w' at_ out C := by
  obtain ⟨A, c, h1, h2⟩ := h.bo
  obtain ⟨n, hn, hm⟩ := h.map
  exact ⟨h.below.trans (hb.mono h.below.size), h.bk.keep hb, h.bs.keep hb, h.bw.keep hb, ⟨A, c, h1.keep hb, own_keep h2 hb⟩, ⟨n, hn, hm.of_block (hb.block _ hm.lt)⟩, h.new, h.few, h.vals⟩
theorem WAt.free_new (h : WAt W0 L g ck cs cw co mk w at_ out C) (o : Obj) : Free (w.alloc o) co mk mk w.heap.size := by
  obtain ⟨A, c, hbl, ho⟩ := h.bo
  obtain ⟨n, _, hm⟩ := h.map
  have h1 := hm.lt
  have h3 := hbl.lt
  refine ⟨by simp, by omega, by omega, by omega, fun e => ?_⟩
  have hc := (hbl.alloc o).cell 1
  rw [rowOf, hc] at e
  have := (own_block ho (r := w.heap.size) e).1
  omega
end

/-- returned the number, and the diagram and the map have grown as the walk says -/
def WP (W0 : World) (L g ck cs cw co mk : Nat) (w : World) (C : Nat) (r : Nat × List (Nat × Nat) × List BN) (e : Ending) (w' : World) : Prop :=
  e = .returned (.int .i64 (r.1 : Nat)) ∧ WAt W0 L g ck cs cw co mk w' r.2.1 r.2.2 C ∧ Kept W0.heap.size co mk mk w w'

theorem WAt.mono {W0 : World} {L g ck cs cw co mk : Nat} {w : World} {at_ : List (Nat × Nat)} {out : List BN} {C C' : Nat} (h : WAt W0 L g ck cs cw co mk w at_ out C) (hC : C ≤ C') : WAt W0 L g ck cs cw co mk w at_ out C' := by
  obtain ⟨n, hn, hm⟩ := h.map
  exact ⟨h.below, h.bk, h.bs, h.bw, h.bo, ⟨n, Nat.le_trans hn hC, hm⟩, h.new, Nat.le_trans h.few hC, h.vals⟩

set_option maxHeartbeats 1600000 in
theorem WriteKnown_ct {W0 : World} {L g ck cs cw co mk k to : Nat} {w : World} {at_ : List (Nat × Nat)} {out : List BN} {C C' : Nat} (hC : C ≤ C') (hk : k ≤ 9223372036854775807) (hl : look at_ k = some to) (hw : WAt W0 L g ck cs cw co mk w at_ out C) :
    Calls Try.prog 61 #[.int .i64 k, .pointer (some ⟨ck, 0, none⟩), .pointer (some ⟨cs, 0, none⟩), .pointer (some ⟨cw, 0, none⟩), .pointer (some ⟨co, 0, none⟩)] w (WP W0 L g ck cs cw co mk w C' (to, at_, out)) := by
  obtain ⟨n, hn, hmap⟩ := hw.map
  obtain ⟨fc, hlook, hfc, hfM⟩ := hmap.looks lawI Try.underlying87 Try.underlying3 zeroI (keyI (k := k) hk)
  have hlook' : (Instr.lookup 87 (.map (some mk)) (.int .i64 (k : Int)) true).run Try.prog w = .ok (.tuple #[.int .i64 fc, .bool (lookF at_ k).isSome]) w := hlook w rfl
  have hck := hw.bk.cell 0
  simp at hck
  have Hw := hide (hw.mono hC)
  have hM : lookF at_ k = some (to : Int) := by rw [lookF, hl]; rfl
  obtain rfl := hfM _ hM
  rw [hM] at hlook'
  clear hw hfM hlook hmap hl hM
  go_enter Try.func61, Try.ntmps61
  go_wp2
  go_ret
  exact ⟨rfl, Hw.out, Kept.refl _ _ _ _ _⟩

/-- the last steps of the closure: the new node stands in the diagram, its number in the map -/
theorem WriteLast {W0 w2 w3 : World} {L g ck cs cw co mk : Nat} {at_ : List (Nat × Nat)} {out : List BN} {C : Nat} {A : Option Addr} {oc gr cap : Nat} {v ma mb i : Nat}
    (hw : WAt W0 L g ck cs cw co mk w2 at_ out C) (hown : w2.ownsRow W0.heap.size 69 3 (.slice A out.length oc) out.length (nodesC out)) (hne : some co ≠ (Value.slice A out.length oc).ownBlock)
    (hg : (w2.alloc (.cells #[.int .i64 v, .int .i64 ma, .int .i64 mb] 69)).grownBy w3 (Value.slice A out.length oc).ownBlock)
    (hat : (Value.slice A out.length oc).ownBlock = some gr ∨ gr = (w2.alloc (.cells #[.int .i64 v, .int .i64 ma, .int .i64 mb] 69)).heap.size)
    (hown3 : w3.ownsRow W0.heap.size 69 3 (.slice (some ⟨gr, 0, none⟩) (out.length + 1) cap) (out.length + 1) (nodesC out ++ [.int .i64 v, .int .i64 ma, .int .i64 mb]))
    (hbo3 : Blk 30 w3 co [.int .i64 L, .slice A out.length oc, .int .i64 0]) (hC : C < 1000000000000) (hi : i ≤ 1000000000000) :
    ∃ w4, (Instr.mapUpdate 87 (.map (some mk)) (.int .i64 ((i : Int) + 2)) (.int .i64 ((out.length : Int) + 1 + 1))).run Try.prog (w3.setCell ⟨co, 1, none⟩ (.slice (some ⟨gr, 0, none⟩) (out.length + 1) cap)) = .ok () w4 ∧
      (Instr.lookup 87 (.map (some mk)) (.int .i64 ((i : Int) + 2)) false).run Try.prog w4 = .ok (.int .i64 ((out.length : Int) + 1 + 1)) w4 ∧
      w3.cell? ⟨ck, 0, none⟩ = some (.map (some mk)) ∧ (ck ≠ co ∧ w4.cell? ⟨ck, 0, none⟩ = some (.map (some mk))) ∧
      WAt W0 L g ck cs cw co mk w4 ((i + 2, out.length + 2) :: at_) (out ++ [(v, ma, mb)]) (C + 1) ∧ Kept W0.heap.size co mk mk w2 w4 := by
  obtain ⟨n, hn, hmap⟩ := hw.map
  obtain ⟨es, cl, hmb⟩ := hmap.isMap
  have hmlt := hmap.lt
  have hfew := hw.few
  obtain ⟨A', c', hbo2, _⟩ := hw.bo
  have hcolt := hbo2.lt
  obtain ⟨z2, hz⟩ : ∃ z2, z2 = w2.alloc (.cells #[.int .i64 v, .int .i64 ma, .int .i64 mb] 69) := ⟨_, rfl⟩
  rw [← hz] at hg hat
  have hzb : Below w2.heap.size w2 z2 := by rw [hz]; exact (Below.refl _ _).alloc (Nat.le_refl _) _
  have hzs : z2.heap.size = w2.heap.size + 1 := by rw [hz]; simp
  have hcells : ∀ {t : TypeId} {b : Nat} {cs : List Value}, Blk t w2 b cs → b ≠ mk := fun hb e => by
    unfold Blk at hb
    rw [e, hmb] at hb
    cases hb
  have hrow0 : ∀ {t : TypeId} {b : Nat} {cs : List Value}, Blk t w2 b cs → t ≠ 69 → (Value.slice A out.length oc).ownBlock ≠ some b := fun hb ht e => by
    obtain ⟨_, cs', m, hr⟩ := own_block hown e
    unfold Blk at hb
    rw [hb] at hr
    injection hr with hr
    injection hr with _ hr _
    exact ht hr
  have hother : ∀ {t : TypeId} {b : Nat} {cs : List Value}, Blk t w2 b cs → t ≠ 30 → b ≠ co := fun hb ht e => by
    unfold Blk at hb hbo2
    rw [e, hbo2] at hb
    injection hb with hb
    injection hb with _ hb _
    exact ht hb.symm
  have hmr : (Value.slice A out.length oc).ownBlock ≠ some mk := fun e => by
    obtain ⟨_, cs', m, hr⟩ := own_block hown e
    rw [hmb] at hr
    cases hr
  have hmco : mk ≠ co := fun e => (hcells hbo2) e.symm
  have hgr3 : gr < w3.heap.size ∧ ∃ cs m, w3.heap[gr]? = some (.cells cs 69 m) := own_block hown3 rfl
  have hgb : W0.heap.size ≤ gr := own_base hown3 rfl
  have hgco : gr ≠ co := fun e => by
    rcases hat with h | h
    · exact hne (by rw [h, e])
    · omega
  have hm3 : w3.heap[mk]? = w2.heap[mk]? := (hg.block mk (by omega) (fun e => hmr e.symm)).trans (hzb.block mk hmlt)
  have hgm : gr ≠ mk := fun e => by
    obtain ⟨_, _, _, h⟩ := hgr3
    rw [e, hm3, hmb] at h
    cases h
  obtain ⟨w5, h5⟩ : ∃ w5, w5 = w3.setCell ⟨co, 1, none⟩ (.slice (some ⟨gr, 0, none⟩) (out.length + 1) cap) := ⟨_, rfl⟩
  have hset : w3.grownBy w5 (some co) := by rw [h5]; exact only_set _ _ _ _
  have hm5 : w5.heap[mk]? = w2.heap[mk]? := (hset.block mk (by have := hg.size; omega) (fun e => hmco (Option.some.inj e))).trans hm3
  have hmap5 := hmap.of_block hm5
  obtain ⟨w4, hrun, hmap4, hgr4, hs4⟩ := hmap5.put encI_inj lawI Try.underlying87 Try.underlying3 (by omega) (keyI (k := i + 2) (by omega)) ((out.length + 2 : Nat) : Int) (by omega)
  have hlook := hmap4.look1 lawI Try.underlying87 Try.underlying3 zeroI (keyI (k := i + 2) (by omega)) (putM_same _ _ _)
  have hbo5 : Blk 30 w5 co [.int .i64 L, .slice (some ⟨gr, 0, none⟩) (out.length + 1) cap, .int .i64 0] := by
    rw [h5]
    exact hbo3.set 1 _
  have hk25 : Kept W0.heap.size co mk mk w2 w5 := by
    have hrow : rowOf w5 co = some gr := by
      rw [rowOf, hbo5.cell 1]
      rfl
    rw [h5] at hrow ⊢
    have hc2 : w2.cell? ⟨co, 1, none⟩ = some (.slice A out.length oc) := by
      have h1 := hbo3.cell 1
      have h2 : w3.heap[co]? = w2.heap[co]? := (hg.block co (by omega) hne).trans (hzb.block co hcolt)
      rw [← World.cell?_of_block (w := w2) (w' := w3) (a := ⟨co, 1, none⟩) h2]
      exact h1
    exact Kept.of_push hzb hown hc2 hg (hat.imp id (fun h => by omega)) hw.new.2.2.2.1 hrow
  have hs5 : w3.heap.size ≤ w5.heap.size := hset.size
  have hk54 : Kept W0.heap.size co mk mk w5 w4 := Kept.of_grown hgr4 hw.new.2.2.2.2 (.inl rfl) hbo5.lt (fun e => hmco e.symm)
  have hk := hk25.trans hk54
  have hfree : ∀ {t : TypeId} {b : Nat} {cs : List Value}, Blk t w2 b cs → t ≠ 30 → t ≠ 69 → Free w2 co mk mk b := fun hb h1 h2 => by
    refine ⟨hb.lt, hother hb h1, hcells hb, hcells hb, fun e => ?_⟩
    have hc2 : w2.cell? ⟨co, 1, none⟩ = some (.slice A out.length oc) := by
      have h1 := hbo3.cell 1
      have h2 : w3.heap[co]? = w2.heap[co]? := (hg.block co (by omega) hne).trans (hzb.block co hcolt)
      rw [← World.cell?_of_block (w := w2) (w' := w3) (a := ⟨co, 1, none⟩) h2]
      exact h1
    rw [rowOf, hc2] at e
    exact hrow0 hb h2 e
  have hbk4 := hk.blk hw.bk (hfree hw.bk (by decide) (by decide))
  have hbk3 : w3.heap[ck]? = w2.heap[ck]? := (hg.block ck (by have := hw.bk.lt; omega) (fun e => hrow0 hw.bk (by decide) e.symm)).trans (hzb.block ck hw.bk.lt)
  refine ⟨w4, ?_, ?_, ?_, ⟨hother hw.bk (by decide), hbk4.cell 0⟩, ⟨?_, hbk4, hk.blk hw.bs (hfree hw.bs (by decide) (by decide)), hk.blk hw.bw (hfree hw.bw (by decide) (by decide)), ⟨some ⟨gr, 0, none⟩, cap, ?_, ?_⟩, ⟨n + 1, by omega, ?_⟩, hw.new, by simp; omega, ?_⟩, hk⟩
  · rw [← h5]
    have := hrun
    simpa [encI, Int.add_assoc] using this
  · have := hlook
    simpa [encI, Int.add_assoc] using this
  · rw [World.cell?_of_block (w := w2) (a := ⟨ck, 0, none⟩) hbk3]
    exact hw.bk.cell 0
  · exact hw.below.trans ((hk.below hw.below.size))
  · rw [List.length_append]
    exact hbo5.grown hgr4 (fun e => hmco (Option.some.inj e).symm)
  · have h1 : w5.ownsRow W0.heap.size 69 3 (.slice (some ⟨gr, 0, none⟩) (out.length + 1) cap) (out.length + 1) (nodesC out ++ [.int .i64 v, .int .i64 ma, .int .i64 mb]) :=
      own_other hown3 hset (fun r hr e => by
        have : gr = r := by simpa [Value.ownBlock] using hr
        exact hgco (this.trans (Option.some.inj e)))
    have h2 := own_other h1 hgr4 (fun r hr e => by
        have : gr = r := by simpa [Value.ownBlock] using hr
        exact hgm (this.trans (Option.some.inj e)))
    rw [nodesC_append, List.length_append]
    exact h2
  · rw [lookF_put] at hmap4
    exact hmap4
  · intro k m hm
    by_cases hki : i + 2 = k
    · subst hki
      rw [look_same] at hm
      injection hm with hm
      omega
    · rw [look_other _ _ hki] at hm
      exact hw.vals k m hm

set_option maxHeartbeats 3200000 in
set_option maxRecDepth 100000 in
theorem WriteWalk_ct {W0 : World} {L B g bf bp ck cs cw co mk : Nat} {ns : List BN} {np : Nat} {M : BN → Option Int} (hst : StoreAt L B g bf bp W0 ns np M) (ok : OkD L ns) :
    ∀ (d f k : Nat) (w : World) (at_ : List (Nat × Nat)) (out : List BN) (C : Nat), L - lvl L ns k ≤ d → k < f → k < ns.length + 2 → look at_ 0 = some 0 → look at_ 1 = some 1 → C + 2 ^ d ≤ 1000000000000 → WAt W0 L g ck cs cw co mk w at_ out C →
    Calls Try.prog 61 #[.int .i64 k, .pointer (some ⟨ck, 0, none⟩), .pointer (some ⟨cs, 0, none⟩), .pointer (some ⟨cw, 0, none⟩), .pointer (some ⟨co, 0, none⟩)] w (WP W0 L g ck cs cw co mk w (C + (2 ^ d - 1)) (wr ns f k at_ out)) := by
  have hfew := hst.few.1
  intro d
  induction d with
  | zero =>
    intro f k w at_ out C hd hkf hk h0 h1 hC hw
    obtain ⟨f, rfl⟩ : ∃ j, f = j + 1 := ⟨f - 1, by omega⟩
    have hk2 : k < 2 := by
      rcases Nat.lt_or_ge k 2 with h | h
      · exact h
      · obtain ⟨i, v, l, h', rfl, hn⟩ := node_of (ns := ns) h hk
        have := (ok.node i v l h' hn).1
        rw [lvl_node hn] at hd
        omega
    rcases (show k = 0 ∨ k = 1 by omega) with rfl | rfl
    · rw [wr_known out h0]
      exact WriteKnown_ct (by omega) (by omega) h0 hw
    · rw [wr_known out h1]
      exact WriteKnown_ct (by omega) (by omega) h1 hw
  | succ d ih =>
    intro f k w at_ out C hd hkf hk h0 h1 hC hw
    have hpow : 2 ^ (d + 1) = 2 ^ d + 2 ^ d := by rw [Nat.pow_succ]; omega
    have hpos : 0 < 2 ^ d := Nat.two_pow_pos d
    obtain ⟨f, rfl⟩ : ∃ j, f = j + 1 := ⟨f - 1, by omega⟩
    cases hl : look at_ k with
    | some to =>
      rw [wr_known out hl]
      exact WriteKnown_ct (by omega) (by omega) hl hw
    | none =>
      have hk2 : ¬ k < 2 := fun h => by
        rcases (show k = 0 ∨ k = 1 by omega) with rfl | rfl
        · rw [h0] at hl; cases hl
        · rw [h1] at hl; cases hl
      obtain ⟨i, v, l, h', rfl, hn⟩ := node_of (ns := ns) (by omega) hk
      obtain ⟨b1, b2, b3, b4, b5, b6⟩ := ok.node i v l h' hn
      rw [lvl_node hn] at hd
      have hst' := hst.keep hw.below
      obtain ⟨n, hcn, hmap⟩ := hw.map
      obtain ⟨fc, hlook, hfc, hfM⟩ := hmap.looks lawI Try.underlying87 Try.underlying3 zeroI (keyI (k := i + 2) (by omega))
      have hM : lookF at_ (i + 2) = none := by rw [lookF, hl]; rfl
      rw [hM] at hlook
      have hlook' : (Instr.lookup 87 (.map (some mk)) (.int .i64 ((i : Int) + 2)) true).run Try.prog w = .ok (.tuple #[.int .i64 fc, .bool false]) w := by
        have := hlook w rfl
        simpa [encI] using this
      obtain ⟨r, c, hb, hn0, hn1, hn2, hi⟩ := hst'.node hn
      have hg1 := hb.cell 1
      have hck := hw.bk.cell 0
      have hcs := hw.bs.cell 0
      have hcw := hw.bw.cell 0
      simp at hck hcs hcw hg1
      have hlk := hw.bk.lt
      have hls := hw.bs.lt
      have hlw := hw.bw.lt
      have Hw := hide hw
      have Hih := hide ih
      have Hpow := hide hpow
      have Hn := hide hn
      have Hok := hide ok
      have Hl := hide hl
      have Hst := hide hst
      clear hw hst' hfM ih hlook hmap hl hM hb hn hpow ok hst
      go_enter Try.func61, Try.ntmps61
      go_wp2_with fail
      have hwb := Hw.out.keep ((Below.refl w.heap.size w).alloc (Nat.le_refl _) (.cells #[.int .i64 v, .int .i64 l, .int .i64 h'] 69))
      have hfree := Hw.out.free_new (.cells #[.int .i64 v, .int .i64 l, .int .i64 h'] 69)
      have hbox := Blk.new w 69 [.int .i64 v, .int .i64 l, .int .i64 h']
      refine (Hih.out f l _ at_ out C (by omega) (by omega) (by omega) h0 h1 (by have := Hpow.out; omega) hwb).mono ?_
      generalize hra : wr ns f l at_ out = ra
      obtain ⟨ma, aa, oa⟩ := ra
      rintro e w1 ⟨rfl, hw1, hk1⟩
      have hends := wr_ends ns f l at_ out h0 h1
      rw [hra] at hends
      have hbox1 := hk1.blk hbox hfree
      have hfree1 := hk1.free hfree
      have hcw1 := hw1.bw.cell 0
      have hd1 := hbox1.cell 0
      have hd2 := hbox1.cell 1
      have hd3 := hbox1.cell 2
      simp at hcw1 hd1 hd2 hd3
      have Hra := hide hra
      have Hw1 := hide hw1
      have Hk1 := hide hk1
      have Hbox1 := hide hbox1
      have Hfree1 := hide hfree1
      have Hends := hide hends
      clear hra hw1 hk1 hbox hfree hbox1 hfree1 hends hwb hcw hck hcs
      simp only at *
      go_wp2_with fail
      refine (Hih.out f h' _ aa oa _ (by omega) (by omega) (by omega) Hends.out.1 Hends.out.2 (by have := Hpow.out; omega) Hw1.out).mono ?_
      generalize hrb : wr ns f h' aa oa = rb
      obtain ⟨mb, ab, ob⟩ := rb
      rintro e w2 ⟨rfl, hw2, hk2⟩
      have hbox2 := hk2.blk Hbox1.out Hfree1.out
      have hfree2 := hk2.free Hfree1.out
      have hd1 := hbox2.cell 0
      have hd2 := hbox2.cell 1
      have hd3 := hbox2.cell 2
      simp at hd1 hd2 hd3
      obtain ⟨A, oc, hbo, hown⟩ := hw2.bo
      have ho1 := hbo.cell 1
      have hof := hbo.frozen 1
      have hol := hbo.lt
      have hfew2 := hw2.few
      simp at ho1
      have hsz2 : w.heap.size < w2.heap.size := hfree2.1
      have Hrb := hide hrb
      have Hw2 := hide hw2
      have Hk2 := hide (Hk1.out.trans hk2)
      have Hbo := hide hbo
      have Hown := hide hown
      clear hrb hw2 hk2 hbox2 hfree2 hbo hown hcw1 Hk1 Hbox1 Hfree1
      simp only at *
      obtain ⟨i0, hi0, hz0, hz1, hz2⟩ := info_parts (show (Try.prog.info? 69).map (fun i => (i.zero, i.size, i.bytes)) = some (some (.agg #[.int .i64 0, .int .i64 0, .int .i64 0]), 3, 24) by kernel_rfl)
      have hml : ob.length + 1 ≤ maxLen := by unfold maxLen; have := Hpow.out; omega
      have hby : (ob.length + 1) * 24 ≤ 140737488355328 := by have := Hpow.out; omega
      have hone : ∀ u ∈ [Value.int .i64 (v : Int), .int .i64 ma, .int .i64 mb], u.oneCell' = true := by
        intro u hu
        simp at hu
        rcases hu with rfl | rfl | rfl <;> rfl
      have hnews : ∀ j u, [Value.int .i64 (v : Int), .int .i64 ma, .int .i64 mb][j]? = some u → (w2.alloc (.cells #[.int .i64 v, .int .i64 ma, .int .i64 mb] 69)).cell? ((⟨w2.heap.size, 0, none⟩ : Addr).add j) = some u := by
        intro j u hj
        rw [add_plain, Nat.zero_add]
        exact ((Blk.new w2 69 [.int .i64 v, .int .i64 ma, .int .i64 mb]).cell j).trans hj
      have hneo : some co ≠ (Value.slice A ob.length oc).ownBlock := fun e => by
        obtain ⟨_, cs', m, hr⟩ := own_block Hown.out e.symm
        have hb := Hbo.out
        unfold Blk at hb
        rw [hb] at hr
        injection hr with hr
        injection hr with _ hr _
        exact absurd hr (by decide)
      have Hneo := hide hneo
      clear hneo
      have Hnews := hide hnews
      have hW0 : W0.heap.size ≤ w2.heap.size := Hw2.out.below.size
      clear hnews
      go_wp2_with
        (at_builtin
         go_loud (refine wpList_append_lies _ rfl _ _ 28 rfl W0.heap.size 69 i0 (.agg #[.int .i64 0, .int .i64 0, .int .i64 0]) 3 24 Try.underlying28 hi0 hz0 hz1 hz2 rfl (by decide) (.slice A ob.length oc) ob.length (nodesC ob) rfl (Hown.out.alloc _) ⟨w2.heap.size, 0, none⟩ 1 1 [.int .i64 v, .int .i64 ma, .int .i64 mb] rfl rfl Hnews.out hone (by omega) hml hby (by simp; omega) _ rfl ?_)
         intro gr cap w3 hown3 hgr3 hat3 hlt3
         have hbo3 := (Hbo.out.alloc _).grown hgr3 Hneo.out
         have ho3 := hbo3.cell 1
         have hof3 := hbo3.frozen 1
         simp at ho3
         have Hbo3 := hide hbo3
         have Hown3 := hide hown3
         have Hgr3 := hide hgr3
         have Hat3 := hide hat3
         clear hbo3 hown3 hgr3 hat3
         obtain ⟨w4, hW⟩ := WriteLast Hw2.out Hown.out Hneo.out Hgr3.out Hat3.out Hown3.out Hbo3.out (i := i) (by omega) (by omega)
         have hr4 := hW.1
         have hr5 := hW.2.1
         have hcn4 := hW.2.2.1
         have hckco := hW.2.2.2.1
         have HW := hide hW.2.2.2.2
         clear hW)
      go_ret
      have hw4 := HW.out.1
      have hk4 := Hk2.out
      rw [wr_new (a := (ma, aa, oa)) (b := (mb, ab, ob)) out Hl.out Hn.out Hra.out Hrb.out]
      refine ⟨?_, hw4.mono (by have := Hpow.out; omega), ?_⟩
      · simp [Int.add_assoc]
      · obtain ⟨_, _, hco, _⟩ := Hw.out.bo
        exact (Kept.of_below ((Below.refl w.heap.size w).alloc (Nat.le_refl _) _) hco.lt).trans (Hk2.out.trans HW.out.2)

end Go.Proofs.Ytgenpcokpodhkaa
