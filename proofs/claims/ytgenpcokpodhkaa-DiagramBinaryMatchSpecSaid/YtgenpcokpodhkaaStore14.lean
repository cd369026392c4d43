/- Read. -/
import Derived.Test.YtgenpcokpodhkaaStore12
import Derived.Deep.RegionLaw
namespace Go.Proofs.Ytgenpcokpodhkaa
open Go.RowKit Go.Maps

/-- one element more on a row of the call's own: which block has changed -/
theorem wpList_push2 {P : Program} {w : World} {ops : Array Oper} {rest : List Oper} {o : Oper} {a : Act} {Q : Exit → Act → World → Prop} (hgd : o.guard = none) (s x : Operand) (t : TypeId)
    (ho : o.op = .call { callee := .builtin .append, args := #[s, x], argTypes := #[t, t] })
    (base : Nat) (e : TypeId) (i : TypeInfo) (z : Value) (size bytes : Nat) (ht : P.underlying t = some (.slice e)) (hi : P.info? e = some i) (hz : i.zero = some z)
    (hsize : i.size = size) (hby : i.bytes = bytes) (hzs : z.cells.size = size) (hsz : 0 < size)
    (v : Value) (n : Nat) (xs : List Value) (hs : a.eval s = v) (hown : w.ownsRow base e size v n xs)
    (us : List Value) (hus : us.length = size) (h1 : ∀ u ∈ us, u.oneCell' = true) (hx : a.eval x = .slice (some ⟨w.heap.size, 0, none⟩) 1 1)
    (h63 : n + 1 ≤ 1000000000000) (hbytes : (n + 1) * bytes ≤ 140737488355328) (hbase : base ≤ w.heap.size)
    (h : ∀ O oc w', w'.ownsRow base e size (.slice O (n + 1) oc) (n + 1) (xs ++ us) → (w.alloc (.cells us.toArray e)).grownBy w' v.ownBlock → wpList P ops Q rest (a.put o.dst (.slice O (n + 1) oc)) w') :
    wpList P ops Q (o :: rest) a (w.alloc (.cells us.toArray e)) := by
  refine wpList_append_own _ hgd s x t ho base e i z size bytes ht hi hz hsize hby hzs hsz v n xs hs (hown.alloc _) ⟨w.heap.size, 0, none⟩ 1 1 us hx (by omega) ?_ h1 (by unfold maxLen; omega) hbytes (by simp; omega) ?_
  · intro j u hj
    rw [add_plain, Nat.zero_add]
    have := (Blk.new w e us).cell j
    rw [hj] at this
    exact this
  · intro v' w' hown' hg _
    have hsh : ∃ O oc, v' = .slice O (n + 1) oc := by
      rcases hown'.2 with ⟨_, h0⟩ | ⟨g, cap, cur, e', _⟩
      · omega
      · exact ⟨_, _, e'⟩
    obtain ⟨O, oc, rfl⟩ := hsh
    exact h O oc w' hown' hg

/-- append in a region that draws, onto a row of the call's own: what the old row held stands -/
theorem step_append_keeps {P : Program} {w : World} {ops : Array Oper} {o : Oper} {a : Act} {K : Act → World → Prop} {Q : Exit → Act → World → Prop} {E : Prop} (hgd : o.guard = none) (s x : Operand) (t : TypeId)
    (ho : o.op = .call { callee := .builtin .append, args := #[s, x], argTypes := #[t, t] })
    (base : Nat) (e : TypeId) (i : TypeInfo) (z : Value) (size bytes : Nat) (ht : P.underlying t = some (.slice e)) (hi : P.info? e = some i) (hz : i.zero = some z)
    (hsize : i.size = size) (hby : i.bytes = bytes) (hzs : z.cells.size = size) (hsz : 0 < size)
    (r n cap : Nat) (xs : List Value) (hs : a.eval s = .slice (some ⟨r, 0, none⟩) n cap) (hown : w.ownsRow base e size (.slice (some ⟨r, 0, none⟩) n cap) n xs)
    (ad : Addr) (m c : Nat) (news : List Value) (hx : a.eval x = .slice (some ad) m c) (hl : news.length = m * size) (hnews : ∀ j u, news[j]? = some u → w.cell? (ad.add j) = some u) (h1 : ∀ u ∈ news, u.oneCell' = true)
    (hm : 0 < m) (h63 : n + m ≤ maxLen) (hbytes : (n + m) * bytes ≤ 140737488355328) (hbase : base ≤ w.heap.size)
    (h : ∀ g cap' w', w'.ownsRow base e size (.slice (some ⟨g, 0, none⟩) (n + m) cap') (n + m) (xs ++ news) → w.grownBy w' (some r) → g < w'.heap.size → (∀ j u, xs[j]? = some u → w'.cell? ⟨r, j, none⟩ = some u) → K (a.put o.dst (.slice (some ⟨g, 0, none⟩) (n + m) cap')) w') :
    if Region.wanted o (yielded ops a.tmps) = true then Oper.wp P o a w K Q else E := by
  have hw : Region.wanted o (yielded ops a.tmps) = true := by simp [Region.wanted, hgd]
  rw [if_pos hw]
  obtain ⟨g, cap', w', hr, h2, h3, h4, h5⟩ := run_append_lies (P := P) w t o.type base e i z size bytes ht hi hz hsize hby hzs hsz _ n xs hown ad m c news hl hnews h1 hm h63 hbytes hbase w.heap.size rfl
  have hcells : ∀ j u, xs[j]? = some u → w.cell? ⟨r, j, none⟩ = some u := fun j u hj => by
    have := hown.cells (g := r) rfl j u hj
    rwa [add_plain, Nat.zero_add] at this
  have hlt := (own_block hown (r := r) rfl).1
  have hkeep : ∀ j u, xs[j]? = some u → w'.cell? ⟨r, j, none⟩ = some u := by
    rcases Nat.lt_or_ge cap (n + m) with hroom | hroom
    · obtain ⟨v2, w2, hr2, _, hg2⟩ := run_append_arg_grows (P := P) w t o.type e i z size bytes ht hi hz hsize hby hzs hsz ⟨r, 0, none⟩ n cap xs hown.1 (fun j u hj => by rw [add_plain, Nat.zero_add]; exact hcells j u hj) ad m c news hl hnews hroom h63 hbytes
      rw [hr] at hr2
      injection hr2 with _ e2
      subst e2
      intro j u hj
      exact hg2.cell (hcells j u hj) (by simp)
    · subst hsize
      have hroomc : ∀ j, j < news.length → (w.cell? ⟨r, 0 + n * i.size + j, none⟩).isSome = true ∧ w.frozen? ⟨r, 0 + n * i.size + j, none⟩ = false := by
        rcases hown.2 with ⟨h0, _⟩ | ⟨g', cap2, cur, e', _, hc, hnc, _, hcs, _⟩
        · cases h0
        · injection e' with e1 _ e3
          injection e1 with e1
          injection e1 with e1
          subst e1 e3
          intro j hj
          have hj2 : 0 + n * i.size + j < cur.size := by
            rw [hcs]
            have : (n + m) * i.size ≤ cap * i.size := Nat.mul_le_mul_right _ hroom
            rw [Nat.add_mul] at this
            omega
          refine ⟨?_, ?_⟩
          · simp [World.cell?, hc]
            omega
          · simp [World.frozen?, hc]
      have hr2 := run_append_room_cells (P := P) w t o.type e i ht hi r 0 n cap ad m c news hl hnews h1 hroom (fun j hj => (hroomc j hj).1) (fun j hj => (hroomc j hj).2)
      rw [hr] at hr2
      injection hr2 with _ e2
      subst e2
      intro j u hj
      rw [World.cell?_setCells_out]
      · exact hcells j u hj
      · intro _ _
        left
        have := (List.getElem?_eq_some_iff.1 hj).1
        have := hown.1
        show j < 0 + n * i.size
        omega
  unfold Oper.wp execOp
  simp only [ho, resolve, invoke, builtin, Sem.run_bind, Sem.run_pure, Result.andThen_ok, List.map_toArray, List.map_cons, List.map_nil, hs, hx, hr]
  exact h g cap' w' h2 h3 h5 hkeep

/-- an owned row's block is none of the store's -/
theorem St.free_own {L B g bf bp : Nat} {w : World} {ns : List BN} {C : Nat} (h : St L B g bf bp w ns C) {base : Nat} {t : TypeId} {size n : Nat} {v : Value} {xs : List Value} (ho : w.ownsRow base t size v n xs) (ht : t ≠ 69) (ht' : t ≠ 85) {r : Nat} (hr : v.ownBlock = some r) : Free w g bf bp r := by
  rcases ho.2 with ⟨h3, _⟩ | ⟨r', cap, cur, e1, _, hc, _⟩
  · rw [h3] at hr
    cases hr
  · rw [e1] at hr
    have hr : r' = r := by simpa [Value.ownBlock] using hr
    subst hr
    exact h.free' (t := t) (cs := cur.toList) (by unfold Blk; simpa using hc) ht ht'
/-- an owned row that a method leaves as it is -/
theorem Kept.own {B g bf bp : Nat} {w w' : World} (k : Kept B g bf bp w w') {base : Nat} {t : TypeId} {size n : Nat} {v : Value} {xs : List Value} (ho : w.ownsRow base t size v n xs) (hf : ∀ r, v.ownBlock = some r → Free w g bf bp r) : w'.ownsRow base t size v n xs := by
  refine ⟨ho.1, ?_⟩
  rcases ho.2 with h3 | ⟨r, cap, cur, e, hr, hc, rest⟩
  · exact .inl h3
  · have := hf r (by rw [e]; rfl)
    exact .inr ⟨r, cap, cur, e, hr, (k.block r this.1 (.inr this.2)).trans hc, rest⟩
/-- a row of the call's own has grown -/
theorem St.grown {L B g bf bp : Nat} {w w' : World} {ns : List BN} {C : Nat} (h : St L B g bf bp w ns C) {row : Option Nat} (hg : w.grownBy w' row) (hf : ∀ r, row = some r → Free w g bf bp r) : St L B g bf bp w' ns C := by
  obtain ⟨c1, ok, np, M, c2, c3, c4⟩ := h
  cases row with
  | none => exact ⟨c1, ok, np, M, c2, c3.keep ⟨hg.os, hg.tape, hg.output, hg.size, fun i hi => hg.block i hi (by simp)⟩, c4⟩
  | some r => exact ⟨c1, ok, np, M, c2, (c3.grown hg (hf r rfl)).1, c4⟩
theorem Kept.row_grown {B g bf bp : Nat} {w0 w w' : World} (h : Kept B g bf bp w0 w) {row : Option Nat} (hg : w.grownBy w' row) (hgl : g < w.heap.size) (hb : ∀ r, row = some r → w0.heap.size ≤ r) (hf : ∀ r, row = some r → Free w g bf bp r) (hB : B ≤ w0.heap.size) : Kept B g bf bp w0 w' := by
  cases row with
  | none => exact h.trans (Kept.of_below ⟨hg.os, hg.tape, hg.output, hg.size, fun i hi => hg.block i hi (by simp)⟩ hgl)
  | some r => exact h.trans2 (Kept2.of_grown hg (by have := hb r rfl; omega) hgl (fun e => (hf r rfl).2.1 e.symm)) (hb r rfl)

theorem Rd.node {w : World} {A : Option Addr} {n c k : Nat} {xs : List (Int × Int × Int)} (h : Rd Enc.node w A n c xs) (hk : k < n) :
    ∃ b off x, A = some ⟨b, off, none⟩ ∧ xs[k]? = some x ∧ w.cell? ⟨b, off + k * 3, none⟩ = some (.int .i64 x.1) ∧ w.cell? ⟨b, off + k * 3 + 1, none⟩ = some (.int .i64 x.2.1) ∧ w.cell? ⟨b, off + k * 3 + 2, none⟩ = some (.int .i64 x.2.2) ∧
      ((-9223372036854775808 ≤ x.1 ∧ x.1 ≤ 9223372036854775807) ∧ (-9223372036854775808 ≤ x.2.1 ∧ x.2.1 ≤ 9223372036854775807) ∧ (-9223372036854775808 ≤ x.2.2 ∧ x.2.2 ≤ 9223372036854775807)) ∧ b < w.heap.size := by
  obtain ⟨b, off, x, vs, e, hx, ho, hv⟩ := h.get hk
  obtain ⟨us, vs', rfl, ⟨rfl, h1⟩, ⟨us2, vs2, rfl, ⟨rfl, h2⟩, ⟨rfl, h3⟩⟩⟩ := ho
  have c0 := hv 0 _ rfl
  have c1 := hv 1 _ rfl
  have c2 := hv 2 _ rfl
  refine ⟨b, off, x, e, hx, c0, c1, c2, ⟨h1, h2, h3⟩, ?_⟩
  exact World.block_lt_of_cell? w _ c0

theorem own_slice {w : World} {base : Nat} {t : TypeId} {size n : Nat} {O : Option Addr} {oc : Nat} {xs : List Value} (h : w.ownsRow base t size (.slice O n oc) n xs) (hn : 0 < n) : ∃ r, O = some ⟨r, 0, none⟩ ∧ r < w.heap.size ∧ n ≤ oc ∧ oc ≤ 9223372036854775807 := by
  rcases h.2 with ⟨_, h0⟩ | ⟨r, cap, cur, e, hb, hg, hnc, hcm, _⟩
  · omega
  · injection e with e1 _ e3
    subst e1 e3
    refine ⟨r, rfl, ?_, hnc, by unfold maxLen at hcm; omega⟩
    rcases Nat.lt_or_ge r w.heap.size with hl | hl
    · exact hl
    · rw [Array.getElem?_eq_none hl] at hg
      cases hg

/-- what Read has at the head of round k -/
structure ReadAt (L B g bf bp : Nat) (w : World) (ns ds : List BN) (C : Nat) (V : List Value) (k : Nat) (ms : List BN) (ats : List Nat) (O : Option Addr) (oc : Nat) (wr : World) : Prop where
  st : St L B g bf bp wr (ns ++ ms) (C + k)
  kept : Kept B g bf bp w wr
  own : wr.ownsRow w.heap.size 3 1 (.slice O (k + 2) oc) (k + 2) ((ats.map Int.ofNat).map (Value.int .i64))
  len : ats.length = k + 2
  box : Blk 30 wr w.heap.size V
  val : ∀ j a, ats[j]? = some a → a < (ns ++ ms).length + 2 ∧ ∀ s, sem (ns ++ ms) a s = sem ds j s
section
variable {L B g bf bp : Nat} {w : World} {ns ds : List BN} {C : Nat} {V : List Value} {k : Nat} {ms : List BN} {ats : List Nat} {O : Option Addr} {oc : Nat} {wr : World}
theorem ReadAt.start (h : St L B g bf bp w ns C) (V : List Value) : ReadAt L B g bf bp w ns ds C V 0 [] [0, 1] (some ⟨w.heap.size + 1, 0, none⟩) 2 ((w.alloc (.cells V.toArray 30)).alloc (.cells #[.int .i64 0, .int .i64 1] 3)) := by
  have hb := below_two w (.cells V.toArray 30) (.cells #[.int .i64 0, .int .i64 1] 3)
  refine ⟨by simpa using h.keep hb, Kept.of_below hb h.lt, ?_, rfl, (Blk.new w _ V).alloc _, fun j a hj => ?_⟩
  · have := World.ownsRow_lit (base := w.heap.size) (e := 3) (size := 1) (w.alloc (.cells V.toArray 30)) #[.int .i64 0, .int .i64 1] 2 (by simp) (by unfold maxLen; omega) rfl
    simpa using this
  · rcases j with _ | _ | j
    · simp at hj
      subst hj
      exact ⟨by omega, fun s => by rw [sem_zero, sem_zero]⟩
    · simp at hj
      subst hj
      exact ⟨by omega, fun s => by rw [sem_one, sem_one]⟩
    · simp at hj
theorem ReadAt.bound (h : ReadAt L B g bf bp w ns ds C V k ms ats O oc wr) (hC : C + k ≤ 1000000000000) : ∀ x ∈ ats.map Int.ofNat, -9223372036854775808 ≤ x ∧ x ≤ 9223372036854775807 := fun x hx => by
  obtain ⟨a, ha, rfl⟩ := List.mem_map.1 hx
  obtain ⟨j, hj, he⟩ := List.mem_iff_getElem.1 ha
  have hl := h.st.1
  have := (h.val j a (by rw [← he]; exact List.getElem?_eq_getElem hj)).1
  simp only [Int.ofNat_eq_natCast]
  omega
/-- 'at[j]' -/
theorem ReadAt.at_ (h : ReadAt L B g bf bp w ns ds C V k ms ats O oc wr) {j : Nat} (hj : j < k + 2) : ∃ r a, O = some ⟨r, 0, none⟩ ∧ ats[j]? = some a ∧ wr.cell? ⟨r, j, none⟩ = some (.int .i64 (a : Int)) ∧ r < wr.heap.size := by
  obtain ⟨r, rfl, hr, _⟩ := own_slice h.own (by omega)
  have hg : ats[j]? = some (ats[j]'(by rw [h.len]; exact hj)) := List.getElem?_eq_getElem _
  refine ⟨r, _, rfl, hg, ?_, hr⟩
  have := h.own.cells (g := r) rfl j (.int .i64 ((ats[j]'(by rw [h.len]; exact hj) : Nat) : Int)) (by rw [List.getElem?_map, List.getElem?_map, hg]; rfl)
  rw [add_plain, Nat.zero_add] at this
  exact this
theorem ReadAt.free (h : ReadAt L B g bf bp w ns ds C V k ms ats O oc wr) {r : Nat} (hr : (Value.slice O (k + 2) oc).ownBlock = some r) : Free wr g bf bp r := h.st.free_own h.own (by decide) (by decide) hr
/-- a node and a place more -/
theorem ReadAt.next (h : ReadAt L B g bf bp w ns ds C V k ms ats O oc wr) (hds : OkD L ds) {v l h' al ah k' : Nat} (hn : ds[k]? = some (v, l, h')) (hal : ats[l]? = some al) (hah : ats[h']? = some ah) {w1 w2 w3 : World} {ms' : List BN} (hb1 : Below wr.heap.size wr w1)
    (hst : St L B g bf bp w2 (ns ++ ms ++ ms') (C + k + 1)) (hk : Kept B g bf bp w1 w2) (hk' : k' < (ns ++ ms ++ ms').length + 2) (hq : ∀ s, sem (ns ++ ms ++ ms') k' s = if s v = true then sem (ns ++ ms) ah s else sem (ns ++ ms) al s)
    {O2 : Option Addr} {oc2 : Nat} (hown : w3.ownsRow w.heap.size 3 1 (.slice O2 (k + 2 + 1) oc2) (k + 2 + 1) ((ats.map Int.ofNat).map (Value.int .i64) ++ [.int .i64 (k' : Nat)]))
    (hg : (w2.alloc (.cells #[.int .i64 (k' : Nat)] 3)).grownBy w3 (Value.slice O (k + 2) oc).ownBlock) (hB : B ≤ w.heap.size) :
    ReadAt L B g bf bp w ns ds C V (k + 1) (ms ++ ms') (ats ++ [k']) O2 oc2 w3 := by
  have hbase : ∀ r, (Value.slice O (k + 2) oc).ownBlock = some r → w.heap.size ≤ r := fun r hr => own_base h.own hr
  have hwr : w.heap.size ≤ wr.heap.size := h.kept.size
  have hfr1 : ∀ {r}, Free wr g bf bp r → Free w2 g bf bp r := fun hf => hk.free ((Kept.of_below (B := B) hb1 h.st.lt).free hf)
  have hb2 : Below w2.heap.size w2 (w2.alloc (.cells #[.int .i64 (k' : Nat)] 3)) := (Below.refl _ _).alloc (Nat.le_refl _) _
  have hfr2 : ∀ r, (Value.slice O (k + 2) oc).ownBlock = some r → Free (w2.alloc (.cells #[.int .i64 (k' : Nat)] 3)) g bf bp r := fun r hr => (Kept.of_below (B := B) hb2 hst.lt).free (hfr1 (h.free hr))
  have hst2 := hst.keep hb2
  have hkk : Kept B g bf bp w (w2.alloc (.cells #[.int .i64 (k' : Nat)] 3)) := ((h.kept.trans (Kept.of_below hb1 h.st.lt)).trans hk).trans (Kept.of_below hb2 hst.lt)
  have hbx : Free wr g bf bp w.heap.size := h.st.free' h.box (by decide) (by decide)
  refine ⟨by rw [← List.append_assoc]; exact hst2.grown hg hfr2, hkk.row_grown hg hst2.lt hbase hfr2 hB, by simpa using hown, by simp [h.len], ?_, fun j a hj => ?_⟩
  · refine (((hk.blk (h.box.keep hb1) ((Kept.of_below (B := B) hb1 h.st.lt).free hbx)).alloc _)).grown hg (fun e => ?_)
    obtain ⟨_, cs', m, hr⟩ := own_block h.own e.symm
    have hbb := h.box
    unfold Blk at hbb
    rw [hbb] at hr
    injection hr with hr
    injection hr with _ hr _
    exact absurd hr (by decide)
  · rw [← List.append_assoc]
    by_cases hlt : j < ats.length
    · rw [List.getElem?_append_left hlt] at hj
      obtain ⟨h1, h2⟩ := h.val j a hj
      exact ⟨by have := len_more (ns ++ ms) ms'; omega, fun s => by rw [sem_add h.st.ok _ h1, h2]⟩
    · rw [List.getElem?_append_right (by omega)] at hj
      have h0 : j - ats.length = 0 := by
        have := (List.getElem?_eq_some_iff.1 hj).1
        simpa using this
      rw [h0] at hj
      simp at hj
      subst hj
      have hj : j = k + 2 := by have := h.len; omega
      subst hj
      refine ⟨hk', fun s => ?_⟩
      rw [hq, sem_node hds hn, (h.val l al hal).2, (h.val h' ah hah).2]
end

set_option maxHeartbeats 1600000 in
set_option maxRecDepth 100000 in
theorem Read_ct {L B g bf bp : Nat} {w : World} {ns ds : List BN} {C n c root : Nat} {A : Option Addr} (h : St L B g bf bp w ns C) (hds : OkD L ds) (hlen : ds.length = n) (hr : root < ds.length + 2) (hA : ∀ w', Below B w w' → Rd Enc.node w' A n c (ds.map castN)) (hC : C + n ≤ 999999999999) (hn : n ≤ 1000000000) :
    Calls Try.prog 50 #[.pointer (some ⟨g, 0, none⟩), .agg #[.int .i64 L, .slice A n c, .int .i64 root]] w (StP L B g bf bp w ns (C + n) fun ns' k => ∀ s, sem ns' k s = sem ds root s) := by
  obtain ⟨i0, hi0, hz0, hi1, hi2⟩ := info_parts (show (Try.prog.info? 3).map (fun i => (i.zero, i.size, i.bytes)) = some (some (.int .i64 0), 1, 8) by kernel_rfl)
  have hB := h.base
  have hgl := h.lt
  have hcap := (hA w (Below.refl _ _)).cap
  have hsm := (hA w (Below.refl _ _)).small
  have Hst := hide h
  have HA := hide hA
  have Hds := hide hds
  clear h hA hds
  go_enter Try.func50, Try.ntmps50
  go_wp2_with fail
  have hstart := ReadAt.start (ds := ds) Hst.out [.int .i64 L, .slice A n c, .int .i64 root]
  have Hstart := hide hstart
  clear hstart
  go_loopw [5, 12] (fun s5 i wr => ∃ (k : Nat) (ms : List BN) (ats : List Nat) (O : Option Addr) (oc : Nat), k ≤ n ∧ i = .int .i64 k ∧ s5 = .slice O (k + 2) oc ∧ ReadAt L B g bf bp w ns ds C [.int .i64 L, .slice A n c, .int .i64 root] k ms ats O oc wr) (fun _ i _ => n - (intOf i).toNat)
  case atStart => exact ⟨0, [], [0, 1], _, 2, Nat.zero_le _, rfl, rfl, Hstart.out⟩
  case round =>
    obtain ⟨k, ms, ats, O, oc, hk, rfl, rfl, hrel⟩ := hrel
    have hbx := hrel.box
    have hb0 := hbx.cell 0
    have hb1 := hbx.cell 1
    have hb2 := hbx.cell 2
    have hbl := hbx.lt
    simp only [List.getElem?_cons_zero, List.getElem?_cons_succ] at hb0 hb1 hb2
    have hlow := hrel.st.low
    by_cases hkn : k < n
    · obtain ⟨b, off, x, rfl, hx, hc0, hc1, hc2, _, hbw⟩ := (HA.out wr (hrel.kept.below hB)).node hkn
      rw [List.getElem?_map] at hx
      obtain ⟨⟨v, l, h'⟩, hn', hx⟩ := Option.map_eq_some_iff.1 hx
      subst hx
      simp only [castN] at hc0 hc1 hc2
      obtain ⟨y1, y2, y3, y4, y5, y6⟩ := Hds.out.node k v l h' hn'
      obtain ⟨r, al, rfl, hal, hcl, hrw⟩ := hrel.at_ (j := l) (by omega)
      obtain ⟨r', ah, e, hah, hch, _⟩ := hrel.at_ (j := h') (by omega)
      injection e with e
      injection e with e
      subst e
      obtain ⟨r', e, hrl, hoc, hocm⟩ := own_slice hrel.own (by omega)
      obtain ⟨a1, a2⟩ := hrel.val l al hal
      obtain ⟨a3, a4⟩ := hrel.val h' ah hah
      have hlv1 := lvl_cross hrel.st.ok Hds.out a1 (by omega) a2
      have hlv2 := lvl_cross hrel.st.ok Hds.out a3 (by omega) a4
      have Hrel := hide hrel
      have Hn := hide hn'
      have Hal := hide hal
      have Hah := hide hah
      clear hrel hn' hal hah hbx a2 a4 e
      go_wp2_with fail
      obtain ⟨V, hV⟩ : ∃ V, V = wr.alloc (.cells #[.int .i64 v, .int .i64 l, .int .i64 h'] 69) := ⟨_, rfl⟩
      rw [← hV]
      have hbV : Below wr.heap.size wr V := by rw [hV]; exact (Below.refl _ _).alloc (Nat.le_refl _) _
      have hbox : Blk 69 V wr.heap.size [.int .i64 v, .int .i64 l, .int .i64 h'] := by rw [hV]; exact Blk.new _ _ _
      have hd1 := hbox.cell 0
      have hd2 := hbox.cell 1
      have hd3 := hbox.cell 2
      have hVl := hbox.lt
      simp only [List.getElem?_cons_zero, List.getElem?_cons_succ] at hd1 hd2 hd3
      have hcl := (hbV.cell (p := ⟨r, l, none⟩) hrw).trans hcl
      have hch := (hbV.cell (p := ⟨r, h', none⟩) hrw).trans hch
      have hfV : Free V g bf bp wr.heap.size := by
        obtain ⟨_, _, np, M, _, h4, _⟩ := Hrel.out.st
        rw [hV]
        exact h4.free_new _
      have hrne : r ≠ wr.heap.size := by omega
      have HfV := hide hfV
      have Hbox := hide hbox
      have HbV := hide hbV
      clear hV hbV hbox hfV hb0 hb1 hb2 hc0 hc1 hc2
      have hz1 : (l : Int) < (k : Int) + 2 := by omega
      have hz2 : (h' : Int) < (k : Int) + 2 := by omega
      have hz3 : (0 : Int) ≤ (l : Int) := by omega
      have hz4 : (0 : Int) ≤ (h' : Int) := by omega
      have hrV : r < V.heap.size := Nat.lt_of_lt_of_le hrw HbV.out.size
      have hwrs : w.heap.size ≤ wr.heap.size := Hrel.out.kept.size
      have hfb : Free V g bf bp wr.heap.size := HfV.out
      have Hfb := hide hfb
      clear hfb
      go_region_held3 (fun w' => w'.cell? ⟨wr.heap.size, 0, none⟩ = some (.int .i64 v) ∧ w'.cell? ⟨wr.heap.size, 1, none⟩ = some (.int .i64 l) ∧ w'.cell? ⟨wr.heap.size, 2, none⟩ = some (.int .i64 h') ∧ w'.cell? ⟨r, l, none⟩ = some (.int .i64 (al : Nat)) ∧ w'.cell? ⟨r, h', none⟩ = some (.int .i64 (ah : Nat))) (first | go_keep) (first
        | (go_at_call 60
           refine (Node_st (Hrel.out.st.keep HbV.out.drew) y1 a1 a3 (by omega) (by omega) (by omega)).mono ?_
           rintro e w2 ⟨ms', k', rfl, hst2, hk2, hk'l, hq', _⟩
           have hown2 := hk2.own (own_keep Hrel.out.own HbV.out.drew) (fun r hr => (Kept.of_below (B := B) HbV.out.drew Hrel.out.st.lt).free (Hrel.out.free hr))
           have hw2s : w.heap.size ≤ w2.heap.size := by have := HbV.out.size; have : V.heap.size ≤ w2.heap.size := hk2.size; omega
           have hbx2 := hk2.blk (Hbox.out.qt (Qt.refl _).drew) ((Kept.of_below (B := B) (Below.refl V.heap.size V).drew (Hrel.out.st.keep HbV.out).lt).free Hfb.out)
           have he1 := hbx2.cell 0
           have he2 := hbx2.cell 1
           have he3 := hbx2.cell 2
           have hxc : ∀ j a, ats[j]? = some a → w2.cell? ⟨r, j, none⟩ = some (.int .i64 (a : Nat)) := fun j a hj => by
             have := hown2.cells (g := r) rfl j (.int .i64 (a : Nat)) (by rw [List.getElem?_map, List.getElem?_map, hj]; rfl)
             rwa [add_plain, Nat.zero_add] at this
           have he4 := hxc _ _ Hal.out
           have he5 := hxc _ _ Hah.out
           simp only [List.getElem?_cons_zero, List.getElem?_cons_succ] at he1 he2 he3
           have hbl2 := hbx2.lt
           have hrl2 := (own_block hown2 (r := r) rfl).1
           have Hst2 := hide hst2
           have Hk2 := hide hk2
           have Hq' := hide hq'
           have Hown2 := hide hown2
           have Hbx2 := hide hbx2
           clear hst2 hk2 hq' hown2 hbx2 hxc)
        | (refine step_append_keeps rfl _ _ 48 rfl w.heap.size 3 i0 (.int .i64 0) 1 8 Try.underlying48 hi0 hz0 hi1 hi2 rfl (by decide) r (k + 2) oc _ (by simp [Act.eval]) (Hown2.out.alloc _) ⟨w2.heap.size, 0, none⟩ 1 1 [.int .i64 (k' : Nat)] (by simp [Act.eval]) rfl (fun j u hj => by rw [add_plain, Nat.zero_add]; exact ((Blk.new w2 3 [.int .i64 (k' : Nat)]).cell j).trans hj) (by intro u hu; simp at hu; subst hu; rfl) (by omega) (by unfold maxLen; omega) (by omega) (by simp; omega) ?_
           intro O2 oc2 w3 hown3 hg3 hgl3 hkeep3
           have hbx3 := (Hbx2.out.alloc (.cells #[.int .i64 (k' : Nat)] 3)).grown hg3 (fun e => hrne (Option.some.inj e).symm)
           have hf1 := hbx3.cell 0
           have hf2 := hbx3.cell 1
           have hf3 := hbx3.cell 2
           have hf4 := hkeep3 l (.int .i64 (al : Nat)) (by rw [List.getElem?_map, List.getElem?_map, Hal.out]; rfl)
           have hf5 := hkeep3 h' (.int .i64 (ah : Nat)) (by rw [List.getElem?_map, List.getElem?_map, Hah.out]; rfl)
           simp only [List.getElem?_cons_zero, List.getElem?_cons_succ] at hf1 hf2 hf3
           have Hown3 := hide hown3
           have Hg3 := hide hg3
           clear hown3 hg3 hkeep3 hbx3))
      go_wp2_with fail
      go_roundw
      case rel => exact ⟨k + 1, ms ++ ms', ats ++ [k'], _, oc2, by omega, by go_num, by simp, Hrel.out.next Hds.out Hn.out Hal.out Hah.out HbV.out.drew Hst2.out Hk2.out hk'l Hq'.out Hown3.out Hg3.out hB⟩
      case measure => simp [intOf]; omega
    · obtain rfl : k = n := by omega
      obtain ⟨r, ar, rfl, har, hcr, hrw⟩ := hrel.at_ (j := root) (by omega)
      obtain ⟨r', e, hrl, hoc, hocm⟩ := own_slice hrel.own (by omega)
      have hf : StP L B g bf bp w ns (C + k) (fun ns' k => ∀ s, sem ns' k s = sem ds root s) (.returned (.int .i64 (ar : Nat))) wr :=
        ⟨ms, ar, rfl, hrel.st, hrel.kept, (hrel.val root ar har).1, (hrel.val root ar har).2⟩
      have Hf := hide hf
      clear hf hrel har hbx e
      go_wp2
      go_ret
      exact Hf.out
end Go.Proofs.Ytgenpcokpodhkaa
