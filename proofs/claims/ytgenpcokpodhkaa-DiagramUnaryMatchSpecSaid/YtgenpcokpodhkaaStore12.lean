/- Count: its closure, and it. Count. -/
import Derived.Test.YtgenpcokpodhkaaStore10
import Derived.Test.YtgenpcokpodhkaaDgPure4
import Derived.Laws.Shifts
namespace Go.Proofs.Ytgenpcokpodhkaa
open Go.RowKit Go.Maps

theorem StoreAt.grown {L B g bf bp mk : Nat} {w w' : World} {ns : List BN} {np : Nat} {M : BN → Option Int} (h : StoreAt L B g bf bp w ns np M) (hg : w.grownBy w' (some mk)) (hf : Free w g bf bp mk) : StoreAt L B g bf bp w' ns np M ∧ Free w' g bf bp mk := by
  obtain ⟨A, c, hbl, ho⟩ := h.blk
  have hrow : rowOf w' g = rowOf w g := rowOf_same (hg.block g h.lt (fun e => hf.2.1 (Option.some.inj e).symm))
  refine ⟨⟨h.low, h.few, ⟨A, c, hbl.grown hg (fun e => hf.2.1 (Option.some.inj e).symm), own_other ho hg (fun r hr e => ?_)⟩, h.found.of_block (hg.block _ h.found.lt (fun e => hf.2.2.1 (Option.some.inj e).symm)), h.pairs.of_block (hg.block _ h.pairs.lt (fun e => hf.2.2.2.1 (Option.some.inj e).symm)), h.base.1, h.base.2.1, h.base.2.2.1, h.base.2.2.2.1, Nat.le_trans h.base.2.2.2.2 hg.size⟩, ⟨Nat.lt_of_lt_of_le hf.1 hg.size, hf.2.1, hf.2.2.1, hf.2.2.2.1, by rw [hrow]; exact hf.2.2.2.2⟩⟩
  have : rowOf w g = some r := by rw [rowOf, hbl.cell 1]; exact hr
  exact hf.2.2.2.2 (by rw [this]; exact e)

structure CAt (L B g bf bp mk : Nat) (X : List (TypeId × Nat × List Value)) (w : World) (ns : List BN) (np : Nat) (M : BN → Option Int) (C : Nat) (K : Nat → Option Int) : Prop where
  st : StoreAt L B g bf bp w ns np M
  ok : OkD L ns
  box : ∀ x ∈ X, Blk x.1 w x.2.1 x.2.2
  map : ∃ n, n ≤ C ∧ Known w mk n K
  mine : Free w g bf bp mk
  known : ∀ k c, K k = some c → c = (cnt L ns k : Nat)
section
variable {L B g bf bp mk : Nat} {X : List (TypeId × Nat × List Value)} {w w' : World} {ns : List BN} {np : Nat} {M : BN → Option Int} {C C' : Nat} {K : Nat → Option Int}
theorem CAt.keep (h : CAt L B g bf bp mk X w ns np M C K) (hb : Below w.heap.size w w') : CAt L B g bf bp mk X w' ns np M C K := by
  obtain ⟨n, hn, hm⟩ := h.map
  exact ⟨h.st.keep hb, h.ok, fun x hx => (h.box x hx).keep hb, ⟨n, hn, hm.of_block (hb.block _ hm.lt)⟩, NAt.rowed h.mine hb h.st.lt, h.known⟩
theorem CAt.mono (h : CAt L B g bf bp mk X w ns np M C K) (hC : C ≤ C') : CAt L B g bf bp mk X w ns np M C' K := by
  obtain ⟨n, hn, hm⟩ := h.map
  exact ⟨h.st, h.ok, h.box, ⟨n, by omega, hm⟩, h.mine, h.known⟩
theorem CAt.ne (h : CAt L B g bf bp mk X w ns np M C K) {t : TypeId} {b : Nat} {cs : List Value} (hb : Blk t w b cs) : some b ≠ some mk := fun e => by
  obtain ⟨n, _, hm⟩ := h.map
  obtain ⟨es, cl, hm⟩ := hm.isMap
  unfold Blk at hb
  rw [Option.some.inj e, hm] at hb
  cases hb
theorem CAt.looks (h : CAt L B g bf bp mk X w ns np M C K) {k : Nat} (hk : k < 9223372036854775807) : ∃ fc : Int, (Instr.lookup 87 (.map (some mk)) (.int .i64 (k : Int)) true).run Try.prog w = .ok (.tuple #[.int .i64 fc, .bool (K k).isSome]) w ∧
    (-9223372036854775808 ≤ fc ∧ fc ≤ 9223372036854775807) ∧ ∀ c', K k = some c' → fc = c' := by
  obtain ⟨n, hn, hmap⟩ := h.map
  obtain ⟨fc, hlook, hfc, hfM⟩ := hmap.looks lawI Try.underlying87 Try.underlying3 zeroI (keyI (k := k) (by omega))
  exact ⟨fc, hlook w rfl, hfc, hfM⟩
theorem CAt.put (h : CAt L B g bf bp mk X w ns np M C K) {k : Nat} (hk : k < ns.length + 2) (hb : cnt L ns k ≤ 9223372036854775807) (hC : C < 1000000000000) :
    ∃ w', (Instr.mapUpdate 87 (.map (some mk)) (.int .i64 (k : Int)) (.int .i64 (cnt L ns k : Nat))).run Try.prog w = .ok () w' ∧ CAt L B g bf bp mk X w' ns np M (C + 1) (putM K k (cnt L ns k : Nat)) ∧ w.grownBy w' (some mk) := by
  obtain ⟨n, hn, hmap⟩ := h.map
  have hfew := h.st.few.1
  obtain ⟨w', hrun, hmap', hgr, hs⟩ := hmap.put encI_inj lawI Try.underlying87 Try.underlying3 (by omega) (keyI (k := k) (by omega)) (cnt L ns k : Nat) (by omega)
  obtain ⟨h1, h2⟩ := h.st.grown hgr h.mine
  refine ⟨w', hrun, ⟨h1, h.ok, fun x hx => (h.box x hx).grown hgr (h.ne (h.box x hx)), ⟨n + 1, by omega, hmap'⟩, h2, fun k' c hc => ?_⟩, hgr⟩
  by_cases he : k' = k
  · subst he
    rw [putM_same] at hc
    injection hc with hc
    exact hc.symm
  · rw [putM_other _ _ he] at hc
    exact h.known k' c hc
end
/-- returned the count of node k -/
def CP (L B g bf bp mk : Nat) (X : List (TypeId × Nat × List Value)) (w : World) (ns : List BN) (np : Nat) (M : BN → Option Int) (C k : Nat) (e : Ending) (w' : World) : Prop :=
  e = .returned (.int .i64 (cnt L ns k : Nat)) ∧ (∃ K', CAt L B g bf bp mk X w' ns np M C K') ∧ w.grownBy w' (some mk)
theorem grown_refl (w : World) (row : Option Nat) : w.grownBy w row := ⟨rfl, rfl, rfl, Nat.le_refl _, fun _ _ _ => rfl⟩

theorem run_shl (P : Program) (c e : Nat) (y : Int) (hy : y = e) (he : e ≤ 63) (hb : c * 2 ^ e ≤ 9223372036854775807) (w : World) : (Op.shift .shl .i64 (c : Int) .i64 y).run P w = .ok (.int .i64 ((c * 2 ^ e : Nat) : Int)) w := by
  subst hy
  rw [shift_shl_any _ _ _ _ (by omega)]
  have h1 : min (Int.toNat (e : Int)) IntKind.i64.bits = e := by simp [IntKind.bits]; omega
  have h2 : (c : Int) * 2 ^ e = ((c * 2 ^ e : Nat) : Int) := by simp
  rw [h1, h2, IntWalk.i64_in _ (by omega)]
  rfl

abbrev countX (g mk ck cs cw : Nat) : List (TypeId × Nat × List Value) :=
  [(87, ck, [.map (some mk)]), (62, cs, [.pointer (some ⟨g, 0, none⟩)]),
   (74, cw, [.func (Fn.func 68) #[] #[.pointer (some ⟨ck, 0, none⟩), .pointer (some ⟨cs, 0, none⟩), .pointer (some ⟨cw, 0, none⟩)]])]

section
variable {L B g bf bp ck cs cw mk k : Nat} {w : World} {ns : List BN} {np : Nat} {M : BN → Option Int} {C C' : Nat} {K : Nat → Option Int}
set_option maxHeartbeats 1600000 in
set_option maxRecDepth 100000 in
theorem CountSmall_ct (hC : C ≤ C') (hk : k < 2) (hw : CAt L B g bf bp mk (countX g mk ck cs cw) w ns np M C K) :
    Calls Try.prog 68 #[.int .i64 k, .pointer (some ⟨ck, 0, none⟩), .pointer (some ⟨cs, 0, none⟩), .pointer (some ⟨cw, 0, none⟩)] w (CP L B g bf bp mk (countX g mk ck cs cw) w ns np M C' k) := by
  have hc : cnt L ns k = k := by
    rcases (show k = 0 ∨ k = 1 by omega) with rfl | rfl
    · exact cnt_zero
    · exact cnt_one
  have Hf : Hid (CP L B g bf bp mk (countX g mk ck cs cw) w ns np M C' k (.returned (.int .i64 (k : Nat))) w) := hide ⟨by rw [hc], ⟨K, hw.mono hC⟩, grown_refl _ _⟩
  clear hw hc
  go_enter Try.func68, Try.ntmps68
  go_wp2
  go_ret
  exact Hf.out
set_option maxHeartbeats 1600000 in
set_option maxRecDepth 100000 in
theorem CountKnown_ct (hC : C ≤ C') (hk2 : ¬ k < 2) (hk : k < 9223372036854775807) (h0 : (K k).isSome = true) (hw : CAt L B g bf bp mk (countX g mk ck cs cw) w ns np M C K) :
    Calls Try.prog 68 #[.int .i64 k, .pointer (some ⟨ck, 0, none⟩), .pointer (some ⟨cs, 0, none⟩), .pointer (some ⟨cw, 0, none⟩)] w (CP L B g bf bp mk (countX g mk ck cs cw) w ns np M C' k) := by
  obtain ⟨fc, hlook, hfc, hfM⟩ := hw.looks (k := k) hk
  obtain ⟨c, hc⟩ := Option.isSome_iff_exists.1 h0
  obtain rfl := hfM _ hc
  obtain rfl := hw.known k _ hc
  rw [hc] at hlook
  have hlook' : (Instr.lookup 87 (.map (some mk)) (.int .i64 (k : Int)) true).run Try.prog w = .ok (.tuple #[.int .i64 (cnt L ns k : Nat), .bool true]) w := hlook
  have hck := (hw.box (87, ck, [.map (some mk)]) (by simp)).cell 0
  simp only [List.getElem?_cons_zero] at hck
  have Hf : Hid (CP L B g bf bp mk (countX g mk ck cs cw) w ns np M C' k (.returned (.int .i64 (cnt L ns k : Nat))) w) := hide ⟨rfl, ⟨K, hw.mono hC⟩, grown_refl _ _⟩
  clear hw hfM hlook hc h0
  go_enter Try.func68, Try.ntmps68
  go_wp2
  go_ret
  exact Hf.out
end

set_option maxHeartbeats 3200000 in
set_option maxRecDepth 100000 in
theorem CountWalk_ct {L B g bf bp ck cs cw mk np : Nat} {ns : List BN} {M : BN → Option Int} : ∀ (d : Nat) (k : Nat) (w : World) (C : Nat) (K : Nat → Option Int), L - lvl L ns k ≤ d → k < ns.length + 2 → C + 2 ^ (d + 1) ≤ 1000000000000 → CAt L B g bf bp mk (countX g mk ck cs cw) w ns np M C K →
    Calls Try.prog 68 #[.int .i64 k, .pointer (some ⟨ck, 0, none⟩), .pointer (some ⟨cs, 0, none⟩), .pointer (some ⟨cw, 0, none⟩)] w (CP L B g bf bp mk (countX g mk ck cs cw) w ns np M (C + (2 ^ (d + 1) - 2)) k) := by
  intro d
  induction d with
  | zero =>
    intro k w C K hd hk hC hw
    have hk2 : k < 2 := by
      rcases Nat.lt_or_ge k 2 with h | h
      · exact h
      · obtain ⟨i, v, l, h', rfl, hn⟩ := node_of (ns := ns) h hk
        have := (hw.ok.node i v l h' hn).1
        rw [lvl_node hn] at hd
        omega
    exact CountSmall_ct (by omega) hk2 hw
  | succ d ih =>
    intro k w C K hd hk hC hw
    by_cases hk2 : k < 2
    · exact CountSmall_ct (by omega) hk2 hw
    have hpow : 2 ^ (d + 1 + 1) = 2 ^ (d + 1) + 2 ^ (d + 1) := by rw [Nat.pow_succ]; omega
    have hpos : 2 ≤ 2 ^ (d + 1) := by rw [Nat.pow_succ]; have := Nat.two_pow_pos d; omega
    have hfew := hw.st.few.1
    have hLlow := hw.st.low
    cases hl : K k with
    | some c => exact CountKnown_ct (by omega) hk2 (by omega) (by rw [hl]; rfl) hw
    | none =>
      obtain ⟨i, v, l, h', rfl, hn⟩ := node_of (ns := ns) (by omega) hk
      obtain ⟨b1, b2, b3, b4, b5, b6⟩ := hw.ok.node i v l h' hn
      rw [lvl_node hn] at hd
      obtain ⟨fc, hlook, hfc, _⟩ := hw.looks (k := i + 2) (by omega)
      rw [hl] at hlook
      have hlook' : (Instr.lookup 87 (.map (some mk)) (.int .i64 ((i : Int) + 2)) true).run Try.prog w = .ok (.tuple #[.int .i64 fc, .bool false]) w := hlook
      obtain ⟨r, c, hb, hn0, hn1, hn2, hi⟩ := hw.st.node hn
      have hg1 := hb.cell 1
      have hbk := hw.box _ (List.mem_cons_self ..)
      have hck := hbk.cell 0
      have hcs := (hw.box (62, cs, [.pointer (some ⟨g, 0, none⟩)]) (by simp)).cell 0
      have hcw := (hw.box (74, cw, [.func (Fn.func 68) #[] #[.pointer (some ⟨ck, 0, none⟩), .pointer (some ⟨cs, 0, none⟩), .pointer (some ⟨cw, 0, none⟩)]]) (by simp)).cell 0
      have hlk := hbk.lt
      have hls := (hw.box (62, cs, [.pointer (some ⟨g, 0, none⟩)]) (by simp)).lt
      have hlw := (hw.box (74, cw, [.func (Fn.func 68) #[] #[.pointer (some ⟨ck, 0, none⟩), .pointer (some ⟨cs, 0, none⟩), .pointer (some ⟨cw, 0, none⟩)]]) (by simp)).lt
      simp only [List.getElem?_cons_zero, List.getElem?_cons_succ] at hck hcs hcw hg1 hlk hls hlw
      have hL1 := lvl_le hw.ok l
      have hL2 := lvl_le hw.ok h'
      have hc1 : cnt L ns l ≤ 16777216 := Nat.le_trans (cnt_le l) (Nat.le_trans (Nat.pow_le_pow_right (by omega) (show L - lvl L ns l ≤ 24 by omega)) (by decide))
      have hc2 : cnt L ns h' ≤ 16777216 := Nat.le_trans (cnt_le h') (Nat.le_trans (Nat.pow_le_pow_right (by omega) (show L - lvl L ns h' ≤ 24 by omega)) (by decide))
      have hc3 : cnt L ns (i + 2) ≤ 16777216 := Nat.le_trans (cnt_le (i + 2)) (Nat.le_trans (Nat.pow_le_pow_right (by omega) (show L - lvl L ns (i + 2) ≤ 24 by omega)) (by decide))
      have hcn := cnt_node hw.ok hn
      have Hw := hide hw
      have Hih := hide ih
      have Hpow := hide hpow
      have Hn := hide hn
      have Hcn := hide hcn
      clear hw ih hlook hl hb hn hpow hbk hcn
      go_enter Try.func68, Try.ntmps68
      go_wp2_with fail
      obtain ⟨V, hV⟩ : ∃ V, V = w.alloc (.cells #[.int .i64 v, .int .i64 l, .int .i64 h'] 69) := ⟨_, rfl⟩
      rw [← hV]
      have hbV : Below w.heap.size w V := by rw [hV]; exact (Below.refl _ _).alloc (Nat.le_refl _) _
      have hwV := Hw.out.keep hbV
      have hbox : Blk 69 V w.heap.size [.int .i64 v, .int .i64 l, .int .i64 h'] := by rw [hV]; exact Blk.new _ _ _
      have hd1 := hbox.cell 0
      have hd2 := hbox.cell 1
      have hd3 := hbox.cell 2
      have hcs := (hwV.box (62, cs, [.pointer (some ⟨g, 0, none⟩)]) (by simp)).cell 0
      have hcw := (hwV.box (74, cw, [.func (Fn.func 68) #[] #[.pointer (some ⟨ck, 0, none⟩), .pointer (some ⟨cs, 0, none⟩), .pointer (some ⟨cw, 0, none⟩)]]) (by simp)).cell 0
      have hszV : w.heap.size < V.heap.size := hbox.lt
      simp only [List.getElem?_cons_zero, List.getElem?_cons_succ] at hd1 hd2 hd3 hcs hcw
      have HwV := hide hwV
      have Hbox := hide hbox
      have HbV := hide hbV
      clear hV hbV hwV hbox hck hlook' hn0 hn1 hn2 hg1
      have hlV : cs < V.heap.size ∧ cw < V.heap.size ∧ ck < V.heap.size := by omega
      obtain ⟨hls, hlw, hlk⟩ := hlV
      obtain ⟨q1, hq1⟩ : ∃ q, q = lvl L ns l := ⟨_, rfl⟩
      obtain ⟨q2, hq2⟩ : ∃ q, q = lvl L ns h' := ⟨_, rfl⟩
      have hlev1 : ∀ W, CAt L B g bf bp mk (countX g mk ck cs cw) W ns np M C K → True := fun _ _ => trivial
      clear hlev1
      go_cut [6] (fun s6 wc => s6 = .int .i64 (cnt L ns (i + 2) : Nat) ∧ (∃ K', CAt L B g bf bp mk (countX g mk ck cs cw) wc ns np M (C + (2 ^ (d + 1 + 1) - 2) - 1) K') ∧ V.grownBy wc (some mk))
      case first =>
        have hs1 : IntKind.i64.wrap ((q1 : Int) - v) = q1 - v := IntWalk.i64_in _ (by omega)
        have hs2 : IntKind.i64.wrap ((q1 : Int) - v - 1) = q1 - v - 1 := IntWalk.i64_in _ (by omega)
        have hs3 : IntKind.i64.wrap ((q2 : Int) - v) = q2 - v := IntWalk.i64_in _ (by omega)
        have hs4 : IntKind.i64.wrap ((q2 : Int) - v - 1) = q2 - v - 1 := IntWalk.i64_in _ (by omega)
        have hx1 : cnt L ns l * 2 ^ (q1 - v - 1) ≤ 16777216 * 16777216 := Nat.mul_le_mul hc1 (Nat.le_trans (Nat.pow_le_pow_right (by omega) (show q1 - v - 1 ≤ 24 by omega)) (by decide))
        have hx2 : cnt L ns h' * 2 ^ (q2 - v - 1) ≤ 16777216 * 16777216 := Nat.mul_le_mul hc2 (Nat.le_trans (Nat.pow_le_pow_right (by omega) (show q2 - v - 1 ≤ 24 by omega)) (by decide))
        have hr1 := run_shl Try.prog (cnt L ns l) (q1 - v - 1) ((q1 : Int) - v - 1) (by omega) (by omega) (by omega)
        have hr2 := run_shl Try.prog (cnt L ns h') (q2 - v - 1) ((q2 : Int) - v - 1) (by omega) (by omega) (by omega)
        have hcn := Hcn.out
        rw [← hq1, ← hq2] at hcn
        have hsum : IntKind.i64.wrap (((cnt L ns l * 2 ^ (q1 - v - 1) : Nat) : Int) + ((cnt L ns h' * 2 ^ (q2 - v - 1) : Nat) : Int)) = (cnt L ns (i + 2) : Nat) := by
          rw [hcn]
          exact IntWalk.i64_in _ (by omega)
        clear hcn
        generalize cnt L ns l * 2 ^ (q1 - v - 1) = X1 at hr1 hsum hx1
        generalize cnt L ns h' * 2 ^ (q2 - v - 1) = X2 at hr2 hsum hx2
        have Hq1 := hide hq1
        have Hq2 := hide hq2
        clear hq1 hq2
        go_region_held3 (fun w' => w'.cell? ⟨cs, 0, none⟩ = some (.pointer (some ⟨g, 0, none⟩)) ∧ w'.cell? ⟨cw, 0, none⟩ = some (.func (Fn.func 68) #[] #[.pointer (some ⟨ck, 0, none⟩), .pointer (some ⟨cs, 0, none⟩), .pointer (some ⟨cw, 0, none⟩)]) ∧ w'.cell? ⟨w.heap.size, 0, none⟩ = some (.int .i64 v) ∧ w'.cell? ⟨w.heap.size, 1, none⟩ = some (.int .i64 l) ∧ w'.cell? ⟨w.heap.size, 2, none⟩ = some (.int .i64 h')) (first | go_keep) (first
          | (go_at_call 68
             fail_if_success (have hno := Hw1)
             refine (Hih.out l _ C K (by omega) (by omega) (by have := Hpow.out; omega) (HwV.out.keep (Below.refl V.heap.size V).drew)).mono ?_
             rintro e w1 ⟨rfl, ⟨K1, hw1⟩, hk1⟩
             have hkV1 := only_trans (only_below (Below.refl V.heap.size V).drew (some mk)) hk1
             have hbox1 := Hbox.out.grown hkV1 (HwV.out.ne Hbox.out)
             have he1 := hbox1.cell 0
             have he2 := hbox1.cell 1
             have he3 := hbox1.cell 2
             have he4 := (hw1.box (62, cs, [.pointer (some ⟨g, 0, none⟩)]) (by simp)).cell 0
             have he5 := (hw1.box (74, cw, [.func (Fn.func 68) #[] #[.pointer (some ⟨ck, 0, none⟩), .pointer (some ⟨cs, 0, none⟩), .pointer (some ⟨cw, 0, none⟩)]]) (by simp)).cell 0
             simp only [List.getElem?_cons_zero, List.getElem?_cons_succ] at he1 he2 he3 he4 he5
             have hlev := level_ct hw1.st (k := l) (by omega)
             rw [← Hq1.out] at hlev
             have Hlev1 := hide hlev
             have Hw1 := hide hw1
             have HkV1 := hide hkV1
             clear hw1 hkV1 hk1 hbox1 hlev)
          | (go_at_call 68
             have hyes := Hw1
             clear hyes
             refine (Hih.out h' _ _ K1 (by omega) (by omega) (by have := Hpow.out; omega) Hw1.out).mono ?_
             rintro e w2 ⟨rfl, ⟨K2, hw2⟩, hk2⟩
             have hkV2 := only_trans HkV1.out hk2
             have hbox2 := Hbox.out.grown hkV2 (HwV.out.ne Hbox.out)
             have he1 := hbox2.cell 0
             have he2 := hbox2.cell 1
             have he3 := hbox2.cell 2
             have he4 := (hw2.box (62, cs, [.pointer (some ⟨g, 0, none⟩)]) (by simp)).cell 0
             have he5 := (hw2.box (74, cw, [.func (Fn.func 68) #[] #[.pointer (some ⟨ck, 0, none⟩), .pointer (some ⟨cs, 0, none⟩), .pointer (some ⟨cw, 0, none⟩)]]) (by simp)).cell 0
             simp only [List.getElem?_cons_zero, List.getElem?_cons_succ] at he1 he2 he3 he4 he5
             have hlev := level_ct hw2.st (k := h') (by omega)
             rw [← Hq2.out] at hlev
             have Hlev2 := hide hlev
             have Hw2 := hide hw2
             have HkV2 := hide hkV2
             clear hw2 hkV2 hk2 hbox2 hlev)
          | (go_at_call 67
             fail_if_success (have hno := Hw2)
             refine Hlev1.out.mono ?_
             rintro e w1' ⟨rfl, rfl⟩)
          | (go_at_call 67
             have hyes := Hw2
             clear hyes
             refine Hlev2.out.mono ?_
             rintro e w1' ⟨rfl, rfl⟩))
        go_wp2_with fail
        go_meet
        exact ⟨rfl, ⟨K2, Hw2.out.mono (by have := Hpow.out; omega)⟩, HkV2.out⟩
      case rest =>
        obtain ⟨rfl, ⟨K', hw'⟩, hk'⟩ := hcut
        have hck := (hw'.box (87, ck, [.map (some mk)]) (by simp)).cell 0
        simp only [List.getElem?_cons_zero] at hck
        obtain ⟨w5, hrun, hw5, hk5⟩ := hw'.put (k := i + 2) hk (by omega) (by omega)
        have hrun' : (Instr.mapUpdate 87 (.map (some mk)) (.int .i64 ((i : Int) + 2)) (.int .i64 (cnt L ns (i + 2) : Nat))).run Try.prog wc = .ok () w5 := hrun
        have Hf : Hid (CP L B g bf bp mk (countX g mk ck cs cw) w ns np M (C + (2 ^ (d + 1 + 1) - 2)) (i + 2) (.returned (.int .i64 (cnt L ns (i + 2) : Nat))) w5) :=
          hide ⟨rfl, ⟨_, hw5.mono (by omega)⟩, only_trans (only_trans (only_below HbV.out _) hk') hk5⟩
        clear hw5 hk5 hrun hw' hk' hd1 hd2 hd3 hcs hcw
        go_wp2
        go_ret
        exact Hf.out
end Go.Proofs.Ytgenpcokpodhkaa
namespace Go.Proofs.Ytgenpcokpodhkaa
open Go.RowKit Go.Maps

theorem CountStart {w : World} {L B g bf bp C : Nat} {ns : List BN} (h : St L B g bf bp w ns C) :
    ∀ V, V = (((w.alloc (.cells #[.pointer (some ⟨g, 0, none⟩)] 62)).alloc (.map #[] 0)).alloc (.cells #[.map (some (w.heap.size + 1))] 87)).alloc (.cells #[.func (Fn.func 68) #[] #[.pointer (some ⟨w.heap.size + 1 + 1, 0, none⟩), .pointer (some ⟨w.heap.size, 0, none⟩), .pointer (some ⟨w.heap.size + 1 + 1 + 1, 0, none⟩)]] 74) →
      (∃ np M, CAt L B g bf bp (w.heap.size + 1) (countX g (w.heap.size + 1) (w.heap.size + 1 + 1) w.heap.size (w.heap.size + 1 + 1 + 1)) V ns np M 0 (fun _ => none)) ∧ Below w.heap.size w V := by
  intro V hV
  have h4 : Below w.heap.size w V := by
    rw [hV]
    exact (below_three w _ _ _).alloc (by simp only [World.size_alloc]; omega) _
  have b0 : Blk 62 V w.heap.size [.pointer (some ⟨g, 0, none⟩)] := by
    rw [hV]
    exact (((Blk.new w _ [.pointer (some ⟨g, 0, none⟩)]).alloc _).alloc _).alloc _
  have hmap : Known V (w.heap.size + 1) 0 (fun _ => none) := by
    have := MapAt.made (w.alloc (.cells #[.pointer (some ⟨g, 0, none⟩)] 62)) Try.prog 3 3 encI
    simp only [World.size_alloc] at this
    rw [hV]
    exact (this.alloc _).alloc _
  have bk : Blk 87 V (w.heap.size + 1 + 1) [.map (some (w.heap.size + 1))] := by
    have := Blk.new ((w.alloc (.cells #[.pointer (some ⟨g, 0, none⟩)] 62)).alloc (.map #[] 0)) 87 [.map (some (w.heap.size + 1))]
    simp only [World.size_alloc] at this
    rw [hV]
    exact this.alloc _
  have bw : Blk 74 V (w.heap.size + 1 + 1 + 1) [.func (Fn.func 68) #[] #[.pointer (some ⟨w.heap.size + 1 + 1, 0, none⟩), .pointer (some ⟨w.heap.size, 0, none⟩), .pointer (some ⟨w.heap.size + 1 + 1 + 1, 0, none⟩)]] := by
    have := Blk.new (((w.alloc (.cells #[.pointer (some ⟨g, 0, none⟩)] 62)).alloc (.map #[] 0)).alloc (.cells #[.map (some (w.heap.size + 1))] 87)) 74 [.func (Fn.func 68) #[] #[.pointer (some ⟨w.heap.size + 1 + 1, 0, none⟩), .pointer (some ⟨w.heap.size, 0, none⟩), .pointer (some ⟨w.heap.size + 1 + 1 + 1, 0, none⟩)]]
    simp only [World.size_alloc] at this
    rw [hV]
    exact this
  obtain ⟨_, ok, np, M, _, c4, _⟩ := h
  have c5 := c4.keep h4
  obtain ⟨es, cl, hm⟩ := hmap.isMap
  refine ⟨⟨np, M, c5, ok, fun x hx => ?_, ⟨0, by omega, hmap⟩, c5.free_map hm (by have := c4.found.lt; omega) (by have := c4.pairs.lt; omega), fun k c hc => by cases hc⟩, h4⟩
  simp only [List.mem_cons, List.not_mem_nil, or_false] at hx
  rcases hx with rfl | rfl | rfl
  · exact bk
  · exact b0
  · exact bw

set_option maxHeartbeats 1600000 in
theorem Count_ct {L B g bf bp : Nat} {w : World} {ns : List BN} {C a : Nat} (h : St L B g bf bp w ns C) (ha : a < ns.length + 2) :
    Calls Try.prog 56 #[.pointer (some ⟨g, 0, none⟩), .int .i64 a] w (Gives w (.int .i64 (count L ns a : Nat))) := by
  have hm1 := fun w => run_makeMap (P := Try.prog) 87 w
  have hlow := h.low
  have hlv := lvl_le h.ok a
  have hp := pow_le hlow
  have hc1 : cnt L ns a ≤ 16777216 := Nat.le_trans (cnt_le a) (Nat.le_trans (Nat.pow_le_pow_right (by omega) (show L - lvl L ns a ≤ 24 by omega)) (by decide))
  have hx1 : cnt L ns a * 2 ^ lvl L ns a ≤ 16777216 * 16777216 := Nat.mul_le_mul hc1 (Nat.le_trans (Nat.pow_le_pow_right (by omega) (show lvl L ns a ≤ 24 by omega)) (by decide))
  have hwr : IntKind.i64.wrap ((cnt L ns a : Int) * 2 ^ lvl L ns a) = (count L ns a : Nat) := by
    have h2 : (cnt L ns a : Int) * 2 ^ lvl L ns a = ((count L ns a : Nat) : Int) := by simp [count]
    rw [h2]
    exact IntWalk.i64_in _ (by unfold count; omega)
  have Hwr := hide hwr
  have hz3 := CountStart h
  have Hz := hide hz3
  clear hz3 h hx1 hc1 hwr
  go_enter Try.func56, Try.ntmps56
  go_wp2_with fail
  obtain ⟨V, hV⟩ : ∃ V, V = (((w.alloc (.cells #[.pointer (some ⟨g, 0, none⟩)] 62)).alloc (.map #[] 0)).alloc (.cells #[.map (some (w.heap.size + 1))] 87)).alloc (.cells #[.func (Fn.func 68) #[] #[.pointer (some ⟨w.heap.size + 1 + 1, 0, none⟩), .pointer (some ⟨w.heap.size, 0, none⟩), .pointer (some ⟨w.heap.size + 1 + 1 + 1, 0, none⟩)]] 74) := ⟨_, rfl⟩
  rw [← hV]
  obtain ⟨⟨np, M, hw⟩, hbV⟩ := Hz.out V hV
  have hcs := (hw.box (62, w.heap.size, [.pointer (some ⟨g, 0, none⟩)]) (by simp)).cell 0
  have hcw := (hw.box (74, w.heap.size + 1 + 1 + 1, [.func (Fn.func 68) #[] #[.pointer (some ⟨w.heap.size + 1 + 1, 0, none⟩), .pointer (some ⟨w.heap.size, 0, none⟩), .pointer (some ⟨w.heap.size + 1 + 1 + 1, 0, none⟩)]]) (by simp)).cell 0
  have hlw := (hw.box (74, w.heap.size + 1 + 1 + 1, [.func (Fn.func 68) #[] #[.pointer (some ⟨w.heap.size + 1 + 1, 0, none⟩), .pointer (some ⟨w.heap.size, 0, none⟩), .pointer (some ⟨w.heap.size + 1 + 1 + 1, 0, none⟩)]]) (by simp)).lt
  simp only [List.getElem?_cons_zero] at hcs hcw hlw
  have Hw := hide hw
  have HbV := hide hbV
  clear hV Hz hw hbV
  go_cut [4] (fun s4 wc => s4 = .int .i64 (count L ns a : Nat) ∧ Below w.heap.size w wc)
  case first =>
    go_region_held3 (fun w' => w'.cell? ⟨w.heap.size, 0, none⟩ = some (.pointer (some ⟨g, 0, none⟩)) ∧ w'.cell? ⟨w.heap.size + 1 + 1 + 1, 0, none⟩ = some (.func (Fn.func 68) #[] #[.pointer (some ⟨w.heap.size + 1 + 1, 0, none⟩), .pointer (some ⟨w.heap.size, 0, none⟩), .pointer (some ⟨w.heap.size + 1 + 1 + 1, 0, none⟩)])) (first | go_keep) (first
      | (go_at_call 68
         refine (CountWalk_ct L a _ 0 _ (Nat.sub_le _ _) ha (by omega) (Hw.out.keep (Below.refl V.heap.size V).drew)).mono ?_
         rintro e w1 ⟨rfl, ⟨K1, hw1⟩, hk1⟩
         have he4 := (hw1.box (62, w.heap.size, [.pointer (some ⟨g, 0, none⟩)]) (by simp)).cell 0
         have he5 := (hw1.box (74, w.heap.size + 1 + 1 + 1, [.func (Fn.func 68) #[] #[.pointer (some ⟨w.heap.size + 1 + 1, 0, none⟩), .pointer (some ⟨w.heap.size, 0, none⟩), .pointer (some ⟨w.heap.size + 1 + 1 + 1, 0, none⟩)]]) (by simp)).cell 0
         simp only [List.getElem?_cons_zero] at he4 he5
         have Hlev := hide (level_ct hw1.st ha)
         have Hk1 := hide (below_only HbV.out (only_trans (only_below (Below.refl V.heap.size V).drew (some (w.heap.size + 1))) hk1) HbV.out.size (by omega))
         clear hw1 hk1)
      | (go_at_call 67
         refine Hlev.out.mono ?_
         rintro e w1' ⟨rfl, rfl⟩))
    go_wp2_with fail
    go_meet
    exact ⟨by rw [Hwr.out], Hk1.out⟩
  case rest =>
    obtain ⟨rfl, hb⟩ := hcut
    have Hb := hide hb
    clear hb hcs hcw
    go_wp2
    go_ret
    exact ⟨rfl, Hb.out⟩
end Go.Proofs.Ytgenpcokpodhkaa
