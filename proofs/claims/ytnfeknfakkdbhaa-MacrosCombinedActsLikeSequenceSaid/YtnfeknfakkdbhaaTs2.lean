/- A plan executed by the package strips: the states that it reaches. -/
import Derived.Test.YtnfeknfakkdbhaaTs1
namespace Go.Proofs.Ytnfeknfakkdbhaa
set_option linter.unusedVariables false
set_option linter.unusedSimpArgs false
open Go.RowKit

theorem rowInfoT : (Try.prog.info? 22).map (fun i => (i.zero, i.size, i.bytes)) = some (some (.slice none 0 0), 1, 24) := by kernel_rfl
/-- rows that a call has made: they read so whatever happens to blocks that were there before -/
def RowsP (w : World) (rs : List (List Int)) (e : Ending) (w' : World) : Prop :=
  Below w.heap.size w w' ∧ ∃ (A : Option Addr) (c : Nat), e = .returned (.slice A rs.length c) ∧ ∀ w'', Chg (fun b => b < w.heap.size) w' w'' → Rd (Enc.sl Enc.int) w'' A rs.length c rs
theorem own_fresh {w : World} {B : Nat} {t : TypeId} {size n : Nat} {us : List Value} (hB : B ≤ w.heap.size) (hn : n ≤ 1000000) (hl : us.length = n * size) : (w.alloc (.cells us.toArray t)).ownsRow B t size (.slice (some ⟨w.heap.size, 0, none⟩) n n) n us :=
  ⟨hl, .inr ⟨w.heap.size, n, us.toArray, rfl, hB, Blk.new w t us, Nat.le_refl _, by unfold maxLen; omega, by simpa using hl, by simp; exact List.take_of_length_le (by omega)⟩⟩
/-- one element alone -/
theorem OwnE.one {α : Type} {E : Enc α} {t : TypeId} {B : Nat} {M : Nat → Prop} {w : World} {us : List Value} {x : α} (hB : B ≤ w.heap.size) (hf : Firm E M w us x) (hM : ∀ i, i < w.heap.size + 1 → M i → i < w.heap.size ∨ i = w.heap.size) : OwnE E t B (fun b => M b ∨ w.heap.size ≤ b) (w.alloc (.cells us.toArray t)) (some ⟨w.heap.size, 0, none⟩) 1 1 us [x] :=
  ⟨own_fresh hB (by omega) (by rw [E.len hf.ok]; omega), rfl, fun i y hi => by
    cases i with
    | zero =>
      simp at hi
      subst hi
      exact ⟨us, fun j v hj => by simpa using hj, hf.chg (Chg.of_below ((Below.refl _ _).alloc (Nat.le_refl _) _) M)⟩
    | succ i => simp at hi⟩
theorem firm_row {w : World} {B : Nat} {t : TypeId} {M : Nat → Prop} {A : Option Addr} {n c : Nat} {l : List Int} (h : w.ownsRow B t 1 (.slice A n c) n (l.map (Value.int .i64))) (hl : l.length = n) (hr : ∀ x ∈ l, -9223372036854775808 ≤ x ∧ x ≤ 9223372036854775807) (hM : ∀ i, i < w.heap.size → M i → i < B) : Firm (Enc.sl Enc.int) M w [.slice A n c] l :=
  fun w' hc => ⟨A, n, c, rfl, RdM.own h (fun r hr e => by
    have h1 := own_base h (by rw [own_blkA]; exact hr)
    have h2 := (own_block h (by rw [own_blkA]; exact hr)).1
    have := hM r h2 e
    omega) hl hr w' hc⟩
theorem set_ints {N : Nat} {l : List Int} (h : setB N l = true) (hN : N ≤ 1000) : ∀ x ∈ l, -9223372036854775808 ≤ x ∧ x ≤ 9223372036854775807 := fun x hx => by
  have := (setB_iff.1 h).2 x hx
  omega
/-- the rows of Run, and what else may change -/
def RunM (B : Nat) (w : World) (O : Option Addr) : Nat → Prop := fun b => blkA O = some b ∨ b < B ∨ w.heap.size ≤ b
set_option maxRecDepth 100000 in
set_option maxHeartbeats 3200000 in
theorem Run_ct (a : TA) (T : Tsk) (N : Nat) (P : Option Addr) (np dp : Nat) (s : List Int) (B : Option Addr) (m d : Nat) (l : List Int) (w : World) (h : TkR w a T) (hs : Rd Enc.int w P np dp s) (hl : Rd Enc.int w B m d l)
    (hos : ∀ o ∈ T.ops, setB N o.pre = true ∧ setB N o.add = true ∧ setB N o.del = true) (hN : N ≤ 1000) (hset : setB N s = true) (hr : ∀ x ∈ l, 0 ≤ x ∧ x < T.ops.length) (hm : m ≤ 1000000) :
    Calls Try.prog 81 #[.agg #[.int .i64 T.facts, .slice a.I a.nI a.cI, .slice a.G a.nG a.cG, .slice a.O a.nO a.cO], .slice P np dp, .slice B m d] w (RowsP w (runF T.ops s l)) := by
  have hcan := fun B m d l q w h hl hs hq => Can_ct a T N B m d l q w h hl hos hN hs hq
  have hnext := fun B m d l q w h hl hs hq => Next_ct a T N B m d l q w h hl hos hN hs hq
  obtain ⟨i1, hi1, hy0, hy1, hy2⟩ := info_parts rowInfoT
  obtain ⟨I, nI, cI, G, nG, cG, O, nO, cO⟩ := a
  simp only at hcan hnext ⊢
  have hlO := h.ops.len
  have hlow := h.ops.low
  have hlm := hl.low
  simp only at hlO hlow
  have Hcan := hide hcan
  have Hnext := hide hnext
  have H := hide h
  have Hl := hide hl
  have Hll := hide hl.len
  have Hs := hide hs
  have HlO := hide hlO
  have Hr := hide hr
  have Hset := hide hset
  have Hos := hide hos
  clear hcan hnext h hl hlO hs hr hset hos
  have Hbl := hide (Below.refl w.heap.size w)
  go_enter Try.func81, Try.ntmps81
  go_upto_region 1 with (fail)
  obtain ⟨B0, hB0⟩ : ∃ B0, B0 = w.heap.size := ⟨_, rfl⟩
  have HB0 := hide hB0
  clear hB0
  have s_0 : B0 ≤ w.heap.size := Nat.le_trans (Nat.le_of_eq HB0.out) Hbl.out.size
  have hyt := Blk.new (w) 25 [.int .i64 T.facts, .slice I nI cI, .slice G nG cG, .slice O nO cO]
  have hbW : Below (w).heap.size (w) ((w).alloc (.cells #[.int .i64 T.facts, .slice I nI cI, .slice G nG cG, .slice O nO cO] 25)) := (Below.refl _ _).alloc (Nat.le_refl _) _
  obtain ⟨w0, hW⟩ : ∃ W, W = (w).alloc (.cells #[.int .i64 T.facts, .slice I nI cI, .slice G nG cG, .slice O nO cO] 25) := ⟨_, rfl⟩
  rw [← hW] at hyt hbW ⊢
  replace Hbl := hide (Hbl.out.trans (hbW.mono Hbl.out.size))
  have Ht := hide hyt
  clear hW hbW hyt
  generalize w.heap.size = gT at Ht s_0 ⊢
  have t0 := Ht.out.cell 0
  have t1 := Ht.out.cell 1
  have t2 := Ht.out.cell 2
  have t3 := Ht.out.cell 3
  have tl := Ht.out.lt
  simp only [List.getElem?_cons_zero, List.getElem?_cons_succ] at t0 t1 t2 t3
  have a_t : B0 ≤ gT := by omega
  clear s_0
  obtain ⟨B1, hB1⟩ : ∃ B1, B1 = gT + 1 := ⟨_, rfl⟩
  have hBg : gT < B1 := by omega
  have hB01 : B0 ≤ B1 := by omega
  have hsz0 : B1 ≤ w0.heap.size := by omega
  clear hB1
  have hnp := setB_len Hset.out
  rw [Hs.out.len] at hnp
  go_wp2_with fail
  have hct := CloneI_ct P np dp s w0 (Hs.out.keep Hbl.out) (by omega)
  with_reducible refine hct.mono ?_
  rintro e w1 ⟨hb, A1, c1, rfl, hown⟩
  clear t0 t1 t2 t3 tl
  replace Ht := hide (Ht.out.keep hb)
  have hsz01 := hb.size
  replace Hbl := hide (Hbl.out.trans (hb.mono Hbl.out.size))
  have hf1 := firm_row (M := RunM B1 w1 none) hown Hs.out.len (set_ints Hset.out hN) (fun i hi e => by
    rcases e with e | e | e
    · cases e
    · omega
    · omega)
  have Hf1 := hide hf1
  clear hb hct hown hf1
  have t0 := Ht.out.cell 0
  have t1 := Ht.out.cell 1
  have t2 := Ht.out.cell 2
  have t3 := Ht.out.cell 3
  have tl := Ht.out.lt
  simp only [List.getElem?_cons_zero, List.getElem?_cons_succ] at t0 t1 t2 t3
  go_upto_region 2 with (fail)
  have hsz1 : B1 ≤ w1.heap.size := by omega
  have ho1 := OwnE.one (t := 22) (B := B1) hsz1 Hf1.out (fun i hi e => by omega)
  obtain ⟨g1, hg1⟩ : ∃ g, g = w1.heap.size := ⟨_, rfl⟩
  have hbW : Below w1.heap.size w1 (w1.alloc (.cells #[.slice A1 np c1] 22)) := (Below.refl _ _).alloc (Nat.le_refl _) _
  have ho2 : OwnE (Enc.sl Enc.int) 22 B1 (RunM B1 (w1.alloc (.cells #[.slice A1 np c1] 22)) (some ⟨g1, 0, none⟩)) (w1.alloc (.cells #[.slice A1 np c1] 22)) (some ⟨g1, 0, none⟩) 1 1 [.slice A1 np c1] [s] := by
    rw [hg1]
    exact ho1.less (fun i hi e => by
      simp only [World.size_alloc] at hi
      rcases e with e | e | e
      · have : w1.heap.size = i := by simpa [blkA] using e
        exact .inr (by omega)
      · exact .inl (.inr (.inl e))
      · simp only [World.size_alloc] at e
        omega)
  rw [← hg1]
  obtain ⟨w2, hW⟩ : ∃ W, W = w1.alloc (.cells #[.slice A1 np c1] 22) := ⟨_, rfl⟩
  rw [← hW] at ho2 hbW ⊢
  clear t0 t1 t2 t3 tl
  replace Ht := hide (Ht.out.keep hbW)
  replace Hbl := hide (Hbl.out.trans (hbW.mono Hbl.out.size))
  have Hrow := hide ho2
  have hgb : B1 ≤ g1 := by omega
  have hsz12 : w1.heap.size ≤ w2.heap.size := by rw [hW]; simp
  clear hW hbW ho1 ho2 hg1 Hf1
  have t0 := Ht.out.cell 0
  have t1 := Ht.out.cell 1
  have t2 := Ht.out.cell 2
  have t3 := Ht.out.cell 3
  have tl := Ht.out.lt
  simp only [List.getElem?_cons_zero, List.getElem?_cons_succ] at t0 t1 t2 t3
  have hsz2 : B1 ≤ w2.heap.size := by omega
  go_wp2_with fail
  clear t0 t1 t2 t3 tl
  have Hst := hide (show runF T.ops s l = [s] ++ runT s ((l.drop 0).map (opAt T.ops)) from rfl)
  have Hcur := hide (show RdM (fun b => B0 ≤ b) w2 P np dp s from fun w' hc => (Hs.out.keep Hbl.out).keep ((Below.refl _ _)) |> fun _ => Hs.out.keep (Hbl.out.trans (hc.below (B := w.heap.size) (fun i e => by have := HB0.out; omega) Hbl.out.size)))
  go_loopw [1, 7, 15] (fun sv ov i wr => ∃ (k : Nat) (s' : List Int) (P' : Option Addr) (np' dp' : Nat) (O' : Option Addr) (oc : Nat) (vs : List Value) (rs : List (List Int)), k ≤ m ∧ i = .int .i64 k ∧ sv = .slice P' np' dp' ∧ ov = .slice O' (k + 1) oc ∧
    OwnE (Enc.sl Enc.int) 22 B1 (RunM B1 wr O') wr O' (k + 1) oc vs rs ∧ RdM (fun b => blkA O' = some b ∨ wr.heap.size ≤ b) wr P' np' dp' s' ∧ setB N s' = true ∧ Below w.heap.size w wr ∧ B1 ≤ wr.heap.size ∧ Blk 25 wr gT [.int .i64 T.facts, .slice I nI cI, .slice G nG cG, .slice O nO cO] ∧ runF T.ops s l = rs ++ runT s' ((l.drop k).map (opAt T.ops))) (fun _ _ i _ => m - (intOf i).toNat)
  case atStart => exact ⟨0, s, P, np, dp, _, 1, _, [s], by omega, rfl, rfl, rfl, Hrow.out, Hcur.out.mono (fun i hi e => by
    rcases e with e | e
    · have : g1 = i := by simpa [blkA] using e
      show B0 ≤ i
      omega
    · show B0 ≤ i
      omega), Hset.out, Hbl.out, hsz2, Ht.out, Hst.out⟩
  case round =>
    clear Hst Hcur Hrow Ht Hbl
    obtain ⟨k, s', P', np', dp', O', oc, vs, rs, hk, rfl, rfl, rfl, hown, hcur, hset', hbl, hbr, ht, hst⟩ := hrel
    have Hown := hide hown
    have Hcur := hide hcur
    have Hset' := hide hset'
    have Hbl := hide hbl
    have Ht := hide ht
    have Hst := hide hst
    clear hown hcur hset' hbl ht hst
    have t0 := Ht.out.cell 0
    have t1 := Ht.out.cell 1
    have t2 := Ht.out.cell 2
    have t3 := Ht.out.cell 3
    have tl := Ht.out.lt
    simp only [List.getElem?_cons_zero, List.getElem?_cons_succ] at t0 t1 t2 t3
    have hszr : B1 ≤ wr.heap.size := hbr
    by_cases hlt : k < m
    · obtain ⟨b, off, x, rfl, hx, hx1, hx2, hcx⟩ := (Hl.out.keep Hbl.out).int hlt
      have hxr := Hr.out x (List.mem_of_getElem? hx)
      obtain ⟨q, rfl⟩ : ∃ q : Nat, x = (q : Int) := ⟨x.toNat, by omega⟩
      have hq : q < nO := by have := HlO.out; omega
      have hdrop := drop_cons hx
      have Hdrop := hide hdrop
      clear hx hxr hdrop
      have hct := Hcan.out P' np' dp' s' q wr (H.out.keep Hbl.out) Hcur.out.rd Hset'.out hq
      go_wp2_with fail
      with_reducible refine hct.mono ?_
      rintro e w3 ⟨rfl, hb⟩
      clear hct hcx t0 t1 t2 t3 tl
      replace Ht := hide (Ht.out.keep hb)
      replace Hown := hide ((Hown.out.keep hb).less (M' := RunM B1 w3 O') (fun i hi e => by
        have := hb.size
        rcases e with e | e | e
        · exact .inl e
        · exact .inr (.inl e)
        · omega))
      replace Hcur := hide ((Hcur.out.keep hb).mono (M' := fun b => blkA O' = some b ∨ w3.heap.size ≤ b) (fun i hi e => by
        have := hb.size
        rcases e with e | e
        · exact .inl e
        · omega))
      replace Hbl := hide (Hbl.out.trans (hb.mono Hbl.out.size))
      have hsz3 : B1 ≤ w3.heap.size := by have := hb.size; omega
      clear hb
      have t0 := Ht.out.cell 0
      have t1 := Ht.out.cell 1
      have t2 := Ht.out.cell 2
      have t3 := Ht.out.cell 3
      have tl := Ht.out.lt
      simp only [List.getElem?_cons_zero, List.getElem?_cons_succ] at t0 t1 t2 t3
      cases hcan : subsetB (opAt T.ops q).pre s' with
      | false =>
        have hend : runF T.ops s l = rs := by
          rw [Hst.out, Hdrop.out, List.map_cons]
          conv => lhs; rhs; unfold runT
          rw [if_neg (by rw [hcan]; simp), List.append_nil]
        have hlen := Hown.out.len
        have Hend := hide hend
        have Hlen := hide hlen
        clear hend hlen hcan
        go_wp2_with fail
        go_ret
        rw [Hend.out]
        refine ⟨Hbl.out, O', oc, by rw [Hlen.out]; rfl, fun w'' hc => ?_⟩
        rw [Hlen.out]
        exact (Hown.out.chg hc (fun i e => .inr (.inl (by have := HB0.out; omega))) (fun r hr e => by have := (Hown.out.base hr).1; have := HB0.out; omega)).rd
      | true =>
        have Hcan' := hide hcan
        clear hcan
        have hct := Hnext.out P' np' dp' s' q w3 (H.out.keep Hbl.out) Hcur.out.rd Hset'.out hq
        go_wp2_with fail
        with_reducible refine hct.mono ?_
        rintro e w4 ⟨hb, A2, c2, rfl, hown2⟩
        clear hct t0 t1 t2 t3 tl
        have hop := Hos.out (opAt T.ops q) (opAt_mem (by omega) (by have := HlO.out; omega))
        have hset2 : setB N (updF s' (opAt T.ops q).add (opAt T.ops q).del) = true := updF_set (setB_iff.1 Hset'.out).2 (setB_iff.1 hop.2.1).2
        have hnext2 : runF T.ops s l = (rs ++ [updF s' (opAt T.ops q).add (opAt T.ops q).del]) ++ runT (updF s' (opAt T.ops q).add (opAt T.ops q).del) ((l.drop (k + 1)).map (opAt T.ops)) := by
          rw [Hst.out, Hdrop.out, List.map_cons]
          conv => lhs; rhs; unfold runT
          rw [if_pos Hcan'.out, List.append_assoc]
          rfl
        generalize updF s' (opAt T.ops q).add (opAt T.ops q).del = s2 at hown2 hset2 hnext2 ⊢
        have hsz34 := hb.size
        replace Ht := hide (Ht.out.keep hb)
        have hO3 : ∀ r, blkA O' = some r → r < w3.heap.size := fun r hr => (Hown.out.base hr).2
        replace Hown := hide ((Hown.out.keep hb).less (M' := RunM B1 w4 O') (fun i hi e => by
          rcases e with e | e | e
          · exact .inl e
          · exact .inr (.inl e)
          · omega))
        have hf2 := firm_row (M := RunM B1 w4 O') hown2 rfl (set_ints hset2 hN) (fun i hi e => by
          rcases e with e | e | e
          · exact hO3 i e
          · omega
          · omega)
        have hcur2 := RdM.own (M := fun b => blkA O' = some b ∨ w4.heap.size ≤ b) hown2 (fun r hr e => by
          have h1 := own_base hown2 (by rw [own_blkA]; exact hr)
          have h2 := (own_block hown2 (by rw [own_blkA]; exact hr)).1
          rcases e with e | e
          · have := hO3 r e
            omega
          · omega) rfl (set_ints hset2 hN)
        replace Hbl := hide (Hbl.out.trans (hb.mono Hbl.out.size))
        have hsz4 : B1 ≤ w4.heap.size := by omega
        have Hf2 := hide hf2
        have Hcur2 := hide hcur2
        have Hset2 := hide hset2
        have Hnext2 := hide hnext2
        have hmle : s2.length ≤ 1000 := by have := setB_len hset2; omega
        clear hown2 hb hf2 hcur2 hset2 hnext2 hop Hst Hcur hO3
        have t0 := Ht.out.cell 0
        have tl := Ht.out.lt
        simp only [List.getElem?_cons_zero] at t0
        generalize s2.length = nn at Hf2 Hcur2 hmle ⊢
        go_wp2_with
          (at_builtin
           refine wpList_pushE rfl _ _ 40 rfl B1 22 i1 _ 24 Try.underlying40 hi1 hy0 hy1 hy2 rfl (by decide) rfl Hown.out (fun r hr => .inl hr) [.slice A2 nn c2] s2 (by intro u hu; simp at hu; subst hu; rfl) rfl Hf2.out (by omega) (by omega) hsz4 ?_
           intro O6 oc6 w6 hown6 hch6 hat6
           have hne6 : ∀ i, blkA O' = some i → B1 ≤ i := fun i e => (Hown.out.base e).1
           have hsz6 := hch6.size
           have hown7 := hown6.less (M' := RunM B1 w6 O6) (fun i hi e => by
             rcases e with e | e | e
             · rcases hat6 with hat6 | hat6
               · exact .inl (.inl (by rw [← hat6]; exact e))
               · rw [hat6] at e
                 injection e with e
                 exact .inr (by omega)
             · exact .inl (.inr (.inl e))
             · omega)
           have hcur6 := RdM.mono (M' := fun b => blkA O6 = some b ∨ w6.heap.size ≤ b) (show RdM (fun b => (blkA O' = some b ∨ w4.heap.size ≤ b)) w6 A2 nn c2 s2 from Hcur2.out.chg (hch6.mono fun b e => .inl e)) (fun i hi e => by
             rcases e with e | e
             · rcases hat6 with hat6 | hat6
               · exact .inl (by rw [← hat6]; exact e)
               · rw [hat6] at e
                 injection e with e
                 exact .inr (by omega)
             · omega)
           have hbl6 := Hbl.out.trans (hch6.below (B := w.heap.size) (fun i e => by have := hne6 i e; have := HB0.out; omega) Hbl.out.size)
           have ht6 := hch6.blk Ht.out (fun e => by have h9 := (Hown.out.base e).1; omega)
           have Hown6 := hide hown7
           have Hcur6 := hide hcur6
           have Hbl6 := hide hbl6
           have Ht6 := hide ht6
           clear hown6 hch6 hat6 hne6 hown7 hcur6 hbl6 ht6 t0 tl)
        go_roundw
        case rel => exact ⟨k + 1, s2, A2, nn, c2, O6, oc6, _, _, by omega, by go_num, rfl, rfl, Hown6.out, Hcur6.out, Hset2.out, Hbl6.out, by omega, Ht6.out, Hnext2.out⟩
        case measure => simp [intOf]; omega
    · obtain rfl : k = m := by omega
      have hend : runF T.ops s l = rs := by
        rw [Hst.out, List.drop_of_length_le (by rw [Hll.out]; omega)]
        simp [runT]
      have hlen := Hown.out.len
      have Hend := hide hend
      have Hlen := hide hlen
      clear hend hlen
      go_wp2_with fail
      go_ret
      rw [Hend.out]
      refine ⟨Hbl.out, O', oc, by rw [Hlen.out]; rfl, fun w'' hc => ?_⟩
      rw [Hlen.out]
      exact (Hown.out.chg hc (fun i e => .inr (.inl (by have := HB0.out; omega))) (fun r hr e => by have := (Hown.out.base hr).1; have := HB0.out; omega)).rd
end Go.Proofs.Ytnfeknfakkdbhaa
