/- What the law asks for, part 37: Store9. -/
import Derived.Test.YtmjiiddncbhgpaaGreatE1
import Derived.Test.YtmjiiddncbhgpaaGreatE3
import Derived.Test.YtmjiiddncbhgpaaGreatE27
import Derived.Test.YtmjiiddncbhgpaaGreatE28
import Derived.Test.YtmjiiddncbhgpaaGreatE29
import Derived.Test.YtmjiiddncbhgpaaGreatE35
import Derived.Test.YtmjiiddncbhgpaaGreatE36
import Derived.BigQuiet
import Derived.Deep.AppendLies
import Derived.Deep.DeepCutAuto
import Derived.Deep.Draws
import Derived.Deep.Fields
import Derived.Deep.LoopGhost
import Derived.Deep.QuietTactic
import Derived.Deep.RegionHeld3
import Derived.Deep.RegionLaw
import Derived.Deep.Slices
import Derived.DeepKeys4
import Derived.Laws.AppendOwnNone
import Derived.Laws.EntriesVeiled
import Derived.Laws.OwnMore
import Derived.Lib.Hide
import Derived.Maps.AppendAt
import Derived.Maps.OwnOps
import Derived.Maps.OwnSet
import Derived.ProofKit
import Derived.Test.YtmjiiddncbhgpaaGreatProg
import Derived.WalkKit
import Init
namespace Go.Proofs.YtmjiiddncbhgpaaGreat
open Go.RowKit Go.Maps
section
variable {φ : Fun → Fun} {L B g bf bp mk : Nat} {X : List (TypeId × Nat × List Value)} {w : World} {ns : List BN} {C : Nat} {K : Nat → Option Int}
/-- 'known[k]', in every world with the same map -/
theorem NAt.looks (h : NAt φ L B g bf bp mk X w ns C K) {k : Nat} (hk : k < 9223372036854775807) : ∃ fc : Int, (Instr.lookup 218 (.map (some mk)) (.int .i64 (k : Int)) true).run Tryz.prog w = .ok (.tuple #[.int .i64 fc, .bool (K k).isSome]) w ∧
    (-9223372036854775808 ≤ fc ∧ fc ≤ 9223372036854775807) ∧ ∀ c', K k = some c' → fc = c' := by
  obtain ⟨n, hn, hmap⟩ := h.map
  obtain ⟨fc, hlook, hfc, hfM⟩ := hmap.looks lawI Tryz.underlying218 Tryz.underlying3 zeroI (keyI (k := k) (by omega))
  exact ⟨fc, hlook w rfl, hfc, hfM⟩
end
/-- what the new node means -/
theorem join_mean {φ : Fun → Fun} {L v i l h' k1 k2 k3 : Nat} {ns ms1 ms2 ms3 : List BN} (hs : Sides φ v) (ok : OkD L ns) (ok1 : OkD L (ns ++ ms1)) (hn : ns[i]? = some (v, l, h')) (hl1 : k1 < (ns ++ ms1).length + 2) (hq1 : ∀ s, sem (ns ++ ms1) k1 s = φ (sem ns l) s)
    (hq2 : ∀ s, sem (ns ++ ms1 ++ ms2) k2 s = φ (sem (ns ++ ms1) h') s) (hq3 : ∀ s, sem (ns ++ ms1 ++ ms2 ++ ms3) k3 s = if s v = true then sem (ns ++ ms1 ++ ms2) k2 s else sem (ns ++ ms1 ++ ms2) k1 s) : ∀ s, sem (ns ++ ms1 ++ ms2 ++ ms3) k3 s = φ (sem ns (i + 2)) s := by
  intro s
  obtain ⟨b1, b2, b3, b4, b5, b6⟩ := ok.node i v l h' hn
  have hi : i < ns.length := (List.getElem?_eq_some_iff.1 hn).1
  rw [hq3, hq2, sem_add ok1 _ hl1, hq1, sem_add' ok _ (show h' < ns.length + 2 by omega), hs (sem ns (i + 2)) (sem ns l) (sem ns h') (fun s => sem_node ok hn s) (fun s b => sem_set ok (by omega) b5 s b) (fun s b => sem_set ok (by omega) b6 s b)]

abbrev notX (g mk ck cs cw : Nat) : List (TypeId × Nat × List Value) :=
  [(218, ck, [.map (some mk)]), (74, cs, [.pointer (some ⟨g, 0, none⟩)]),
   (146, cw, [.func (Fn.func 134) #[] #[.pointer (some ⟨ck, 0, none⟩), .pointer (some ⟨cs, 0, none⟩), .pointer (some ⟨cw, 0, none⟩)]])]

set_option maxHeartbeats 1600000 in
theorem NotKnown_ct {L B g bf bp ck cs cw mk k : Nat} {w : World} {ns : List BN} {C C' : Nat} {K : Nat → Option Int} (hC : C ≤ C') (hk : k < 9223372036854775807) (h0 : (K k).isSome = true) (hw : NAt notF L B g bf bp mk (notX g mk ck cs cw) w ns C K) :
    Calls Tryz.prog 134 #[.int .i64 k, .pointer (some ⟨ck, 0, none⟩), .pointer (some ⟨cs, 0, none⟩), .pointer (some ⟨cw, 0, none⟩)] w (NP notF L B g bf bp mk (notX g mk ck cs cw) w ns K C' k) := by
  obtain ⟨fc, hlook, hfc, hfM⟩ := hw.looks (k := k) hk
  obtain ⟨c, hc⟩ := Option.isSome_iff_exists.1 h0
  obtain ⟨m, rfl, _, hm, hq⟩ := hw.known k c hc
  obtain rfl := hfM _ hc
  rw [hc] at hlook
  have hlook' : (Instr.lookup 218 (.map (some mk)) (.int .i64 (k : Int)) true).run Tryz.prog w = .ok (.tuple #[.int .i64 (m : Int), .bool true]) w := hlook
  have hck := (hw.box (218, ck, [.map (some mk)]) (by simp)).cell 0
  simp at hck
  have Hf := hide (NP.stay (φ := notF) hw hC hm hq)
  clear hw hfM hlook hc h0 hq
  go_enter Tryz.func134, Tryz.ntmps134
  go_wp2
  go_ret
  exact Hf.out

set_option maxHeartbeats 3200000 in
set_option maxRecDepth 100000 in
theorem NotWalk_ct {L B g bf bp ck cs cw mk : Nat} : ∀ (d : Nat) (k : Nat) (w : World) (ns : List BN) (C : Nat) (K : Nat → Option Int), L - lvl L ns k ≤ d → k < ns.length + 2 → (K 0).isSome = true → (K 1).isSome = true → C + 2 ^ (d + 1) ≤ 5800000000000 → NAt notF L B g bf bp mk (notX g mk ck cs cw) w ns C K →
    Calls Tryz.prog 134 #[.int .i64 k, .pointer (some ⟨ck, 0, none⟩), .pointer (some ⟨cs, 0, none⟩), .pointer (some ⟨cw, 0, none⟩)] w (NP notF L B g bf bp mk (notX g mk ck cs cw) w ns K (C + (2 ^ (d + 1) - 2)) k) := by
  intro d
  induction d with
  | zero =>
    intro k w ns C K hd hk h0 h1 hC hw
    have hfew := hw.st.1
    have hk2 : k < 2 := by
      rcases Nat.lt_or_ge k 2 with h | h
      · exact h
      · obtain ⟨i, v, l, h', rfl, hn⟩ := node_of (ns := ns) h hk
        have := (hw.st.ok.node i v l h' hn).1
        rw [lvl_node hn] at hd
        omega
    refine NotKnown_ct (by omega) (by omega) ?_ hw
    rcases (show k = 0 ∨ k = 1 by omega) with rfl | rfl
    · exact h0
    · exact h1
  | succ d ih =>
    intro k w ns C K hd hk h0 h1 hC hw
    have hpow : 2 ^ (d + 1 + 1) = 2 ^ (d + 1) + 2 ^ (d + 1) := by rw [Nat.pow_succ]; omega
    have hpos : 2 ≤ 2 ^ (d + 1) := by rw [Nat.pow_succ]; have := Nat.two_pow_pos d; omega
    have hfew := hw.st.1
    cases hl : K k with
    | some c => exact NotKnown_ct (by omega) (by omega) (by rw [hl]; rfl) hw
    | none =>
      have hk2 : ¬ k < 2 := fun h => by
        rcases (show k = 0 ∨ k = 1 by omega) with rfl | rfl
        · rw [hl] at h0; cases h0
        · rw [hl] at h1; cases h1
      obtain ⟨i, v, l, h', rfl, hn⟩ := node_of (ns := ns) (by omega) hk
      obtain ⟨b1, b2, b3, b4, b5, b6⟩ := hw.st.ok.node i v l h' hn
      rw [lvl_node hn] at hd
      obtain ⟨fc, hlook, hfc, _⟩ := hw.looks (k := i + 2) (by omega)
      rw [hl] at hlook
      have hlook' : (Instr.lookup 218 (.map (some mk)) (.int .i64 ((i : Int) + 2)) true).run Tryz.prog w = .ok (.tuple #[.int .i64 fc, .bool false]) w := hlook
      have hst' := hw.st
      obtain ⟨_, ok, np, M, _, hst', _⟩ := hst'
      obtain ⟨r, c, hb, hn0, hn1, hn2, hi⟩ := hst'.node hn
      have hg1 := hb.cell 1
      have hbk := hw.box _ (List.mem_cons_self ..)
      have hbs := hw.box (74, cs, [.pointer (some ⟨g, 0, none⟩)]) (by simp)
      have hbw := hw.box (146, cw, [.func (Fn.func 134) #[] #[.pointer (some ⟨ck, 0, none⟩), .pointer (some ⟨cs, 0, none⟩), .pointer (some ⟨cw, 0, none⟩)]]) (by simp)
      have hck := hbk.cell 0
      have hcs := hbs.cell 0
      have hcw := hbw.cell 0
      simp at hck hcs hcw hg1
      have hlk := hbk.lt
      have hls := hbs.lt
      have hlw := hbw.lt
      simp only at hlk hls hlw
      have Hw := hide hw
      have Hih := hide ih
      have Hpow := hide hpow
      have Hn := hide hn
      have Hok := hide ok
      have H0 := hide h0
      have H1 := hide h1
      clear hw hst' ih hlook hl hb hn hpow ok h0 h1 hbk hbs hbw
      go_enter Tryz.func134, Tryz.ntmps134
      go_wp2_with fail
      obtain ⟨V, hV⟩ : ∃ V, V = w.alloc (.cells #[.int .i64 v, .int .i64 l, .int .i64 h'] 162) := ⟨_, rfl⟩
      rw [← hV]
      have hbV : Below w.heap.size w V := by rw [hV]; exact (Below.refl _ _).alloc (Nat.le_refl _) _
      have hwV := Hw.out.keep hbV
      have hfr : Free V g bf bp w.heap.size ∧ w.heap.size ≠ mk := by rw [hV]; exact Hw.out.free_new _
      have hbox : Blk 162 V w.heap.size [.int .i64 v, .int .i64 l, .int .i64 h'] := by rw [hV]; exact Blk.new _ _ _
      have hkV : Kept2 B g bf bp mk w V := (Kept.of_below hbV Hw.out.st.lt).two mk
      have hd1 := hbox.cell 0
      have hd2 := hbox.cell 1
      have hd3 := hbox.cell 2
      have hcs := (hwV.box (74, cs, [.pointer (some ⟨g, 0, none⟩)]) (by simp)).cell 0
      have hcw := (hwV.box (146, cw, [.func (Fn.func 134) #[] #[.pointer (some ⟨ck, 0, none⟩), .pointer (some ⟨cs, 0, none⟩), .pointer (some ⟨cw, 0, none⟩)]]) (by simp)).cell 0
      have hszV : w.heap.size < V.heap.size := hfr.1.1
      simp at hd1 hd2 hd3 hcs hcw
      have HwV := hide hwV
      have Hfr := hide hfr
      have Hbox := hide hbox
      have HkV := hide hkV
      clear hV hbV hwV hfr hbox hkV hck hlook' hn0 hn1 hn2 hg1
      have hlV : cs < V.heap.size ∧ cw < V.heap.size ∧ ck < V.heap.size := by omega
      obtain ⟨hls, hlw, hlk⟩ := hlV
      go_cut [6] (fun s6 wc => ∃ ms k' K', s6 = .int .i64 (k' : Nat) ∧ (∀ j, (K j).isSome = true → (K' j).isSome = true) ∧ NAt notF L B g bf bp mk (notX g mk ck cs cw) wc (ns ++ ms) (C + (2 ^ (d + 1 + 1) - 2) - 1) K' ∧ Kept2 B g bf bp mk V wc ∧ k' < (ns ++ ms).length + 2 ∧ ∀ s, sem (ns ++ ms) k' s = notF (sem ns (i + 2)) s)
      case first =>
        go_region_held3 (fun w' => w'.cell? ⟨cs, 0, none⟩ = some (.pointer (some ⟨g, 0, none⟩)) ∧ w'.cell? ⟨cw, 0, none⟩ = some (.func (Fn.func 134) #[] #[.pointer (some ⟨ck, 0, none⟩), .pointer (some ⟨cs, 0, none⟩), .pointer (some ⟨cw, 0, none⟩)]) ∧ w'.cell? ⟨w.heap.size, 0, none⟩ = some (.int .i64 v) ∧ w'.cell? ⟨w.heap.size, 1, none⟩ = some (.int .i64 l) ∧ w'.cell? ⟨w.heap.size, 2, none⟩ = some (.int .i64 h')) (first | go_keep) (first
          | (go_at_call 134
             fail_if_success (have hno := Hw1)
             refine (Hih.out l _ ns C K (by omega) (by omega) H0.out H1.out (by have := Hpow.out; omega) (HwV.out.keep (Below.refl V.heap.size V).drew)).mono ?_
             rintro e w1 ⟨ms1, k1, K1, rfl, hK1, hw1, hk1, hl1, hq1⟩
             have hkV1 := ((Kept.of_below (B := B) (g := g) (bf := bf) (bp := bp) (Below.refl V.heap.size V).drew HwV.out.st.lt).two mk).trans hk1
             have hbox1 := hkV1.blk Hbox.out Hfr.out.1 Hfr.out.2
             have he1 := hbox1.cell 0
             have he2 := hbox1.cell 1
             have he3 := hbox1.cell 2
             have he4 := (hw1.box (74, cs, [.pointer (some ⟨g, 0, none⟩)]) (by simp)).cell 0
             have he5 := (hw1.box (146, cw, [.func (Fn.func 134) #[] #[.pointer (some ⟨ck, 0, none⟩), .pointer (some ⟨cs, 0, none⟩), .pointer (some ⟨cw, 0, none⟩)]]) (by simp)).cell 0
             simp only [List.getElem?_cons_zero, List.getElem?_cons_succ] at he1 he2 he3 he4 he5
             have Hw1 := hide hw1
             have HkV1 := hide hkV1
             have Hq1 := hide hq1
             have HK1 := hide hK1
             clear hw1 hkV1 hk1 hq1 hbox1 hK1)
          | (go_at_call 134
             have hyes := Hw1
             clear hyes
             refine (Hih.out h' _ (ns ++ ms1) _ K1 (by rw [lvl_add _ (by omega)]; omega) (by have := len_more ns ms1; omega) (HK1.out _ H0.out) (HK1.out _ H1.out) (by have := Hpow.out; omega) Hw1.out).mono ?_
             rintro e w2 ⟨ms2, k2, K2, rfl, hK2, hw2, hk2, hl2, hq2⟩
             have hkV2 := HkV1.out.trans hk2
             have hbox2 := hkV2.blk Hbox.out Hfr.out.1 Hfr.out.2
             have he1 := hbox2.cell 0
             have he2 := hbox2.cell 1
             have he3 := hbox2.cell 2
             have he4 := (hw2.box (74, cs, [.pointer (some ⟨g, 0, none⟩)]) (by simp)).cell 0
             have he5 := (hw2.box (146, cw, [.func (Fn.func 134) #[] #[.pointer (some ⟨ck, 0, none⟩), .pointer (some ⟨cs, 0, none⟩), .pointer (some ⟨cw, 0, none⟩)]]) (by simp)).cell 0
             simp only [List.getElem?_cons_zero, List.getElem?_cons_succ] at he1 he2 he3 he4 he5
             have hok1 := Hw1.out.st.ok
             have hll1 := notF_dep.lvl Hok.out hok1 (show l < ns.length + 2 by omega) hl1 Hq1.out
             have hll2 := notF_dep.lvl hok1 hw2.st.ok (show h' < (ns ++ ms1).length + 2 by have := len_more ns ms1; omega) hl2 hq2
             rw [← lvl_add (L := L) ms2 hl1] at hll1
             rw [lvl_add ms1 (show h' < ns.length + 2 by omega)] at hll2
             have hl12 : k1 < (ns ++ ms1 ++ ms2).length + 2 := by have := len_more (ns ++ ms1) ms2; omega
             have Hok1 := hide hok1
             have Hw2 := hide hw2
             have HkV2 := hide hkV2
             have Hq2 := hide hq2
             have HK2 := hide hK2
             clear hw2 hkV2 hk2 hq2 hbox2 hK2 hok1)
          | (go_at_call 86
             refine (Node_st Hw2.out.st b1 hl12 hl2 (by omega) (by omega) (by have := Hpow.out; omega)).mono ?_
             rintro e w3 ⟨ms3, k3, rfl, hst3, hk3, hl3, hq3, _⟩
             have hkV3 := HkV2.out.trans (hk3.two mk)
             have hbox3 := hkV3.blk Hbox.out Hfr.out.1 Hfr.out.2
             have hw3 := Hw2.out.store hst3 hk3 (by omega)
             have he1 := hbox3.cell 0
             have he2 := hbox3.cell 1
             have he3 := hbox3.cell 2
             have he4 := (hw3.box (74, cs, [.pointer (some ⟨g, 0, none⟩)]) (by simp)).cell 0
             have he5 := (hw3.box (146, cw, [.func (Fn.func 134) #[] #[.pointer (some ⟨ck, 0, none⟩), .pointer (some ⟨cs, 0, none⟩), .pointer (some ⟨cw, 0, none⟩)]]) (by simp)).cell 0
             simp only [List.getElem?_cons_zero, List.getElem?_cons_succ] at he1 he2 he3 he4 he5
             have hmean := join_mean (notF_sides v) Hok.out Hok1.out Hn.out hl1 Hq1.out Hq2.out hq3
             have Hw3 := hide hw3
             have HkV3 := hide hkV3
             have Hmean := hide hmean
             have Hl3 := hide hl3
             clear hw3 hkV3 hk3 hq3 hbox3 hst3 hmean hl3))
        go_wp2_with fail
        go_meet
        refine ⟨ms1 ++ (ms2 ++ ms3), k3, K2, rfl, fun j hj => HK2.out j (HK1.out j hj), ?_, HkV3.out, ?_, fun s => ?_⟩
        · rw [← List.append_assoc, ← List.append_assoc]
          exact Hw3.out.mono (by have := Hpow.out; omega)
        · rw [← List.append_assoc, ← List.append_assoc]
          exact Hl3.out
        · rw [← List.append_assoc, ← List.append_assoc]
          exact Hmean.out s
      case rest =>
        obtain ⟨ms, k', K', rfl, hK', hw', hk', hl', hq'⟩ := hcut
        have hck := (hw'.box (218, ck, [.map (some mk)]) (by simp)).cell 0
        simp only [List.getElem?_cons_zero] at hck
        obtain ⟨w5, hrun, hw5, hk5⟩ := hw'.put (k := i + 2) (m := k') (by have := len_more ns ms; omega) hl' (fun s => by rw [hq', sem_add' Hok.out _ hk]) (by omega)
        have hrun' : (Instr.mapUpdate 218 (.map (some mk)) (.int .i64 ((i : Int) + 2)) (.int .i64 (k' : Int))).run Tryz.prog wc = .ok () w5 := hrun
        have hf : NP notF L B g bf bp mk (notX g mk ck cs cw) w ns K (C + (2 ^ (d + 1 + 1) - 2)) (i + 2) (.returned (.int .i64 (k' : Nat))) w5 :=
          ⟨ms, k', _, rfl, fun j hj => putM_some _ (hK' j hj), hw5.mono (by omega), (HkV.out.trans hk').trans hk5, hl', hq'⟩
        have Hf := hide hf
        clear hf hw5 hk5 hrun hw' hk' hq' hK' hd1 hd2 hd3 hcs hcw
        go_wp2
        go_ret
        exact Hf.out

/-- Not, its map, its boxes -/
theorem NotStart {w : World} {u w1 w2 : World} {L B g bf bp C : Nat} {ns : List BN} (h : St L B g bf bp w ns C)
    (hu : u = w.alloc (.cells #[.pointer (some ⟨g, 0, none⟩)] 74))
    (hk2 : Known w2 u.heap.size 2 (putM (putM (fun _ => none) 0 1) 1 0)) (hg1 : (u.alloc (.map #[] 0)).grownBy w1 (some u.heap.size)) (hg2 : w1.grownBy w2 (some u.heap.size))
    (hs1 : w1.heap.size = (u.alloc (.map #[] 0)).heap.size) (hs2 : w2.heap.size = w1.heap.size) :
    ∀ V, V = (w2.alloc (.cells #[.map (some (w.heap.size + 1))] 218)).alloc (.cells #[.func (Fn.func 134) #[] #[.pointer (some ⟨w2.heap.size, 0, none⟩), .pointer (some ⟨w.heap.size, 0, none⟩), .pointer (some ⟨w2.heap.size + 1, 0, none⟩)]] 146) →
      NAt notF L B g bf bp (w.heap.size + 1) (notX g (w.heap.size + 1) w2.heap.size w.heap.size (w2.heap.size + 1)) V ns (C + 2) (putM (putM (fun _ => none) 0 1) 1 0) ∧ Below w.heap.size w V := by
  intro V hV
  have hus : u.heap.size = w.heap.size + 1 := by rw [hu]; simp
  have hws : w2.heap.size = w.heap.size + 1 + 1 := by rw [hs2, hs1]; simp [hus]
  have h1 : Below w.heap.size w w2 := by
    have hu' : Below w.heap.size w u := by rw [hu]; exact (Below.refl _ _).alloc (Nat.le_refl _) _
    have h2 := hu'.alloc (by omega) (.map #[] 0)
    exact below_only (below_only h2 hg1 (by simp; omega) (by omega)) hg2 (by rw [hs1]; simp; omega) (by omega)
  have h4 : Below w.heap.size w V := by
    rw [hV]
    exact (h1.alloc (by omega) _).alloc (by simp; omega) _
  have b0 : Blk 74 V w.heap.size [.pointer (some ⟨g, 0, none⟩)] := by
    have hb : Blk 74 u w.heap.size [.pointer (some ⟨g, 0, none⟩)] := by rw [hu]; exact Blk.new _ _ _
    rw [hV]
    exact ((((hb.alloc (.map #[] 0)).grown hg1 (fun e => by injection e with e; omega)).grown hg2 (fun e => by injection e with e; omega)).alloc _).alloc _
  have bk : Blk 218 V w2.heap.size [.map (some (w.heap.size + 1))] := by
    rw [hV]
    exact (Blk.new w2 _ [.map (some (w.heap.size + 1))]).alloc _
  have bw : Blk 146 V (w2.heap.size + 1) [.func (Fn.func 134) #[] #[.pointer (some ⟨w2.heap.size, 0, none⟩), .pointer (some ⟨w.heap.size, 0, none⟩), .pointer (some ⟨w2.heap.size + 1, 0, none⟩)]] := by
    have := Blk.new (w2.alloc (.cells #[.map (some (w.heap.size + 1))] 218)) 146 [.func (Fn.func 134) #[] #[.pointer (some ⟨w2.heap.size, 0, none⟩), .pointer (some ⟨w.heap.size, 0, none⟩), .pointer (some ⟨w2.heap.size + 1, 0, none⟩)]]
    rw [hV]
    simpa using this
  have hmap : Known V u.heap.size 2 (putM (putM (fun _ => none) 0 1) 1 0) := by
    rw [hV]
    exact (hk2.alloc _).alloc _
  rw [hus] at hmap
  have hst := (h.keep h4).mono (show C ≤ C + 2 by omega)
  refine ⟨⟨hst, fun x hx => ?_, fun x hx => ?_, ⟨2, by omega, hmap⟩, ⟨?_, by have := h.base; omega⟩, fun k c hc => ?_⟩, h4⟩
  · simp only [List.mem_cons, List.not_mem_nil, or_false] at hx
    rcases hx with rfl | rfl | rfl
    · exact bk
    · exact b0
    · exact bw
  · simp only [List.mem_cons, List.not_mem_nil, or_false] at hx
    rcases hx with rfl | rfl | rfl <;> exact ⟨(by dsimp only; decide), (by dsimp only; decide)⟩
  · have h' := h
    obtain ⟨_, _, np, M, _, c4, _⟩ := h
    obtain ⟨es, cl, hm⟩ := hmap.isMap
    obtain ⟨_, _, np', M', _, c5, _⟩ := hst
    exact c5.free_map hm (by have := c4.found.lt; omega) (by have := c4.pairs.lt; omega)
  · by_cases h1 : k = 1
    · subst h1
      rw [putM_same] at hc
      injection hc with hc
      exact ⟨0, hc.symm, by omega, by omega, fun s => by unfold notF; rw [sem_zero, sem_one]; rfl⟩
    · rw [putM_other _ _ h1] at hc
      by_cases h0 : k = 0
      · subst h0
        rw [putM_same] at hc
        injection hc with hc
        exact ⟨1, hc.symm, by omega, by omega, fun s => by unfold notF; rw [sem_zero, sem_one]; rfl⟩
      · rw [putM_other _ _ h0] at hc
        cases hc

set_option maxHeartbeats 1600000 in
theorem Not_ct {L B g bf bp : Nat} {w : World} {ns : List BN} {C a : Nat} (h : St L B g bf bp w ns C) (ha : a < ns.length + 2) (hC : C + 33554434 ≤ 5800000000000) :
    Calls Tryz.prog 92 #[.pointer (some ⟨g, 0, none⟩), .int .i64 a] w (StP L B g bf bp w ns (C + 33554434) fun ns' k => ∀ s, sem ns' k s = !sem ns a s) := by
  have hm1 := fun w => run_makeMap (P := Tryz.prog) 218 w
  have hlow := h.low
  obtain ⟨u, hu⟩ : ∃ u, u = w.alloc (.cells #[.pointer (some ⟨g, 0, none⟩)] 74) := ⟨_, rfl⟩
  have hus : u.heap.size = w.heap.size + 1 := by rw [hu]; simp
  obtain ⟨w1, hrun1, hk1, hg1, hs1⟩ := (MapAt.made u Tryz.prog 3 3 encI).put encI_inj lawI Tryz.underlying218 Tryz.underlying3 (by omega) (keyI (k := 0) (by omega)) 1 (by omega)
  obtain ⟨w2, hrun2, hk2, hg2, hs2⟩ := hk1.put encI_inj lawI Tryz.underlying218 Tryz.underlying3 (by omega) (keyI (k := 1) (by omega)) 0 (by omega)
  have hr1 : (Instr.mapUpdate 218 (.map (some (w.heap.size + 1))) (.int .i64 0) (.int .i64 1)).run Tryz.prog (u.alloc (.map #[] 0)) = .ok () w1 := by
    rw [← hus]
    exact hrun1
  have hr2 : (Instr.mapUpdate 218 (.map (some (w.heap.size + 1))) (.int .i64 1) (.int .i64 0)).run Tryz.prog w1 = .ok () w2 := by
    rw [← hus]
    exact hrun2
  have hz3 := NotStart h hu hk2 hg1 hg2 hs1 hs2
  have Hz := hide hz3
  have Hst := hide h
  rw [hu] at hr1
  clear hrun1 hrun2
  clear hu hk1 hk2 hg1 hg2 hus hs1 hs2 hz3 h
  go_enter Tryz.func92, Tryz.ntmps92
  go_wp2_with fail
  obtain ⟨V, hV⟩ : ∃ V, V = (w2.alloc (.cells #[.map (some (w.heap.size + 1))] 218)).alloc (.cells #[.func (Fn.func 134) #[] #[.pointer (some ⟨w2.heap.size, 0, none⟩), .pointer (some ⟨w.heap.size, 0, none⟩), .pointer (some ⟨w2.heap.size + 1, 0, none⟩)]] 146) := ⟨_, rfl⟩
  rw [← hV]
  obtain ⟨hw, hbV⟩ := Hz.out V hV
  clear hV Hz
  have hp := pow_le hlow
  refine (NotWalk_ct L a V ns _ _ (Nat.sub_le _ _) ha (by rw [putM_other _ _ (by omega), putM_same]; rfl) (by rw [putM_same]; rfl) (by omega) hw).mono ?_
  rintro e w3 ⟨ms, k, K', rfl, _, hw3, hk3, hl3, hq3⟩
  have hf : StP L B g bf bp w ns (C + 33554434) (fun ns' k => ∀ s, sem ns' k s = !sem ns a s) (.returned (.int .i64 (k : Nat))) w3 :=
    ⟨ms, k, rfl, hw3.st.mono (by omega), (Kept.of_below hbV Hst.out.lt).trans2 hk3 (by omega), hl3, hq3⟩
  have Hf := hide hf
  clear hf hw3 hk3 hq3 hw hbV
  go_wp2
  go_ret
  exact Hf.out
end Go.Proofs.YtmjiiddncbhgpaaGreat
