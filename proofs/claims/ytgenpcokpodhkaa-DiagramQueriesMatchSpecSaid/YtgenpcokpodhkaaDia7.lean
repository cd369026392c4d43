/- Contracts of diagram.combine, And, Or. -/
import Derived.Test.YtgenpcokpodhkaaDia6
import Derived.Deep.RegionHeld3
import Derived.Deep.DeepCutAuto
namespace Go.Proofs.Ytgenpcokpodhkaa
open Go.RowKit Go.Maps

theorem start5 (w : World) (L : Int) (A : Option Addr) (n c : Nat) (r L2 : Int) (A2 : Option Addr) (n2 c2 : Nat) (r2 : Int) :
    RBox w ((((w.alloc (.cells #[.int .i64 L, .slice A n c, .int .i64 r] 30)).alloc (.cells #[.int .i64 L2, .slice A2 n2 c2, .int .i64 r2] 30)).alloc (.cells #[.int .i64 0, .slice none 0 0, .int .i64 0] 30)).alloc (.cells #[.int .i64 0, .int .i64 0] 25)) (w.heap.size + 1 + 1) ∧
    Blk 30 ((((w.alloc (.cells #[.int .i64 L, .slice A n c, .int .i64 r] 30)).alloc (.cells #[.int .i64 L2, .slice A2 n2 c2, .int .i64 r2] 30)).alloc (.cells #[.int .i64 0, .slice none 0 0, .int .i64 0] 30)).alloc (.cells #[.int .i64 0, .int .i64 0] 25)) w.heap.size [.int .i64 L, .slice A n c, .int .i64 r] ∧
    Blk 30 ((((w.alloc (.cells #[.int .i64 L, .slice A n c, .int .i64 r] 30)).alloc (.cells #[.int .i64 L2, .slice A2 n2 c2, .int .i64 r2] 30)).alloc (.cells #[.int .i64 0, .slice none 0 0, .int .i64 0] 30)).alloc (.cells #[.int .i64 0, .int .i64 0] 25)) (w.heap.size + 1) [.int .i64 L2, .slice A2 n2 c2, .int .i64 r2] := by
  have h0 := Blk.new (w.alloc (.cells #[.int .i64 L, .slice A n c, .int .i64 r] 30)) 30 [.int .i64 L2, .slice A2 n2 c2, .int .i64 r2]
  have h1 := Blk.new ((w.alloc (.cells #[.int .i64 L, .slice A n c, .int .i64 r] 30)).alloc (.cells #[.int .i64 L2, .slice A2 n2 c2, .int .i64 r2] 30)) 30 [.int .i64 0, .slice none 0 0, .int .i64 0]
  have h2 := Blk.new (((w.alloc (.cells #[.int .i64 L, .slice A n c, .int .i64 r] 30)).alloc (.cells #[.int .i64 L2, .slice A2 n2 c2, .int .i64 r2] 30)).alloc (.cells #[.int .i64 0, .slice none 0 0, .int .i64 0] 30)) 25 [.int .i64 0, .int .i64 0]
  simp only [World.size_alloc] at h0 h1 h2
  exact ⟨⟨h1.alloc _, h2, (below_three _ _ _ _).alloc (by simp only [World.size_alloc]; omega) _, by omega⟩, (((Blk.new w _ [.int .i64 L, .slice A n c, .int .i64 r]).alloc _).alloc _).alloc _, (h0.alloc _).alloc _⟩

theorem limited_dia {L n c : Nat} {A : Option Addr} {d : List BN × Nat} {w : World} {lo : Nat} (h : Rd Enc.node w A n c (d.1.map castN)) (hnew : ∀ b off, A = some ⟨b, off, none⟩ → lo ≤ b) :
    Calls Try.prog 40 #[.agg #[.int .i64 L, .slice A n c, .int .i64 d.2]] w (fun e w' => ∃ A' n' c' xl xs xr q1 q2, e = .returned (.tuple #[.agg #[.int .i64 xl, .slice A' n' c', .int .i64 xr], .agg #[.int .i64 q1, .int .i64 q2]]) ∧
      limF L d = ((xl, xs, xr), (q1, q2)) ∧ Rd Enc.node w' A' n' c' xs ∧ (∀ b off, A' = some ⟨b, off, none⟩ → lo ≤ b) ∧ Below w.heap.size w w') := by
  have hl := h.len
  rw [List.length_map] at hl
  refine (limited_ct A n c L d.2 w).mono ?_
  rintro e w' ⟨rfl, hb⟩
  by_cases h3 : 300 < n
  · rw [if_pos h3, if_pos h3]
    exact ⟨none, 0, 0, 0, [], 0, 10, -3, rfl, by unfold limF; rw [if_pos (by omega)], Rd.nil_ _ _, (fun b off e => by cases e), hb⟩
  · rw [if_neg h3, if_neg h3]
    exact ⟨A, n, c, L, d.1.map castN, d.2, 0, 0, rfl, by unfold limF; rw [if_neg (by omega)], h.keep hb, hnew, hb⟩

/-- what And (0) and Or (1) return -/
def combineR (op : Nat) (L : Int) (ns : List DI) (r L2 : Int) (ns2 : List DI) (r2 : Int) : DR :=
  if faultD L ns r = (0, 0) then
    (if faultD L2 ns2 r2 = (0, 0) then
      (if L = L2 then limF L.toNat (diaF L.toNat (fun s => opF op (sem (ns.map natN) r.toNat s) (sem (ns2.map natN) r2.toNat s))) else ((0, [], 0), (9, -5)))
    else ((0, [], 0), ((faultD L2 ns2 r2).1, -4)))
  else ((0, [], 0), faultD L ns r)

set_option maxHeartbeats 3200000 in
set_option maxRecDepth 100000 in
theorem combine_d (op : Nat) (hop : op = 0 ∨ op = 1) (L : Int) (A : Option Addr) (n c : Nat) (ns : List DI) (r L2 : Int) (A2 : Option Addr) (n2 c2 : Nat) (ns2 : List DI) (r2 : Int) (w : World) (hL : -9223372036854775808 ≤ L ∧ L ≤ 9223372036854775807) (hr : -9223372036854775808 ≤ r ∧ r ≤ 9223372036854775807) (hL2 : -9223372036854775808 ≤ L2 ∧ L2 ≤ 9223372036854775807) (hr2 : -9223372036854775808 ≤ r2 ∧ r2 ≤ 9223372036854775807) (h : Rd Enc.node w A n c ns) (h2 : Rd Enc.node w A2 n2 c2 ns2) :
    Calls Try.prog 47 #[.agg #[.int .i64 L, .slice A n c, .int .i64 r], .agg #[.int .i64 L2, .slice A2 n2 c2, .int .i64 r2], .int .i64 op] w (GivesDF w (combineR op L ns r L2 ns2 r2)) := by
  have hl := h.len
  have hl2 := h2.len
  obtain ⟨hst0, hbx0, hby0⟩ := start5 w L A n c r L2 A2 n2 c2 r2
  have Hrd := hide h
  have Hrd2 := hide h2
  have Hst0 := hide hst0
  have Hbx0 := hide hbx0
  have Hby0 := hide hby0
  clear h h2 hst0 hbx0 hby0
  go_enter Try.func47, Try.ntmps47
  go_wp2_with fail
  obtain ⟨V, hV⟩ : ∃ V, V = ((((w.alloc (.cells #[.int .i64 L, .slice A n c, .int .i64 r] 30)).alloc (.cells #[.int .i64 L2, .slice A2 n2 c2, .int .i64 r2] 30)).alloc (.cells #[.int .i64 0, .slice none 0 0, .int .i64 0] 30)).alloc (.cells #[.int .i64 0, .int .i64 0] 25)) := ⟨_, rfl⟩
  rw [← hV]
  have hst := Hst0.out
  have hbx := Hbx0.out
  have hby := Hby0.out
  rw [← hV] at hst hbx hby
  have Hst := hide hst
  have Hbx := hide hbx
  have Hby := hide hby
  clear hV hst hbx hby Hst0 Hbx0 Hby0
  refine (Validate_ct L A n c ns r V hL hr (Hrd.out.keep Hst.out.below)).mono ?_
  rintro e w1 ⟨rfl, hb1⟩
  generalize hf : faultD L ns r = f
  obtain ⟨f1, f2⟩ := f
  have Hf := hide hf
  clear hf
  unfold faultV
  have hb2 := hb1.trans (((Below.refl w1.heap.size w1).alloc (Nat.le_refl _) (.cells #[.int .i64 f1, .int .i64 f2] 25)).mono hb1.size)
  have hbx1 := Hbx.out.keep hb1
  have hby1 := Hby.out.keep hb1
  have hrb1 := Hst.out.keep hb1
  have d0 := hbx1.cell 0
  have d1 := hbx1.cell 1
  have d2 := hbx1.cell 2
  have d3 := hbx1.lt
  have d4 := hby1.cell 0
  have d5 := hby1.cell 1
  have d6 := hby1.cell 2
  have d7 := hby1.lt
  simp only [List.getElem?_cons_zero, List.getElem?_cons_succ] at d0 d1 d2 d4 d5 d6
  have heq := eqFault f1 f2 0 0
  obtain ⟨w2, hw2⟩ : ∃ w2, w2 = w1.alloc (.cells #[.int .i64 f1, .int .i64 f2] 25) := ⟨_, rfl⟩
  have hbf : Blk 25 w2 w1.heap.size [.int .i64 f1, .int .i64 f2] := by rw [hw2]; exact Blk.new _ _ _
  rw [← hw2] at hb2
  have e1 := hrb1.fault.lt
  have e2 : ¬ w1.heap.size = w.heap.size + 1 + 1 := by omega
  have e3 : ¬ w.heap.size + 1 + 1 = w1.heap.size := by omega
  have e4 : ¬ w1.heap.size = w.heap.size + 1 + 1 + 1 := by omega
  have e5 : ¬ w.heap.size + 1 + 1 + 1 = w1.heap.size := by omega
  have Hw2 := hide hw2
  have Hb2 := hide hb2
  have Hbf := hide hbf
  have Hrb2 := hide (Hst.out.keep hb2)
  clear hbf hw2 hb1 hb2 hbx1 hby1 hrb1
  by_cases hz : (f1, f2) = (0, 0)
  · rw [decide_eq_true hz] at heq
    have Hvalid := hide (faultD_valid (L := L) (ns := ns) (r := r) (by rw [Hf.out]; exact hz))
    have Hz := hide hz
    clear hz
    go_wp2_with fail
    rw [← Hw2.out]
    clear heq
    refine (Validate_ct L2 A2 n2 c2 ns2 r2 w2 hL2 hr2 (Hrd2.out.keep (Hst.out.below.trans (Hb2.out.mono Hst.out.below.size)))).mono ?_
    rintro e w3 ⟨rfl, hb3⟩
    have hb3' := Hb2.out.trans (hb3.mono Hb2.out.size)
    generalize hg : faultD L2 ns2 r2 = g
    obtain ⟨g1, g2⟩ := g
    have Hg := hide hg
    clear hg hb3 d0 d1 d2 d3 d4 d5 d6 d7 e1 e2 e3 e4 e5 Hw2
    unfold faultV
    have hb4 := hb3'.trans (((Below.refl w3.heap.size w3).alloc (Nat.le_refl _) (.cells #[.int .i64 g1, .int .i64 g2] 25)).mono hb3'.size)
    have hbx3 := Hbx.out.keep hb3'
    have hby3 := Hby.out.keep hb3'
    have hrb3 := Hst.out.keep hb3'
    have d0 := hbx3.cell 0
    have d1 := hbx3.cell 1
    have d2 := hbx3.cell 2
    have d3 := hbx3.lt
    have d4 := hby3.cell 0
    have d5 := hby3.cell 1
    have d6 := hby3.cell 2
    have d7 := hby3.lt
    simp only [List.getElem?_cons_zero, List.getElem?_cons_succ] at d0 d1 d2 d4 d5 d6
    have heq := eqFault g1 g2 0 0
    obtain ⟨w4, hw4⟩ : ∃ w4, w4 = w3.alloc (.cells #[.int .i64 g1, .int .i64 g2] 25) := ⟨_, rfl⟩
    have hbg : Blk 25 w4 w3.heap.size [.int .i64 g1, .int .i64 g2] := by rw [hw4]; exact Blk.new _ _ _
    rw [← hw4] at hb4
    have e1 := hrb3.fault.lt
    have e2 : ¬ w3.heap.size = w.heap.size + 1 + 1 := by omega
    have e3 : ¬ w.heap.size + 1 + 1 = w3.heap.size := by omega
    have e4 : ¬ w3.heap.size = w.heap.size + 1 + 1 + 1 := by omega
    have e5 : ¬ w.heap.size + 1 + 1 + 1 = w3.heap.size := by omega
    have Hw4 := hide hw4
    have Hb4 := hide hb4
    have Hbg := hide hbg
    have Hrb3 := hide hrb3
    have Hrb4 := hide (Hst.out.keep hb4)
    clear hbg hw4 hb3' hb4 hbx3 hby3 hrb3
    by_cases hzg : (g1, g2) = (0, 0)
    · rw [decide_eq_true hzg] at heq
      have Hvalid2 := hide (faultD_valid (L := L2) (ns := ns2) (r := r2) (by rw [Hg.out]; exact hzg))
      by_cases hLL : L = L2
      · subst hLL
        have Hres : Hid (combineR op L ns r L ns2 r2 = limF L.toNat (diaF L.toNat (fun s => opF op (sem (ns.map natN) r.toNat s) (sem (ns2.map natN) r2.toNat s)))) := hide (by
          unfold combineR
          rw [if_pos (by rw [Hf.out]; exact Hz.out), if_pos (by rw [Hg.out]; exact hzg), if_pos rfl])
        clear hzg
        go_wp2_with fail
        rw [← Hw4.out]
        obtain ⟨hv1, hcast1, hLe, hre1⟩ := Hvalid.out
        obtain ⟨hv2, hcast2, _, hre2⟩ := Hvalid2.out
        obtain ⟨L', hL'⟩ : ∃ m : Nat, L = (m : Int) := ⟨L.toNat, hLe.symm⟩
        obtain ⟨r', hr'⟩ : ∃ m : Nat, r = (m : Int) := ⟨r.toNat, hre1.symm⟩
        obtain ⟨r2', hr2'⟩ : ∃ m : Nat, r2 = (m : Int) := ⟨r2.toNat, hre2.symm⟩
        subst hL' hr' hr2'
        have hres := Hres.out
        simp only [Int.toNat_natCast] at hv1 hv2 hres
        generalize hd1 : ns.map natN = ds1 at hv1 hcast1 hres
        generalize hd2 : ns2.map natN = ds2 at hv2 hcast2 hres
        have hlen1 : ds1.length = n := by rw [← hd1, List.length_map]; exact hl
        have hlen2 : ds2.length = n2 := by rw [← hd2, List.length_map]; exact hl2
        have hn1 : n ≤ 300 := by have := hv1.few; omega
        have hn2 : n2 ≤ 300 := by have := hv2.few; omega
        have hlow := hv1.low
        have hrd1 : ∀ W, Below V.heap.size V W → Rd Enc.node W A n c (ds1.map castN) := fun W hW => by
          rw [hcast1]
          exact Hrd.out.keep (Hst.out.below.trans (hW.mono Hst.out.below.size))
        have hrd2 : ∀ W, Below V.heap.size V W → Rd Enc.node W A2 n2 c2 (ds2.map castN) := fun W hW => by
          rw [hcast2]
          exact Hrd2.out.keep (Hst.out.below.trans (hW.mono Hst.out.below.size))
        have Hv1 := hide hv1
        have Hv2 := hide hv2
        have HR1 := hide hrd1
        have HR2 := hide hrd2
        have HRes := hide hres
        clear hv1 hv2 hcast1 hcast2 hLe hre1 hre2 hres hd1 hd2 hrd1 hrd2 Hvalid Hvalid2 Hres
        clear d0 d1 d2 d3 d4 d5 d6 d7 e2 e3 e4 e5 heq
        refine (NewStore_ct L' hlow w4).mono ?_
        rintro e w5 ⟨hb5, g, bf, bp, rfl, hst5⟩
        have hb5' := Hb4.out.trans (hb5.mono Hb4.out.size)
        have hbx5 := Hbx.out.keep hb5'
        have hby5 := Hby.out.keep hb5'
        have d0 := hbx5.cell 0
        have d1 := hbx5.cell 1
        have d2 := hbx5.cell 2
        have d4 := hby5.cell 0
        have d5 := hby5.cell 1
        have d6 := hby5.cell 2
        simp only [List.getElem?_cons_zero, List.getElem?_cons_succ] at d0 d1 d2 d4 d5 d6
        have Hst5 := hide hst5
        have Hb5 := hide hb5'
        have Hb45 := hide hb5
        clear hst5 hb5 hb5' hbx5 hby5
        have hV4 : V.heap.size ≤ w4.heap.size := Hb4.out.size
        have hn1 : ¬ w.heap.size = w.heap.size + 1 + 1 := by omega
        have hn2 : ¬ w.heap.size + 1 + 1 = w.heap.size := by omega
        have hn3 : ¬ w.heap.size = w.heap.size + 1 + 1 + 1 := by omega
        have hn4 : ¬ w.heap.size + 1 + 1 + 1 = w.heap.size := by omega
        go_wp2_with fail
        go_region_held3 (fun w' => w'.cell? ⟨w.heap.size, 0, none⟩ = some (.int .i64 (L' : Int)) ∧ w'.cell? ⟨w.heap.size, 1, none⟩ = some (.slice A n c) ∧ w'.cell? ⟨w.heap.size, 2, none⟩ = some (.int .i64 (r' : Int)) ∧ w'.cell? ⟨w.heap.size + 1, 0, none⟩ = some (.int .i64 (L' : Int)) ∧ w'.cell? ⟨w.heap.size + 1, 1, none⟩ = some (.slice A2 n2 c2) ∧ w'.cell? ⟨w.heap.size + 1, 2, none⟩ = some (.int .i64 (r2' : Int))) (first | go_keep) (first
          | (go_at_call 50
             fail_if_success (have hno := Hst6)
             refine (Read_ct (C := 0) (n := n) (c := c) (root := r') (ds := ds1) (Hst5.out.keep (Below.refl w5.heap.size w5).drew) Hv1.out.ok hlen1 Hv1.out.root (fun W hW => HR1.out W ((Hb5.out.drew).trans (hW.mono hV4))) (by omega) (by omega)).mono ?_
             rintro e w6 ⟨ms6, k6, rfl, hst6, hk6, hkl6, hq6⟩
             have hb6 : Below V.heap.size V w6 := Hb5.out.drew.trans ((hk6.below (by have := Hb45.out.size; exact this)).mono hV4)
             have hbx6 := Hbx.out.keep hb6
             have hby6 := Hby.out.keep hb6
             have a0 := hbx6.cell 0
             have a1 := hbx6.cell 1
             have a2 := hbx6.cell 2
             have a3 := hby6.cell 0
             have a4 := hby6.cell 1
             have a5 := hby6.cell 2
             simp only [List.getElem?_cons_zero, List.getElem?_cons_succ] at a0 a1 a2 a3 a4 a5
             have Hst6 := hide hst6
             have Hb6 := hide hb6
             have Hq6 := hide hq6
             have Hk6 := hide hk6.size
             clear hst6 hb6 hq6 hk6 hbx6 hby6)
          | (go_at_call 50
             have hyes := Hst6
             clear hyes
             refine (Read_ct (C := 0 + n) (n := n2) (c := c2) (root := r2') (ds := ds2) Hst6.out Hv2.out.ok hlen2 Hv2.out.root (fun W hW => HR2.out W (Hb6.out.trans (hW.mono hV4))) (by omega) (by omega)).mono ?_
             rintro e w7 ⟨ms7, k7, rfl, hst7, hk7, hkl7, hq7⟩
             have hs67 : w4.heap.size ≤ w6.heap.size := by have := Hb45.out.size; have := Hk6.out; exact Nat.le_trans ‹w4.heap.size ≤ w5.heap.size› this
             have hb7 : Below V.heap.size V w7 := Hb6.out.trans ((hk7.below hs67).mono hV4)
             have hbx7 := Hbx.out.keep hb7
             have hby7 := Hby.out.keep hb7
             have a0 := hbx7.cell 0
             have a1 := hbx7.cell 1
             have a2 := hbx7.cell 2
             have a3 := hby7.cell 0
             have a4 := hby7.cell 1
             have a5 := hby7.cell 2
             simp only [List.getElem?_cons_zero, List.getElem?_cons_succ] at a0 a1 a2 a3 a4 a5
             have hkl67 : k6 < ([] ++ ms6 ++ ms7).length + 2 := by have := len_more ([] ++ ms6) ms7; omega
             have hs7 : w4.heap.size ≤ w7.heap.size := Nat.le_trans hs67 hk7.size
             have Hst7 := hide hst7
             have Hb7 := hide hb7
             have Hq7 := hide hq7
             clear hst7 hb7 hq7 hk7 hbx7 hby7)
          | (go_at_call 59
             refine (both_all hop Hst7.out hkl67 hkl7 (by omega)).mono ?_
             rintro e w8 ⟨ms8, k8, rfl, hst8, hk8, hkl8, hq8⟩
             have hb8 : Below V.heap.size V w8 := Hb7.out.trans ((hk8.below hs7).mono hV4)
             have hbx8 := Hbx.out.keep hb8
             have hby8 := Hby.out.keep hb8
             have a0 := hbx8.cell 0
             have a1 := hbx8.cell 1
             have a2 := hbx8.cell 2
             have a3 := hby8.cell 0
             have a4 := hby8.cell 1
             have a5 := hby8.cell 2
             simp only [List.getElem?_cons_zero, List.getElem?_cons_succ] at a0 a1 a2 a3 a4 a5
             have hmean : ∀ s, sem ([] ++ ms6 ++ ms7 ++ ms8) k8 s = opF op (sem ds1 r' s) (sem ds2 r2' s) := fun s => by
               rw [hq8, sem_add Hst6.out.ok _ hkl6, Hq6.out, Hq7.out]
             have hdia := diaF_eq hst8.ok hkl8 hmean
             have hs8 : V.heap.size ≤ w8.heap.size := hb8.size
             have Hst8 := hide hst8
             have Hb8 := hide hb8
             have Hdia := hide hdia
             clear hst8 hb8 hq8 hk8 hbx8 hby8 hmean hdia)
          | (go_at_call 41
             refine (Write_ct Hst8.out hkl8).mono ?_
             rintro e w9 ⟨⟨A9, n9, c9, rfl, hrd9, hnew9⟩, hb9⟩
             rw [Hdia.out] at hrd9 ⊢
             have hb9' := Hb8.out.trans (hb9.mono Hb8.out.size)
             have hbx9 := Hbx.out.keep hb9'
             have hby9 := Hby.out.keep hb9'
             have a0 := hbx9.cell 0
             have a1 := hbx9.cell 1
             have a2 := hbx9.cell 2
             have a3 := hby9.cell 0
             have a4 := hby9.cell 1
             have a5 := hby9.cell 2
             simp only [List.getElem?_cons_zero, List.getElem?_cons_succ] at a0 a1 a2 a3 a4 a5
             have hl9 := hrd9.len
             rw [List.length_map] at hl9
             have Hrd9 := hide hrd9
             have Hnew9 := hide hnew9
             have Hb9 := hide hb9'
             clear hrd9 hnew9 hb9 hb9' hbx9 hby9)
          | (go_at_call 40
             refine (limited_dia (L := L') Hrd9.out Hnew9.out).mono ?_
             rintro e w10 ⟨A10, n10, c10, xl, xs, xr, q1, q2, rfl, hlim, hrd10, hnew10, hb10⟩
             have hb10' := Hb9.out.trans (hb10.mono Hb9.out.size)
             have hbx10 := Hbx.out.keep hb10'
             have hby10 := Hby.out.keep hb10'
             have a0 := hbx10.cell 0
             have a1 := hbx10.cell 1
             have a2 := hbx10.cell 2
             have a3 := hby10.cell 0
             have a4 := hby10.cell 1
             have a5 := hby10.cell 2
             simp only [List.getElem?_cons_zero, List.getElem?_cons_succ] at a0 a1 a2 a3 a4 a5
             have hrb10 := Hst.out.keep hb10'
             obtain ⟨x0, x1, x2, x3, x4, x5, x6, x7, x8, x9, x10, x11⟩ := hrb10.facts
             have Hrb10 := hide hrb10
             have Hrd10 := hide hrd10
             have Hlim := hide hlim
             have Hnew10 := hide hnew10
             clear hrd10 hlim hnew10 hb10 hb10' hbx10 hby10 hrb10))
        go_wp2
        refine bodyPost_ret (v := .tuple #[.agg #[.int .i64 xl, .slice A10 n10 c10, .int .i64 xr], faultV (q1, q2)]) (by simp [results, Try.results47, go_sem, faultV, x0, x1, x2, x3, x4]) rfl ?_
        rw [HRes.out, Hlim.out]
        have hge2 := Hst.out.below.size
        refine ⟨⟨A10, n10, c10, rfl, ?_, fun b off e => by have := Hnew10.out b off e; omega⟩, Hrb10.out.put _ _ _ _ _⟩
        exact rd_put Hrd10.out _ _ _ _ _ (fun b off e _ => by
          have h1 := Hnew10.out b off e
          have h2 := Hst.out.fault.lt
          omega)
      · have Hres : Hid (combineR op L ns r L2 ns2 r2 = ((0, [], 0), (9, -5))) := hide (by
          unfold combineR
          rw [if_pos (by rw [Hf.out]; exact Hz.out), if_pos (by rw [Hg.out]; exact hzg), if_neg hLL])
        have hne : (L == L2) = false := by rw [beq_eq_false_iff_ne]; exact hLL
        clear hzg hLL
        obtain ⟨x0, x1, x2, x3, x4, x5, x6, x7, x8, x9, x10, x11⟩ := Hrb3.out.facts
        go_wp2
        refine bodyPost_ret (v := .tuple #[.agg #[.int .i64 0, .slice none 0 0, .int .i64 0], faultV (9, -5)]) (by simp [results, Try.results47, go_sem, faultV, x0, x1, x2, x3, x4, x10, x11]) rfl ?_
        exact ⟨⟨none, 0, 0, by rw [Hres.out], by rw [Hres.out]; exact Rd.nil_ _ _, fun b off e => by cases e⟩, (Hrb3.out.put _ _ _ _ _).alloc (by have := Hrb3.out.below.size; simpa [World.setCell, World.putRes] using this) _⟩
    · rw [decide_eq_false hzg] at heq
      have Hres : Hid (combineR op L ns r L2 ns2 r2 = ((0, [], 0), (g1, -4))) := hide (by
        unfold combineR
        rw [if_pos (by rw [Hf.out]; exact Hz.out), Hg.out, if_neg hzg])
      clear hzg
      go_wp2_with fail
      rw [← Hw4.out]
      obtain ⟨x0, x1, x2, x3, x4, x5, x6, x7, x8, x9, x10, x11⟩ := Hrb4.out.facts
      have y0 := Hbg.out.cell 0
      have y1 := Hbg.out.cell 1
      have y2 := Hbg.out.lt
      simp only [List.getElem?_cons_zero, List.getElem?_cons_succ] at y0 y1
      go_region
      all_goals go_wp2
      all_goals
        refine bodyPost_ret (v := .tuple #[.agg #[.int .i64 0, .slice none 0 0, .int .i64 0], faultV (g1, -4)]) (by simp [results, Try.results47, go_sem, faultV, x0, x1, x2, x3, x4]) rfl ?_
        exact ⟨⟨none, 0, 0, by rw [Hres.out], by rw [Hres.out]; exact Rd.nil_ _ _, fun b off e => by cases e⟩, (Hrb4.out.put _ _ _ _ _).drew⟩
  · rw [decide_eq_false hz] at heq
    have Hres : Hid (combineR op L ns r L2 ns2 r2 = ((0, [], 0), (f1, f2))) := hide (by unfold combineR; rw [Hf.out, if_neg hz])
    clear hz
    go_wp2_with fail
    rw [← Hw2.out]
    obtain ⟨x0, x1, x2, x3, x4, x5, x6, x7, x8, x9, x10, x11⟩ := Hrb2.out.facts
    have y0 := Hbf.out.cell 0
    have y1 := Hbf.out.cell 1
    have y2 := Hbf.out.lt
    simp only [List.getElem?_cons_zero, List.getElem?_cons_succ] at y0 y1
    go_region
    all_goals go_wp2
    all_goals
      refine bodyPost_ret (v := .tuple #[.agg #[.int .i64 0, .slice none 0 0, .int .i64 0], faultV (f1, f2)]) (by simp [results, Try.results47, go_sem, faultV, x0, x1, x2, x3, x4]) rfl ?_
      exact ⟨⟨none, 0, 0, by rw [Hres.out], by rw [Hres.out]; exact Rd.nil_ _ _, fun b off e => by cases e⟩, (Hrb2.out.put _ _ _ _ _).drew⟩
end Go.Proofs.Ytgenpcokpodhkaa
