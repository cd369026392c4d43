/- Contract of diagram.Eval. -/
import Derived.Test.YtgenpcokpodhkaaDia10
import Derived.Test.YtgenpcokpodhkaaRef1
namespace Go.Proofs.Ytgenpcokpodhkaa
open Go.RowKit Go.Maps

def idxI (y : Int) : Nat → List Int → Int
  | _, [] => -1
  | k, x :: l => if y = x then k else idxI y (k + 1) l
theorem idxI_nonneg (y : Int) : ∀ (l : List Int) (k : Nat), 0 ≤ idxI y k l ↔ y ∈ l := by
  intro l
  induction l with
  | nil => intro k; simp [idxI]
  | cons m l ih =>
    intro k
    unfold idxI
    by_cases h : y = m
    · rw [if_pos h]; simp [h]
    · rw [if_neg h, ih]; simp [h]
theorem IndexI_ct (A : Option Addr) (n c : Nat) (xs : List Int) (y : Int) (w : World) (h : Rd Enc.int w A n c xs) :
    Calls Try.prog 69 #[.slice A n c, .int .i64 y] w (Same w (.int .i64 (idxI y 0 xs))) := by
  have hsm := h.low
  have Hl := hide h.len
  go_enter Try.func69, Try.ntmps69
  go_wp2
  go_loop [8] (fun i => ∃ k : Nat, k ≤ n ∧ i = .int .i64 k ∧ idxI y 0 xs = idxI y k (xs.drop k)) (fun i => n - (intOf i).toNat)
  case atStart => exact ⟨0, by omega, rfl, by simp⟩
  case round =>
    obtain ⟨k, hk, rfl, hrel⟩ := hrel
    by_cases hlt : k < n
    · obtain ⟨b, off, x, rfl, hx, hxl, hxh, hcx⟩ := h.int hlt
      rw [drop_cons hx] at hrel
      have Hrel := hide hrel
      clear hrel hx
      by_cases hyx : y = x
      · subst hyx
        have Hr : Hid (idxI y 0 xs = k) := hide (by rw [Hrel.out, idxI, if_pos rfl])
        clear Hrel
        go_wp2
        go_ret
        exact ⟨ret_int Hr.out.symm, rfl⟩
      · have Hr : Hid (idxI y 0 xs = idxI y (k + 1) (xs.drop (k + 1))) := hide (by rw [Hrel.out, idxI, if_neg hyx])
        have hne : (y == x) = false := by rw [beq_eq_false_iff_ne]; exact hyx
        clear Hrel
        go_wp2
        go_round
        case rel => exact ⟨k + 1, by omega, by go_num, Hr.out⟩
        case measure => simp [intOf]; omega
    · have Hr : Hid (idxI y 0 xs = -1) := hide (by rw [hrel, List.drop_of_length_le (by rw [Hl.out]; omega)]; rfl)
      clear hrel
      go_wp2
      go_ret
      exact ⟨ret_int Hr.out.symm, rfl⟩
theorem ContainsI_ct (A : Option Addr) (n c : Nat) (xs : List Int) (y : Int) (w : World) (h : Rd Enc.int w A n c xs) :
    Calls Try.prog 58 #[.slice A n c, .int .i64 y] w (Same w (.bool (decide (y ∈ xs)))) := by
  have Hc := hide (IndexI_ct A n c xs y w h)
  have Hi := hide (idxI_nonneg y xs 0)
  clear h
  go_enter Try.func58, Try.ntmps58
  go_wp2_with fail
  refine Hc.out.mono ?_
  rintro e w1 ⟨rfl, rfl⟩
  generalize idxI y 0 xs = q at *
  go_wp2
  go_ret
  exact ⟨ret_bool (decide_eq_decide.2 Hi.out), rfl⟩

/-- a set: ascending, within bounds -/
def setOk (n : Int) : Option Int → List Int → Bool
  | _, [] => true
  | none, x :: l => if x < 0 ∨ n ≤ x then false else setOk n (some x) l
  | some q, x :: l => if x < 0 ∨ n ≤ x ∨ x ≤ q then false else setOk n (some x) l
theorem setOk_nil (n : Int) (p : Option Int) : setOk n p [] = true := by cases p <;> rfl
theorem setOk_first {n x : Int} {l : List Int} : setOk n none (x :: l) = if x < 0 ∨ n ≤ x then false else setOk n (some x) l := by rw [setOk]
theorem setOk_next {n x q : Int} {l : List Int} : setOk n (some q) (x :: l) = if x < 0 ∨ n ≤ x ∨ x ≤ q then false else setOk n (some x) l := by rw [setOk]
/-- what Eval returns -/
def evalR (L : Int) (ns : List DI) (r : Int) (set : List Int) : Bool × (Int × Int) :=
  if faultD L ns r = (0, 0) then (if setOk L none set = true then (sem (ns.map natN) r.toNat (fun v => decide ((v : Int) ∈ set)), (0, 0)) else (false, (5, -4))) else (false, faultD L ns r)

set_option maxHeartbeats 3200000 in
set_option maxRecDepth 100000 in
theorem Eval_d (L : Int) (A : Option Addr) (n c : Nat) (ns : List DI) (r : Int) (A2 : Option Addr) (n2 c2 : Nat) (set : List Int) (w : World) (hL : -9223372036854775808 ≤ L ∧ L ≤ 9223372036854775807) (hr : -9223372036854775808 ≤ r ∧ r ≤ 9223372036854775807) (h : Rd Enc.node w A n c ns) (h2 : Rd Enc.int w A2 n2 c2 set) :
    Calls Try.prog 28 #[.agg #[.int .i64 L, .slice A n c, .int .i64 r], .slice A2 n2 c2] w (Gives w (.tuple #[.bool (evalR L ns r set).1, faultV (evalR L ns r set).2])) := by
  have hl2 := h2.len
  have hcap2 := h2.cap
  have hcs2 := h2.small
  have Hrd2 := hide h2
  clear h2
  have hl := h.len
  have hst0 := VBox.start w L A n c r
  have Hrd := hide h
  have Hst0 := hide hst0
  clear h hst0
  go_enter Try.func28, Try.ntmps28
  go_wp2_with fail
  obtain ⟨V, hV⟩ : ∃ V, V = ((w.alloc (.cells #[.int .i64 L, .slice A n c, .int .i64 r] 30)).alloc (.cells #[.int .i64 0, .int .i64 0] 25)) := ⟨_, rfl⟩
  rw [← hV]
  have hst := Hst0.out
  rw [← hV] at hst
  have Hst := hide hst
  clear hV hst Hst0
  refine (Validate_ct L A n c ns r V hL hr (Hrd.out.keep Hst.out.below)).mono ?_
  rintro e w1 ⟨rfl, hb1⟩
  generalize hf : faultD L ns r = f
  obtain ⟨f1, f2⟩ := f
  have Hf := hide hf
  clear hf
  unfold faultV
  have hb2 := hb1.trans (((Below.refl w1.heap.size w1).alloc (Nat.le_refl _) (.cells #[.int .i64 f1, .int .i64 f2] 25)).mono hb1.size)
  obtain ⟨d0, d1, d2, d3, d4, d5, d6, d7, d8⟩ := (Hst.out.keep hb1).facts
  have heq := eqFault f1 f2 0 0
  obtain ⟨w2, hw2⟩ : ∃ w2, w2 = w1.alloc (.cells #[.int .i64 f1, .int .i64 f2] 25) := ⟨_, rfl⟩
  have hbf : Blk 25 w2 w1.heap.size [.int .i64 f1, .int .i64 f2] := by rw [hw2]; exact Blk.new _ _ _
  rw [← hw2] at hb2
  have e2 : ¬ w1.heap.size = w.heap.size + 1 := by omega
  have e3 : ¬ w.heap.size + 1 = w1.heap.size := by omega
  have Hw2 := hide hw2
  have Hb2 := hide hb2
  have Hbf := hide hbf
  have Hvb2 := hide (Hst.out.keep hb2)
  clear hbf hw2 hb1 hb2
  by_cases hz : (f1, f2) = (0, 0)
  · rw [decide_eq_true hz] at heq
    have hvalid := faultD_valid (L := L) (ns := ns) (r := r) (by rw [Hf.out]; exact hz)
    have hres : evalR L ns r set = if setOk L none set = true then (sem (ns.map natN) r.toNat (fun v => decide ((v : Int) ∈ set)), (0, 0)) else (false, (5, -4)) := by
      unfold evalR
      rw [if_pos (by rw [Hf.out]; exact hz)]
    have HRes := hide hres
    have Hvalid := hide hvalid
    clear hz hres hvalid
    go_wp2_with fail
    rw [← Hw2.out]
    clear d0 d1 d2 d3 d4 d5 d6 d7 d8 e2 e3 heq
    have Hb2s := hide (Hst.out.below.trans (Hb2.out.mono Hst.out.below.size))
    go_loopw [19] (fun i wr => ∃ k : Nat, k ≤ n2 ∧ i = .int .i64 k ∧ Qt w2 wr ∧ setOk L none set = setOk L (if k = 0 then none else set[k-1]?) (set.drop k)) (fun i _ => n2 - (intOf i).toNat)
    case atStart => exact ⟨0, by omega, rfl, Qt.refl _, by simp⟩
    case round =>
      obtain ⟨k, hk, rfl, hq, hrel⟩ := hrel
      have hvbr := Hvb2.out.keep (hq.below _)
      obtain ⟨d0, d1, d2, d3, d4, d5, d6, d7, d8⟩ := hvbr.facts
      have Hvbr := hide hvbr
      have Hq := hide hq
      clear hvbr hq
      by_cases hlt : k < n2
      · obtain ⟨b, off, x, rfl, hx, hxl, hxh, hcx⟩ := ((Hrd2.out.keep Hb2s.out).qt Hq.out).int hlt
        rw [drop_cons hx] at hrel
        have Hx := hide hx
        clear hx
        by_cases hk0 : k = 0
        · subst hk0
          rw [if_pos rfl, setOk_first] at hrel
          rw [Nat.add_zero] at hcx
          by_cases hbad : x < 0 ∨ L ≤ x
          · rw [if_pos hbad] at hrel
            have HR : Hid (evalR L ns r set = (false, (5, -4))) := hide (by rw [HRes.out, hrel]; rfl)
            clear hrel
            rcases (show x < 0 ∨ (0 ≤ x ∧ L ≤ x) by omega) with hz1 | ⟨hz0, hz1⟩
            all_goals
              clear hbad
              go_wp2
              refine bodyPost_ret (v := .tuple #[.bool false, faultV (5, -4)]) (by simp [results, Try.results28, go_sem, faultV, d3, d4]) rfl ?_
              rw [HR.out]
              exact ⟨rfl, (Hvbr.out.below.setCell (by simp) _).setCell (by simp) _⟩
          · rw [if_neg hbad] at hrel
            have Hrel := hide hrel
            have hz1 : 0 ≤ x := by omega
            have hz2 : x < L := by omega
            clear hrel hbad
            go_wp2_with fail
            go_roundw
            case rel => exact ⟨1, by omega, by go_num, Hq.out, by rw [Hrel.out]; simp [Hx.out]⟩
            case measure => simp [intOf]; omega
        · obtain ⟨j, rfl⟩ : ∃ j, k = j + 1 := ⟨k - 1, by omega⟩
          obtain ⟨b', off', y, e, hy, hyl, hyh, hcy⟩ := ((Hrd2.out.keep Hb2s.out).qt Hq.out).int (show j < n2 by omega)
          injection e with e
          injection e with e1 e2
          subst e1 e2
          rw [if_neg (by omega), Nat.add_sub_cancel, hy, setOk_next] at hrel
          have Hy := hide hy
          clear hy
          by_cases hbad : x < 0 ∨ L ≤ x ∨ x ≤ y
          · rw [if_pos hbad] at hrel
            have HR : Hid (evalR L ns r set = (false, (5, -4))) := hide (by rw [HRes.out, hrel]; rfl)
            clear hrel
            rcases (show x < 0 ∨ (0 ≤ x ∧ L ≤ x) ∨ (0 ≤ x ∧ x < L ∧ x ≤ y) by omega) with hz1 | ⟨hz0, hz1⟩ | ⟨hz0, hz1, hz2⟩
            all_goals
              clear hbad
              go_wp2
              refine bodyPost_ret (v := .tuple #[.bool false, faultV (5, -4)]) (by simp [results, Try.results28, go_sem, faultV, d3, d4]) rfl ?_
              rw [HR.out]
              exact ⟨rfl, (Hvbr.out.below.setCell (by simp) _).setCell (by simp) _⟩
          · rw [if_neg hbad] at hrel
            have Hrel := hide hrel
            have hz1 : 0 ≤ x := by omega
            have hz2 : x < L := by omega
            have hz3 : y < x := by omega
            clear hrel hbad
            go_wp2_with fail
            go_roundw
            case rel => exact ⟨j + 2, by omega, by go_num, Hq.out, by rw [Hrel.out]; simp [Hx.out]⟩
            case measure => simp [intOf]; omega
      · have hset : setOk L none set = true := by rw [hrel, List.drop_of_length_le (by omega), setOk_nil]
        have hres := HRes.out
        rw [if_pos hset] at hres
        obtain ⟨hv1, hcast1, hLe, hre1⟩ := Hvalid.out
        obtain ⟨L', hL'⟩ : ∃ m : Nat, L = (m : Int) := ⟨L.toNat, hLe.symm⟩
        obtain ⟨r', hr'⟩ : ∃ m : Nat, r = (m : Int) := ⟨r.toNat, hre1.symm⟩
        subst hL' hr'
        simp only [Int.toNat_natCast] at hv1 hres
        generalize hd1 : ns.map natN = ds1 at hv1 hcast1 hres
        have hlen1 : ds1.length = n := by rw [← hd1, List.length_map]; exact hl
        have hn1 : n ≤ 300 := by have := hv1.few; omega
        have hcapn := (Hrd.out).cap
        have hcsn := (Hrd.out).small
        have hroot := hv1.root
        have Hv1 := hide hv1
        have Hcast := hide hcast1
        have HR := hide hres
        have Hbr := hide ((Hb2s.out.trans ((Hq.out.below _).mono Hb2s.out.size)))
        clear hv1 hcast1 hLe hre1 hres hd1 hrel hset HRes Hvalid
        generalize hsg : (fun v : Nat => decide ((v : Int) ∈ set)) = sg at HR
        have Hsg := hide hsg
        clear hsg
        go_wp2_with fail
        obtain ⟨wq, rfl⟩ : ∃ V, V = wr := ⟨_, rfl⟩
        go_loopw [9] (fun s9 wr => ∃ q : Nat, s9 = .int .i64 q ∧ q < n + 2 ∧ Below wq.heap.size wq wr ∧ sem ds1 q sg = sem ds1 r' sg) (fun s9 _ => (intOf s9).toNat)
        case atStart => exact ⟨r', rfl, by omega, Below.refl _ _, rfl⟩
        case round =>
          obtain ⟨q, rfl, hq2, hbt, hrel⟩ := hrel
          have hvbt := Hvbr.out.keep hbt
          obtain ⟨y0, y1, y2, y3, y4, y5, y6, y7, y8⟩ := hvbt.facts
          have Hvbt := hide hvbt
          have Hbt := hide hbt
          clear hvbt hbt d0 d1 d2 d3 d4 d5 d6 d7 d8
          by_cases hqs : q < 2
          · have hbe : ((q : Int) == 1) = decide (q = 1) := by rw [Bool.eq_iff_iff]; simp; omega
            have hval : sem ds1 r' sg = decide (q = 1) := by
              rw [← hrel]
              rcases (show q = 0 ∨ q = 1 by omega) with rfl | rfl
              · rw [sem_zero]; rfl
              · rw [sem_one]; rfl
            have HR2 : Hid (evalR (L' : Int) ns (r' : Int) set = (decide (q = 1), (0, 0))) := hide (by rw [HR.out, hval])
            clear hrel hval
            go_wp2
            refine bodyPost_ret (v := .tuple #[.bool (decide (q = 1)), faultV (0, 0)]) (by simp [results, Try.results28, go_sem, faultV, y3, y4]) rfl ?_
            rw [HR2.out]
            exact ⟨rfl, (Hvbt.out.below.setCell (by simp) _).setCell (by simp) _⟩
          · obtain ⟨i, v, l, h', rfl, hn⟩ := node_of (ns := ds1) (k := q) (by omega) (by omega)
            obtain ⟨z1, z2, z3, z4, z5, z6⟩ := Hv1.out.ok.node i v l h' hn
            obtain ⟨b, off, x, rfl, hx, hc0, hc1, hc2, _, hbw⟩ := ((Hrd.out.keep Hbr.out).keep Hbt.out).node (k := i) (by omega)
            have hx2 : x = castN (v, l, h') := by
              have h1 := Hcast.out
              rw [← h1, List.getElem?_map, hn] at hx
              exact (Option.some.inj hx).symm
            subst hx2
            simp only [castN] at hc0 hc1 hc2
            rw [sem_node Hv1.out.ok hn] at hrel
            have Hrel := hide hrel
            clear hrel hx hn
            go_wp2_with fail
            have hbn : Below wr.heap.size wr (wr.alloc (.cells #[.int .i64 (v : Int), .int .i64 (l : Int), .int .i64 (h' : Int)] 69)) := (Below.refl _ _).alloc (Nat.le_refl _) _
            refine (ContainsI_ct A2 n2 c2 set v _ (((Hrd2.out.keep Hbr.out).keep Hbt.out).keep hbn)).mono ?_
            have Hbn := hide (Hbt.out.trans (hbn.mono Hbt.out.size))
            clear hbn
            rintro e w9 ⟨rfl, rfl⟩
            by_cases hin : (v : Int) ∈ set
            · have hsv : sg v = true := by rw [← Hsg.out]; exact decide_eq_true hin
              rw [decide_eq_true hin]
              have Hr2 := hide (show sem ds1 h' sg = sem ds1 r' sg by rw [← Hrel.out, if_pos hsv])
              clear hin hsv
              go_wp2_with fail
              go_roundw
              case rel => exact ⟨h', rfl, by omega, Hbn.out, Hr2.out⟩
              case measure => simp [intOf]; omega
            · have hsv : ¬ sg v = true := by rw [← Hsg.out]; simpa using hin
              rw [decide_eq_false hin]
              have Hr2 := hide (show sem ds1 l sg = sem ds1 r' sg by rw [← Hrel.out, if_neg hsv])
              clear hin hsv
              go_wp2_with fail
              go_roundw
              case rel => exact ⟨l, rfl, by omega, Hbn.out, Hr2.out⟩
              case measure => simp [intOf]; omega
  · rw [decide_eq_false hz] at heq
    have hres : evalR L ns r set = (false, (f1, f2)) := by unfold evalR; rw [Hf.out, if_neg hz]
    have HRes := hide hres
    clear hz hres
    go_wp2_with fail
    rw [← Hw2.out]
    obtain ⟨x0, x1, x2, x3, x4, x5, x6, x7, x8⟩ := Hvb2.out.facts
    have y0 := Hbf.out.cell 0
    have y1 := Hbf.out.cell 1
    have y2 := Hbf.out.lt
    simp only [List.getElem?_cons_zero, List.getElem?_cons_succ] at y0 y1
    go_region
    all_goals go_wp2
    all_goals
      refine bodyPost_ret (v := .tuple #[.bool false, faultV (f1, f2)]) (by simp [results, Try.results28, go_sem, faultV, x3, x4]) rfl ?_
      rw [HRes.out]
      exact ⟨rfl, ((Hvb2.out.below.setCell (by simp) _).setCell (by simp) _).drew⟩
end Go.Proofs.Ytgenpcokpodhkaa
