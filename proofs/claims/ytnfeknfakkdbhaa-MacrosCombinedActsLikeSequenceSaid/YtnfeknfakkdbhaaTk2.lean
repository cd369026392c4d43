/- Sets of facts in the package strips: Update, Union, Contains. -/
import Derived.Test.YtnfeknfakkdbhaaTk1
namespace Go.Proofs.Ytnfeknfakkdbhaa
set_option linter.unusedVariables false
set_option linter.unusedSimpArgs false
open Go.RowKit

theorem OwnE.ints {t : TypeId} {B n c : Nat} {M : Nat → Prop} {w : World} {A : Option Addr} {vs : List Value} {xs : List Int} (h : OwnE Enc.int t B M w A n c vs xs) : w.ownsRow B t 1 (.slice A n c) n (xs.map (Value.int .i64)) := by
  have hv : vs = xs.map (Value.int .i64) := by
    apply List.ext_getElem?
    intro i
    have hl : vs.length = n * 1 := h.vlen
    rcases Nat.lt_or_ge i n with hi | hi
    · have hil : i < xs.length := by rw [h.len]; exact hi
      have hx : xs[i]? = some xs[i] := List.getElem?_eq_getElem _
      obtain ⟨us, h1, h2⟩ := h.elem i _ hx
      have hok := h2.ok
      have h3 : us = [.int .i64 xs[i]] := hok.1
      have h4 := h1 0 (.int .i64 xs[i]) (by rw [h3]; rfl)
      simp only [Enc.int, Nat.mul_one, Nat.add_zero] at h4
      rw [h4, List.getElem?_map, hx]
      rfl
    · rw [List.getElem?_eq_none (by omega), List.getElem?_eq_none (by rw [List.length_map, h.len]; exact hi)]
  have := h.own
  rw [hv] at this
  exact this
/-- a list of ints in a row of the call's own -/
def MadeI (w : World) (l : List Int) (e : Ending) (w' : World) : Prop :=
  Below w.heap.size w w' ∧ ∃ A c, e = .returned (.slice A l.length c) ∧ w'.ownsRow w.heap.size 3 1 (.slice A l.length c) l.length (l.map (Value.int .i64))
theorem filter_take {α : Type} {p : α → Bool} {l : List α} {k : Nat} {x : α} (h : l[k]? = some x) : (l.take (k + 1)).filter p = (l.take k).filter p ++ (if p x = true then [x] else []) := by
  rw [List.take_add_one, h, List.filter_append]
  congr 1
  simp [List.filter_cons]
set_option maxRecDepth 100000 in
set_option maxHeartbeats 3200000 in
theorem Update_ct (A B D : Option Addr) (n c n' c' n2 c2 : Nat) (s add del : List Int) (w : World) (hs : Rd Enc.int w A n c s) (ha : Rd Enc.int w B n' c' add) (hd : Rd Enc.int w D n2 c2 del) (hn : n ≤ 1000000) (hn' : n' ≤ 1000000) (hn2 : n2 ≤ 1000000)
    (hup : del.Pairwise (· ≤ ·)) :
    Calls Try.prog 97 #[.slice A n c, .slice B n' c', .slice D n2 c2] w (MadeI w (updF s add del)) := by
  obtain ⟨i1, hi1, hy0, hy1, hy2⟩ := info_parts intInfoT
  have hsm := hs.low
  have Hls := hide hs.len
  have Hs := hide hs
  have Ha := hide ha
  have Hd := hide hd
  have Hup := hide hup
  have Hla := hide ha.len
  clear hs ha hd hup
  go_enter Try.func97, Try.ntmps97
  go_wp2_with fail
  go_loopw [7, 14] (fun o i wr => ∃ (k : Nat) (O : Option Addr) (q oc : Nat) (vs : List Value), k ≤ n ∧ i = .int .i64 k ∧ o = .slice O q oc ∧ OwnE Enc.int 3 w.heap.size (fun b => w.heap.size ≤ b) wr O q oc vs ((s.take k).filter (fun x => !hasB del x)) ∧ Below w.heap.size w wr) (fun _ i _ => n - (intOf i).toNat)
  case atStart => exact ⟨0, none, 0, 0, [], by omega, rfl, rfl, OwnE.nil _ _ _ _ _, Below.refl _ _⟩
  case round =>
    obtain ⟨k, O, q, oc, vs, hk, rfl, rfl, hown, hb⟩ := hrel
    have hqk : q ≤ k := by
      rw [← hown.len]
      exact Nat.le_trans (List.length_filter_le _ _) (by rw [List.length_take]; omega)
    have hsz := hb.size
    have Hown := hide hown
    have Hb := hide hb
    clear hown hb
    by_cases hlt : k < n
    · obtain ⟨b, off, x, rfl, hx, hx1, hx2, hcx⟩ := (Hs.out.keep Hb.out).int hlt
      have hft := filter_take (p := fun x => !hasB del x) hx
      have Hft := hide hft
      clear hx hft
      obtain ⟨hf, hhf⟩ : ∃ hf, hf = hasB del x := ⟨_, rfl⟩
      have hse := Search_ct D n2 c2 del x wr (Hd.out.keep Hb.out) Hup.out (by omega)
      simp only [← hhf] at Hft
      rw [← hhf] at hse
      have Hse := hide hse
      clear hse hhf
      go_wp2_with fail
      refine Hse.out.mono ?_
      rintro e w1 ⟨p, rfl, hq⟩
      have Hown1 := hide (Hown.out.qt hq)
      have Hb1 := hide (Hb.out.trans (hq.below _))
      have hsz1 : w.heap.size ≤ w1.heap.size := Hb1.out.size
      clear hq Hown Hb
      cases hf with
      | true =>
        go_wp2_with fail
        go_roundw
        case rel => exact ⟨k + 1, O, q, oc, vs, by omega, by go_num, rfl, by rw [Hft.out]; simpa using Hown1.out, Hb1.out⟩
        case measure => simp [intOf]; omega
      | false =>
        go_wp2_with
          (at_builtin
           refine wpList_pushE rfl _ _ 22 rfl w.heap.size 3 i1 (.int .i64 0) 8 Try.underlying22 hi1 hy0 hy1 hy2 rfl (by decide) rfl Hown1.out (fun r hr => (Hown1.out.base hr).1) [.int .i64 x] x (by intro u hu; simp at hu; subst hu; rfl) rfl (firm_int (by omega) (by omega)) (by omega) (by omega) hsz1 ?_
           intro O6 oc6 w6 hown6 hch6 hat6
           have hown6 := hown6.less (M' := fun b => w.heap.size ≤ b) (fun i _ e => .inl e)
           have hb6 := row_below Hb1.out hsz1 hch6 (fun r hr => (Hown1.out.base hr).1)
           have Hown6 := hide hown6
           have Hb6 := hide hb6
           clear hown6 hch6 hat6 hb6)
        go_roundw
        case rel => exact ⟨k + 1, O6, q + 1, oc6, _, by omega, by go_num, rfl, by rw [Hft.out]; simpa using Hown6.out, Hb6.out⟩
        case measure => simp [intOf]; omega
    · obtain rfl : k = n := by omega
      have hall : (s.take k).filter (fun x => !hasB del x) = s.filter (fun x => !hasB del x) := by rw [List.take_of_length_le (by rw [Hls.out]; omega)]
      rw [hall] at Hown
      clear hall
      go_wp2_with
        (at_builtin
         refine wpList_appendE rfl _ _ 22 rfl w.heap.size 3 i1 (.int .i64 0) 8 Try.underlying22 hi1 hy0 hy1 hy2 rfl (by decide) (fun _ _ _ h => one_int h) rfl Hown.out (fun r hr => (Hown.out.base hr).1) Ha.out Hb.out (fun us y hok _ => firm_old hok Hb.out (fun i hi => hi)) rfl (by omega) (by omega) hsz ?_
         intro O6 oc6 w6 vs6 hown6 hch6 hat6
         have hb6 := row_below Hb.out hsz hch6 (fun r hr => (Hown.out.base hr).1)
         have hl6 := hown6.len
         have hi6 := hown6.ints
         have Hi6 := hide hi6
         have Hl6 := hide hl6
         have Hb6 := hide hb6
         clear hown6 hch6 hat6 hb6 hi6 hl6)
      generalize hm : q + n' = m at *
      have hmm : m ≤ 1000000000000 := by omega
      clear hm
      with_reducible refine (SortOwn_ct Hi6.out Hl6.out hmm).mono ?_
      rintro e w7 ⟨rfl, hch7, hown7⟩
      have hb7 := Hb6.out.trans (hch7.below (B := w.heap.size) (fun i e => own_base Hi6.out (by rw [own_blkA]; exact e)) Hb6.out.size)
      have Hown7 := hide hown7
      have Hb7 := hide hb7
      clear hch7 hown7 hb7
      go_wp2_with fail
      with_reducible refine (CompactOwn_ct Hown7.out (by rw [(List.mergeSort_perm _ _).length_eq]; exact Hl6.out) hmm).mono ?_
      rintro e w8 ⟨rfl, hch8, hown8⟩
      have hb8 := Hb7.out.trans (hch8.below (B := w.heap.size) (fun i e => own_base Hown7.out (by rw [own_blkA]; exact e)) Hb7.out.size)
      have Hown8 := hide hown8
      have Hb8 := hide hb8
      clear hch8 hown8 hb8
      go_wp2_with fail
      go_ret
      exact ⟨Hb8.out, O6, oc6, rfl, Hown8.out⟩
theorem Union_ct (A B : Option Addr) (n c n' c' : Nat) (s add : List Int) (w : World) (hs : Rd Enc.int w A n c s) (ha : Rd Enc.int w B n' c' add) (hn : n ≤ 1000000) (hn' : n' ≤ 1000000) :
    Calls Try.prog 96 #[.slice A n c, .slice B n' c'] w (MadeI w (updF s add [])) := by
  go_enter Try.func96, Try.ntmps96
  go_wp2_with fail
  refine (Update_ct A B none n c n' c' 0 0 s add [] w hs ha (Rd.nil_ _ _) hn hn' (by omega) List.Pairwise.nil).mono ?_
  rintro e w1 ⟨hb, O, oc, rfl, hown⟩
  go_wp2_with fail
  go_ret
  exact ⟨hb, O, oc, rfl, hown⟩

theorem take_mem' {α : Type} {l : List α} {n : Nat} {x : α} : x ∈ l.take n ↔ ∃ j, j < n ∧ l[j]? = some x := by
  constructor
  · intro h
    obtain ⟨j, hj⟩ := List.getElem?_of_mem h
    rw [List.getElem?_take] at hj
    split at hj
    · exact ⟨j, by assumption, hj⟩
    · cases hj
  · rintro ⟨j, h1, h2⟩
    exact List.mem_of_getElem? (i := j) (by rw [List.getElem?_take, if_pos h1]; exact h2)
theorem drop_mem' {α : Type} {l : List α} {n : Nat} {x : α} : x ∈ l.drop n ↔ ∃ j, n ≤ j ∧ l[j]? = some x := by
  constructor
  · intro h
    obtain ⟨j, hj⟩ := List.getElem?_of_mem h
    rw [List.getElem?_drop] at hj
    exact ⟨n + j, by omega, hj⟩
  · rintro ⟨j, h1, h2⟩
    exact List.mem_of_getElem? (i := j - n) (by rw [List.getElem?_drop, show n + (j - n) = j by omega]; exact h2)
theorem up_get {l : List Int} (h : l.Pairwise (· < ·)) {i j : Nat} {x y : Int} (hx : l[i]? = some x) (hy : l[j]? = some y) (hij : i < j) : x < y := by
  obtain ⟨a1, a2⟩ := List.getElem?_eq_some_iff.1 hx
  obtain ⟨b1, b2⟩ := List.getElem?_eq_some_iff.1 hy
  have := List.pairwise_iff_getElem.1 h i j a1 b1 hij
  omega
set_option maxRecDepth 100000 in
set_option maxHeartbeats 1600000 in
theorem Contains_ct (A B : Option Addr) (n c m d : Nat) (s part : List Int) (w : World) (hs : Rd Enc.int w A n c s) (hp : Rd Enc.int w B m d part) (us : s.Pairwise (· < ·)) (up : part.Pairwise (· < ·)) :
    Calls Try.prog 108 #[.slice A n c, .slice B m d] w (Same w (.bool (subsetB part s))) := by
  have hsm := hs.low
  have hsm2 := hp.low
  have Hls := hide hs.len
  have Hlp := hide hp.len
  have Us := hide us
  have Up := hide up
  clear us up
  go_enter Try.func108, Try.ntmps108
  go_wp2_with fail
  go_loop [5, 10] (fun i k => ∃ (p q : Nat), p ≤ n ∧ q ≤ m ∧ i = .int .i64 p ∧ k = .int .i64 q ∧ (∀ x ∈ part.take q, x ∈ s) ∧ (∀ y ∈ s.take p, ∀ x ∈ part.drop q, y < x)) (fun _ k => m - (intOf k).toNat)
  case atStart => exact ⟨0, 0, by omega, by omega, rfl, rfl, by simp, by simp⟩
  case round =>
    obtain ⟨p, q, hp1, hq1, rfl, rfl, h1, h2⟩ := hrel
    have H1 := hide h1
    clear h1
    by_cases hlt : q < m
    · obtain ⟨b, off, x, rfl, hx, hx1, hx2, hcx⟩ := hp.int hlt
      have Hx := hide hx
      have H2 := hide h2
      clear h2 hx
      go_wp2_with fail
      go_loop [5] (fun i => ∃ (p : Nat), p ≤ n ∧ i = .int .i64 p ∧ (∀ y ∈ s.take p, ∀ x ∈ part.drop q, y < x)) (fun i => n - (intOf i).toNat)
      case atStart => exact ⟨p, hp1, rfl, H2.out⟩
      case round =>
        clear H2 hp1
        obtain ⟨p, hp1, rfl, h2⟩ := hrel
        have H2 := hide h2
        clear h2
        have hxd : x ∈ part.drop q := drop_mem'.2 ⟨q, Nat.le_refl _, Hx.out⟩
        have hno : (∀ y, s[p]? = some y → x < y) → x ∉ s := fun h hm => by
          obtain ⟨j, hj⟩ := List.getElem?_of_mem hm
          rcases Nat.lt_or_ge j p with h3 | h3
          · have := H2.out x (take_mem'.2 ⟨j, h3, hj⟩) x hxd
            omega
          · have hpl : p < s.length := by have := (List.getElem?_eq_some_iff.1 hj).1; omega
            have hy := List.getElem?_eq_getElem hpl
            have h4 := h _ hy
            rcases Nat.lt_or_ge p j with h5 | h5
            · have := up_get Us.out hy hj h5
              omega
            · obtain rfl : j = p := by omega
              rw [hj] at hy
              injection hy with hy
              omega
        have hbad : (∀ y, s[p]? = some y → x < y) → subsetB part s = false := fun h => by
          rw [← Bool.not_eq_true, subsetB_iff]
          exact fun hh => hno h (hh x (List.mem_of_getElem? Hx.out))
        have Hbad := hide hbad
        clear hno hbad hxd
        by_cases hpn : p < n
        · obtain ⟨b', off', y, rfl, hy, hy1, hy2, hcy⟩ := hs.int hpn
          have Hy := hide hy
          clear hy
          by_cases hyx : y < x
          · go_wp2_with fail
            go_round
            case rel =>
              refine ⟨p + 1, by omega, by go_num, fun z hz x' hx' => ?_⟩
              obtain ⟨j, hj1, hj2⟩ := take_mem'.1 hz
              rcases Nat.lt_or_ge j p with h3 | h3
              · exact H2.out z (take_mem'.2 ⟨j, h3, hj2⟩) x' hx'
              · obtain rfl : j = p := by omega
                rw [Hy.out] at hj2
                injection hj2 with hj2
                subst hj2
                obtain ⟨i, hi1, hi2⟩ := drop_mem'.1 hx'
                rcases Nat.lt_or_ge q i with h5 | h5
                · have := up_get Up.out Hx.out hi2 h5
                  omega
                · obtain rfl : i = q := by omega
                  rw [Hx.out] at hi2
                  injection hi2 with hi2
                  omega
            case measure => simp [intOf]; omega
          · by_cases hxy : y = x
            · subst hxy
              have hne : ((p : Int) == (n : Int)) = false := by rw [beq_eq_false_iff_ne]; omega
              have hne2 : (y != y) = false := by simp
              go_wp2_with fail
              go_round
              case rel =>
                refine ⟨p, q + 1, by omega, by omega, rfl, by go_num, fun z hz => ?_, fun z hz x' hx' => ?_⟩
                · obtain ⟨j, hj1, hj2⟩ := take_mem'.1 hz
                  rcases Nat.lt_or_ge j q with h3 | h3
                  · exact H1.out z (take_mem'.2 ⟨j, h3, hj2⟩)
                  · obtain rfl : j = q := by omega
                    rw [Hx.out] at hj2
                    injection hj2 with hj2
                    subst hj2
                    exact List.mem_of_getElem? Hy.out
                · obtain ⟨i, hi1, hi2⟩ := drop_mem'.1 hx'
                  exact H2.out z hz x' (drop_mem'.2 ⟨i, by omega, hi2⟩)
              case measure => simp [intOf]; omega
            · have hne : ((p : Int) == (n : Int)) = false := by rw [beq_eq_false_iff_ne]; omega
              have hne2 : (y != x) = true := by simpa using hxy
              go_wp2_with fail
              go_ret
              refine ⟨ret_bool (Hbad.out (fun z hz => ?_)).symm, rfl⟩
              have e := Hy.out.symm.trans hz
              injection e with e
              omega
        · obtain rfl : p = n := by omega
          have hne : ((p : Int) == (p : Int)) = true := by simp
          go_wp2_with fail
          go_ret
          refine ⟨ret_bool (Hbad.out (fun z hz => ?_)).symm, rfl⟩
          have := (List.getElem?_eq_some_iff.1 hz).1
          have := Hls.out
          omega
    · obtain rfl : q = m := by omega
      go_wp2_with fail
      go_ret
      refine ⟨ret_bool ?_, rfl⟩
      rw [eq_comm, subsetB_iff]
      have := H1.out
      rwa [List.take_of_length_le (by rw [Hlp.out]; omega)] at this
end Go.Proofs.Ytnfeknfakkdbhaa
