/- The laws' example: its last region. -/
import Derived.Test.YtgenpcokpodhkaaDgLaw0
import Derived.Test.YtgenpcokpodhkaaDgPure6
import Derived.Test.YtgenpcokpodhkaaRef1
namespace Go.Proofs.Ytgenpcokpodhkaa
open Go.RowKit Go.Maps

theorem lit_rd1 (w : World) (x : Int) (hx : -9223372036854775808 ≤ x ∧ x ≤ 9223372036854775807) : Rd Enc.int (w.alloc (.cells #[.int .i64 x] 3)) (some ⟨w.heap.size, 0, none⟩) 1 1 [x] := by
  have ho := World.ownsRow_lit (base := w.heap.size) (e := 3) (size := 1) w #[.int .i64 x] 1 (Nat.le_refl _) (by unfold maxLen; omega) rfl
  exact own_rd (l := [x]) ho rfl (by intro y hy; simp at hy; subst hy; exact hx)
theorem lit_rd2 (w : World) : Rd (Enc.sl Enc.int) ((w.alloc (.cells #[.int .i64 1] 3)).alloc (.cells #[.slice (some ⟨w.heap.size, 0, none⟩) 1 1] 48)) (some ⟨w.heap.size + 1, 0, none⟩) 1 1 [[1]] := by
  refine ⟨rfl, Nat.le_refl _, by omega, (fun h => by cases h), fun _ => ⟨w.heap.size + 1, 0, rfl, fun j x hj => ?_⟩⟩
  cases j with
  | succ j => simp at hj
  | zero =>
    simp at hj
    subst hj
    refine ⟨[.slice (some ⟨w.heap.size, 0, none⟩) 1 1], ⟨some ⟨w.heap.size, 0, none⟩, 1, 1, rfl, (lit_rd1 w 1 (by omega)).keep ((Below.refl _ _).alloc (Nat.le_refl _) _)⟩, fun i v hi => ?_⟩
    cases i with
    | succ i => simp at hi
    | zero =>
      simp at hi
      subst hi
      simp [Enc.sl]
/-- boxes that a function has -/
def Bxs (w : World) (X : List (TypeId × Nat × List Value)) : Prop := ∀ x ∈ X, Blk x.1 w x.2.1 x.2.2
theorem Bxs.keep {w w' : World} {X : List (TypeId × Nat × List Value)} (h : Bxs w X) (hb : Below w.heap.size w w') : Bxs w' X := fun x hx => (h x hx).keep hb
theorem Bxs.push {w : World} {X : List (TypeId × Nat × List Value)} (h : Bxs w X) (t : TypeId) (cs : List Value) : Bxs (w.alloc (.cells cs.toArray t)) ((t, w.heap.size, cs) :: X) := fun x hx => by
  rcases List.mem_cons.1 hx with rfl | hx
  · exact Blk.new w t cs
  · exact (h x hx).alloc _
theorem GivesDF.open_ {w w' : World} {e : Ending} {L : Int} {ns : List DI} {r f1 f2 : Int} (h : GivesDF w ((L, ns, r), (f1, f2)) e w') :
    ∃ A n c, e = .returned (.tuple #[.agg #[.int .i64 L, .slice A n c, .int .i64 r], .agg #[.int .i64 f1, .int .i64 f2]]) ∧ Rd Enc.node w' A n c ns ∧ Below w.heap.size w w' := by
  obtain ⟨⟨A, n, c, e, hr, _⟩, hb⟩ := h
  exact ⟨A, n, c, e, hr, hb⟩
theorem GivesD.open_ {w w' : World} {e : Ending} {L : Int} {ns : List DI} {r : Int} (h : GivesD w L ns r e w') :
    ∃ A n c, e = .returned (.agg #[.int .i64 L, .slice A n c, .int .i64 r]) ∧ Rd Enc.node w' A n c ns ∧ Below w.heap.size w w' := by
  obtain ⟨⟨A, n, c, e, hr, _⟩, hb⟩ := h
  exact ⟨A, n, c, e, hr, hb⟩
/-- what the example has when it compares -/
structure ExP (A1 : Option Addr) (n1 c1 : Nat) (A12 : Option Addr) (n12 c12 : Nat) (A7 : Option Addr) (n7 c7 b1 b12 : Nat) (cs rs : List Nat) (w0 W : World) : Prop where
  t1 : Blk 30 W b1 [(.int .i64 1), (.slice A1 n1 c1), (.int .i64 2)]
  t12 : Blk 30 W b12 [(.int .i64 1), (.slice A12 n12 c12), (.int .i64 2)]
  codes : ∀ b ∈ cs, W.cell? ⟨b, 0, none⟩ = some (.int .i64 0) ∧ b < W.heap.size
  roots : ∀ b ∈ rs, W.cell? ⟨b, 2, none⟩ = some (.int .i64 1) ∧ b < W.heap.size
  rd1 : Rd Enc.node W A1 n1 c1 nd
  rd12 : Rd Enc.node W A12 n12 c12 nd
  rd7 : Rd Enc.int W A7 n7 c7 [0]
  below : Below w0.heap.size w0 W
theorem ExP.keep {A1 : Option Addr} {n1 c1 : Nat} {A12 : Option Addr} {n12 c12 : Nat} {A7 : Option Addr} {n7 c7 b1 b12 : Nat} {cs rs : List Nat} {w0 W W' : World} (h : ExP A1 n1 c1 A12 n12 c12 A7 n7 c7 b1 b12 cs rs w0 W) (hb : Below W.heap.size W W') : ExP A1 n1 c1 A12 n12 c12 A7 n7 c7 b1 b12 cs rs w0 W' :=
  ⟨h.t1.keep hb, h.t12.keep hb, fun b hm => ⟨(hb.cell (p := ⟨b, 0, none⟩) (h.codes b hm).2).trans (h.codes b hm).1, Nat.lt_of_lt_of_le (h.codes b hm).2 hb.size⟩, fun b hm => ⟨(hb.cell (p := ⟨b, 2, none⟩) (h.roots b hm).2).trans (h.roots b hm).1, Nat.lt_of_lt_of_le (h.roots b hm).2 hb.size⟩, h.rd1.keep hb, h.rd12.keep hb, h.rd7.keep hb, h.below.trans (hb.mono h.below.size)⟩
theorem field_int (x : Int) (y : Value) (w : World) : (Instr.field 25 (.agg #[.int .i64 x, y]) 0).run Try.prog w = .ok (.int .i64 x) w := by kernel_rfl
theorem same_nd {A : Option Addr} {n c : Nat} {B : Option Addr} {m d : Nat} {w : World} (h : Rd Enc.node w A n c nd) (h2 : Rd Enc.node w B m d nd) :
    Calls Try.prog 34 #[.agg #[.int .i64 1, .slice A n c, .int .i64 2], .agg #[.int .i64 1, .slice B m d, .int .i64 2]] w (Gives w (.bool true)) := by
  have hc := SameDiagram_ct 1 A n c nd 2 1 B m d nd 2 w h h2
  rw [show sameD 1 nd 2 1 nd 2 = true from by decide +kernel] at hc
  exact hc
theorem valid_nd {A : Option Addr} {n c : Nat} {w : World} (h : Rd Enc.node w A n c nd) :
    Calls Try.prog 22 #[.agg #[.int .i64 1, .slice A n c, .int .i64 2]] w (Gives w (.agg #[.int .i64 0, .int .i64 0])) := by
  have hc := Validate_ct 1 A n c nd 2 w (by omega) (by omega) h
  rw [nd_ok] at hc
  exact hc
theorem ints_lit {A : Option Addr} {n c : Nat} {w : World} (h : Rd Enc.int w A n c [0]) :
    Calls Try.prog 32 #[.slice A n c, .slice (some ⟨w.heap.size, 0, none⟩) 1 1] (w.alloc (.cells #[.int .i64 0] 3)) (fun e w' => e = .returned (.bool true) ∧ Below w.heap.size w w') := by
  have hb : Below w.heap.size w (w.alloc (.cells #[.int .i64 0] 3)) := (Below.refl _ _).alloc (Nat.le_refl _) _
  refine (Ints_ct A _ n c 1 1 [0] [0] _ (h.keep hb) (lit_rd1 w 0 (by omega))).mono ?_
  rintro e w' ⟨rfl, hq⟩
  exact ⟨ret_bool (by decide), hb.trans ((hq.below _).mono hb.size)⟩
def findR (n : Nat) : Code → Option Code
  | .region k ops d => if k = n then some (.region k ops d) else none
  | .seq a b => match findR n a with
    | some c => some c
    | none => findR n b
  | .block _ c => findR n c
  | .loop c => findR n c
  | .scope c => findR n c
  | .cond _ a b => match findR n a with
    | some c => some c
    | none => findR n b
  | _ => none
noncomputable def reg9 : Code := ((Try.f10.body.bind (findR 9)).getD .skip)
set_option maxHeartbeats 6400000 in
set_option maxRecDepth 1000000 in
theorem ex_r9 {A1 : Option Addr} {n1 c1 : Nat} {A12 : Option Addr} {n12 c12 : Nat} {A7 : Option Addr} {n7 c7 b1 b2 b4 b6 b9 b11 b12 b13 g14 g15 b16 b17 : Nat} {w W14 : World} {Q : Exit → Act → World → Prop} (u0 u3 u18 u19 u20 u21 u22 u23 u24 u25 u26 u27 u28 u29 u30 u31 u32 u33 u34 u35 u36 u37 u38 u39 u40 u41 u42 u43 u44 u45 u46 u47 u48 u49 u50 u51 u52 u53 u54 u55 u56 u57 u58 u59 u60 u61 u62 u63 u64 u65 u66 u67 u68 u69 u70 u71 u72 u73 u74 u75 u76 u77 u78 u79 u80 u81 u82 u83 u84 u85 u86 u87 u88 u89 u90 u91 u92 u93 u94 u95 u96 u97 u98 u99 u100 u101 u102 u103 u104 u105 u106 u107 u108 u109 u110 u111 u112 u113 u114 u115 u116 u117 u118 u119 u120 u121 u122 u123 u124 u125 u126 u127 u128 u129 u130 u131 u132 u133 u134 u135 u136 u137 u138 u139 u140 u141 : Value)
    (hP : ExP A1 n1 c1 A12 n12 c12 A7 n7 c7 b1 b12 [b2, b4, b6, b9, b11, b13, g15, b17] [g14, b16] w W14)
    (hQ : ∀ (v63 v64 v65 v66 v67 v68 v69 v70 v71 v72 v73 v74 v75 v76 v77 v78 v79 v80 v81 v82 v83 v84 v85 v86 v87 v88 v89 v90 v91 v92 v93 v94 v95 v96 v97 v98 v99 v100 v101 v102 v103 v104 v105 v106 v107 v108 v109 v110 v111 v112 v113 v114 v115 v116 v117 v118 v119 v120 v121 v122 v123 v124 v125 v126 v127 v128 v129 v130 v131 v132 v133 v134 v135 v136 v137 v138 v139 v140 v141 : Value) (w' : World), Below w.heap.size w w' → Q .normal ⟨#[.bool true, .pointer (some ⟨b1, 0, none⟩), .pointer (some ⟨b2, 0, none⟩), u3, .pointer (some ⟨b4, 0, none⟩), .int .i64 1, .pointer (some ⟨b6, 0, none⟩), .slice A7 n7 c7, .bool true, .pointer (some ⟨b9, 0, none⟩), .bool true, .pointer (some ⟨b11, 0, none⟩), .pointer (some ⟨b12, 0, none⟩), .pointer (some ⟨b13, 0, none⟩), .pointer (some ⟨g14, 0, none⟩), .pointer (some ⟨g15, 0, none⟩), .pointer (some ⟨b16, 0, none⟩), .pointer (some ⟨b17, 0, none⟩), u18, u19, u20, u21, u22, u23, u24, u25, u26, u27, u28, u29, u30, u31, u32, u33, u34, u35, u36, u37, u38, u39, u40, u41, u42, u43, u44, u45, u46, u47, u48, u49, u50, u51, u52, u53, u54, u55, u56, u57, u58, u59, u60, u61, u62, v63, v64, v65, v66, v67, v68, v69, v70, v71, v72, v73, v74, v75, v76, v77, v78, v79, v80, v81, v82, v83, v84, v85, v86, v87, v88, v89, v90, v91, v92, v93, v94, v95, v96, v97, v98, v99, v100, v101, v102, v103, v104, v105, v106, v107, v108, v109, v110, v111, v112, v113, v114, v115, v116, v117, v118, v119, v120, v121, v122, v123, v124, v125, v126, v127, v128, v129, v130, v131, v132, v133, v134, v135, v136, v137, v138, v139, v140, v141], []⟩ w') :
    Code.wp Try.prog reg9 Q ⟨#[u0, .pointer (some ⟨b1, 0, none⟩), .pointer (some ⟨b2, 0, none⟩), u3, .pointer (some ⟨b4, 0, none⟩), .int .i64 1, .pointer (some ⟨b6, 0, none⟩), .slice A7 n7 c7, .bool true, .pointer (some ⟨b9, 0, none⟩), .bool true, .pointer (some ⟨b11, 0, none⟩), .pointer (some ⟨b12, 0, none⟩), .pointer (some ⟨b13, 0, none⟩), .pointer (some ⟨g14, 0, none⟩), .pointer (some ⟨g15, 0, none⟩), .pointer (some ⟨b16, 0, none⟩), .pointer (some ⟨b17, 0, none⟩), u18, u19, u20, u21, u22, u23, u24, u25, u26, u27, u28, u29, u30, u31, u32, u33, u34, u35, u36, u37, u38, u39, u40, u41, u42, u43, u44, u45, u46, u47, u48, u49, u50, u51, u52, u53, u54, u55, u56, u57, u58, u59, u60, u61, u62, u63, u64, u65, u66, u67, u68, u69, u70, u71, u72, u73, u74, u75, u76, u77, u78, u79, u80, u81, u82, u83, u84, u85, u86, u87, u88, u89, u90, u91, u92, u93, u94, u95, u96, u97, u98, u99, u100, u101, u102, u103, u104, u105, u106, u107, u108, u109, u110, u111, u112, u113, u114, u115, u116, u117, u118, u119, u120, u121, u122, u123, u124, u125, u126, u127, u128, u129, u130, u131, u132, u133, u134, u135, u136, u137, u138, u139, u140, u141], []⟩ W14 := by
  conv => arg 2; whnf
  have HP := hide hP
  have HQ := hide hQ
  clear hQ
  have d10 := hP.t1.cell 0
  have d11 := hP.t1.cell 1
  have d12 := hP.t1.cell 2
  have d1l := hP.t1.lt
  have d20 := hP.t12.cell 0
  have d21 := hP.t12.cell 1
  have d22 := hP.t12.cell 2
  have d2l := hP.t12.lt
  simp only [List.getElem?_cons_zero, List.getElem?_cons_succ] at d10 d11 d12 d20 d21 d22
  obtain ⟨kk0, kl0⟩ := hP.codes (b2) (by simp)
  obtain ⟨kk1, kl1⟩ := hP.codes (b4) (by simp)
  obtain ⟨kk2, kl2⟩ := hP.codes (b6) (by simp)
  obtain ⟨kk3, kl3⟩ := hP.codes (b9) (by simp)
  obtain ⟨kk4, kl4⟩ := hP.codes (b11) (by simp)
  obtain ⟨kk5, kl5⟩ := hP.codes (b13) (by simp)
  obtain ⟨kk6, kl6⟩ := hP.codes (g15) (by simp)
  obtain ⟨kk7, kl7⟩ := hP.codes (b17) (by simp)
  obtain ⟨rr0, rl0⟩ := hP.roots (g14) (by simp)
  obtain ⟨rr1, rl1⟩ := hP.roots (b16) (by simp)
  clear hP
  have hfld := field_int
  simp only [List.append_eq, List.cons_append, List.nil_append]
  go_region_held3 (fun w' => w'.cell? ⟨b1, 0, none⟩ = some (.int .i64 1) ∧ w'.cell? ⟨b1, 1, none⟩ = some (.slice A1 n1 c1) ∧ w'.cell? ⟨b1, 2, none⟩ = some (.int .i64 2) ∧ w'.cell? ⟨b12, 0, none⟩ = some (.int .i64 1) ∧ w'.cell? ⟨b12, 1, none⟩ = some (.slice A12 n12 c12) ∧ w'.cell? ⟨b12, 2, none⟩ = some (.int .i64 2) ∧ w'.cell? ⟨b2, 0, none⟩ = some (.int .i64 0) ∧ w'.cell? ⟨b4, 0, none⟩ = some (.int .i64 0) ∧ w'.cell? ⟨b6, 0, none⟩ = some (.int .i64 0) ∧ w'.cell? ⟨b9, 0, none⟩ = some (.int .i64 0) ∧ w'.cell? ⟨b11, 0, none⟩ = some (.int .i64 0) ∧ w'.cell? ⟨b13, 0, none⟩ = some (.int .i64 0) ∧ w'.cell? ⟨g15, 0, none⟩ = some (.int .i64 0) ∧ w'.cell? ⟨b17, 0, none⟩ = some (.int .i64 0) ∧ w'.cell? ⟨g14, 2, none⟩ = some (.int .i64 1) ∧ w'.cell? ⟨b16, 2, none⟩ = some (.int .i64 1)) (first | go_keep) (first
      | (go_at_call 35
         refine (node_ct _).mono ?_
         intro e wn hp
         obtain ⟨Nn, mn, kn, rfl, hrn, hb⟩ := hp.open_
         have hP' : ExP A1 n1 c1 A12 n12 c12 A7 n7 c7 b1 b12 [b2, b4, b6, b9, b11, b13, g15, b17] [g14, b16] w wn := by
           first
             | with_reducible exact HP.out.keep hb
             | with_reducible exact (HP.out.keep (Below.refl _ _).drew).keep hb
         clear HP
         have HP := hide hP'
         have Hrn := hide hrn
         clear d10 d11 d12 d1l d20 d21 d22 d2l kk0 kl0 kk1 kl1 kk2 kl2 kk3 kl3 kk4 kl4 kk5 kl5 kk6 kl6 kk7 kl7 rr0 rl0 rr1 rl1
         have d10 := hP'.t1.cell 0
         have d11 := hP'.t1.cell 1
         have d12 := hP'.t1.cell 2
         have d1l := hP'.t1.lt
         have d20 := hP'.t12.cell 0
         have d21 := hP'.t12.cell 1
         have d22 := hP'.t12.cell 2
         have d2l := hP'.t12.lt
         simp only [List.getElem?_cons_zero, List.getElem?_cons_succ] at d10 d11 d12 d20 d21 d22
         obtain ⟨kk0, kl0⟩ := hP'.codes (b2) (by simp)
         obtain ⟨kk1, kl1⟩ := hP'.codes (b4) (by simp)
         obtain ⟨kk2, kl2⟩ := hP'.codes (b6) (by simp)
         obtain ⟨kk3, kl3⟩ := hP'.codes (b9) (by simp)
         obtain ⟨kk4, kl4⟩ := hP'.codes (b11) (by simp)
         obtain ⟨kk5, kl5⟩ := hP'.codes (b13) (by simp)
         obtain ⟨kk6, kl6⟩ := hP'.codes (g15) (by simp)
         obtain ⟨kk7, kl7⟩ := hP'.codes (b17) (by simp)
         obtain ⟨rr0, rl0⟩ := hP'.roots (g14) (by simp)
         obtain ⟨rr1, rl1⟩ := hP'.roots (b16) (by simp)
         clear hp hrn hb hP')
      | (go_at_call 34
         first
           | with_reducible refine (same_nd HP.out.rd1 Hrn.out).mono ?_
           | with_reducible refine (same_nd HP.out.rd12 Hrn.out).mono ?_
         rintro e ws ⟨rfl, hb⟩
         have hP' := HP.out.keep hb
         clear HP
         have HP := hide hP'
         clear d10 d11 d12 d1l d20 d21 d22 d2l kk0 kl0 kk1 kl1 kk2 kl2 kk3 kl3 kk4 kl4 kk5 kl5 kk6 kl6 kk7 kl7 rr0 rl0 rr1 rl1
         have d10 := hP'.t1.cell 0
         have d11 := hP'.t1.cell 1
         have d12 := hP'.t1.cell 2
         have d1l := hP'.t1.lt
         have d20 := hP'.t12.cell 0
         have d21 := hP'.t12.cell 1
         have d22 := hP'.t12.cell 2
         have d2l := hP'.t12.lt
         simp only [List.getElem?_cons_zero, List.getElem?_cons_succ] at d10 d11 d12 d20 d21 d22
         obtain ⟨kk0, kl0⟩ := hP'.codes (b2) (by simp)
         obtain ⟨kk1, kl1⟩ := hP'.codes (b4) (by simp)
         obtain ⟨kk2, kl2⟩ := hP'.codes (b6) (by simp)
         obtain ⟨kk3, kl3⟩ := hP'.codes (b9) (by simp)
         obtain ⟨kk4, kl4⟩ := hP'.codes (b11) (by simp)
         obtain ⟨kk5, kl5⟩ := hP'.codes (b13) (by simp)
         obtain ⟨kk6, kl6⟩ := hP'.codes (g15) (by simp)
         obtain ⟨kk7, kl7⟩ := hP'.codes (b17) (by simp)
         obtain ⟨rr0, rl0⟩ := hP'.roots (g14) (by simp)
         obtain ⟨rr1, rl1⟩ := hP'.roots (b16) (by simp)
         clear hb hP')
      | (go_at_call 32
         refine (ints_lit HP.out.rd7).mono ?_
         rintro e ws ⟨rfl, hb⟩
         have hP' := HP.out.keep hb
         clear HP
         have HP := hide hP'
         clear d10 d11 d12 d1l d20 d21 d22 d2l kk0 kl0 kk1 kl1 kk2 kl2 kk3 kl3 kk4 kl4 kk5 kl5 kk6 kl6 kk7 kl7 rr0 rl0 rr1 rl1
         have d10 := hP'.t1.cell 0
         have d11 := hP'.t1.cell 1
         have d12 := hP'.t1.cell 2
         have d1l := hP'.t1.lt
         have d20 := hP'.t12.cell 0
         have d21 := hP'.t12.cell 1
         have d22 := hP'.t12.cell 2
         have d2l := hP'.t12.lt
         simp only [List.getElem?_cons_zero, List.getElem?_cons_succ] at d10 d11 d12 d20 d21 d22
         obtain ⟨kk0, kl0⟩ := hP'.codes (b2) (by simp)
         obtain ⟨kk1, kl1⟩ := hP'.codes (b4) (by simp)
         obtain ⟨kk2, kl2⟩ := hP'.codes (b6) (by simp)
         obtain ⟨kk3, kl3⟩ := hP'.codes (b9) (by simp)
         obtain ⟨kk4, kl4⟩ := hP'.codes (b11) (by simp)
         obtain ⟨kk5, kl5⟩ := hP'.codes (b13) (by simp)
         obtain ⟨kk6, kl6⟩ := hP'.codes (g15) (by simp)
         obtain ⟨kk7, kl7⟩ := hP'.codes (b17) (by simp)
         obtain ⟨rr0, rl0⟩ := hP'.roots (g14) (by simp)
         obtain ⟨rr1, rl1⟩ := hP'.roots (b16) (by simp)
         clear hb hP')
      | (go_at_call 22
         refine (valid_nd Hrn.out).mono ?_
         rintro e ws ⟨rfl, hb⟩
         have hP' := HP.out.keep hb
         clear HP
         have HP := hide hP'
         clear d10 d11 d12 d1l d20 d21 d22 d2l kk0 kl0 kk1 kl1 kk2 kl2 kk3 kl3 kk4 kl4 kk5 kl5 kk6 kl6 kk7 kl7 rr0 rl0 rr1 rl1
         have d10 := hP'.t1.cell 0
         have d11 := hP'.t1.cell 1
         have d12 := hP'.t1.cell 2
         have d1l := hP'.t1.lt
         have d20 := hP'.t12.cell 0
         have d21 := hP'.t12.cell 1
         have d22 := hP'.t12.cell 2
         have d2l := hP'.t12.lt
         simp only [List.getElem?_cons_zero, List.getElem?_cons_succ] at d10 d11 d12 d20 d21 d22
         obtain ⟨kk0, kl0⟩ := hP'.codes (b2) (by simp)
         obtain ⟨kk1, kl1⟩ := hP'.codes (b4) (by simp)
         obtain ⟨kk2, kl2⟩ := hP'.codes (b6) (by simp)
         obtain ⟨kk3, kl3⟩ := hP'.codes (b9) (by simp)
         obtain ⟨kk4, kl4⟩ := hP'.codes (b11) (by simp)
         obtain ⟨kk5, kl5⟩ := hP'.codes (b13) (by simp)
         obtain ⟨kk6, kl6⟩ := hP'.codes (g15) (by simp)
         obtain ⟨kk7, kl7⟩ := hP'.codes (b17) (by simp)
         obtain ⟨rr0, rl0⟩ := hP'.roots (g14) (by simp)
         obtain ⟨rr1, rl1⟩ := hP'.roots (b16) (by simp)
         clear hb hP'))
  refine HQ.out _ _ _ _ _ _ _ _ _ _ _ _ _ _ _ _ _ _ _ _ _ _ _ _ _ _ _ _ _ _ _ _ _ _ _ _ _ _ _ _ _ _ _ _ _ _ _ _ _ _ _ _ _ _ _ _ _ _ _ _ _ _ _ _ _ _ _ _ _ _ _ _ _ _ _ _ _ _ _ _ HP.out.below
end Go.Proofs.Ytgenpcokpodhkaa
