/- The laws' example: the region of Or. -/
import Derived.Test.YtgenpcokpodhkaaDgLaw1b
namespace Go.Proofs.Ytgenpcokpodhkaa
open Go.RowKit Go.Maps
noncomputable def reg7 : Code := ((Try.f10.body.bind (findR 7)).getD .skip)
set_option maxHeartbeats 6400000 in
set_option maxRecDepth 1000000 in
theorem ex_r7 {A3 : Option Addr} {n3 c3 b3 : Nat} {W12 : World} {Q : Exit → Act → World → Prop} (u0 u1 u2 u4 u5 u6 u7 u8 u9 u10 u11 u12 u13 u14 u15 u16 u17 u18 u19 u20 u21 u22 u23 u24 u25 u26 u27 u28 u29 u30 u31 u32 u33 u34 u35 u36 u37 u38 u39 u40 u41 u42 u43 u44 u45 u46 u47 u48 u49 u50 u51 u52 u53 u54 u55 u56 u57 u58 u59 u60 u61 u62 u63 u64 u65 u66 u67 u68 u69 u70 u71 u72 u73 u74 u75 u76 u77 u78 u79 u80 u81 u82 u83 u84 u85 u86 u87 u88 u89 u90 u91 u92 u93 u94 u95 u96 u97 u98 u99 u100 u101 u102 u103 u104 u105 u106 u107 u108 u109 u110 u111 u112 u113 u114 u115 u116 u117 u118 u119 u120 u121 u122 u123 u124 u125 u126 u127 u128 u129 u130 u131 u132 u133 u134 u135 u136 u137 u138 u139 u140 u141 : Value)
    (hq0 : Blk 30 W12 b3 [(.int .i64 1), (.slice A3 n3 c3), (.int .i64 2)]) (hr3 : Rd Enc.node W12 A3 n3 c3 nt)
    (hQ : ∀ (g14 g15 : Nat) (v52 v53 v54 v55 v56 v57 : Value) (w' : World), w'.cell? ⟨g14, 2, none⟩ = some (.int .i64 1) → w'.cell? ⟨g15, 0, none⟩ = some (.int .i64 0) → g14 < w'.heap.size → g15 < w'.heap.size → Below W12.heap.size W12 w' → Q .normal ⟨#[u0, u1, u2, .pointer (some ⟨b3, 0, none⟩), u4, u5, u6, u7, u8, u9, u10, u11, u12, u13, .pointer (some ⟨g14, 0, none⟩), .pointer (some ⟨g15, 0, none⟩), u16, u17, u18, u19, u20, u21, u22, u23, u24, u25, u26, u27, u28, u29, u30, u31, u32, u33, u34, u35, u36, u37, u38, u39, u40, u41, u42, u43, u44, u45, u46, u47, u48, u49, u50, u51, v52, v53, v54, v55, v56, v57, u58, u59, u60, u61, u62, u63, u64, u65, u66, u67, u68, u69, u70, u71, u72, u73, u74, u75, u76, u77, u78, u79, u80, u81, u82, u83, u84, u85, u86, u87, u88, u89, u90, u91, u92, u93, u94, u95, u96, u97, u98, u99, u100, u101, u102, u103, u104, u105, u106, u107, u108, u109, u110, u111, u112, u113, u114, u115, u116, u117, u118, u119, u120, u121, u122, u123, u124, u125, u126, u127, u128, u129, u130, u131, u132, u133, u134, u135, u136, u137, u138, u139, u140, u141], []⟩ w') :
    Code.wp Try.prog reg7 Q ⟨#[u0, u1, u2, .pointer (some ⟨b3, 0, none⟩), u4, u5, u6, u7, u8, u9, u10, u11, u12, u13, u14, u15, u16, u17, u18, u19, u20, u21, u22, u23, u24, u25, u26, u27, u28, u29, u30, u31, u32, u33, u34, u35, u36, u37, u38, u39, u40, u41, u42, u43, u44, u45, u46, u47, u48, u49, u50, u51, u52, u53, u54, u55, u56, u57, u58, u59, u60, u61, u62, u63, u64, u65, u66, u67, u68, u69, u70, u71, u72, u73, u74, u75, u76, u77, u78, u79, u80, u81, u82, u83, u84, u85, u86, u87, u88, u89, u90, u91, u92, u93, u94, u95, u96, u97, u98, u99, u100, u101, u102, u103, u104, u105, u106, u107, u108, u109, u110, u111, u112, u113, u114, u115, u116, u117, u118, u119, u120, u121, u122, u123, u124, u125, u126, u127, u128, u129, u130, u131, u132, u133, u134, u135, u136, u137, u138, u139, u140, u141], []⟩ W12 := by
  conv => arg 2; whnf
  have Hr3 := hide hr3
  have HQ := hide hQ
  have q0 := hq0.cell 0
  have q1 := hq0.cell 1
  have q2 := hq0.cell 2
  have q3 := hq0.lt
  simp only [List.getElem?_cons_zero, List.getElem?_cons_succ] at q0 q1 q2
  clear hq0 hr3 hQ
  have nw0 : ¬ b3 = W12.heap.size := by omega
  have nw1 : ¬ W12.heap.size = b3 := by omega
  have nw2 : ¬ b3 = W12.heap.size + 1 := by omega
  have nw3 : ¬ W12.heap.size + 1 = b3 := by omega
  go_region_held3 (fun w' => w'.cell? ⟨b3, 0, none⟩ = some (.int .i64 1) ∧ w'.cell? ⟨b3, 1, none⟩ = some (.slice A3 n3 c3) ∧ w'.cell? ⟨b3, 2, none⟩ = some (.int .i64 2)) (first | go_keep) (first
    | (go_at_call 35
       refine (node_ct _).mono ?_
       intro e wn hp
       obtain ⟨Nn, mn, kn, rfl, hrn, hbn⟩ := hp.open_
       have hwn : Below W12.heap.size W12 wn := by
         first
           | exact (Below.refl _ _).drew.trans hbn
           | exact ((Below.refl W12.heap.size W12).drew.alloc (Nat.le_refl _) _).trans (hbn.mono (by simp))
           | exact (((Below.refl W12.heap.size W12).drew.alloc (Nat.le_refl _) _).alloc (by simp) _).trans (hbn.mono (by simp; omega))
       try
         have hD : Blk 30 wn W12.heap.size [.int .i64 0, .slice none 0 0, .int .i64 0] := (Blk.new W12.drew 30 [.int .i64 0, .slice none 0 0, .int .i64 0]).keep hbn
         have HD := hide hD
         clear hD
       try
         have hF : Blk 25 wn W12.heap.size [.int .i64 0, .int .i64 0] := (Blk.new W12.drew 25 [.int .i64 0, .int .i64 0]).keep hbn
         have HF := hide hF
         clear hF
       try
         have hD : Blk 30 wn W12.heap.size [.int .i64 0, .slice none 0 0, .int .i64 0] := ((Blk.new W12.drew 30 [.int .i64 0, .slice none 0 0, .int .i64 0]).alloc (.cells #[.int .i64 0, .int .i64 0] 25)).keep hbn
         have hz1 := Blk.new (W12.drew.alloc (.cells #[.int .i64 0, .slice none 0 0, .int .i64 0] 30)) 25 [.int .i64 0, .int .i64 0]
         simp only [World.size_alloc] at hz1
         have hF : Blk 25 wn (W12.heap.size + 1) [.int .i64 0, .int .i64 0] := hz1.keep hbn
         clear hz1
         have HD := hide hD
         have HF := hide hF
         clear hD hF
       try
         have hF : Blk 25 wn W12.heap.size [.int .i64 0, .int .i64 0] := ((Blk.new W12.drew 25 [.int .i64 0, .int .i64 0]).alloc (.cells #[.int .i64 0, .slice none 0 0, .int .i64 0] 30)).keep hbn
         have hz1 := Blk.new (W12.drew.alloc (.cells #[.int .i64 0, .int .i64 0] 25)) 30 [.int .i64 0, .slice none 0 0, .int .i64 0]
         simp only [World.size_alloc] at hz1
         have hD : Blk 30 wn (W12.heap.size + 1) [.int .i64 0, .slice none 0 0, .int .i64 0] := hz1.keep hbn
         clear hz1
         have HD := hide hD
         have HF := hide hF
         clear hD hF
       have hos := hbn.size
       have he0 := (hwn.cell (p := ⟨b3, 0, none⟩) q3).trans q0
       have he1 := (hwn.cell (p := ⟨b3, 1, none⟩) q3).trans q1
       have he2 := (hwn.cell (p := ⟨b3, 2, none⟩) q3).trans q2
       have hcc := fun W (h1 : Rd Enc.node W Nn mn kn nd) (h2 : Rd Enc.node W A3 n3 c3 nt) => Or_d2 1 Nn mn kn nd 2 1 A3 n3 c3 nt 2 W (by omega) (by omega) (by omega) (by omega) h1 h2
       rw [ex_or] at hcc
       have Hcc := hide hcc
       have Hrn := hide hrn
       have Hwn := hide hwn
       have hnl := hwn.size
       try have hDl := HD.out.lt
       try have hFl := HF.out.lt
       try have hx0 : ¬ wn.heap.size = W12.heap.size := by omega
       try have hx1 : ¬ W12.heap.size = wn.heap.size := by omega
       try have hx2 : ¬ wn.heap.size = W12.heap.size + 1 := by omega
       try have hx3 : ¬ W12.heap.size + 1 = wn.heap.size := by omega
       try have hx4 : ¬ wn.heap.size + 1 = W12.heap.size := by omega
       try have hx5 : ¬ W12.heap.size = wn.heap.size + 1 := by omega
       have nn0 : ¬ b3 = wn.heap.size := by omega
       have nn1 : ¬ wn.heap.size = b3 := by omega
       have nn2 : ¬ b3 = wn.heap.size + 1 := by omega
       have nn3 : ¬ wn.heap.size + 1 = b3 := by omega
       clear hp hrn hbn hwn hcc)
    | (go_at_call 20
       refine (Hcc.out _ (by
         first
           | exact Hrn.out
           | exact Hrn.out.keep ((Below.refl _ _).alloc (Nat.le_refl _) _)
           | exact Hrn.out.keep (((Below.refl _ _).alloc (Nat.le_refl _) _).alloc (by simp) _)) (by
         first
           | exact Hr3.out.keep Hwn.out
           | exact (Hr3.out.keep Hwn.out).keep ((Below.refl _ _).alloc (Nat.le_refl _) _)
           | exact (Hr3.out.keep Hwn.out).keep (((Below.refl _ _).alloc (Nat.le_refl _) _).alloc (by simp) _))).mono ?_
       intro e wo hp
       obtain ⟨Ao, no, co, rfl, hro, hbo⟩ := hp.open_
       have hwo : Below W12.heap.size W12 wo := by
         first
           | exact Hwn.out.trans (hbo.mono hnl)
           | exact (Hwn.out.alloc hnl _).trans (hbo.mono (by simp; omega))
           | exact ((Hwn.out.alloc hnl _).alloc (by simp; omega) _).trans (hbo.mono (by simp; omega))
       try have hD := HD.out.keep hbo
       try have hD := (HD.out.alloc (.cells #[.int .i64 0, .int .i64 0] 25)).keep hbo
       try have hF := HF.out.keep hbo
       try have hF := (HF.out.alloc (.cells #[.int .i64 0, .slice none 0 0, .int .i64 0] 30)).keep hbo
       try have hD : Blk 30 wo wn.heap.size [.int .i64 0, .slice none 0 0, .int .i64 0] := (Blk.new wn 30 [.int .i64 0, .slice none 0 0, .int .i64 0]).keep hbo
       try have hF : Blk 25 wo wn.heap.size [.int .i64 0, .int .i64 0] := (Blk.new wn 25 [.int .i64 0, .int .i64 0]).keep hbo
       try
         have hD : Blk 30 wo wn.heap.size [.int .i64 0, .slice none 0 0, .int .i64 0] := ((Blk.new wn 30 [.int .i64 0, .slice none 0 0, .int .i64 0]).alloc (.cells #[.int .i64 0, .int .i64 0] 25)).keep hbo
         have hz1 := Blk.new (wn.alloc (.cells #[.int .i64 0, .slice none 0 0, .int .i64 0] 30)) 25 [.int .i64 0, .int .i64 0]
         simp only [World.size_alloc] at hz1
         have hF : Blk 25 wo (wn.heap.size + 1) [.int .i64 0, .int .i64 0] := hz1.keep hbo
         clear hz1
       try
         have hF : Blk 25 wo wn.heap.size [.int .i64 0, .int .i64 0] := ((Blk.new wn 25 [.int .i64 0, .int .i64 0]).alloc (.cells #[.int .i64 0, .slice none 0 0, .int .i64 0] 30)).keep hbo
         have hz1 := Blk.new (wn.alloc (.cells #[.int .i64 0, .int .i64 0] 25)) 30 [.int .i64 0, .slice none 0 0, .int .i64 0]
         simp only [World.size_alloc] at hz1
         have hD : Blk 30 wo (wn.heap.size + 1) [.int .i64 0, .slice none 0 0, .int .i64 0] := hz1.keep hbo
         clear hz1
       try
         have hD0 := hD.cell 0
         have hD1 := hD.cell 1
         have hD2 := hD.cell 2
         have hD3 := hD.frozen 0
         have hD4 := hD.frozen 1
         have hD5 := hD.frozen 2
         have hD6 := hD.lt
         simp only [List.getElem?_cons_zero, List.getElem?_cons_succ] at hD0 hD1 hD2
       try
         have hF0 := hF.cell 0
         have hF1 := hF.cell 1
         have hF3 := hF.frozen 0
         have hF4 := hF.frozen 1
         have hF6 := hF.lt
         simp only [List.getElem?_cons_zero, List.getElem?_cons_succ] at hF0 hF1
       have hos2 := hbo.size
       have hf0 := (hwo.cell (p := ⟨b3, 0, none⟩) q3).trans q0
       have hf1 := (hwo.cell (p := ⟨b3, 1, none⟩) q3).trans q1
       have hf2 := (hwo.cell (p := ⟨b3, 2, none⟩) q3).trans q2
       have Hwo := hide hwo
       have hol := hwo.size
       try have hy0 : ¬ wo.heap.size = W12.heap.size := by omega
       try have hy1 : ¬ W12.heap.size = wo.heap.size := by omega
       try have hy2 : ¬ wo.heap.size = W12.heap.size + 1 := by omega
       try have hy3 : ¬ W12.heap.size + 1 = wo.heap.size := by omega
       try have hy4 : ¬ wo.heap.size = wn.heap.size := by omega
       try have hy5 : ¬ wn.heap.size = wo.heap.size := by omega
       try have hy6 : ¬ wo.heap.size = wn.heap.size + 1 := by omega
       try have hy7 : ¬ wn.heap.size + 1 = wo.heap.size := by omega
       have no0 : ¬ b3 = wo.heap.size := by omega
       have no1 : ¬ wo.heap.size = b3 := by omega
       have no2 : ¬ b3 = wo.heap.size + 1 := by omega
       have no3 : ¬ wo.heap.size + 1 = b3 := by omega
       clear hp hro hbo hwo
       try clear hD
       try clear hF))

  all_goals go_wp2_with fail
  all_goals refine HQ.out _ _ _ _ _ _ _ _ _ ?_ ?_ ?_ ?_ ?_
  all_goals first
    | (go_simp; done)
    | (simp [World.setCell]; done)
    | (simp [World.setCell]; omega)
    | (repeat (first | exact Hwo.out | refine Below.setCell ?_ ?_ _ | refine Below.alloc ?_ ?_ _)) <;> first | omega | (simp [World.setCell]; done) | (simp [World.setCell]; omega)
end Go.Proofs.Ytgenpcokpodhkaa
