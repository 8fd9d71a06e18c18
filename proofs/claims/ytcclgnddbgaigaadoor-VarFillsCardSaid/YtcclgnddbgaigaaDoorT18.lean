/- A part of the proof of VarFills: what functions of the program answer. -/
import Derived.Test.YtcclgnddbgaigaaDoorT17
open Nat renaming le_refl → jz18, add_zero → jz21, zero_add → yz24, le_zero_eq → yz32
open List renaming take_succ_cons → yz19, replicate_succ → jz19, length_cons → zz20, length_append → yz20, all_cons → zz21, singleton_append → yz22, cons_append → jz22, map_nil → zz23, map_cons → yz23, length_nil → yz25, drop_zero → jz25, append_nil → jz26, take_zero → zz27, nil_append → yz27, all_nil → jz27, set_cons_succ → zz28, set_cons_zero → yz28, getD_cons_succ → jz28, getD_cons_zero → zz29, replicate_zero → yz29, drop_succ_cons → yz31, drop_nil → jz31, take_nil → zz32, length_drop → jz32
open Bool renaming false_eq_true → yz21, not_false → jz24, not_true → zz25, and_self → zz26, true_beq → jz30, false_beq → zz31
open Option renaming map_some → zz22, map_none → jz23, bind_some → zz24
open Int renaming toNat_natCast → yz26, toNat_zero → jz29, toNat_one → zz30, cast_ofNat_Int → yz30
set_option linter.all false
section
namespace Go.Dx
open Go Go.Proofs
set_option maxRecDepth 8000
attribute [local congr] Q7 Q6 R2 P8 Q2 Q5 Q3 zz1 zz14
variable {b c : UInt8} {l s p : List UInt8} {H : Heap} {K : DV → Heap → Prop} {i n m k : Int}
theorem take1 {l : List UInt8} {i : Nat} {c : UInt8} (hc : ¬ c = 0) : ((l.drop i).take 1 = [c]) = (l.getD i 0 = c) := by
  apply propext
  by_cases h : i < l.length
  · rw [List.drop_eq_getElem_cons h,yz19,zz27,List.getD_eq_getElem?_getD,List.getElem?_eq_getElem h]; simp
  · rw [List.drop_eq_nil_of_le (by omega),List.getD_eq_getElem?_getD,List.getElem?_eq_none (by omega)]
    simp only [zz32,Option.getD_none]
    exact ⟨fun e => (by cases e),fun e => absurd e.symm hc⟩
theorem p41 (h0 : 0 ≤ i) (h1 : i ≤ l.length) (h2 : l.length < 2 ^ 39) : PE Tryd.prog cfgV 41 [strD l,intD m,intD i] (Y9 l m i) := by
  refine PE.code rfl code41 ?_
  dsimp only [sf41]
  have k1 := name_fits h0 h1
  have k4 : (l.drop i.toNat).length < 2 ^ 39 := by rw [jz32]; omega
  have k2 : (P7 (l.drop i.toNat)).1.length < 2 ^ 60 := by
    have := jz4 (l.drop i.toNat)
    rw [jz32] at this; omega
  have t37 := take1 (l := l) (i := i.toNat) (c := 37) (by decide)
  by_cases hp : l.getD i.toNat 0 = 37
  · have k3 : i < l.length := by
      apply Classical.byContradiction
      intro hn
      rw [List.getD_eq_getElem?_getD,List.getElem?_eq_none (by omega)] at hp
      exact absurd hp (by decide)
    repeat' (first | (simp (maxSteps := 10000000) -implicitDefEqProofs (disch := first | exact tStr | decide | omega | assumption | (simp only [zz20,yz25,yz20]; omega)) only [D3,G6,G4,A9,C9,G3,B4,A1,C6,B2,D4,G5,D6,C5,B1,G7,B7,B8,C0,D8,D9,A5,J8,H9,E0,E1,M2,M3,M5,M4,I3,I4,P2,E4,E6,I0,B5,M1,N8,M9,N2,N3,N4,N5,N6,N7,N1,J2,J3,J4,J5,J6,J1,I8,I7,I9,M0,K9,E3,L1,C3,O1,O2,G2,O9,N9,O0,B0,L8,D2,I2,zz28,yz28,jz28,zz29,yz23,zz23,jz22,yz27,jz19,yz29,zz20,yz25,Nat.reduceAdd,Nat.reduceSub,Nat.reduceLT,Nat.reduceEqDiff,zz22,jz23,if_true,if_false,yz21,decide_true,decide_false,zz25,jz24,reduceIte,List.getElem?_cons_succ,List.getElem?_cons_zero,UInt8.reduceOfNat,fin1,fin2,L2,O7,L3,O8,H3,H6,H4,L4,H5,L5,B6,A8,zz24,M7,H0,M6,G0,Option.some.injEq,DV.tup.injEq,jz29,zz30,Int.reduceToNat,yz30,and_true,true_and,beq_self_eq_true,jz30,zz31,not_true_eq_false,not_false_eq_true,M8,J7,J0,A6,L9,K6,A4,B9,D7,G9,O3,O4,K0,F2,F5,I5,I6,F7,F4,F3,F6,K1,K4,O5,O6,K3,K2,K5,F8,F9,E8,E2,J9,G1,C7,E9,L0,C4,I1,K8,K7,E7,P3,C8,B3,A0,L7,H8,E5,L6,H7,yz19,zz27,yz31,jz25,jz31,zz32,jz26,zz21,jz27,zz26,and_self,Nat.reduceLeDiff,jz18,exists_eq_left',yz24,jz21,Nat.reduceBEq,yz22,yz32,G8,A3,N0,Int.reduceLT,Int.reduceLE,Int.reduceEq,c42,c39,c68,c71, *]) | with_reducible (first | refine C2 (fun h => ?_) fun h => ?_ | refine F1 (fun h => ?_) fun h => ?_ | refine C1 (fun h => ?_) fun h => ?_ | refine F0 (fun h => ?_) fun h => ?_ | refine A2 (fun h => ?_) fun h => ?_ | refine A7 (fun h => ?_) fun h => ?_) | (refine D5 ?_ ?_ ?_; (focus decide +kernel); (focus decide +kernel)))
    all_goals simp only [Y9,tokD, *,if_true]
  · by_cases hb : W9 (l.drop i.toNat) = true
    · repeat' (first | (simp (maxSteps := 10000000) -implicitDefEqProofs (disch := first | exact tStr | decide | omega | assumption | (simp only [zz20,yz25,yz20]; omega)) only [D3,G6,G4,A9,C9,G3,B4,A1,C6,B2,D4,G5,D6,C5,B1,G7,B7,B8,C0,D8,D9,A5,J8,H9,E0,E1,M2,M3,M5,M4,I3,I4,P2,E4,E6,I0,B5,M1,N8,M9,N2,N3,N4,N5,N6,N7,N1,J2,J3,J4,J5,J6,J1,I8,I7,I9,M0,K9,E3,L1,C3,O1,O2,G2,O9,N9,O0,B0,L8,D2,I2,zz28,yz28,jz28,zz29,yz23,zz23,jz22,yz27,jz19,yz29,zz20,yz25,Nat.reduceAdd,Nat.reduceSub,Nat.reduceLT,Nat.reduceEqDiff,zz22,jz23,if_true,if_false,yz21,decide_true,decide_false,zz25,jz24,reduceIte,List.getElem?_cons_succ,List.getElem?_cons_zero,UInt8.reduceOfNat,fin1,fin2,L2,O7,L3,O8,H3,H6,H4,L4,H5,L5,B6,A8,zz24,M7,H0,M6,G0,Option.some.injEq,DV.tup.injEq,jz29,zz30,Int.reduceToNat,yz30,and_true,true_and,beq_self_eq_true,jz30,zz31,not_true_eq_false,not_false_eq_true,M8,J7,J0,A6,L9,K6,A4,B9,D7,G9,O3,O4,K0,F2,F5,I5,I6,F7,F4,F3,F6,K1,K4,O5,O6,K3,K2,K5,F8,F9,E8,E2,J9,G1,C7,E9,L0,C4,I1,K8,K7,E7,P3,C8,B3,A0,L7,H8,E5,L6,H7,yz19,zz27,yz31,jz25,jz31,zz32,jz26,zz21,jz27,zz26,and_self,Nat.reduceLeDiff,jz18,exists_eq_left',yz24,jz21,Nat.reduceBEq,yz22,yz32,G8,A3,N0,Int.reduceLT,Int.reduceLE,Int.reduceEq,c42,c39,c68,c71,List.getElem?_cons_zero, *]) | with_reducible (first | refine C2 (fun h => ?_) fun h => ?_ | refine F1 (fun h => ?_) fun h => ?_ | refine C1 (fun h => ?_) fun h => ?_ | refine F0 (fun h => ?_) fun h => ?_ | refine A2 (fun h => ?_) fun h => ?_ | refine A7 (fun h => ?_) fun h => ?_) | (refine D5 ?_ ?_ ?_; (focus decide +kernel); (focus decide +kernel)))
      refine S7 (List.replicate 11 none) rfl (by decide +kernel) (by decide +kernel) ?_; simp only [yz23,zz23,jz19,yz29,List.zip_cons_cons,List.zip_nil_left]
      repeat' (first | (simp (maxSteps := 10000000) -implicitDefEqProofs (disch := first | exact tStr | decide | omega | assumption | (simp only [zz20,yz25,yz20]; omega)) only [D3,G6,G4,A9,C9,G3,B4,A1,C6,B2,D4,G5,D6,C5,B1,G7,B7,B8,C0,D8,D9,A5,J8,H9,E0,E1,M2,M3,M5,M4,I3,I4,P2,E4,E6,I0,B5,M1,N8,M9,N2,N3,N4,N5,N6,N7,N1,J2,J3,J4,J5,J6,J1,I8,I7,I9,M0,K9,E3,L1,C3,O1,O2,G2,O9,N9,O0,B0,L8,D2,I2,zz28,yz28,jz28,zz29,yz23,zz23,jz22,yz27,jz19,yz29,zz20,yz25,Nat.reduceAdd,Nat.reduceSub,Nat.reduceLT,Nat.reduceEqDiff,zz22,jz23,if_true,if_false,yz21,decide_true,decide_false,zz25,jz24,reduceIte,List.getElem?_cons_succ,List.getElem?_cons_zero,UInt8.reduceOfNat,fin1,fin2,L2,O7,L3,O8,H3,H6,H4,L4,H5,L5,B6,A8,zz24,M7,H0,M6,G0,Option.some.injEq,DV.tup.injEq,jz29,zz30,Int.reduceToNat,yz30,and_true,true_and,beq_self_eq_true,jz30,zz31,not_true_eq_false,not_false_eq_true,M8,J7,J0,A6,L9,K6,A4,B9,D7,G9,O3,O4,K0,F2,F5,I5,I6,F7,F4,F3,F6,K1,K4,O5,O6,K3,K2,K5,F8,F9,E8,E2,J9,G1,C7,E9,L0,C4,I1,K8,K7,E7,P3,C8,B3,A0,L7,H8,E5,L6,H7,yz19,zz27,yz31,jz25,jz31,zz32,jz26,zz21,jz27,zz26,and_self,Nat.reduceLeDiff,jz18,exists_eq_left',yz24,jz21,Nat.reduceBEq,yz22,yz32,G8,A3,N0,Int.reduceLT,Int.reduceLE,Int.reduceEq,c42,c39,c68,c71,R3,W8,V4,T3,S4,R5,SOp.turns, *]) | with_reducible (first | refine C2 (fun h => ?_) fun h => ?_ | refine F1 (fun h => ?_) fun h => ?_ | refine C1 (fun h => ?_) fun h => ?_ | refine F0 (fun h => ?_) fun h => ?_ | refine A2 (fun h => ?_) fun h => ?_ | refine A7 (fun h => ?_) fun h => ?_) | (refine D5 ?_ ?_ ?_; (focus decide +kernel); (focus decide +kernel)))
      all_goals simp only [Y9,tokD, *,if_true,if_false]
    · repeat' (first | (simp (maxSteps := 10000000) -implicitDefEqProofs (disch := first | exact tStr | decide | omega | assumption | (simp only [zz20,yz25,yz20]; omega)) only [D3,G6,G4,A9,C9,G3,B4,A1,C6,B2,D4,G5,D6,C5,B1,G7,B7,B8,C0,D8,D9,A5,J8,H9,E0,E1,M2,M3,M5,M4,I3,I4,P2,E4,E6,I0,B5,M1,N8,M9,N2,N3,N4,N5,N6,N7,N1,J2,J3,J4,J5,J6,J1,I8,I7,I9,M0,K9,E3,L1,C3,O1,O2,G2,O9,N9,O0,B0,L8,D2,I2,zz28,yz28,jz28,zz29,yz23,zz23,jz22,yz27,jz19,yz29,zz20,yz25,Nat.reduceAdd,Nat.reduceSub,Nat.reduceLT,Nat.reduceEqDiff,zz22,jz23,if_true,if_false,yz21,decide_true,decide_false,zz25,jz24,reduceIte,List.getElem?_cons_succ,List.getElem?_cons_zero,UInt8.reduceOfNat,fin1,fin2,L2,O7,L3,O8,H3,H6,H4,L4,H5,L5,B6,A8,zz24,M7,H0,M6,G0,Option.some.injEq,DV.tup.injEq,jz29,zz30,Int.reduceToNat,yz30,and_true,true_and,beq_self_eq_true,jz30,zz31,not_true_eq_false,not_false_eq_true,M8,J7,J0,A6,L9,K6,A4,B9,D7,G9,O3,O4,K0,F2,F5,I5,I6,F7,F4,F3,F6,K1,K4,O5,O6,K3,K2,K5,F8,F9,E8,E2,J9,G1,C7,E9,L0,C4,I1,K8,K7,E7,P3,C8,B3,A0,L7,H8,E5,L6,H7,yz19,zz27,yz31,jz25,jz31,zz32,jz26,zz21,jz27,zz26,and_self,Nat.reduceLeDiff,jz18,exists_eq_left',yz24,jz21,Nat.reduceBEq,yz22,yz32,G8,A3,N0,Int.reduceLT,Int.reduceLE,Int.reduceEq,c42,c39,c68,c71, *]) | with_reducible (first | refine C2 (fun h => ?_) fun h => ?_ | refine F1 (fun h => ?_) fun h => ?_ | refine C1 (fun h => ?_) fun h => ?_ | refine F0 (fun h => ?_) fun h => ?_ | refine A2 (fun h => ?_) fun h => ?_ | refine A7 (fun h => ?_) fun h => ?_) | (refine D5 ?_ ?_ ?_; (focus decide +kernel); (focus decide +kernel)))
      all_goals simp only [Y9,tokD, *,if_true,if_false,yz21]
theorem c41 (h0 : 0 ≤ i) (h1 : i ≤ l.length) (h2 : l.length < 2 ^ 39) : R4 Tryd.prog cfgV 41 [strD l,intD m,intD i] H K = K (Y9 l m i) H := by
  refine T7 rfl ?_ (p41 h0 h1 h2) H K
  rfl
theorem p38 (h0 : 0 ≤ i) (h1 : i ≤ l.length) (h2 : l.length < 2 ^ 39) : PE Tryd.prog cfgV 38 [intD k,strD l,intD i] (tokD k (l.take (i + ((P7 (l.drop i.toNat)).2 : Int)).toNat) (P7 (l.drop i.toNat)).1 0) := by
  refine PE.code rfl code38 ?_
  dsimp only [sf38]
  have k1 := name_fits h0 h1
  have k4 : (l.drop i.toNat).length < 2 ^ 39 := by rw [jz32]; omega
  repeat' (first | (simp (maxSteps := 10000000) -implicitDefEqProofs (disch := first | exact tStr | decide | omega | assumption | (simp only [zz20,yz25,yz20]; omega)) only [D3,G6,G4,A9,C9,G3,B4,A1,C6,B2,D4,G5,D6,C5,B1,G7,B7,B8,C0,D8,D9,A5,J8,H9,E0,E1,M2,M3,M5,M4,I3,I4,P2,E4,E6,I0,B5,M1,N8,M9,N2,N3,N4,N5,N6,N7,N1,J2,J3,J4,J5,J6,J1,I8,I7,I9,M0,K9,E3,L1,C3,O1,O2,G2,O9,N9,O0,B0,L8,D2,I2,zz28,yz28,jz28,zz29,yz23,zz23,jz22,yz27,jz19,yz29,zz20,yz25,Nat.reduceAdd,Nat.reduceSub,Nat.reduceLT,Nat.reduceEqDiff,zz22,jz23,if_true,if_false,yz21,decide_true,decide_false,zz25,jz24,reduceIte,List.getElem?_cons_succ,List.getElem?_cons_zero,UInt8.reduceOfNat,fin1,fin2,L2,O7,L3,O8,H3,H6,H4,L4,H5,L5,B6,A8,zz24,M7,H0,M6,G0,Option.some.injEq,DV.tup.injEq,jz29,zz30,Int.reduceToNat,yz30,and_true,true_and,beq_self_eq_true,jz30,zz31,not_true_eq_false,not_false_eq_true,M8,J7,J0,A6,L9,K6,A4,B9,D7,G9,O3,O4,K0,F2,F5,I5,I6,F7,F4,F3,F6,K1,K4,O5,O6,K3,K2,K5,F8,F9,E8,E2,J9,G1,C7,E9,L0,C4,I1,K8,K7,E7,P3,C8,B3,A0,L7,H8,E5,L6,H7,yz19,zz27,yz31,jz25,jz31,zz32,jz26,zz21,jz27,zz26,and_self,Nat.reduceLeDiff,jz18,exists_eq_left',yz24,jz21,Nat.reduceBEq,yz22,yz32,G8,A3,N0,Int.reduceLT,Int.reduceLE,Int.reduceEq,c68,tokD, *]) | with_reducible (first | refine C2 (fun h => ?_) fun h => ?_ | refine F1 (fun h => ?_) fun h => ?_ | refine C1 (fun h => ?_) fun h => ?_ | refine F0 (fun h => ?_) fun h => ?_ | refine A2 (fun h => ?_) fun h => ?_ | refine A7 (fun h => ?_) fun h => ?_) | (refine D5 ?_ ?_ ?_; (focus decide +kernel); (focus decide +kernel)))
theorem c38 (h0 : 0 ≤ i) (h1 : i ≤ l.length) (h2 : l.length < 2 ^ 39) : R4 Tryd.prog cfgV 38 [intD k,strD l,intD i] H K = K (tokD k (l.take (i + ((P7 (l.drop i.toNat)).2 : Int)).toNat) (P7 (l.drop i.toNat)).1 0) H := by
  refine T7 rfl ?_ (p38 h0 h1 h2) H K
  rfl
end Go.Dx
end
section
namespace Go.Dx
open Go Go.Proofs
set_option maxRecDepth 8000
attribute [local congr] Q7 Q6 R2 P8 Q2 Q5 Q3 zz1 zz14
variable {b c : UInt8} {l s p : List UInt8} {H : Heap} {K : DV → Heap → Prop} {i n m k : Int}
theorem c31 (h1 : 1 ≤ (l.length : Int)) (h0 : H.row 0 = some (Row.mk 1 [[strD l]] 9 0 true)) : R4 Tryd.prog cfgV 31 [intD k, .ptr 0 0 0] H K = K (tokD k (l.take 1) [] 0) (H ++ [some (Row.mk 4 [[intD k,strD (l.take 1),strD [],intD 0]] 37 0 true)]) := by
  refine callW_eq ?_ K
  refine callH rfl rfl code31 ?_
  dsimp only [sf31]
  have hl := row_lt h0
  have h0' : Heap.row (H ++ [some (Row.mk 4 [[intD 0,strD [],strD [],intD 0]] 37 0 true)]) 0 = some (Row.mk 1 [[strD l]] 9 0 true) := by rw [Y4 hl]; exact h0
  repeat' (first | (simp (maxSteps := 10000000) -implicitDefEqProofs (disch := first | exact tStr | decide | omega | assumption | (simp only [zz20,yz25,yz20]; omega)) only [D3,G6,G4,A9,C9,G3,B4,A1,C6,B2,D4,G5,D6,C5,B1,G7,B7,B8,C0,D8,D9,A5,J8,H9,E0,E1,M2,M3,M5,M4,I3,I4,P2,E4,E6,I0,B5,M1,N8,M9,N2,N3,N4,N5,N6,N7,N1,J2,J3,J4,J5,J6,J1,I8,I7,I9,M0,K9,E3,L1,C3,O1,O2,G2,O9,N9,O0,B0,L8,D2,I2,zz28,yz28,jz28,zz29,yz23,zz23,jz22,yz27,jz19,yz29,zz20,yz25,Nat.reduceAdd,Nat.reduceSub,Nat.reduceLT,Nat.reduceEqDiff,zz22,jz23,if_true,if_false,yz21,decide_true,decide_false,zz25,jz24,reduceIte,List.getElem?_cons_succ,List.getElem?_cons_zero,UInt8.reduceOfNat,fin1,fin2,L2,O7,L3,O8,H3,H6,H4,L4,H5,L5,B6,A8,zz24,M7,H0,M6,G0,Option.some.injEq,DV.tup.injEq,jz29,zz30,Int.reduceToNat,yz30,and_true,true_and,beq_self_eq_true,jz30,zz31,not_true_eq_false,not_false_eq_true,M8,J7,J0,A6,L9,K6,A4,B9,D7,G9,O3,O4,K0,F2,F5,I5,I6,F7,F4,F3,F6,K1,K4,O5,O6,K3,K2,K5,F8,F9,E8,E2,J9,G1,C7,E9,L0,C4,I1,K8,K7,E7,P3,C8,B3,A0,L7,H8,E5,L6,H7,yz19,zz27,yz31,jz25,jz31,zz32,jz26,zz21,jz27,zz26,and_self,Nat.reduceLeDiff,jz18,exists_eq_left',yz24,jz21,Nat.reduceBEq,yz22,yz32,G8,A3,N0,Int.reduceLT,Int.reduceLE,Int.reduceEq,Y0,yz9,retc,tokD, *]) | with_reducible (first | refine C2 (fun h => ?_) fun h => ?_ | refine F1 (fun h => ?_) fun h => ?_ | refine C1 (fun h => ?_) fun h => ?_ | refine F0 (fun h => ?_) fun h => ?_ | refine A2 (fun h => ?_) fun h => ?_ | refine A7 (fun h => ?_) fun h => ?_) | (refine D5 ?_ ?_ ?_; (focus decide +kernel); (focus decide +kernel)))
theorem c31' {L : Heap} (h1 : 1 ≤ (l.length : Int)) : R4 Tryd.prog cfgV 31 [intD k, .ptr 0 0 0] (some (Row.mk 1 [[strD l]] 9 0 true) :: L) K = K (tokD k (l.take 1) [] 0) (some (Row.mk 1 [[strD l]] 9 0 true) :: (L ++ [some (Row.mk 4 [[intD k,strD (l.take 1),strD [],intD 0]] 37 0 true)])) := c31 h1 F8
theorem blk_in : ∀ n : Fin 256,([32,9,10,12,13] : List UInt8).contains (UInt8.ofNat n) = W2 (UInt8.ofNat n) := by decide
theorem blkRun_len : ∀ l : List UInt8,T9 l = (l.takeWhile W2).length
  | [] => rfl
  | a :: r => by
    rw [T9]
    by_cases h : W2 a = true
    · rw [if_pos h,blkRun_len r]; simp [List.takeWhile_cons,h]
    · rw [if_neg h]; simp [List.takeWhile_cons,h]
theorem X0 : (l.length : Int) - (Lib.trimLeftS l [32,9,10,12,13]).length = T9 l := by
  have e : (([32,9,10,12,13] : List UInt8).contains ·) = W2 := by
    funext b
    have := blk_in ⟨b.toNat,b.toNat_lt⟩
    simpa using this
  unfold Lib.trimLeftS
  rw [e,blkRun_len]
  have := congrArg List.length (List.takeWhile_append_dropWhile (p := W2) (l := l))
  rw [yz20] at this; omega
theorem yz11 : (T9 l : Int) ≤ l.length := by
  rw [← X0]; omega
theorem Y2 (h : W2 (l.getD 0 0) = false) : T9 l = 0 := by
  match l with
  | [] => rfl
  | a :: r => simp only [zz29] at h; rw [T9,h]; rfl
theorem note_index : ∀ (r : List UInt8) (n : Nat),U6 n r = if 0 ≤ Lib.index r [42,47] then some (n + (Lib.index r [42,47]).toNat + 2) else none
  | [],n => by rw [U6] <;> simp [Lib.index]
  | [a],n => by
    rw [U6]
    · simp [Lib.index]
    · simp
  | a :: b :: r,n => by
    have ih := note_index (b :: r) (n + 1)
    rw [U6]
    by_cases h : a = 42 ∧ b = 47
    · obtain ⟨rfl,rfl⟩ := h
      have e : Lib.index (42 :: 47 :: r) [42,47] = 0 := by
        rw [Lib.index,if_pos]; simp [List.isPrefixOf]
      rw [if_pos ⟨rfl,rfl⟩,e]; simp
    · rw [if_neg h,ih]
      have e : Lib.index (a :: b :: r) [42,47] = if Lib.index (b :: r) [42,47] == -1 then -1 else Lib.index (b :: r) [42,47] + 1 := by
        rw [Lib.index,if_neg]
        intro hp
        apply h
        simp [List.isPrefixOf] at hp
        exact ⟨hp.1.symm,hp.2.symm⟩
      have hg := Lib.index_ge (b :: r) [42,47]
      rw [e]
      generalize Lib.index (b :: r) [42,47] = x at *
      by_cases hx : x = -1
      · subst hx; simp
      · have : (x == -1) = false := by simpa using hx
        rw [this]
        simp only [yz21,if_false]
        rw [if_pos (by omega),if_pos (by omega)]
        congr 1; omega
theorem c34 (h : s.length < 2 ^ 31) : R4 Tryd.prog cfgV 34 [strD s,strD p] H K = K (intD (Lib.index s p)) H := by
  refine T7 rfl rfl (PE.prim (g := prim34) rfl ?_ rfl) H K
  simp only [prim34,zz5]
  rw [if_pos h]
set_option maxHeartbeats 1000000 in
set_option maxHeartbeats 1000000 in
set_option maxHeartbeats 1000000 in
theorem p20_blank (h1 : 0 < l.length) (h2 : l.length < 2 ^ 31) (hb : W2 (l.getD 0 0) = true) : PE Tryd.prog cfgV 20 [strD l] (R0 l) := by
  refine PE.code rfl jz10 ?_
  dsimp only [sf20]
  have k1 : 0 < (l.length : Int) := by omega
  have k2 := yz11 (l := l)
  have k3 : 0 < (T9 l : Int) := by have := blk_pos h1 hb; omega
  have h3 := Z0 (l := l) [32,9,10,12,13]
  repeat' (first | (simp (maxSteps := 10000000) -implicitDefEqProofs (disch := first | exact tStr | decide | omega | assumption | (simp only [zz20,yz25,yz20]; omega)) only [D3,G6,G4,A9,C9,G3,B4,A1,C6,B2,D4,G5,D6,C5,B1,G7,B7,B8,C0,D8,D9,A5,J8,H9,E0,E1,M2,M3,M5,M4,I3,I4,P2,E4,E6,I0,B5,M1,N8,M9,N2,N3,N4,N5,N6,N7,N1,J2,J3,J4,J5,J6,J1,I8,I7,I9,M0,K9,E3,L1,C3,O1,O2,G2,O9,N9,O0,B0,L8,D2,I2,zz28,yz28,jz28,zz29,yz23,zz23,jz22,yz27,jz19,yz29,zz20,yz25,Nat.reduceAdd,Nat.reduceSub,Nat.reduceLT,Nat.reduceEqDiff,zz22,jz23,if_true,if_false,yz21,decide_true,decide_false,zz25,jz24,reduceIte,List.getElem?_cons_succ,List.getElem?_cons_zero,UInt8.reduceOfNat,fin1,fin2,L2,O7,L3,O8,H3,H6,H4,L4,H5,L5,B6,A8,zz24,M7,H0,M6,G0,Option.some.injEq,DV.tup.injEq,jz29,zz30,Int.reduceToNat,yz30,and_true,true_and,beq_self_eq_true,jz30,zz31,not_true_eq_false,not_false_eq_true,M8,J7,J0,A6,L9,K6,A4,B9,D7,G9,O3,O4,K0,F2,F5,I5,I6,F7,F4,F3,F6,K1,K4,O5,O6,K3,K2,K5,F8,F9,E8,E2,J9,G1,C7,E9,L0,C4,I1,K8,K7,E7,P3,C8,B3,A0,L7,H8,E5,L6,H7,yz19,zz27,yz31,jz25,jz31,zz32,jz26,zz21,jz27,zz26,and_self,Nat.reduceLeDiff,jz18,exists_eq_left',yz24,jz21,Nat.reduceBEq,yz22,yz32,G8,A3,N0,Int.reduceLT,Int.reduceLE,Int.reduceEq,c32,X2,V5, *]) | with_reducible (first | refine C2 (fun h => ?_) fun h => ?_ | refine F1 (fun h => ?_) fun h => ?_ | refine C1 (fun h => ?_) fun h => ?_ | refine F0 (fun h => ?_) fun h => ?_ | refine A2 (fun h => ?_) fun h => ?_ | refine A7 (fun h => ?_) fun h => ?_) | (refine D5 ?_ ?_ ?_; (focus decide +kernel); (focus decide +kernel)))
  refine S7 [some (0,1),none,none,none,none,none,none] rfl (by decide +kernel) (by decide +kernel) ?_; simp only [yz23,zz23,jz19,yz29,List.zip_cons_cons,List.zip_nil_left]
  repeat' (first | (simp (maxSteps := 10000000) -implicitDefEqProofs (disch := first | exact tStr | decide | omega | assumption | (simp only [zz20,yz25,yz20]; omega)) only [D3,G6,G4,A9,C9,G3,B4,A1,C6,B2,D4,G5,D6,C5,B1,G7,B7,B8,C0,D8,D9,A5,J8,H9,E0,E1,M2,M3,M5,M4,I3,I4,P2,E4,E6,I0,B5,M1,N8,M9,N2,N3,N4,N5,N6,N7,N1,J2,J3,J4,J5,J6,J1,I8,I7,I9,M0,K9,E3,L1,C3,O1,O2,G2,O9,N9,O0,B0,L8,D2,I2,zz28,yz28,jz28,zz29,yz23,zz23,jz22,yz27,jz19,yz29,zz20,yz25,Nat.reduceAdd,Nat.reduceSub,Nat.reduceLT,Nat.reduceEqDiff,zz22,jz23,if_true,if_false,yz21,decide_true,decide_false,zz25,jz24,reduceIte,List.getElem?_cons_succ,List.getElem?_cons_zero,UInt8.reduceOfNat,fin1,fin2,L2,O7,L3,O8,H3,H6,H4,L4,H5,L5,B6,A8,zz24,M7,H0,M6,G0,Option.some.injEq,DV.tup.injEq,jz29,zz30,Int.reduceToNat,yz30,and_true,true_and,beq_self_eq_true,jz30,zz31,not_true_eq_false,not_false_eq_true,M8,J7,J0,A6,L9,K6,A4,B9,D7,G9,O3,O4,K0,F2,F5,I5,I6,F7,F4,F3,F6,K1,K4,O5,O6,K3,K2,K5,F8,F9,E8,E2,J9,G1,C7,E9,L0,C4,I1,K8,K7,E7,P3,C8,B3,A0,L7,H8,E5,L6,H7,yz19,zz27,yz31,jz25,jz31,zz32,jz26,zz21,jz27,zz26,and_self,Nat.reduceLeDiff,jz18,exists_eq_left',yz24,jz21,Nat.reduceBEq,yz22,yz32,G8,A3,N0,Int.reduceLT,Int.reduceLE,Int.reduceEq,c32,R3,W8,V4,T3,S4,R5,SOp.turns,S8,T6,U7,T0,X1,X0, *]) | with_reducible (first | refine C2 (fun h => ?_) fun h => ?_ | refine F1 (fun h => ?_) fun h => ?_ | refine C1 (fun h => ?_) fun h => ?_ | refine F0 (fun h => ?_) fun h => ?_ | refine A2 (fun h => ?_) fun h => ?_ | refine A7 (fun h => ?_) fun h => ?_) | (refine D5 ?_ ?_ ?_; (focus decide +kernel); (focus decide +kernel)))
  simp only [R0,hb,if_true,tokD,yz26]
theorem yz2 : (l.take 2 = [47,42]) = (l.getD 0 0 = 47 ∧ l.getD 1 0 = 42) := by
  apply propext
  match l with
  | [] => simp
  | [a] => simp
  | a :: b :: r => simp
theorem note_le : ∀ (r : List UInt8) (n k : Nat),U6 n r = some k → k ≤ n + r.length
  | [],n,k,h => by simp [U6] at h
  | [a],n,k,h => by simp [U6] at h
  | a :: b :: r,n,k,h => by
    rw [U6] at h
    split at h
    · simp only [Option.some.injEq] at h; simp only [zz20]; omega
    · have := note_le (b :: r) (n + 1) k h
      simp only [zz20] at this ⊢; omega
end Go.Dx
end
section
namespace Go.Dx
open Go Go.Proofs
set_option maxRecDepth 8000
attribute [local congr] Q7 Q6 R2 P8 Q2 Q5 Q3 zz1 zz14
variable {b c : UInt8} {l s p : List UInt8} {H : Heap} {K : DV → Heap → Prop} {i n m k : Int}
set_option maxHeartbeats 2000000 in
theorem p20_note1 (h1 : 0 < l.length) (h2 : l.length < 2 ^ 31) (hb : W2 (l.getD 0 0) = false) (hn : l.take 2 = [47,42]) (hi : 0 ≤ Lib.index (l.drop 2) [42,47]) : PE Tryd.prog cfgV 20 [strD l] (R0 l) := by
  refine PE.code rfl jz10 ?_
  dsimp only [sf20]
  have k1 : 0 < (l.length : Int) := by omega
  have k2 := yz11 (l := l)
  have k3 : ¬ 0 < (T9 l : Int) := by have := Y2 hb; omega
  have h3 := Z0 (l := l) [32,9,10,12,13]
  have k4 : 2 ≤ (l.length : Int) := by have := congrArg List.length hn; rw [List.length_take] at this; simp only [zz20,yz25] at this; omega
  have k5 : (l.drop 2).length < 2 ^ 31 := by rw [jz32]; omega
  have hc := hn
  rw [yz2] at hc
  have ht' : R0 l = tokD 9 (l.take (yz4 l)) [] 0 := by
    unfold R0
    rw [hb,if_neg (by simp),if_pos hc]
  rw [ht']
  clear ht' hc
  have hx := note_index (l.drop 2) 2
  have hy := note_le (l.drop 2) 2
  rw [jz32] at hy
  rw [if_pos hi] at hx
  have hz := hy _ hx
  have hl : yz4 l = (Lib.index (l.drop 2) [42,47] + 4).toNat := by unfold yz4; rw [hx,Option.getD_some]; omega
  have hm : Lib.index (l.drop 2) [42,47] + 4 ≤ l.length := by omega
  rw [hl]
  clear hx hy hz hl
  repeat' (first | (simp (maxSteps := 10000000) -implicitDefEqProofs (disch := first | exact tStr | decide | omega | assumption | (simp only [zz20,yz25,yz20]; omega)) only [D3,G6,G4,A9,C9,G3,B4,A1,C6,B2,D4,G5,D6,C5,B1,G7,B7,B8,C0,D8,D9,A5,J8,H9,E0,E1,M2,M3,M5,M4,I3,I4,P2,E4,E6,I0,B5,M1,N8,M9,N2,N3,N4,N5,N6,N7,N1,J2,J3,J4,J5,J6,J1,I8,I7,I9,M0,K9,E3,L1,C3,O1,O2,G2,O9,N9,O0,B0,L8,D2,I2,zz28,yz28,jz28,zz29,yz23,zz23,jz22,yz27,jz19,yz29,zz20,yz25,Nat.reduceAdd,Nat.reduceSub,Nat.reduceLT,Nat.reduceEqDiff,zz22,jz23,if_true,if_false,yz21,decide_true,decide_false,zz25,jz24,reduceIte,List.getElem?_cons_succ,List.getElem?_cons_zero,UInt8.reduceOfNat,fin1,fin2,L2,O7,L3,O8,H3,H6,H4,L4,H5,L5,B6,A8,zz24,M7,H0,M6,G0,Option.some.injEq,DV.tup.injEq,jz29,zz30,Int.reduceToNat,yz30,and_true,true_and,beq_self_eq_true,jz30,zz31,not_true_eq_false,not_false_eq_true,M8,J7,J0,A6,L9,K6,A4,B9,D7,G9,O3,O4,K0,F2,F5,I5,I6,F7,F4,F3,F6,K1,K4,O5,O6,K3,K2,K5,F8,F9,E8,E2,J9,G1,C7,E9,L0,C4,I1,K8,K7,E7,P3,C8,B3,A0,L7,H8,E5,L6,H7,yz19,zz27,yz31,jz25,jz31,zz32,jz26,zz21,jz27,zz26,and_self,Nat.reduceLeDiff,jz18,exists_eq_left',yz24,jz21,Nat.reduceBEq,yz22,yz32,G8,A3,N0,Int.reduceLT,Int.reduceLE,Int.reduceEq,c32,X2,V5, *]) | with_reducible (first | refine C2 (fun h => ?_) fun h => ?_ | refine F1 (fun h => ?_) fun h => ?_ | refine C1 (fun h => ?_) fun h => ?_ | refine F0 (fun h => ?_) fun h => ?_ | refine A2 (fun h => ?_) fun h => ?_ | refine A7 (fun h => ?_) fun h => ?_) | (refine D5 ?_ ?_ ?_; (focus decide +kernel); (focus decide +kernel)))
  refine S7 [some (0,1),none,none,none,none,none,none] rfl (by decide +kernel) (by decide +kernel) ?_; simp only [yz23,zz23,jz19,yz29,List.zip_cons_cons,List.zip_nil_left]
  repeat' (first | (simp (maxSteps := 10000000) -implicitDefEqProofs (disch := first | exact tStr | decide | omega | assumption | (simp only [zz20,yz25,yz20]; omega)) only [D3,G6,G4,A9,C9,G3,B4,A1,C6,B2,D4,G5,D6,C5,B1,G7,B7,B8,C0,D8,D9,A5,J8,H9,E0,E1,M2,M3,M5,M4,I3,I4,P2,E4,E6,I0,B5,M1,N8,M9,N2,N3,N4,N5,N6,N7,N1,J2,J3,J4,J5,J6,J1,I8,I7,I9,M0,K9,E3,L1,C3,O1,O2,G2,O9,N9,O0,B0,L8,D2,I2,zz28,yz28,jz28,zz29,yz23,zz23,jz22,yz27,jz19,yz29,zz20,yz25,Nat.reduceAdd,Nat.reduceSub,Nat.reduceLT,Nat.reduceEqDiff,zz22,jz23,if_true,if_false,yz21,decide_true,decide_false,zz25,jz24,reduceIte,List.getElem?_cons_succ,List.getElem?_cons_zero,UInt8.reduceOfNat,fin1,fin2,L2,O7,L3,O8,H3,H6,H4,L4,H5,L5,B6,A8,zz24,M7,H0,M6,G0,Option.some.injEq,DV.tup.injEq,jz29,zz30,Int.reduceToNat,yz30,and_true,true_and,beq_self_eq_true,jz30,zz31,not_true_eq_false,not_false_eq_true,M8,J7,J0,A6,L9,K6,A4,B9,D7,G9,O3,O4,K0,F2,F5,I5,I6,F7,F4,F3,F6,K1,K4,O5,O6,K3,K2,K5,F8,F9,E8,E2,J9,G1,C7,E9,L0,C4,I1,K8,K7,E7,P3,C8,B3,A0,L7,H8,E5,L6,H7,yz19,zz27,yz31,jz25,jz31,zz32,jz26,zz21,jz27,zz26,and_self,Nat.reduceLeDiff,jz18,exists_eq_left',yz24,jz21,Nat.reduceBEq,yz22,yz32,G8,A3,N0,Int.reduceLT,Int.reduceLE,Int.reduceEq,c32,R3,W8,V4,T3,S4,R5,SOp.turns,S8,T6,U7,T0,X1,X0,c33,c34,tokD, *]) | with_reducible (first | refine C2 (fun h => ?_) fun h => ?_ | refine F1 (fun h => ?_) fun h => ?_ | refine C1 (fun h => ?_) fun h => ?_ | refine F0 (fun h => ?_) fun h => ?_ | refine A2 (fun h => ?_) fun h => ?_ | refine A7 (fun h => ?_) fun h => ?_) | (refine D5 ?_ ?_ ?_; (focus decide +kernel); (focus decide +kernel)))
set_option maxHeartbeats 2000000 in
theorem p20_note2 (h1 : 0 < l.length) (h2 : l.length < 2 ^ 31) (hb : W2 (l.getD 0 0) = false) (hn : l.take 2 = [47,42]) (hi : ¬ 0 ≤ Lib.index (l.drop 2) [42,47]) : PE Tryd.prog cfgV 20 [strD l] (R0 l) := by
  refine PE.code rfl jz10 ?_
  dsimp only [sf20]
  have k1 : 0 < (l.length : Int) := by omega
  have k2 := yz11 (l := l)
  have k3 : ¬ 0 < (T9 l : Int) := by have := Y2 hb; omega
  have h3 := Z0 (l := l) [32,9,10,12,13]
  have k4 : 2 ≤ (l.length : Int) := by have := congrArg List.length hn; rw [List.length_take] at this; simp only [zz20,yz25] at this; omega
  have k5 : (l.drop 2).length < 2 ^ 31 := by rw [jz32]; omega
  have hc := hn
  rw [yz2] at hc
  have ht' : R0 l = tokD 9 (l.take (yz4 l)) [] 0 := by
    unfold R0
    rw [hb,if_neg (by simp),if_pos hc]
  rw [ht']
  clear ht' hc
  have hx := note_index (l.drop 2) 2
  have hy := note_le (l.drop 2) 2
  rw [jz32] at hy
  rw [if_neg hi] at hx
  have hl : yz4 l = l.length := by unfold yz4; rw [hx,Option.getD_none]
  rw [hl,List.take_length]
  clear hx hy hl
  repeat' (first | (simp (maxSteps := 10000000) -implicitDefEqProofs (disch := first | exact tStr | decide | omega | assumption | (simp only [zz20,yz25,yz20]; omega)) only [D3,G6,G4,A9,C9,G3,B4,A1,C6,B2,D4,G5,D6,C5,B1,G7,B7,B8,C0,D8,D9,A5,J8,H9,E0,E1,M2,M3,M5,M4,I3,I4,P2,E4,E6,I0,B5,M1,N8,M9,N2,N3,N4,N5,N6,N7,N1,J2,J3,J4,J5,J6,J1,I8,I7,I9,M0,K9,E3,L1,C3,O1,O2,G2,O9,N9,O0,B0,L8,D2,I2,zz28,yz28,jz28,zz29,yz23,zz23,jz22,yz27,jz19,yz29,zz20,yz25,Nat.reduceAdd,Nat.reduceSub,Nat.reduceLT,Nat.reduceEqDiff,zz22,jz23,if_true,if_false,yz21,decide_true,decide_false,zz25,jz24,reduceIte,List.getElem?_cons_succ,List.getElem?_cons_zero,UInt8.reduceOfNat,fin1,fin2,L2,O7,L3,O8,H3,H6,H4,L4,H5,L5,B6,A8,zz24,M7,H0,M6,G0,Option.some.injEq,DV.tup.injEq,jz29,zz30,Int.reduceToNat,yz30,and_true,true_and,beq_self_eq_true,jz30,zz31,not_true_eq_false,not_false_eq_true,M8,J7,J0,A6,L9,K6,A4,B9,D7,G9,O3,O4,K0,F2,F5,I5,I6,F7,F4,F3,F6,K1,K4,O5,O6,K3,K2,K5,F8,F9,E8,E2,J9,G1,C7,E9,L0,C4,I1,K8,K7,E7,P3,C8,B3,A0,L7,H8,E5,L6,H7,yz19,zz27,yz31,jz25,jz31,zz32,jz26,zz21,jz27,zz26,and_self,Nat.reduceLeDiff,jz18,exists_eq_left',yz24,jz21,Nat.reduceBEq,yz22,yz32,G8,A3,N0,Int.reduceLT,Int.reduceLE,Int.reduceEq,c32,X2,V5, *]) | with_reducible (first | refine C2 (fun h => ?_) fun h => ?_ | refine F1 (fun h => ?_) fun h => ?_ | refine C1 (fun h => ?_) fun h => ?_ | refine F0 (fun h => ?_) fun h => ?_ | refine A2 (fun h => ?_) fun h => ?_ | refine A7 (fun h => ?_) fun h => ?_) | (refine D5 ?_ ?_ ?_; (focus decide +kernel); (focus decide +kernel)))
  refine S7 [some (0,1),none,none,none,none,none,none] rfl (by decide +kernel) (by decide +kernel) ?_; simp only [yz23,zz23,jz19,yz29,List.zip_cons_cons,List.zip_nil_left]
  repeat' (first | (simp (maxSteps := 10000000) -implicitDefEqProofs (disch := first | exact tStr | decide | omega | assumption | (simp only [zz20,yz25,yz20]; omega)) only [D3,G6,G4,A9,C9,G3,B4,A1,C6,B2,D4,G5,D6,C5,B1,G7,B7,B8,C0,D8,D9,A5,J8,H9,E0,E1,M2,M3,M5,M4,I3,I4,P2,E4,E6,I0,B5,M1,N8,M9,N2,N3,N4,N5,N6,N7,N1,J2,J3,J4,J5,J6,J1,I8,I7,I9,M0,K9,E3,L1,C3,O1,O2,G2,O9,N9,O0,B0,L8,D2,I2,zz28,yz28,jz28,zz29,yz23,zz23,jz22,yz27,jz19,yz29,zz20,yz25,Nat.reduceAdd,Nat.reduceSub,Nat.reduceLT,Nat.reduceEqDiff,zz22,jz23,if_true,if_false,yz21,decide_true,decide_false,zz25,jz24,reduceIte,List.getElem?_cons_succ,List.getElem?_cons_zero,UInt8.reduceOfNat,fin1,fin2,L2,O7,L3,O8,H3,H6,H4,L4,H5,L5,B6,A8,zz24,M7,H0,M6,G0,Option.some.injEq,DV.tup.injEq,jz29,zz30,Int.reduceToNat,yz30,and_true,true_and,beq_self_eq_true,jz30,zz31,not_true_eq_false,not_false_eq_true,M8,J7,J0,A6,L9,K6,A4,B9,D7,G9,O3,O4,K0,F2,F5,I5,I6,F7,F4,F3,F6,K1,K4,O5,O6,K3,K2,K5,F8,F9,E8,E2,J9,G1,C7,E9,L0,C4,I1,K8,K7,E7,P3,C8,B3,A0,L7,H8,E5,L6,H7,yz19,zz27,yz31,jz25,jz31,zz32,jz26,zz21,jz27,zz26,and_self,Nat.reduceLeDiff,jz18,exists_eq_left',yz24,jz21,Nat.reduceBEq,yz22,yz32,G8,A3,N0,Int.reduceLT,Int.reduceLE,Int.reduceEq,c32,R3,W8,V4,T3,S4,R5,SOp.turns,S8,T6,U7,T0,X1,X0,c33,c34,tokD, *]) | with_reducible (first | refine C2 (fun h => ?_) fun h => ?_ | refine F1 (fun h => ?_) fun h => ?_ | refine C1 (fun h => ?_) fun h => ?_ | refine F0 (fun h => ?_) fun h => ?_ | refine A2 (fun h => ?_) fun h => ?_ | refine A7 (fun h => ?_) fun h => ?_) | (refine D5 ?_ ?_ ?_; (focus decide +kernel); (focus decide +kernel)))
set_option maxHeartbeats 2000000 in
theorem p20_text39 (h1 : 0 < l.length) (h2 : l.length < 2 ^ 31) (hb : W2 (l.getD 0 0) = false) (hn : ¬ l.take 2 = [47,42]) (hc : l.getD 0 0 = 39) : PE Tryd.prog cfgV 20 [strD l] (R0 l) := by
  refine PE.code rfl jz10 ?_
  dsimp only [sf20]
  have k1 : 0 < (l.length : Int) := by omega
  have k2 := yz11 (l := l)
  have k3 : ¬ 0 < (T9 l : Int) := by have := Y2 hb; omega
  have h3 := Z0 (l := l) [32,9,10,12,13]
  have h2' : l.length < 2 ^ 39 := by omega
  have hn' := hn
  rw [yz2] at hn'
  obtain ⟨k,r,v,m,hk⟩ := textTok_is l
  have ht' : R0 l = W5 l := by
    unfold R0
    rw [hb,if_neg (by simp),if_neg hn',if_pos (.inl hc)]
  rw [ht',hk]
  clear ht' hn'
  repeat' (first | (simp (maxSteps := 10000000) -implicitDefEqProofs (disch := first | exact tStr | decide | omega | assumption | (simp only [zz20,yz25,yz20]; omega)) only [D3,G6,G4,A9,C9,G3,B4,A1,C6,B2,D4,G5,D6,C5,B1,G7,B7,B8,C0,D8,D9,A5,J8,H9,E0,E1,M2,M3,M5,M4,I3,I4,P2,E4,E6,I0,B5,M1,N8,M9,N2,N3,N4,N5,N6,N7,N1,J2,J3,J4,J5,J6,J1,I8,I7,I9,M0,K9,E3,L1,C3,O1,O2,G2,O9,N9,O0,B0,L8,D2,I2,zz28,yz28,jz28,zz29,yz23,zz23,jz22,yz27,jz19,yz29,zz20,yz25,Nat.reduceAdd,Nat.reduceSub,Nat.reduceLT,Nat.reduceEqDiff,zz22,jz23,if_true,if_false,yz21,decide_true,decide_false,zz25,jz24,reduceIte,List.getElem?_cons_succ,List.getElem?_cons_zero,UInt8.reduceOfNat,fin1,fin2,L2,O7,L3,O8,H3,H6,H4,L4,H5,L5,B6,A8,zz24,M7,H0,M6,G0,Option.some.injEq,DV.tup.injEq,jz29,zz30,Int.reduceToNat,yz30,and_true,true_and,beq_self_eq_true,jz30,zz31,not_true_eq_false,not_false_eq_true,M8,J7,J0,A6,L9,K6,A4,B9,D7,G9,O3,O4,K0,F2,F5,I5,I6,F7,F4,F3,F6,K1,K4,O5,O6,K3,K2,K5,F8,F9,E8,E2,J9,G1,C7,E9,L0,C4,I1,K8,K7,E7,P3,C8,B3,A0,L7,H8,E5,L6,H7,yz19,zz27,yz31,jz25,jz31,zz32,jz26,zz21,jz27,zz26,and_self,Nat.reduceLeDiff,jz18,exists_eq_left',yz24,jz21,Nat.reduceBEq,yz22,yz32,G8,A3,N0,Int.reduceLT,Int.reduceLE,Int.reduceEq,c32,X2,V5, *]) | with_reducible (first | refine C2 (fun h => ?_) fun h => ?_ | refine F1 (fun h => ?_) fun h => ?_ | refine C1 (fun h => ?_) fun h => ?_ | refine F0 (fun h => ?_) fun h => ?_ | refine A2 (fun h => ?_) fun h => ?_ | refine A7 (fun h => ?_) fun h => ?_) | (refine D5 ?_ ?_ ?_; (focus decide +kernel); (focus decide +kernel)))
  refine S7 [some (0,1),none,none,none,none,none,none] rfl (by decide +kernel) (by decide +kernel) ?_; simp only [yz23,zz23,jz19,yz29,List.zip_cons_cons,List.zip_nil_left]
  repeat' (first | (simp (maxSteps := 10000000) -implicitDefEqProofs (disch := first | exact tStr | decide | omega | assumption | (simp only [zz20,yz25,yz20]; omega)) only [D3,G6,G4,A9,C9,G3,B4,A1,C6,B2,D4,G5,D6,C5,B1,G7,B7,B8,C0,D8,D9,A5,J8,H9,E0,E1,M2,M3,M5,M4,I3,I4,P2,E4,E6,I0,B5,M1,N8,M9,N2,N3,N4,N5,N6,N7,N1,J2,J3,J4,J5,J6,J1,I8,I7,I9,M0,K9,E3,L1,C3,O1,O2,G2,O9,N9,O0,B0,L8,D2,I2,zz28,yz28,jz28,zz29,yz23,zz23,jz22,yz27,jz19,yz29,zz20,yz25,Nat.reduceAdd,Nat.reduceSub,Nat.reduceLT,Nat.reduceEqDiff,zz22,jz23,if_true,if_false,yz21,decide_true,decide_false,zz25,jz24,reduceIte,List.getElem?_cons_succ,List.getElem?_cons_zero,UInt8.reduceOfNat,fin1,fin2,L2,O7,L3,O8,H3,H6,H4,L4,H5,L5,B6,A8,zz24,M7,H0,M6,G0,Option.some.injEq,DV.tup.injEq,jz29,zz30,Int.reduceToNat,yz30,and_true,true_and,beq_self_eq_true,jz30,zz31,not_true_eq_false,not_false_eq_true,M8,J7,J0,A6,L9,K6,A4,B9,D7,G9,O3,O4,K0,F2,F5,I5,I6,F7,F4,F3,F6,K1,K4,O5,O6,K3,K2,K5,F8,F9,E8,E2,J9,G1,C7,E9,L0,C4,I1,K8,K7,E7,P3,C8,B3,A0,L7,H8,E5,L6,H7,yz19,zz27,yz31,jz25,jz31,zz32,jz26,zz21,jz27,zz26,and_self,Nat.reduceLeDiff,jz18,exists_eq_left',yz24,jz21,Nat.reduceBEq,yz22,yz32,G8,A3,N0,Int.reduceLT,Int.reduceLE,Int.reduceEq,c32,R3,W8,V4,T3,S4,R5,SOp.turns,S8,T6,U7,T0,X1,X0,c33,c35, *]) | with_reducible (first | refine C2 (fun h => ?_) fun h => ?_ | refine F1 (fun h => ?_) fun h => ?_ | refine C1 (fun h => ?_) fun h => ?_ | refine F0 (fun h => ?_) fun h => ?_ | refine A2 (fun h => ?_) fun h => ?_ | refine A7 (fun h => ?_) fun h => ?_) | (refine D5 ?_ ?_ ?_; (focus decide +kernel); (focus decide +kernel)))
set_option maxHeartbeats 2000000 in
theorem p20_text34 (h1 : 0 < l.length) (h2 : l.length < 2 ^ 31) (hb : W2 (l.getD 0 0) = false) (hn : ¬ l.take 2 = [47,42]) (hc : l.getD 0 0 = 34) : PE Tryd.prog cfgV 20 [strD l] (R0 l) := by
  refine PE.code rfl jz10 ?_
  dsimp only [sf20]
  have k1 : 0 < (l.length : Int) := by omega
  have k2 := yz11 (l := l)
  have k3 : ¬ 0 < (T9 l : Int) := by have := Y2 hb; omega
  have h3 := Z0 (l := l) [32,9,10,12,13]
  have h2' : l.length < 2 ^ 39 := by omega
  have hn' := hn
  rw [yz2] at hn'
  obtain ⟨k,r,v,m,hk⟩ := textTok_is l
  have ht' : R0 l = W5 l := by
    unfold R0
    rw [hb,if_neg (by simp),if_neg hn',if_pos (.inr hc)]
  rw [ht',hk]
  clear ht' hn'
  have q39 : ¬ (34 : UInt8) = 39 := by decide
  repeat' (first | (simp (maxSteps := 10000000) -implicitDefEqProofs (disch := first | exact tStr | decide | omega | assumption | (simp only [zz20,yz25,yz20]; omega)) only [D3,G6,G4,A9,C9,G3,B4,A1,C6,B2,D4,G5,D6,C5,B1,G7,B7,B8,C0,D8,D9,A5,J8,H9,E0,E1,M2,M3,M5,M4,I3,I4,P2,E4,E6,I0,B5,M1,N8,M9,N2,N3,N4,N5,N6,N7,N1,J2,J3,J4,J5,J6,J1,I8,I7,I9,M0,K9,E3,L1,C3,O1,O2,G2,O9,N9,O0,B0,L8,D2,I2,zz28,yz28,jz28,zz29,yz23,zz23,jz22,yz27,jz19,yz29,zz20,yz25,Nat.reduceAdd,Nat.reduceSub,Nat.reduceLT,Nat.reduceEqDiff,zz22,jz23,if_true,if_false,yz21,decide_true,decide_false,zz25,jz24,reduceIte,List.getElem?_cons_succ,List.getElem?_cons_zero,UInt8.reduceOfNat,fin1,fin2,L2,O7,L3,O8,H3,H6,H4,L4,H5,L5,B6,A8,zz24,M7,H0,M6,G0,Option.some.injEq,DV.tup.injEq,jz29,zz30,Int.reduceToNat,yz30,and_true,true_and,beq_self_eq_true,jz30,zz31,not_true_eq_false,not_false_eq_true,M8,J7,J0,A6,L9,K6,A4,B9,D7,G9,O3,O4,K0,F2,F5,I5,I6,F7,F4,F3,F6,K1,K4,O5,O6,K3,K2,K5,F8,F9,E8,E2,J9,G1,C7,E9,L0,C4,I1,K8,K7,E7,P3,C8,B3,A0,L7,H8,E5,L6,H7,yz19,zz27,yz31,jz25,jz31,zz32,jz26,zz21,jz27,zz26,and_self,Nat.reduceLeDiff,jz18,exists_eq_left',yz24,jz21,Nat.reduceBEq,yz22,yz32,G8,A3,N0,Int.reduceLT,Int.reduceLE,Int.reduceEq,c32,X2,V5, *]) | with_reducible (first | refine C2 (fun h => ?_) fun h => ?_ | refine F1 (fun h => ?_) fun h => ?_ | refine C1 (fun h => ?_) fun h => ?_ | refine F0 (fun h => ?_) fun h => ?_ | refine A2 (fun h => ?_) fun h => ?_ | refine A7 (fun h => ?_) fun h => ?_) | (refine D5 ?_ ?_ ?_; (focus decide +kernel); (focus decide +kernel)))
  refine S7 [some (0,1),none,none,none,none,none,none] rfl (by decide +kernel) (by decide +kernel) ?_; simp only [yz23,zz23,jz19,yz29,List.zip_cons_cons,List.zip_nil_left]
  repeat' (first | (simp (maxSteps := 10000000) -implicitDefEqProofs (disch := first | exact tStr | decide | omega | assumption | (simp only [zz20,yz25,yz20]; omega)) only [D3,G6,G4,A9,C9,G3,B4,A1,C6,B2,D4,G5,D6,C5,B1,G7,B7,B8,C0,D8,D9,A5,J8,H9,E0,E1,M2,M3,M5,M4,I3,I4,P2,E4,E6,I0,B5,M1,N8,M9,N2,N3,N4,N5,N6,N7,N1,J2,J3,J4,J5,J6,J1,I8,I7,I9,M0,K9,E3,L1,C3,O1,O2,G2,O9,N9,O0,B0,L8,D2,I2,zz28,yz28,jz28,zz29,yz23,zz23,jz22,yz27,jz19,yz29,zz20,yz25,Nat.reduceAdd,Nat.reduceSub,Nat.reduceLT,Nat.reduceEqDiff,zz22,jz23,if_true,if_false,yz21,decide_true,decide_false,zz25,jz24,reduceIte,List.getElem?_cons_succ,List.getElem?_cons_zero,UInt8.reduceOfNat,fin1,fin2,L2,O7,L3,O8,H3,H6,H4,L4,H5,L5,B6,A8,zz24,M7,H0,M6,G0,Option.some.injEq,DV.tup.injEq,jz29,zz30,Int.reduceToNat,yz30,and_true,true_and,beq_self_eq_true,jz30,zz31,not_true_eq_false,not_false_eq_true,M8,J7,J0,A6,L9,K6,A4,B9,D7,G9,O3,O4,K0,F2,F5,I5,I6,F7,F4,F3,F6,K1,K4,O5,O6,K3,K2,K5,F8,F9,E8,E2,J9,G1,C7,E9,L0,C4,I1,K8,K7,E7,P3,C8,B3,A0,L7,H8,E5,L6,H7,yz19,zz27,yz31,jz25,jz31,zz32,jz26,zz21,jz27,zz26,and_self,Nat.reduceLeDiff,jz18,exists_eq_left',yz24,jz21,Nat.reduceBEq,yz22,yz32,G8,A3,N0,Int.reduceLT,Int.reduceLE,Int.reduceEq,c32,R3,W8,V4,T3,S4,R5,SOp.turns,S8,T6,U7,T0,X1,X0,c33,c35, *]) | with_reducible (first | refine C2 (fun h => ?_) fun h => ?_ | refine F1 (fun h => ?_) fun h => ?_ | refine C1 (fun h => ?_) fun h => ?_ | refine F0 (fun h => ?_) fun h => ?_ | refine A2 (fun h => ?_) fun h => ?_ | refine A7 (fun h => ?_) fun h => ?_) | (refine D5 ?_ ?_ ?_; (focus decide +kernel); (focus decide +kernel)))
set_option maxHeartbeats 2000000 in
theorem p20_hash1 (h1 : 0 < l.length) (h2 : l.length < 2 ^ 31) (hb : W2 (l.getD 0 0) = false) (hn : ¬ l.take 2 = [47,42]) (hm : ¬ 0 < (W1 l).2) (hc : l.getD 0 0 = 35) (hl : 1 < (l.length : Int)) (hh : X6 (l.getD 1 0) = true) : PE Tryd.prog cfgV 20 [strD l] (R0 l) := by
  refine PE.code rfl jz10 ?_
  dsimp only [sf20]
  have k1 : 0 < (l.length : Int) := by omega
  have k2 := yz11 (l := l)
  have k3 : ¬ 0 < (T9 l : Int) := by have := Y2 hb; omega
  have h3 := Z0 (l := l) [32,9,10,12,13]
  have h2' : l.length < 2 ^ 39 := by omega
  have k4 : 1 ≤ (l.length : Int) := by omega
  have hn' := hn
  rw [yz2] at hn'
  have ht' : R0 l = tokD 4 (l.take (1 + ((P7 (l.drop 1)).2 : Int)).toNat) (P7 (l.drop 1)).1 0 := by
    unfold R0
    rw [hb,if_neg (by simp),if_neg hn',if_neg (by rw [hc]; decide),if_neg hm,if_pos ⟨hc, .inl ⟨hh,hl⟩⟩]
  rw [ht']
  clear ht' hn'
  have q39 : ¬ (35 : UInt8) = 39 := by decide
  have q34 : ¬ (35 : UInt8) = 34 := by decide
  repeat' (first | (simp (maxSteps := 10000000) -implicitDefEqProofs (disch := first | exact tStr | decide | omega | assumption | (simp only [zz20,yz25,yz20]; omega)) only [D3,G6,G4,A9,C9,G3,B4,A1,C6,B2,D4,G5,D6,C5,B1,G7,B7,B8,C0,D8,D9,A5,J8,H9,E0,E1,M2,M3,M5,M4,I3,I4,P2,E4,E6,I0,B5,M1,N8,M9,N2,N3,N4,N5,N6,N7,N1,J2,J3,J4,J5,J6,J1,I8,I7,I9,M0,K9,E3,L1,C3,O1,O2,G2,O9,N9,O0,B0,L8,D2,I2,zz28,yz28,jz28,zz29,yz23,zz23,jz22,yz27,jz19,yz29,zz20,yz25,Nat.reduceAdd,Nat.reduceSub,Nat.reduceLT,Nat.reduceEqDiff,zz22,jz23,if_true,if_false,yz21,decide_true,decide_false,zz25,jz24,reduceIte,List.getElem?_cons_succ,List.getElem?_cons_zero,UInt8.reduceOfNat,fin1,fin2,L2,O7,L3,O8,H3,H6,H4,L4,H5,L5,B6,A8,zz24,M7,H0,M6,G0,Option.some.injEq,DV.tup.injEq,jz29,zz30,Int.reduceToNat,yz30,and_true,true_and,beq_self_eq_true,jz30,zz31,not_true_eq_false,not_false_eq_true,M8,J7,J0,A6,L9,K6,A4,B9,D7,G9,O3,O4,K0,F2,F5,I5,I6,F7,F4,F3,F6,K1,K4,O5,O6,K3,K2,K5,F8,F9,E8,E2,J9,G1,C7,E9,L0,C4,I1,K8,K7,E7,P3,C8,B3,A0,L7,H8,E5,L6,H7,yz19,zz27,yz31,jz25,jz31,zz32,jz26,zz21,jz27,zz26,and_self,Nat.reduceLeDiff,jz18,exists_eq_left',yz24,jz21,Nat.reduceBEq,yz22,yz32,G8,A3,N0,Int.reduceLT,Int.reduceLE,Int.reduceEq,c32,X2,V5, *]) | with_reducible (first | refine C2 (fun h => ?_) fun h => ?_ | refine F1 (fun h => ?_) fun h => ?_ | refine C1 (fun h => ?_) fun h => ?_ | refine F0 (fun h => ?_) fun h => ?_ | refine A2 (fun h => ?_) fun h => ?_ | refine A7 (fun h => ?_) fun h => ?_) | (refine D5 ?_ ?_ ?_; (focus decide +kernel); (focus decide +kernel)))
  refine S7 [some (0,1),none,none,none,none,none,none] rfl (by decide +kernel) (by decide +kernel) ?_; simp only [yz23,zz23,jz19,yz29,List.zip_cons_cons,List.zip_nil_left]
  repeat' (first | (simp (maxSteps := 10000000) -implicitDefEqProofs (disch := first | exact tStr | decide | omega | assumption | (simp only [zz20,yz25,yz20]; omega)) only [D3,G6,G4,A9,C9,G3,B4,A1,C6,B2,D4,G5,D6,C5,B1,G7,B7,B8,C0,D8,D9,A5,J8,H9,E0,E1,M2,M3,M5,M4,I3,I4,P2,E4,E6,I0,B5,M1,N8,M9,N2,N3,N4,N5,N6,N7,N1,J2,J3,J4,J5,J6,J1,I8,I7,I9,M0,K9,E3,L1,C3,O1,O2,G2,O9,N9,O0,B0,L8,D2,I2,zz28,yz28,jz28,zz29,yz23,zz23,jz22,yz27,jz19,yz29,zz20,yz25,Nat.reduceAdd,Nat.reduceSub,Nat.reduceLT,Nat.reduceEqDiff,zz22,jz23,if_true,if_false,yz21,decide_true,decide_false,zz25,jz24,reduceIte,List.getElem?_cons_succ,List.getElem?_cons_zero,UInt8.reduceOfNat,fin1,fin2,L2,O7,L3,O8,H3,H6,H4,L4,H5,L5,B6,A8,zz24,M7,H0,M6,G0,Option.some.injEq,DV.tup.injEq,jz29,zz30,Int.reduceToNat,yz30,and_true,true_and,beq_self_eq_true,jz30,zz31,not_true_eq_false,not_false_eq_true,M8,J7,J0,A6,L9,K6,A4,B9,D7,G9,O3,O4,K0,F2,F5,I5,I6,F7,F4,F3,F6,K1,K4,O5,O6,K3,K2,K5,F8,F9,E8,E2,J9,G1,C7,E9,L0,C4,I1,K8,K7,E7,P3,C8,B3,A0,L7,H8,E5,L6,H7,yz19,zz27,yz31,jz25,jz31,zz32,jz26,zz21,jz27,zz26,and_self,Nat.reduceLeDiff,jz18,exists_eq_left',yz24,jz21,Nat.reduceBEq,yz22,yz32,G8,A3,N0,Int.reduceLT,Int.reduceLE,Int.reduceEq,c32,R3,W8,V4,T3,S4,R5,SOp.turns,S8,T6,U7,T0,X1,X0,c33,c36,c37,c38,tokD, *]) | with_reducible (first | refine C2 (fun h => ?_) fun h => ?_ | refine F1 (fun h => ?_) fun h => ?_ | refine C1 (fun h => ?_) fun h => ?_ | refine F0 (fun h => ?_) fun h => ?_ | refine A2 (fun h => ?_) fun h => ?_ | refine A7 (fun h => ?_) fun h => ?_) | (refine D5 ?_ ?_ ?_; (focus decide +kernel); (focus decide +kernel)))
set_option maxHeartbeats 2000000 in
theorem p20_hash2 (h1 : 0 < l.length) (h2 : l.length < 2 ^ 31) (hb : W2 (l.getD 0 0) = false) (hn : ¬ l.take 2 = [47,42]) (hm : ¬ 0 < (W1 l).2) (hc : l.getD 0 0 = 35) (hl : 1 < (l.length : Int)) (hh : X6 (l.getD 1 0) = false) (he : Y3 (l.drop 1) = true) : PE Tryd.prog cfgV 20 [strD l] (R0 l) := by
  refine PE.code rfl jz10 ?_
  dsimp only [sf20]
  have k1 : 0 < (l.length : Int) := by omega
  have k2 := yz11 (l := l)
  have k3 : ¬ 0 < (T9 l : Int) := by have := Y2 hb; omega
  have h3 := Z0 (l := l) [32,9,10,12,13]
  have h2' : l.length < 2 ^ 39 := by omega
  have k4 : 1 ≤ (l.length : Int) := by omega
  have hn' := hn
  rw [yz2] at hn'
  have ht' : R0 l = tokD 4 (l.take (1 + ((P7 (l.drop 1)).2 : Int)).toNat) (P7 (l.drop 1)).1 0 := by
    unfold R0
    rw [hb,if_neg (by simp),if_neg hn',if_neg (by rw [hc]; decide),if_neg hm,if_pos ⟨hc, .inr he⟩]
  rw [ht']
  clear ht' hn'
  have q39 : ¬ (35 : UInt8) = 39 := by decide
  have q34 : ¬ (35 : UInt8) = 34 := by decide
  repeat' (first | (simp (maxSteps := 10000000) -implicitDefEqProofs (disch := first | exact tStr | decide | omega | assumption | (simp only [zz20,yz25,yz20]; omega)) only [D3,G6,G4,A9,C9,G3,B4,A1,C6,B2,D4,G5,D6,C5,B1,G7,B7,B8,C0,D8,D9,A5,J8,H9,E0,E1,M2,M3,M5,M4,I3,I4,P2,E4,E6,I0,B5,M1,N8,M9,N2,N3,N4,N5,N6,N7,N1,J2,J3,J4,J5,J6,J1,I8,I7,I9,M0,K9,E3,L1,C3,O1,O2,G2,O9,N9,O0,B0,L8,D2,I2,zz28,yz28,jz28,zz29,yz23,zz23,jz22,yz27,jz19,yz29,zz20,yz25,Nat.reduceAdd,Nat.reduceSub,Nat.reduceLT,Nat.reduceEqDiff,zz22,jz23,if_true,if_false,yz21,decide_true,decide_false,zz25,jz24,reduceIte,List.getElem?_cons_succ,List.getElem?_cons_zero,UInt8.reduceOfNat,fin1,fin2,L2,O7,L3,O8,H3,H6,H4,L4,H5,L5,B6,A8,zz24,M7,H0,M6,G0,Option.some.injEq,DV.tup.injEq,jz29,zz30,Int.reduceToNat,yz30,and_true,true_and,beq_self_eq_true,jz30,zz31,not_true_eq_false,not_false_eq_true,M8,J7,J0,A6,L9,K6,A4,B9,D7,G9,O3,O4,K0,F2,F5,I5,I6,F7,F4,F3,F6,K1,K4,O5,O6,K3,K2,K5,F8,F9,E8,E2,J9,G1,C7,E9,L0,C4,I1,K8,K7,E7,P3,C8,B3,A0,L7,H8,E5,L6,H7,yz19,zz27,yz31,jz25,jz31,zz32,jz26,zz21,jz27,zz26,and_self,Nat.reduceLeDiff,jz18,exists_eq_left',yz24,jz21,Nat.reduceBEq,yz22,yz32,G8,A3,N0,Int.reduceLT,Int.reduceLE,Int.reduceEq,c32,X2,V5, *]) | with_reducible (first | refine C2 (fun h => ?_) fun h => ?_ | refine F1 (fun h => ?_) fun h => ?_ | refine C1 (fun h => ?_) fun h => ?_ | refine F0 (fun h => ?_) fun h => ?_ | refine A2 (fun h => ?_) fun h => ?_ | refine A7 (fun h => ?_) fun h => ?_) | (refine D5 ?_ ?_ ?_; (focus decide +kernel); (focus decide +kernel)))
  refine S7 [some (0,1),none,none,none,none,none,none] rfl (by decide +kernel) (by decide +kernel) ?_; simp only [yz23,zz23,jz19,yz29,List.zip_cons_cons,List.zip_nil_left]
  repeat' (first | (simp (maxSteps := 10000000) -implicitDefEqProofs (disch := first | exact tStr | decide | omega | assumption | (simp only [zz20,yz25,yz20]; omega)) only [D3,G6,G4,A9,C9,G3,B4,A1,C6,B2,D4,G5,D6,C5,B1,G7,B7,B8,C0,D8,D9,A5,J8,H9,E0,E1,M2,M3,M5,M4,I3,I4,P2,E4,E6,I0,B5,M1,N8,M9,N2,N3,N4,N5,N6,N7,N1,J2,J3,J4,J5,J6,J1,I8,I7,I9,M0,K9,E3,L1,C3,O1,O2,G2,O9,N9,O0,B0,L8,D2,I2,zz28,yz28,jz28,zz29,yz23,zz23,jz22,yz27,jz19,yz29,zz20,yz25,Nat.reduceAdd,Nat.reduceSub,Nat.reduceLT,Nat.reduceEqDiff,zz22,jz23,if_true,if_false,yz21,decide_true,decide_false,zz25,jz24,reduceIte,List.getElem?_cons_succ,List.getElem?_cons_zero,UInt8.reduceOfNat,fin1,fin2,L2,O7,L3,O8,H3,H6,H4,L4,H5,L5,B6,A8,zz24,M7,H0,M6,G0,Option.some.injEq,DV.tup.injEq,jz29,zz30,Int.reduceToNat,yz30,and_true,true_and,beq_self_eq_true,jz30,zz31,not_true_eq_false,not_false_eq_true,M8,J7,J0,A6,L9,K6,A4,B9,D7,G9,O3,O4,K0,F2,F5,I5,I6,F7,F4,F3,F6,K1,K4,O5,O6,K3,K2,K5,F8,F9,E8,E2,J9,G1,C7,E9,L0,C4,I1,K8,K7,E7,P3,C8,B3,A0,L7,H8,E5,L6,H7,yz19,zz27,yz31,jz25,jz31,zz32,jz26,zz21,jz27,zz26,and_self,Nat.reduceLeDiff,jz18,exists_eq_left',yz24,jz21,Nat.reduceBEq,yz22,yz32,G8,A3,N0,Int.reduceLT,Int.reduceLE,Int.reduceEq,c32,R3,W8,V4,T3,S4,R5,SOp.turns,S8,T6,U7,T0,X1,X0,c33,c36,c37,c38,tokD, *]) | with_reducible (first | refine C2 (fun h => ?_) fun h => ?_ | refine F1 (fun h => ?_) fun h => ?_ | refine C1 (fun h => ?_) fun h => ?_ | refine F0 (fun h => ?_) fun h => ?_ | refine A2 (fun h => ?_) fun h => ?_ | refine A7 (fun h => ?_) fun h => ?_) | (refine D5 ?_ ?_ ?_; (focus decide +kernel); (focus decide +kernel)))
set_option maxHeartbeats 2000000 in
theorem p20_at (h1 : 0 < l.length) (h2 : l.length < 2 ^ 31) (hb : W2 (l.getD 0 0) = false) (hn : ¬ l.take 2 = [47,42]) (hm : ¬ 0 < (W1 l).2) (hc : l.getD 0 0 = 64) (hh : W9 (l.drop 1) = true) : PE Tryd.prog cfgV 20 [strD l] (R0 l) := by
  refine PE.code rfl jz10 ?_
  dsimp only [sf20]
  have k1 : 0 < (l.length : Int) := by omega
  have k2 := yz11 (l := l)
  have k3 : ¬ 0 < (T9 l : Int) := by have := Y2 hb; omega
  have h3 := Z0 (l := l) [32,9,10,12,13]
  have h2' : l.length < 2 ^ 39 := by omega
  have k4 : 1 ≤ (l.length : Int) := by omega
  have hn' := hn
  rw [yz2] at hn'
  have ht' : R0 l = tokD 3 (l.take (1 + ((P7 (l.drop 1)).2 : Int)).toNat) (P7 (l.drop 1)).1 0 := by
    unfold R0
    rw [hb,if_neg (by simp),if_neg hn',if_neg (by rw [hc]; decide),if_neg hm,if_neg (by rw [hc]; intro h; exact absurd h.1 (by decide)),if_pos ⟨hc,hh⟩]
  rw [ht']
  clear ht' hn'
  have q39 : ¬ (64 : UInt8) = 39 := by decide
  have q34 : ¬ (64 : UInt8) = 34 := by decide
  have q35 : ¬ (64 : UInt8) = 35 := by decide
  repeat' (first | (simp (maxSteps := 10000000) -implicitDefEqProofs (disch := first | exact tStr | decide | omega | assumption | (simp only [zz20,yz25,yz20]; omega)) only [D3,G6,G4,A9,C9,G3,B4,A1,C6,B2,D4,G5,D6,C5,B1,G7,B7,B8,C0,D8,D9,A5,J8,H9,E0,E1,M2,M3,M5,M4,I3,I4,P2,E4,E6,I0,B5,M1,N8,M9,N2,N3,N4,N5,N6,N7,N1,J2,J3,J4,J5,J6,J1,I8,I7,I9,M0,K9,E3,L1,C3,O1,O2,G2,O9,N9,O0,B0,L8,D2,I2,zz28,yz28,jz28,zz29,yz23,zz23,jz22,yz27,jz19,yz29,zz20,yz25,Nat.reduceAdd,Nat.reduceSub,Nat.reduceLT,Nat.reduceEqDiff,zz22,jz23,if_true,if_false,yz21,decide_true,decide_false,zz25,jz24,reduceIte,List.getElem?_cons_succ,List.getElem?_cons_zero,UInt8.reduceOfNat,fin1,fin2,L2,O7,L3,O8,H3,H6,H4,L4,H5,L5,B6,A8,zz24,M7,H0,M6,G0,Option.some.injEq,DV.tup.injEq,jz29,zz30,Int.reduceToNat,yz30,and_true,true_and,beq_self_eq_true,jz30,zz31,not_true_eq_false,not_false_eq_true,M8,J7,J0,A6,L9,K6,A4,B9,D7,G9,O3,O4,K0,F2,F5,I5,I6,F7,F4,F3,F6,K1,K4,O5,O6,K3,K2,K5,F8,F9,E8,E2,J9,G1,C7,E9,L0,C4,I1,K8,K7,E7,P3,C8,B3,A0,L7,H8,E5,L6,H7,yz19,zz27,yz31,jz25,jz31,zz32,jz26,zz21,jz27,zz26,and_self,Nat.reduceLeDiff,jz18,exists_eq_left',yz24,jz21,Nat.reduceBEq,yz22,yz32,G8,A3,N0,Int.reduceLT,Int.reduceLE,Int.reduceEq,c32,X2,V5, *]) | with_reducible (first | refine C2 (fun h => ?_) fun h => ?_ | refine F1 (fun h => ?_) fun h => ?_ | refine C1 (fun h => ?_) fun h => ?_ | refine F0 (fun h => ?_) fun h => ?_ | refine A2 (fun h => ?_) fun h => ?_ | refine A7 (fun h => ?_) fun h => ?_) | (refine D5 ?_ ?_ ?_; (focus decide +kernel); (focus decide +kernel)))
  refine S7 [some (0,1),none,none,none,none,none,none] rfl (by decide +kernel) (by decide +kernel) ?_; simp only [yz23,zz23,jz19,yz29,List.zip_cons_cons,List.zip_nil_left]
  repeat' (first | (simp (maxSteps := 10000000) -implicitDefEqProofs (disch := first | exact tStr | decide | omega | assumption | (simp only [zz20,yz25,yz20]; omega)) only [D3,G6,G4,A9,C9,G3,B4,A1,C6,B2,D4,G5,D6,C5,B1,G7,B7,B8,C0,D8,D9,A5,J8,H9,E0,E1,M2,M3,M5,M4,I3,I4,P2,E4,E6,I0,B5,M1,N8,M9,N2,N3,N4,N5,N6,N7,N1,J2,J3,J4,J5,J6,J1,I8,I7,I9,M0,K9,E3,L1,C3,O1,O2,G2,O9,N9,O0,B0,L8,D2,I2,zz28,yz28,jz28,zz29,yz23,zz23,jz22,yz27,jz19,yz29,zz20,yz25,Nat.reduceAdd,Nat.reduceSub,Nat.reduceLT,Nat.reduceEqDiff,zz22,jz23,if_true,if_false,yz21,decide_true,decide_false,zz25,jz24,reduceIte,List.getElem?_cons_succ,List.getElem?_cons_zero,UInt8.reduceOfNat,fin1,fin2,L2,O7,L3,O8,H3,H6,H4,L4,H5,L5,B6,A8,zz24,M7,H0,M6,G0,Option.some.injEq,DV.tup.injEq,jz29,zz30,Int.reduceToNat,yz30,and_true,true_and,beq_self_eq_true,jz30,zz31,not_true_eq_false,not_false_eq_true,M8,J7,J0,A6,L9,K6,A4,B9,D7,G9,O3,O4,K0,F2,F5,I5,I6,F7,F4,F3,F6,K1,K4,O5,O6,K3,K2,K5,F8,F9,E8,E2,J9,G1,C7,E9,L0,C4,I1,K8,K7,E7,P3,C8,B3,A0,L7,H8,E5,L6,H7,yz19,zz27,yz31,jz25,jz31,zz32,jz26,zz21,jz27,zz26,and_self,Nat.reduceLeDiff,jz18,exists_eq_left',yz24,jz21,Nat.reduceBEq,yz22,yz32,G8,A3,N0,Int.reduceLT,Int.reduceLE,Int.reduceEq,c32,R3,W8,V4,T3,S4,R5,SOp.turns,S8,T6,U7,T0,X1,X0,c33,c36,c37,c38,c39,tokD, *]) | with_reducible (first | refine C2 (fun h => ?_) fun h => ?_ | refine F1 (fun h => ?_) fun h => ?_ | refine C1 (fun h => ?_) fun h => ?_ | refine F0 (fun h => ?_) fun h => ?_ | refine A2 (fun h => ?_) fun h => ?_ | refine A7 (fun h => ?_) fun h => ?_) | (refine D5 ?_ ?_ ?_; (focus decide +kernel); (focus decide +kernel)))
end Go.Dx
end
