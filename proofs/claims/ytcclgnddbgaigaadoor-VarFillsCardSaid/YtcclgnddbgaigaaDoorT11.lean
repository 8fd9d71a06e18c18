/- A part of the proof of VarFills: what functions of the program answer. -/
import Derived.Test.YtcclgnddbgaigaaDoorT10
open Nat renaming le_refl → jz18, add_zero → jz21, zero_add → yz24, le_zero_eq → yz32
open Bool renaming and_eq_true → zz19, false_eq_true → yz21, not_false → jz24, not_true → zz25, and_self → zz26, true_beq → jz30, false_beq → zz31, not_eq_true → zz33
open List renaming take_succ_cons → yz19, replicate_succ → jz19, length_cons → zz20, length_append → yz20, all_cons → zz21, singleton_append → yz22, cons_append → jz22, map_nil → zz23, map_cons → yz23, length_nil → yz25, drop_zero → jz25, append_nil → jz26, take_zero → zz27, nil_append → yz27, all_nil → jz27, set_cons_succ → zz28, set_cons_zero → yz28, getD_cons_succ → jz28, getD_cons_zero → zz29, replicate_zero → yz29, drop_succ_cons → yz31, drop_nil → jz31, take_nil → zz32, length_drop → jz32
open Option renaming map_some → zz22, map_none → jz23, bind_some → zz24
open Int renaming toNat_zero → jz29, toNat_one → zz30, cast_ofNat_Int → yz30
set_option linter.all false
section
namespace Go.Dx
open Go Go.Proofs
attribute [local congr] Q7 Q6 R2 P8 Q2 Q5 Q3
def Y5 (b : UInt8) : Bool := decide (48 ≤ b) && decide (b ≤ 57)
def isLet (b : UInt8) : Bool := decide (97 ≤ b) && decide (b ≤ 122) || decide (65 ≤ b) && decide (b ≤ 90) || decide (b = 95) || decide (128 ≤ b)
def X6 (b : UInt8) : Bool := isLet b || Y5 b || decide (b = 45)
def W2 (b : UInt8) : Bool := decide (b = 32) || decide (b = 9) || decide (b = 10) || decide (b = 12) || decide (b = 13)
def Y3 : List UInt8 → Bool
  | a :: b :: _ => decide (a = 92) && !decide (b = 10)
  | _ => false
variable {b : UInt8} {l : List UInt8} {H : Heap} {K : DV → Heap → Prop} {i : Int}
theorem p67 : PE Tryd.prog cfgV 67 [byD b] (boD (Y5 b)) := by
  refine PE.code rfl code67 ?_
  dsimp only [sf67]
  repeat' (first | (simp (maxSteps := 10000000) -implicitDefEqProofs (disch := first | exact tStr | decide | omega | assumption | (simp only [zz20,yz25,yz20]; omega)) only [D3,G6,G4,A9,C9,G3,B4,A1,C6,B2,D4,G5,D6,C5,B1,G7,B7,B8,C0,D8,D9,A5,J8,H9,E0,E1,M2,M3,M5,M4,I3,I4,P2,E4,E6,I0,B5,M1,N8,M9,N2,N3,N4,N5,N6,N7,N1,J2,J3,J4,J5,J6,J1,I8,I7,I9,M0,K9,E3,L1,C3,O1,O2,G2,O9,N9,O0,B0,L8,D2,I2,zz28,yz28,jz28,zz29,yz23,zz23,jz22,yz27,jz19,yz29,zz20,yz25,Nat.reduceAdd,Nat.reduceSub,Nat.reduceLT,Nat.reduceEqDiff,zz22,jz23,if_true,if_false,yz21,decide_true,decide_false,zz25,jz24,reduceIte,List.getElem?_cons_succ,List.getElem?_cons_zero,UInt8.reduceOfNat,fin1,fin2,L2,O7,L3,O8,H3,H6,H4,L4,H5,L5,B6,A8,zz24,M7,H0,M6,G0,Option.some.injEq,DV.tup.injEq,jz29,zz30,Int.reduceToNat,yz30,and_true,true_and,beq_self_eq_true,jz30,zz31,not_true_eq_false,not_false_eq_true,M8,J7,J0,A6,L9,K6,A4,B9,D7,G9,O3,O4,K0,F2,F5,I5,I6,F7,F4,F3,F6,K1,K4,O5,O6,K3,K2,K5,F8,F9,E8,E2,J9,G1,C7,E9,L0,C4,I1,K8,K7,E7,P3,C8,B3,A0,L7,H8,E5,L6,H7,yz19,zz27,yz31,jz25,jz31,zz32,jz26,zz21,jz27,zz26,and_self,Nat.reduceLeDiff,jz18,exists_eq_left',yz24,jz21,Nat.reduceBEq,yz22,yz32,G8,A3,N0,Int.reduceLT,Int.reduceLE,Int.reduceEq,sf67, *]) | with_reducible (first | refine C2 (fun h => ?_) fun h => ?_ | refine F1 (fun h => ?_) fun h => ?_ | refine C1 (fun h => ?_) fun h => ?_ | refine F0 (fun h => ?_) fun h => ?_ | refine A2 (fun h => ?_) fun h => ?_ | refine A7 (fun h => ?_) fun h => ?_) | (refine D5 ?_ ?_ ?_; (focus decide +kernel); (focus decide +kernel)))
  all_goals simp only [Y5, *,decide_true,decide_false,Bool.true_and,Bool.false_and,Bool.and_true,Bool.and_false,Bool.true_or,Bool.false_or,Bool.or_true,Bool.or_false,zz25,jz24,not_true_eq_false,not_false_eq_true]
theorem c67 : R4 Tryd.prog cfgV 67 [byD b] H K = K (boD (Y5 b)) H := T7 rfl rfl p67 H K
theorem p77 : PE Tryd.prog cfgV 77 [byD b] (boD (Y5 b)) := by
  refine PE.code rfl code77 ?_
  dsimp only [sf77]
  repeat' (first | (simp (maxSteps := 10000000) -implicitDefEqProofs (disch := first | exact tStr | decide | omega | assumption | (simp only [zz20,yz25,yz20]; omega)) only [D3,G6,G4,A9,C9,G3,B4,A1,C6,B2,D4,G5,D6,C5,B1,G7,B7,B8,C0,D8,D9,A5,J8,H9,E0,E1,M2,M3,M5,M4,I3,I4,P2,E4,E6,I0,B5,M1,N8,M9,N2,N3,N4,N5,N6,N7,N1,J2,J3,J4,J5,J6,J1,I8,I7,I9,M0,K9,E3,L1,C3,O1,O2,G2,O9,N9,O0,B0,L8,D2,I2,zz28,yz28,jz28,zz29,yz23,zz23,jz22,yz27,jz19,yz29,zz20,yz25,Nat.reduceAdd,Nat.reduceSub,Nat.reduceLT,Nat.reduceEqDiff,zz22,jz23,if_true,if_false,yz21,decide_true,decide_false,zz25,jz24,reduceIte,List.getElem?_cons_succ,List.getElem?_cons_zero,UInt8.reduceOfNat,fin1,fin2,L2,O7,L3,O8,H3,H6,H4,L4,H5,L5,B6,A8,zz24,M7,H0,M6,G0,Option.some.injEq,DV.tup.injEq,jz29,zz30,Int.reduceToNat,yz30,and_true,true_and,beq_self_eq_true,jz30,zz31,not_true_eq_false,not_false_eq_true,M8,J7,J0,A6,L9,K6,A4,B9,D7,G9,O3,O4,K0,F2,F5,I5,I6,F7,F4,F3,F6,K1,K4,O5,O6,K3,K2,K5,F8,F9,E8,E2,J9,G1,C7,E9,L0,C4,I1,K8,K7,E7,P3,C8,B3,A0,L7,H8,E5,L6,H7,yz19,zz27,yz31,jz25,jz31,zz32,jz26,zz21,jz27,zz26,and_self,Nat.reduceLeDiff,jz18,exists_eq_left',yz24,jz21,Nat.reduceBEq,yz22,yz32,G8,A3,N0,Int.reduceLT,Int.reduceLE,Int.reduceEq,sf77, *]) | with_reducible (first | refine C2 (fun h => ?_) fun h => ?_ | refine F1 (fun h => ?_) fun h => ?_ | refine C1 (fun h => ?_) fun h => ?_ | refine F0 (fun h => ?_) fun h => ?_ | refine A2 (fun h => ?_) fun h => ?_ | refine A7 (fun h => ?_) fun h => ?_) | (refine D5 ?_ ?_ ?_; (focus decide +kernel); (focus decide +kernel)))
  all_goals simp only [Y5, *,decide_true,decide_false,Bool.true_and,Bool.false_and,Bool.and_true,Bool.and_false,Bool.true_or,Bool.false_or,Bool.or_true,Bool.or_false,zz25,jz24,not_true_eq_false,not_false_eq_true]
theorem c77 : R4 Tryd.prog cfgV 77 [byD b] H K = K (boD (Y5 b)) H := T7 rfl rfl p77 H K
theorem p78 : PE Tryd.prog cfgV 78 [byD b] (boD (isLet b)) := by
  refine PE.code rfl code78 ?_
  dsimp only [sf78]
  repeat' (first | (simp (maxSteps := 10000000) -implicitDefEqProofs (disch := first | exact tStr | decide | omega | assumption | (simp only [zz20,yz25,yz20]; omega)) only [D3,G6,G4,A9,C9,G3,B4,A1,C6,B2,D4,G5,D6,C5,B1,G7,B7,B8,C0,D8,D9,A5,J8,H9,E0,E1,M2,M3,M5,M4,I3,I4,P2,E4,E6,I0,B5,M1,N8,M9,N2,N3,N4,N5,N6,N7,N1,J2,J3,J4,J5,J6,J1,I8,I7,I9,M0,K9,E3,L1,C3,O1,O2,G2,O9,N9,O0,B0,L8,D2,I2,zz28,yz28,jz28,zz29,yz23,zz23,jz22,yz27,jz19,yz29,zz20,yz25,Nat.reduceAdd,Nat.reduceSub,Nat.reduceLT,Nat.reduceEqDiff,zz22,jz23,if_true,if_false,yz21,decide_true,decide_false,zz25,jz24,reduceIte,List.getElem?_cons_succ,List.getElem?_cons_zero,UInt8.reduceOfNat,fin1,fin2,L2,O7,L3,O8,H3,H6,H4,L4,H5,L5,B6,A8,zz24,M7,H0,M6,G0,Option.some.injEq,DV.tup.injEq,jz29,zz30,Int.reduceToNat,yz30,and_true,true_and,beq_self_eq_true,jz30,zz31,not_true_eq_false,not_false_eq_true,M8,J7,J0,A6,L9,K6,A4,B9,D7,G9,O3,O4,K0,F2,F5,I5,I6,F7,F4,F3,F6,K1,K4,O5,O6,K3,K2,K5,F8,F9,E8,E2,J9,G1,C7,E9,L0,C4,I1,K8,K7,E7,P3,C8,B3,A0,L7,H8,E5,L6,H7,yz19,zz27,yz31,jz25,jz31,zz32,jz26,zz21,jz27,zz26,and_self,Nat.reduceLeDiff,jz18,exists_eq_left',yz24,jz21,Nat.reduceBEq,yz22,yz32,G8,A3,N0,Int.reduceLT,Int.reduceLE,Int.reduceEq,sf78, *]) | with_reducible (first | refine C2 (fun h => ?_) fun h => ?_ | refine F1 (fun h => ?_) fun h => ?_ | refine C1 (fun h => ?_) fun h => ?_ | refine F0 (fun h => ?_) fun h => ?_ | refine A2 (fun h => ?_) fun h => ?_ | refine A7 (fun h => ?_) fun h => ?_) | (refine D5 ?_ ?_ ?_; (focus decide +kernel); (focus decide +kernel)))
  all_goals simp only [isLet, *,decide_true,decide_false,Bool.true_and,Bool.false_and,Bool.and_true,Bool.and_false,Bool.true_or,Bool.false_or,Bool.or_true,Bool.or_false,zz25,jz24,not_true_eq_false,not_false_eq_true]
theorem c78 : R4 Tryd.prog cfgV 78 [byD b] H K = K (boD (isLet b)) H := T7 rfl rfl p78 H K
theorem p56 : PE Tryd.prog cfgV 56 [byD b] (boD (X6 b)) := by
  refine PE.code rfl code56 ?_
  dsimp only [sf56]
  repeat' (first | (simp (maxSteps := 10000000) -implicitDefEqProofs (disch := first | exact tStr | decide | omega | assumption | (simp only [zz20,yz25,yz20]; omega)) only [D3,G6,G4,A9,C9,G3,B4,A1,C6,B2,D4,G5,D6,C5,B1,G7,B7,B8,C0,D8,D9,A5,J8,H9,E0,E1,M2,M3,M5,M4,I3,I4,P2,E4,E6,I0,B5,M1,N8,M9,N2,N3,N4,N5,N6,N7,N1,J2,J3,J4,J5,J6,J1,I8,I7,I9,M0,K9,E3,L1,C3,O1,O2,G2,O9,N9,O0,B0,L8,D2,I2,zz28,yz28,jz28,zz29,yz23,zz23,jz22,yz27,jz19,yz29,zz20,yz25,Nat.reduceAdd,Nat.reduceSub,Nat.reduceLT,Nat.reduceEqDiff,zz22,jz23,if_true,if_false,yz21,decide_true,decide_false,zz25,jz24,reduceIte,List.getElem?_cons_succ,List.getElem?_cons_zero,UInt8.reduceOfNat,fin1,fin2,L2,O7,L3,O8,H3,H6,H4,L4,H5,L5,B6,A8,zz24,M7,H0,M6,G0,Option.some.injEq,DV.tup.injEq,jz29,zz30,Int.reduceToNat,yz30,and_true,true_and,beq_self_eq_true,jz30,zz31,not_true_eq_false,not_false_eq_true,M8,J7,J0,A6,L9,K6,A4,B9,D7,G9,O3,O4,K0,F2,F5,I5,I6,F7,F4,F3,F6,K1,K4,O5,O6,K3,K2,K5,F8,F9,E8,E2,J9,G1,C7,E9,L0,C4,I1,K8,K7,E7,P3,C8,B3,A0,L7,H8,E5,L6,H7,yz19,zz27,yz31,jz25,jz31,zz32,jz26,zz21,jz27,zz26,and_self,Nat.reduceLeDiff,jz18,exists_eq_left',yz24,jz21,Nat.reduceBEq,yz22,yz32,G8,A3,N0,Int.reduceLT,Int.reduceLE,Int.reduceEq,c77,c78, *]) | with_reducible (first | refine C2 (fun h => ?_) fun h => ?_ | refine F1 (fun h => ?_) fun h => ?_ | refine C1 (fun h => ?_) fun h => ?_ | refine F0 (fun h => ?_) fun h => ?_ | refine A2 (fun h => ?_) fun h => ?_ | refine A7 (fun h => ?_) fun h => ?_) | (refine D5 ?_ ?_ ?_; (focus decide +kernel); (focus decide +kernel)))
  all_goals simp only [X6, *,decide_true,decide_false,Bool.true_and,Bool.false_and,Bool.and_true,Bool.and_false,Bool.true_or,Bool.false_or,Bool.or_true,Bool.or_false,zz25,jz24,not_true_eq_false,not_false_eq_true]
theorem c56 : R4 Tryd.prog cfgV 56 [byD b] H K = K (boD (X6 b)) H := T7 rfl rfl p56 H K
theorem p50 : PE Tryd.prog cfgV 50 [byD b] (boD (W2 b)) := by
  refine PE.code rfl code50 ?_
  dsimp only [sf50]
  repeat' (first | (simp (maxSteps := 10000000) -implicitDefEqProofs (disch := first | exact tStr | decide | omega | assumption | (simp only [zz20,yz25,yz20]; omega)) only [D3,G6,G4,A9,C9,G3,B4,A1,C6,B2,D4,G5,D6,C5,B1,G7,B7,B8,C0,D8,D9,A5,J8,H9,E0,E1,M2,M3,M5,M4,I3,I4,P2,E4,E6,I0,B5,M1,N8,M9,N2,N3,N4,N5,N6,N7,N1,J2,J3,J4,J5,J6,J1,I8,I7,I9,M0,K9,E3,L1,C3,O1,O2,G2,O9,N9,O0,B0,L8,D2,I2,zz28,yz28,jz28,zz29,yz23,zz23,jz22,yz27,jz19,yz29,zz20,yz25,Nat.reduceAdd,Nat.reduceSub,Nat.reduceLT,Nat.reduceEqDiff,zz22,jz23,if_true,if_false,yz21,decide_true,decide_false,zz25,jz24,reduceIte,List.getElem?_cons_succ,List.getElem?_cons_zero,UInt8.reduceOfNat,fin1,fin2,L2,O7,L3,O8,H3,H6,H4,L4,H5,L5,B6,A8,zz24,M7,H0,M6,G0,Option.some.injEq,DV.tup.injEq,jz29,zz30,Int.reduceToNat,yz30,and_true,true_and,beq_self_eq_true,jz30,zz31,not_true_eq_false,not_false_eq_true,M8,J7,J0,A6,L9,K6,A4,B9,D7,G9,O3,O4,K0,F2,F5,I5,I6,F7,F4,F3,F6,K1,K4,O5,O6,K3,K2,K5,F8,F9,E8,E2,J9,G1,C7,E9,L0,C4,I1,K8,K7,E7,P3,C8,B3,A0,L7,H8,E5,L6,H7,yz19,zz27,yz31,jz25,jz31,zz32,jz26,zz21,jz27,zz26,and_self,Nat.reduceLeDiff,jz18,exists_eq_left',yz24,jz21,Nat.reduceBEq,yz22,yz32,G8,A3,N0,Int.reduceLT,Int.reduceLE,Int.reduceEq,c77, *]) | with_reducible (first | refine C2 (fun h => ?_) fun h => ?_ | refine F1 (fun h => ?_) fun h => ?_ | refine C1 (fun h => ?_) fun h => ?_ | refine F0 (fun h => ?_) fun h => ?_ | refine A2 (fun h => ?_) fun h => ?_ | refine A7 (fun h => ?_) fun h => ?_) | (refine D5 ?_ ?_ ?_; (focus decide +kernel); (focus decide +kernel)))
  all_goals simp only [W2, *,decide_true,decide_false,Bool.true_and,Bool.false_and,Bool.and_true,Bool.and_false,Bool.true_or,Bool.false_or,Bool.or_true,Bool.or_false,zz25,jz24,not_true_eq_false,not_false_eq_true]
theorem c50 : R4 Tryd.prog cfgV 50 [byD b] H K = K (boD (W2 b)) H := T7 rfl rfl p50 H K
set_option maxRecDepth 10000 in
theorem let_or : ∀ n : Fin 256,(decide (128 ≤ UInt8.ofNat n) || decide (UInt8.ofNat n = 95) || decide (97 ≤ UInt8.ofNat n ||| 32) && decide (UInt8.ofNat n ||| 32 ≤ 122)) = isLet (UInt8.ofNat n) := by decide
theorem let_or' (b : UInt8) : (decide (128 ≤ b) || decide (b = 95) || decide (97 ≤ b ||| 32) && decide (b ||| 32 ≤ 122)) = isLet b := by
  have := let_or ⟨b.toNat,b.toNat_lt⟩
  simpa using this
theorem p66 : PE Tryd.prog cfgV 66 [byD b] (boD (isLet b)) := by
  refine PE.code rfl code66 ?_
  dsimp only [sf66]
  rw [← let_or']
  repeat' (first | (simp (maxSteps := 10000000) -implicitDefEqProofs (disch := first | exact tStr | decide | omega | assumption | (simp only [zz20,yz25,yz20]; omega)) only [D3,G6,G4,A9,C9,G3,B4,A1,C6,B2,D4,G5,D6,C5,B1,G7,B7,B8,C0,D8,D9,A5,J8,H9,E0,E1,M2,M3,M5,M4,I3,I4,P2,E4,E6,I0,B5,M1,N8,M9,N2,N3,N4,N5,N6,N7,N1,J2,J3,J4,J5,J6,J1,I8,I7,I9,M0,K9,E3,L1,C3,O1,O2,G2,O9,N9,O0,B0,L8,D2,I2,zz28,yz28,jz28,zz29,yz23,zz23,jz22,yz27,jz19,yz29,zz20,yz25,Nat.reduceAdd,Nat.reduceSub,Nat.reduceLT,Nat.reduceEqDiff,zz22,jz23,if_true,if_false,yz21,decide_true,decide_false,zz25,jz24,reduceIte,List.getElem?_cons_succ,List.getElem?_cons_zero,UInt8.reduceOfNat,fin1,fin2,L2,O7,L3,O8,H3,H6,H4,L4,H5,L5,B6,A8,zz24,M7,H0,M6,G0,Option.some.injEq,DV.tup.injEq,jz29,zz30,Int.reduceToNat,yz30,and_true,true_and,beq_self_eq_true,jz30,zz31,not_true_eq_false,not_false_eq_true,M8,J7,J0,A6,L9,K6,A4,B9,D7,G9,O3,O4,K0,F2,F5,I5,I6,F7,F4,F3,F6,K1,K4,O5,O6,K3,K2,K5,F8,F9,E8,E2,J9,G1,C7,E9,L0,C4,I1,K8,K7,E7,P3,C8,B3,A0,L7,H8,E5,L6,H7,yz19,zz27,yz31,jz25,jz31,zz32,jz26,zz21,jz27,zz26,and_self,Nat.reduceLeDiff,jz18,exists_eq_left',yz24,jz21,Nat.reduceBEq,yz22,yz32,G8,A3,N0,Int.reduceLT,Int.reduceLE,Int.reduceEq,c77, *]) | with_reducible (first | refine C2 (fun h => ?_) fun h => ?_ | refine F1 (fun h => ?_) fun h => ?_ | refine C1 (fun h => ?_) fun h => ?_ | refine F0 (fun h => ?_) fun h => ?_ | refine A2 (fun h => ?_) fun h => ?_ | refine A7 (fun h => ?_) fun h => ?_) | (refine D5 ?_ ?_ ?_; (focus decide +kernel); (focus decide +kernel)))
  all_goals simp only [W2, *,decide_true,decide_false,Bool.true_and,Bool.false_and,Bool.and_true,Bool.and_false,Bool.true_or,Bool.false_or,Bool.or_true,Bool.or_false,zz25,jz24,not_true_eq_false,not_false_eq_true]
theorem c66 : R4 Tryd.prog cfgV 66 [byD b] H K = K (boD (isLet b)) H := T7 rfl rfl p66 H K
theorem p36 : PE Tryd.prog cfgV 36 [byD b] (boD (X6 b)) := by
  refine PE.code rfl code36 ?_
  dsimp only [sf36]
  repeat' (first | (simp (maxSteps := 10000000) -implicitDefEqProofs (disch := first | exact tStr | decide | omega | assumption | (simp only [zz20,yz25,yz20]; omega)) only [D3,G6,G4,A9,C9,G3,B4,A1,C6,B2,D4,G5,D6,C5,B1,G7,B7,B8,C0,D8,D9,A5,J8,H9,E0,E1,M2,M3,M5,M4,I3,I4,P2,E4,E6,I0,B5,M1,N8,M9,N2,N3,N4,N5,N6,N7,N1,J2,J3,J4,J5,J6,J1,I8,I7,I9,M0,K9,E3,L1,C3,O1,O2,G2,O9,N9,O0,B0,L8,D2,I2,zz28,yz28,jz28,zz29,yz23,zz23,jz22,yz27,jz19,yz29,zz20,yz25,Nat.reduceAdd,Nat.reduceSub,Nat.reduceLT,Nat.reduceEqDiff,zz22,jz23,if_true,if_false,yz21,decide_true,decide_false,zz25,jz24,reduceIte,List.getElem?_cons_succ,List.getElem?_cons_zero,UInt8.reduceOfNat,fin1,fin2,L2,O7,L3,O8,H3,H6,H4,L4,H5,L5,B6,A8,zz24,M7,H0,M6,G0,Option.some.injEq,DV.tup.injEq,jz29,zz30,Int.reduceToNat,yz30,and_true,true_and,beq_self_eq_true,jz30,zz31,not_true_eq_false,not_false_eq_true,M8,J7,J0,A6,L9,K6,A4,B9,D7,G9,O3,O4,K0,F2,F5,I5,I6,F7,F4,F3,F6,K1,K4,O5,O6,K3,K2,K5,F8,F9,E8,E2,J9,G1,C7,E9,L0,C4,I1,K8,K7,E7,P3,C8,B3,A0,L7,H8,E5,L6,H7,yz19,zz27,yz31,jz25,jz31,zz32,jz26,zz21,jz27,zz26,and_self,Nat.reduceLeDiff,jz18,exists_eq_left',yz24,jz21,Nat.reduceBEq,yz22,yz32,G8,A3,N0,Int.reduceLT,Int.reduceLE,Int.reduceEq,c66,c67, *]) | with_reducible (first | refine C2 (fun h => ?_) fun h => ?_ | refine F1 (fun h => ?_) fun h => ?_ | refine C1 (fun h => ?_) fun h => ?_ | refine F0 (fun h => ?_) fun h => ?_ | refine A2 (fun h => ?_) fun h => ?_ | refine A7 (fun h => ?_) fun h => ?_) | (refine D5 ?_ ?_ ?_; (focus decide +kernel); (focus decide +kernel)))
  all_goals simp only [X6, *,decide_true,decide_false,Bool.true_and,Bool.false_and,Bool.and_true,Bool.and_false,Bool.true_or,Bool.false_or,Bool.or_true,Bool.or_false,zz25,jz24,not_true_eq_false,not_false_eq_true]
theorem c36 : R4 Tryd.prog cfgV 36 [byD b] H K = K (boD (X6 b)) H := T7 rfl rfl p36 H K
theorem esc_get (l : List UInt8) : Y3 l = (decide ((1 : Int) < l.length) && (decide (l.getD 0 0 = 92) && !decide (l.getD 1 0 = 10))) := by
  match l with
  | [] => rfl
  | [_] => rfl
  | a :: b :: r =>
    have : (1 : Int) < (a :: b :: r).length := by simp only [zz20]; omega
    rw [decide_eq_true this]; simp [Y3]
theorem p37 : PE Tryd.prog cfgV 37 [strD l] (boD (Y3 l)) := by
  refine PE.code rfl code37 ?_
  dsimp only [sf37]
  rw [esc_get]
  repeat' (first | (simp (maxSteps := 10000000) -implicitDefEqProofs (disch := first | exact tStr | decide | omega | assumption | (simp only [zz20,yz25,yz20]; omega)) only [D3,G6,G4,A9,C9,G3,B4,A1,C6,B2,D4,G5,D6,C5,B1,G7,B7,B8,C0,D8,D9,A5,J8,H9,E0,E1,M2,M3,M5,M4,I3,I4,P2,E4,E6,I0,B5,M1,N8,M9,N2,N3,N4,N5,N6,N7,N1,J2,J3,J4,J5,J6,J1,I8,I7,I9,M0,K9,E3,L1,C3,O1,O2,G2,O9,N9,O0,B0,L8,D2,I2,zz28,yz28,jz28,zz29,yz23,zz23,jz22,yz27,jz19,yz29,zz20,yz25,Nat.reduceAdd,Nat.reduceSub,Nat.reduceLT,Nat.reduceEqDiff,zz22,jz23,if_true,if_false,yz21,decide_true,decide_false,zz25,jz24,reduceIte,List.getElem?_cons_succ,List.getElem?_cons_zero,UInt8.reduceOfNat,fin1,fin2,L2,O7,L3,O8,H3,H6,H4,L4,H5,L5,B6,A8,zz24,M7,H0,M6,G0,Option.some.injEq,DV.tup.injEq,jz29,zz30,Int.reduceToNat,yz30,and_true,true_and,beq_self_eq_true,jz30,zz31,not_true_eq_false,not_false_eq_true,M8,J7,J0,A6,L9,K6,A4,B9,D7,G9,O3,O4,K0,F2,F5,I5,I6,F7,F4,F3,F6,K1,K4,O5,O6,K3,K2,K5,F8,F9,E8,E2,J9,G1,C7,E9,L0,C4,I1,K8,K7,E7,P3,C8,B3,A0,L7,H8,E5,L6,H7,yz19,zz27,yz31,jz25,jz31,zz32,jz26,zz21,jz27,zz26,and_self,Nat.reduceLeDiff,jz18,exists_eq_left',yz24,jz21,Nat.reduceBEq,yz22,yz32,G8,A3,N0,Int.reduceLT,Int.reduceLE,Int.reduceEq,c67, *]) | with_reducible (first | refine C2 (fun h => ?_) fun h => ?_ | refine F1 (fun h => ?_) fun h => ?_ | refine C1 (fun h => ?_) fun h => ?_ | refine F0 (fun h => ?_) fun h => ?_ | refine A2 (fun h => ?_) fun h => ?_ | refine A7 (fun h => ?_) fun h => ?_) | (refine D5 ?_ ?_ ?_; (focus decide +kernel); (focus decide +kernel)))
  all_goals simp only [X6, *,decide_true,decide_false,Bool.true_and,Bool.false_and,Bool.and_true,Bool.and_false,Bool.true_or,Bool.false_or,Bool.or_true,Bool.or_false,zz25,jz24,not_true_eq_false,not_false_eq_true]
theorem c37 : R4 Tryd.prog cfgV 37 [strD l] H K = K (boD (Y3 l)) H := T7 rfl rfl p37 H K
theorem p51 (h : 0 ≤ i) : PE Tryd.prog cfgV 51 [strD l,intD i] (byD (l.getD i.toNat 0)) := by
  refine PE.code rfl code51 ?_
  dsimp only [sf51]
  repeat' (first | (simp (maxSteps := 10000000) -implicitDefEqProofs (disch := first | exact tStr | decide | omega | assumption | (simp only [zz20,yz25,yz20]; omega)) only [D3,G6,G4,A9,C9,G3,B4,A1,C6,B2,D4,G5,D6,C5,B1,G7,B7,B8,C0,D8,D9,A5,J8,H9,E0,E1,M2,M3,M5,M4,I3,I4,P2,E4,E6,I0,B5,M1,N8,M9,N2,N3,N4,N5,N6,N7,N1,J2,J3,J4,J5,J6,J1,I8,I7,I9,M0,K9,E3,L1,C3,O1,O2,G2,O9,N9,O0,B0,L8,D2,I2,zz28,yz28,jz28,zz29,yz23,zz23,jz22,yz27,jz19,yz29,zz20,yz25,Nat.reduceAdd,Nat.reduceSub,Nat.reduceLT,Nat.reduceEqDiff,zz22,jz23,if_true,if_false,yz21,decide_true,decide_false,zz25,jz24,reduceIte,List.getElem?_cons_succ,List.getElem?_cons_zero,UInt8.reduceOfNat,fin1,fin2,L2,O7,L3,O8,H3,H6,H4,L4,H5,L5,B6,A8,zz24,M7,H0,M6,G0,Option.some.injEq,DV.tup.injEq,jz29,zz30,Int.reduceToNat,yz30,and_true,true_and,beq_self_eq_true,jz30,zz31,not_true_eq_false,not_false_eq_true,M8,J7,J0,A6,L9,K6,A4,B9,D7,G9,O3,O4,K0,F2,F5,I5,I6,F7,F4,F3,F6,K1,K4,O5,O6,K3,K2,K5,F8,F9,E8,E2,J9,G1,C7,E9,L0,C4,I1,K8,K7,E7,P3,C8,B3,A0,L7,H8,E5,L6,H7,yz19,zz27,yz31,jz25,jz31,zz32,jz26,zz21,jz27,zz26,and_self,Nat.reduceLeDiff,jz18,exists_eq_left',yz24,jz21,Nat.reduceBEq,yz22,yz32,G8,A3,N0,Int.reduceLT,Int.reduceLE,Int.reduceEq,c67, *]) | with_reducible (first | refine C2 (fun h => ?_) fun h => ?_ | refine F1 (fun h => ?_) fun h => ?_ | refine C1 (fun h => ?_) fun h => ?_ | refine F0 (fun h => ?_) fun h => ?_ | refine A2 (fun h => ?_) fun h => ?_ | refine A7 (fun h => ?_) fun h => ?_) | (refine D5 ?_ ?_ ?_; (focus decide +kernel); (focus decide +kernel)))
  all_goals rw [List.getD_eq_getElem?_getD,List.getElem?_eq_none (by omega)]; rfl
theorem c51 (h : 0 ≤ i) : R4 Tryd.prog cfgV 51 [strD l,intD i] H K = K (byD (l.getD i.toNat 0)) H := T7 rfl rfl (p51 h) H K
theorem getD_drop (l : List UInt8) (n m : Nat) : (l.drop n).getD m 0 = l.getD (n + m) 0 := by
  simp [List.getD_eq_getElem?_getD,List.getElem?_drop]
theorem esc_at (l : List UInt8) {i : Int} (h : 0 ≤ i) : Y3 (l.drop i.toNat) = (decide (l.getD i.toNat 0 = 92) && (decide (i + 1 < l.length) && !decide (l.getD (i + 1).toNat 0 = 10))) := by
  rw [esc_get,getD_drop,getD_drop,jz21,show i.toNat + 1 = (i + 1).toNat by omega]
  have : decide ((1 : Int) < (l.drop i.toNat).length) = decide (i + 1 < l.length) := by
    rw [jz32]; congr 1; apply propext; omega
  rw [this]
  cases decide (l.getD i.toNat 0 = 92) <;> cases decide (i + 1 < l.length) <;> rfl
theorem p57 (h : 0 ≤ i) (h2 : i < 2 ^ 62) : PE Tryd.prog cfgV 57 [strD l,intD i] (boD (Y3 (l.drop i.toNat))) := by
  refine PE.code rfl code57 ?_
  dsimp only [sf57]
  rw [esc_at l h]
  repeat' (first | (simp (maxSteps := 10000000) -implicitDefEqProofs (disch := first | exact tStr | decide | omega | assumption | (simp only [zz20,yz25,yz20]; omega)) only [D3,G6,G4,A9,C9,G3,B4,A1,C6,B2,D4,G5,D6,C5,B1,G7,B7,B8,C0,D8,D9,A5,J8,H9,E0,E1,M2,M3,M5,M4,I3,I4,P2,E4,E6,I0,B5,M1,N8,M9,N2,N3,N4,N5,N6,N7,N1,J2,J3,J4,J5,J6,J1,I8,I7,I9,M0,K9,E3,L1,C3,O1,O2,G2,O9,N9,O0,B0,L8,D2,I2,zz28,yz28,jz28,zz29,yz23,zz23,jz22,yz27,jz19,yz29,zz20,yz25,Nat.reduceAdd,Nat.reduceSub,Nat.reduceLT,Nat.reduceEqDiff,zz22,jz23,if_true,if_false,yz21,decide_true,decide_false,zz25,jz24,reduceIte,List.getElem?_cons_succ,List.getElem?_cons_zero,UInt8.reduceOfNat,fin1,fin2,L2,O7,L3,O8,H3,H6,H4,L4,H5,L5,B6,A8,zz24,M7,H0,M6,G0,Option.some.injEq,DV.tup.injEq,jz29,zz30,Int.reduceToNat,yz30,and_true,true_and,beq_self_eq_true,jz30,zz31,not_true_eq_false,not_false_eq_true,M8,J7,J0,A6,L9,K6,A4,B9,D7,G9,O3,O4,K0,F2,F5,I5,I6,F7,F4,F3,F6,K1,K4,O5,O6,K3,K2,K5,F8,F9,E8,E2,J9,G1,C7,E9,L0,C4,I1,K8,K7,E7,P3,C8,B3,A0,L7,H8,E5,L6,H7,yz19,zz27,yz31,jz25,jz31,zz32,jz26,zz21,jz27,zz26,and_self,Nat.reduceLeDiff,jz18,exists_eq_left',yz24,jz21,Nat.reduceBEq,yz22,yz32,G8,A3,N0,Int.reduceLT,Int.reduceLE,Int.reduceEq,c51, *]) | with_reducible (first | refine C2 (fun h => ?_) fun h => ?_ | refine F1 (fun h => ?_) fun h => ?_ | refine C1 (fun h => ?_) fun h => ?_ | refine F0 (fun h => ?_) fun h => ?_ | refine A2 (fun h => ?_) fun h => ?_ | refine A7 (fun h => ?_) fun h => ?_) | (refine D5 ?_ ?_ ?_; (focus decide +kernel); (focus decide +kernel)))
  all_goals simp only [X6, *,decide_true,decide_false,Bool.true_and,Bool.false_and,Bool.and_true,Bool.and_false,Bool.true_or,Bool.false_or,Bool.or_true,Bool.or_false,zz25,jz24,not_true_eq_false,not_false_eq_true]
theorem c57 (h : 0 ≤ i) (h2 : i < 2 ^ 62) : R4 Tryd.prog cfgV 57 [strD l,intD i] H K = K (boD (Y3 (l.drop i.toNat))) H := T7 rfl rfl (p57 h h2) H K
def W9 : List UInt8 → Bool
  | [] => false
  | a :: r => if a = 45 then (match r with | [] => false | b :: _ => decide (b = 45) || isLet b || Y3 r) else isLet a || Y3 (a :: r)
theorem beg_at (l : List UInt8) {i : Int} (h : 0 ≤ i) : W9 (l.drop i.toNat) = (if l.getD i.toNat 0 = 45 then (decide (i + 1 < l.length) && (decide (l.getD (i + 1).toNat 0 = 45) || isLet (l.getD (i + 1).toNat 0) || Y3 (l.drop (i + 1).toNat)))
    else (decide (i < l.length) && isLet (l.getD i.toNat 0) || Y3 (l.drop i.toNat))) := by
  have e1 : l.getD i.toNat 0 = (l.drop i.toNat).getD 0 0 := by rw [getD_drop,jz21]
  have e2 : l.getD (i + 1).toNat 0 = (l.drop i.toNat).getD 1 0 := by rw [getD_drop]; congr 1; omega
  have e3 : l.drop (i + 1).toNat = (l.drop i.toNat).drop 1 := by rw [List.drop_drop]; congr 1; omega
  have e4 : decide (i + 1 < l.length) = decide (1 < (l.drop i.toNat).length) := by
    rw [jz32]; congr 1; apply propext; omega
  have e5 : decide (i < l.length) = decide (0 < (l.drop i.toNat).length) := by
    rw [jz32]; congr 1; apply propext; omega
  rw [e1,e2,e3,e4,e5]
  match l.drop i.toNat with
  | [] => rfl
  | [a] => by_cases ha : a = 45 <;> simp [W9,ha]
  | a :: b :: r => by_cases ha : a = 45 <;> simp [W9,ha]
theorem p59 (h : 0 ≤ i) (h2 : i < 2 ^ 61) : PE Tryd.prog cfgV 59 [strD l,intD i] (boD (W9 (l.drop i.toNat))) := by
  refine PE.code rfl code59 ?_
  dsimp only [sf59]
  rw [beg_at l h]
  repeat' (first | (simp (maxSteps := 10000000) -implicitDefEqProofs (disch := first | exact tStr | decide | omega | assumption | (simp only [zz20,yz25,yz20]; omega)) only [D3,G6,G4,A9,C9,G3,B4,A1,C6,B2,D4,G5,D6,C5,B1,G7,B7,B8,C0,D8,D9,A5,J8,H9,E0,E1,M2,M3,M5,M4,I3,I4,P2,E4,E6,I0,B5,M1,N8,M9,N2,N3,N4,N5,N6,N7,N1,J2,J3,J4,J5,J6,J1,I8,I7,I9,M0,K9,E3,L1,C3,O1,O2,G2,O9,N9,O0,B0,L8,D2,I2,zz28,yz28,jz28,zz29,yz23,zz23,jz22,yz27,jz19,yz29,zz20,yz25,Nat.reduceAdd,Nat.reduceSub,Nat.reduceLT,Nat.reduceEqDiff,zz22,jz23,if_true,if_false,yz21,decide_true,decide_false,zz25,jz24,reduceIte,List.getElem?_cons_succ,List.getElem?_cons_zero,UInt8.reduceOfNat,fin1,fin2,L2,O7,L3,O8,H3,H6,H4,L4,H5,L5,B6,A8,zz24,M7,H0,M6,G0,Option.some.injEq,DV.tup.injEq,jz29,zz30,Int.reduceToNat,yz30,and_true,true_and,beq_self_eq_true,jz30,zz31,not_true_eq_false,not_false_eq_true,M8,J7,J0,A6,L9,K6,A4,B9,D7,G9,O3,O4,K0,F2,F5,I5,I6,F7,F4,F3,F6,K1,K4,O5,O6,K3,K2,K5,F8,F9,E8,E2,J9,G1,C7,E9,L0,C4,I1,K8,K7,E7,P3,C8,B3,A0,L7,H8,E5,L6,H7,yz19,zz27,yz31,jz25,jz31,zz32,jz26,zz21,jz27,zz26,and_self,Nat.reduceLeDiff,jz18,exists_eq_left',yz24,jz21,Nat.reduceBEq,yz22,yz32,G8,A3,N0,Int.reduceLT,Int.reduceLE,Int.reduceEq,c51,c57,c78, *]) | with_reducible (first | refine C2 (fun h => ?_) fun h => ?_ | refine F1 (fun h => ?_) fun h => ?_ | refine C1 (fun h => ?_) fun h => ?_ | refine F0 (fun h => ?_) fun h => ?_ | refine A2 (fun h => ?_) fun h => ?_ | refine A7 (fun h => ?_) fun h => ?_) | (refine D5 ?_ ?_ ?_; (focus decide +kernel); (focus decide +kernel)))
  all_goals simp only [X6, *,decide_true,decide_false,Bool.true_and,Bool.false_and,Bool.and_true,Bool.and_false,Bool.true_or,Bool.false_or,Bool.or_true,Bool.or_false,zz25,jz24,not_true_eq_false,not_false_eq_true]
theorem c59 (h : 0 ≤ i) (h2 : i < 2 ^ 61) : R4 Tryd.prog cfgV 59 [strD l,intD i] H K = K (boD (W9 (l.drop i.toNat))) H := T7 rfl rfl (p59 h h2) H K
theorem beg_get (l : List UInt8) : W9 l = (!decide (l = []) && (if l.getD 0 0 = 45 ∧ (1 : Int) < l.length then (decide (l.getD 1 0 = 45) || isLet (l.getD 1 0) || Y3 (l.drop 1)) else isLet (l.getD 0 0) || Y3 l)) := by
  match l with
  | [] => rfl
  | [a] =>
    by_cases ha : a = 45
    · subst ha; decide
    · simp [W9,ha]
  | a :: b :: r =>
    have : (1 : Int) < (a :: b :: r).length := by simp only [zz20]; omega
    by_cases ha : a = 45
    · rw [if_pos ⟨ha,this⟩]; simp [W9,ha]
    · rw [if_neg (fun h => ha h.1)]; simp [W9,ha]
theorem nil_len {l : List UInt8} (h : ¬ l = []) : 0 < (l.length : Int) := by
  have := List.length_pos_iff.mpr h; omega
theorem p39 : PE Tryd.prog cfgV 39 [strD l] (boD (W9 l)) := by
  refine PE.code rfl code39 ?_
  dsimp only [sf39]
  rw [beg_get]
  by_cases hl : l = []
  · repeat' (first | (simp (maxSteps := 10000000) -implicitDefEqProofs (disch := first | exact tStr | decide | omega | assumption | (simp only [zz20,yz25,yz20]; omega)) only [D3,G6,G4,A9,C9,G3,B4,A1,C6,B2,D4,G5,D6,C5,B1,G7,B7,B8,C0,D8,D9,A5,J8,H9,E0,E1,M2,M3,M5,M4,I3,I4,P2,E4,E6,I0,B5,M1,N8,M9,N2,N3,N4,N5,N6,N7,N1,J2,J3,J4,J5,J6,J1,I8,I7,I9,M0,K9,E3,L1,C3,O1,O2,G2,O9,N9,O0,B0,L8,D2,I2,zz28,yz28,jz28,zz29,yz23,zz23,jz22,yz27,jz19,yz29,zz20,yz25,Nat.reduceAdd,Nat.reduceSub,Nat.reduceLT,Nat.reduceEqDiff,zz22,jz23,if_true,if_false,yz21,decide_true,decide_false,zz25,jz24,reduceIte,List.getElem?_cons_succ,List.getElem?_cons_zero,UInt8.reduceOfNat,fin1,fin2,L2,O7,L3,O8,H3,H6,H4,L4,H5,L5,B6,A8,zz24,M7,H0,M6,G0,Option.some.injEq,DV.tup.injEq,jz29,zz30,Int.reduceToNat,yz30,and_true,true_and,beq_self_eq_true,jz30,zz31,not_true_eq_false,not_false_eq_true,M8,J7,J0,A6,L9,K6,A4,B9,D7,G9,O3,O4,K0,F2,F5,I5,I6,F7,F4,F3,F6,K1,K4,O5,O6,K3,K2,K5,F8,F9,E8,E2,J9,G1,C7,E9,L0,C4,I1,K8,K7,E7,P3,C8,B3,A0,L7,H8,E5,L6,H7,yz19,zz27,yz31,jz25,jz31,zz32,jz26,zz21,jz27,zz26,and_self,Nat.reduceLeDiff,jz18,exists_eq_left',yz24,jz21,Nat.reduceBEq,yz22,yz32,G8,A3,N0,Int.reduceLT,Int.reduceLE,Int.reduceEq,c37,c66, *]) | with_reducible (first | refine C2 (fun h => ?_) fun h => ?_ | refine F1 (fun h => ?_) fun h => ?_ | refine C1 (fun h => ?_) fun h => ?_ | refine F0 (fun h => ?_) fun h => ?_ | refine A2 (fun h => ?_) fun h => ?_ | refine A7 (fun h => ?_) fun h => ?_) | (refine D5 ?_ ?_ ?_; (focus decide +kernel); (focus decide +kernel)))
    all_goals simp only [X6, *,decide_true,decide_false,Bool.true_and,Bool.false_and,Bool.and_true,Bool.and_false,Bool.true_or,Bool.false_or,Bool.or_true,Bool.or_false,zz25,jz24,not_true_eq_false,not_false_eq_true]
  · have hp := nil_len hl
    repeat' (first | (simp (maxSteps := 10000000) -implicitDefEqProofs (disch := first | exact tStr | decide | omega | assumption | (simp only [zz20,yz25,yz20]; omega)) only [D3,G6,G4,A9,C9,G3,B4,A1,C6,B2,D4,G5,D6,C5,B1,G7,B7,B8,C0,D8,D9,A5,J8,H9,E0,E1,M2,M3,M5,M4,I3,I4,P2,E4,E6,I0,B5,M1,N8,M9,N2,N3,N4,N5,N6,N7,N1,J2,J3,J4,J5,J6,J1,I8,I7,I9,M0,K9,E3,L1,C3,O1,O2,G2,O9,N9,O0,B0,L8,D2,I2,zz28,yz28,jz28,zz29,yz23,zz23,jz22,yz27,jz19,yz29,zz20,yz25,Nat.reduceAdd,Nat.reduceSub,Nat.reduceLT,Nat.reduceEqDiff,zz22,jz23,if_true,if_false,yz21,decide_true,decide_false,zz25,jz24,reduceIte,List.getElem?_cons_succ,List.getElem?_cons_zero,UInt8.reduceOfNat,fin1,fin2,L2,O7,L3,O8,H3,H6,H4,L4,H5,L5,B6,A8,zz24,M7,H0,M6,G0,Option.some.injEq,DV.tup.injEq,jz29,zz30,Int.reduceToNat,yz30,and_true,true_and,beq_self_eq_true,jz30,zz31,not_true_eq_false,not_false_eq_true,M8,J7,J0,A6,L9,K6,A4,B9,D7,G9,O3,O4,K0,F2,F5,I5,I6,F7,F4,F3,F6,K1,K4,O5,O6,K3,K2,K5,F8,F9,E8,E2,J9,G1,C7,E9,L0,C4,I1,K8,K7,E7,P3,C8,B3,A0,L7,H8,E5,L6,H7,yz19,zz27,yz31,jz25,jz31,zz32,jz26,zz21,jz27,zz26,and_self,Nat.reduceLeDiff,jz18,exists_eq_left',yz24,jz21,Nat.reduceBEq,yz22,yz32,G8,A3,N0,Int.reduceLT,Int.reduceLE,Int.reduceEq,c37,c66, *]) | with_reducible (first | refine C2 (fun h => ?_) fun h => ?_ | refine F1 (fun h => ?_) fun h => ?_ | refine C1 (fun h => ?_) fun h => ?_ | refine F0 (fun h => ?_) fun h => ?_ | refine A2 (fun h => ?_) fun h => ?_ | refine A7 (fun h => ?_) fun h => ?_) | (refine D5 ?_ ?_ ?_; (focus decide +kernel); (focus decide +kernel)))
    all_goals simp only [if_true,if_false,and_self,and_false,false_and, *,decide_true,decide_false,Bool.true_and,Bool.false_and,Bool.and_true,Bool.and_false,Bool.true_or,Bool.false_or,Bool.or_true,Bool.or_false,zz25,jz24,not_true_eq_false,not_false_eq_true]
theorem c39 : R4 Tryd.prog cfgV 39 [strD l] H K = K (boD (W9 l)) H := T7 rfl rfl p39 H K
end Go.Dx
end
section
namespace Go.Dx
open Go Go.Proofs
set_option maxRecDepth 8000
attribute [local congr] Q7 Q6 R2 P8 Q2 Q5 Q3
def P7 : List UInt8 → List UInt8 × Nat
  | [] => ([],0)
  | [a] => if X6 a then ([a],1) else ([],0)
  | a :: b :: r => if Y3 (a :: b :: r) then (b :: (P7 r).1,(P7 r).2 + 2) else if X6 a then (a :: (P7 (b :: r)).1,(P7 (b :: r)).2 + 1) else ([],0)
variable {b : UInt8} {l : List UInt8} {H : Heap} {K : DV → Heap → Prop} {i : Int}
theorem T2 {l : List UInt8} {i : Int} (h : 0 ≤ i) (h2 : i < l.length) : l.drop i.toNat = l.getD i.toNat 0 :: l.drop (i + 1).toNat := by
  rw [List.drop_eq_getElem_cons (by omega),List.getD_eq_getElem?_getD,List.getElem?_eq_getElem (by omega),show (i + 1).toNat = i.toNat + 1 by omega]
  rfl
theorem drop_nil {l : List UInt8} {i : Int} (h2 : ¬ i < l.length) (h : 0 ≤ i) : l.drop i.toNat = [] := List.drop_eq_nil_of_le (by omega)
theorem name_esc {l : List UInt8} {i : Int} (h : 0 ≤ i) (he : Y3 (l.drop i.toNat) = true) :
    i + 1 < l.length ∧ (P7 (l.drop i.toNat)).1 = l.getD (i + 1).toNat 0 :: (P7 (l.drop (i + 2).toNat)).1 ∧ (P7 (l.drop i.toNat)).2 = (P7 (l.drop (i + 2).toNat)).2 + 2 := by
  have h1 : i + 1 < l.length := by
    rw [esc_at l h] at he
    simp only [zz19,decide_eq_true_eq] at he
    exact he.2.1
  refine ⟨h1,?_⟩
  rw [show i + 2 = i + 1 + 1 by omega]
  rw [T2 h (by omega),T2 (by omega) h1] at he ⊢
  simp only [P7,he,if_true,and_self]
theorem esc_lt {l : List UInt8} {i : Int} (h : 0 ≤ i) (he : Y3 (l.drop i.toNat) = true) : i + 1 < l.length := (name_esc h he).1
theorem name_nam {l : List UInt8} {i : Int} (h : 0 ≤ i) (hl : i < l.length) (he : Y3 (l.drop i.toNat) = false) (hn : X6 (l.getD i.toNat 0) = true) :
    (P7 (l.drop i.toNat)).1 = l.getD i.toNat 0 :: (P7 (l.drop (i + 1).toNat)).1 ∧ (P7 (l.drop i.toNat)).2 = (P7 (l.drop (i + 1).toNat)).2 + 1 := by
  rw [T2 h hl] at he ⊢
  cases hr : l.drop (i + 1).toNat with
  | nil => simp only [P7,hn,if_true,and_self]
  | cons c r =>
    rw [hr] at he
    simp only [P7,he,hn,yz21,if_false,if_true,and_self]
theorem name_end {l : List UInt8} {i : Int} (h : 0 ≤ i) (he : Y3 (l.drop i.toNat) = false) (hn : i < l.length → X6 (l.getD i.toNat 0) = false) :
    P7 (l.drop i.toNat) = ([],0) := by
  by_cases hl : i < l.length
  · have hn := hn hl
    rw [T2 h hl] at he ⊢
    cases hr : l.drop (i + 1).toNat with
    | nil => simp only [P7,hn,yz21,if_false]
    | cons c r =>
      rw [hr] at he
      simp only [P7,he,hn,yz21,if_false]
  · rw [drop_nil hl h]; rfl
theorem nam_esc {l : List UInt8} {i : Int} (h : 0 ≤ i) (hn : X6 (l.getD i.toNat 0) = true) : Y3 (l.drop i.toNat) = false := by
  rw [esc_at l h]
  have : ¬ l.getD i.toNat 0 = 92 := fun e => by rw [e] at hn; exact absurd hn (by decide)
  simp only [this,decide_false,Bool.false_and]
theorem esc_not_nam {l : List UInt8} {i : Int} (h : 0 ≤ i) (he : Y3 (l.drop i.toNat) = true) : X6 (l.getD i.toNat 0) = false ∧ l.getD i.toNat 0 = 92 := by
  rw [esc_at l h] at he
  simp only [zz19,decide_eq_true_eq] at he
  exact ⟨by rw [he.1]; decide,he.1⟩
theorem nam_ne {l : List UInt8} {i : Int} (hn : X6 (l.getD i.toNat 0) = true) : ¬ l.getD i.toNat 0 = 92 :=
  fun e => by rw [e] at hn; exact absurd hn (by decide)
def sh58 (l : List UInt8) (i : Int) (o : List UInt8) (x : Nat → DV) : DS := ⟨[strD l,intD i,x 2,x 3,x 4,x 5,strD o,x 7,x 8,x 9,x 10,x 11,x 12,x 13,x 14,x 15,x 16,x 17,x 18,x 19,x 20,x 21,x 22,x 23,x 24,x 25,x 26,x 27,x 28,x 29,x 30,x 31,x 32,x 33,x 34,x 35,x 36,x 37,x 38], []⟩
def inv58 (l : List UInt8) (i0 : Int) (n : Nat) (s : DS) : Prop := ∃ (i : Int) (o : List UInt8),s = sh58 l i o (fun k => s.sl.getD k P9) ∧ i0 ≤ i ∧ i ≤ l.length ∧ o.length ≤ i - i0 ∧
  Hid ((P7 (l.drop i0.toNat)).1 = o ++ (P7 (l.drop i.toNat)).1 ∧ i0 + (P7 (l.drop i0.toNat)).2 = i + (P7 (l.drop i.toNat)).2) ∧ Hid (n = (l.length - i).toNat)
theorem p58 (h0 : 0 ≤ i) (h1 : i ≤ l.length) (h2 : l.length < 2 ^ 60) : PE Tryd.prog cfgV 58 [strD l,intD i] (.tup [strD (P7 (l.drop i.toNat)).1,intD (i + (P7 (l.drop i.toNat)).2)]) := by
  refine PE.code rfl code58 ?_
  dsimp only [sf58]
  repeat' (first | (simp (maxSteps := 10000000) -implicitDefEqProofs (disch := first | exact tStr | decide | omega | assumption | (simp only [zz20,yz25,yz20]; omega)) only [D3,G6,G4,A9,C9,G3,B4,A1,C6,B2,D4,G5,D6,C5,B1,G7,B7,B8,C0,D8,D9,A5,J8,H9,E0,E1,M2,M3,M5,M4,I3,I4,P2,E4,E6,I0,B5,M1,N8,M9,N2,N3,N4,N5,N6,N7,N1,J2,J3,J4,J5,J6,J1,I8,I7,I9,M0,K9,E3,L1,C3,O1,O2,G2,O9,N9,O0,B0,L8,D2,I2,zz28,yz28,jz28,zz29,yz23,zz23,jz22,yz27,jz19,yz29,zz20,yz25,Nat.reduceAdd,Nat.reduceSub,Nat.reduceLT,Nat.reduceEqDiff,zz22,jz23,if_true,if_false,yz21,decide_true,decide_false,zz25,jz24,reduceIte,List.getElem?_cons_succ,List.getElem?_cons_zero,UInt8.reduceOfNat,fin1,fin2,L2,O7,L3,O8,H3,H6,H4,L4,H5,L5,B6,A8,zz24,M7,H0,M6,G0,Option.some.injEq,DV.tup.injEq,jz29,zz30,Int.reduceToNat,yz30,and_true,true_and,beq_self_eq_true,jz30,zz31,not_true_eq_false,not_false_eq_true,M8,J7,J0,A6,L9,K6,A4,B9,D7,G9,O3,O4,K0,F2,F5,I5,I6,F7,F4,F3,F6,K1,K4,O5,O6,K3,K2,K5,F8,F9,E8,E2,J9,G1,C7,E9,L0,C4,I1,K8,K7,E7,P3,C8,B3,A0,L7,H8,E5,L6,H7,yz19,zz27,yz31,jz25,jz31,zz32,jz26,zz21,jz27,zz26,and_self,Nat.reduceLeDiff,jz18,exists_eq_left',yz24,jz21,Nat.reduceBEq,yz22,yz32,G8,A3,N0,Int.reduceLT,Int.reduceLE,Int.reduceEq,c57, *]) | with_reducible (first | refine C2 (fun h => ?_) fun h => ?_ | refine F1 (fun h => ?_) fun h => ?_ | refine C1 (fun h => ?_) fun h => ?_ | refine F0 (fun h => ?_) fun h => ?_ | refine A2 (fun h => ?_) fun h => ?_ | refine A7 (fun h => ?_) fun h => ?_) | (refine D5 ?_ ?_ ?_; (focus decide +kernel); (focus decide +kernel)))
  refine V3 (inv58 l i) ?_ (n := (l.length - i).toNat) ⟨i, [],rfl,by omega,by omega,by simp,⟨by simp,by omega⟩,rfl⟩
  rintro n s ⟨j,o,hs,e1,e2,e3,e4,e6⟩
  obtain ⟨x,rfl⟩ : ∃ x,s = sh58 l j o x := ⟨_,hs⟩
  clear hs
  dsimp only [lp58_0,sh58]
  have hj : 0 ≤ j := by omega
  by_cases he : Y3 (l.drop j.toNat) = true
  · have f1 := esc_lt hj he
    have f0 : j < l.length := by omega
    obtain ⟨f4,f5⟩ := esc_not_nam hj he
    have f6 : X6 92 = false := by decide
    repeat' (first | (simp (maxSteps := 10000000) -implicitDefEqProofs (disch := first | exact tStr | decide | omega | assumption | (simp only [zz20,yz25,yz20]; omega)) only [D3,G6,G4,A9,C9,G3,B4,A1,C6,B2,D4,G5,D6,C5,B1,G7,B7,B8,C0,D8,D9,A5,J8,H9,E0,E1,M2,M3,M5,M4,I3,I4,P2,E4,E6,I0,B5,M1,N8,M9,N2,N3,N4,N5,N6,N7,N1,J2,J3,J4,J5,J6,J1,I8,I7,I9,M0,K9,E3,L1,C3,O1,O2,G2,O9,N9,O0,B0,L8,D2,I2,zz28,yz28,jz28,zz29,yz23,zz23,jz22,yz27,jz19,yz29,zz20,yz25,Nat.reduceAdd,Nat.reduceSub,Nat.reduceLT,Nat.reduceEqDiff,zz22,jz23,if_true,if_false,yz21,decide_true,decide_false,zz25,jz24,reduceIte,List.getElem?_cons_succ,List.getElem?_cons_zero,UInt8.reduceOfNat,fin1,fin2,L2,O7,L3,O8,H3,H6,H4,L4,H5,L5,B6,A8,zz24,M7,H0,M6,G0,Option.some.injEq,DV.tup.injEq,jz29,zz30,Int.reduceToNat,yz30,and_true,true_and,beq_self_eq_true,jz30,zz31,not_true_eq_false,not_false_eq_true,M8,J7,J0,A6,L9,K6,A4,B9,D7,G9,O3,O4,K0,F2,F5,I5,I6,F7,F4,F3,F6,K1,K4,O5,O6,K3,K2,K5,F8,F9,E8,E2,J9,G1,C7,E9,L0,C4,I1,K8,K7,E7,P3,C8,B3,A0,L7,H8,E5,L6,H7,yz19,zz27,yz31,jz25,jz31,zz32,jz26,zz21,jz27,zz26,and_self,Nat.reduceLeDiff,jz18,exists_eq_left',yz24,jz21,Nat.reduceBEq,yz22,yz32,G8,A3,N0,Int.reduceLT,Int.reduceLE,Int.reduceEq,c57,c56, *]) | with_reducible (first | refine C2 (fun h => ?_) fun h => ?_ | refine F1 (fun h => ?_) fun h => ?_ | refine C1 (fun h => ?_) fun h => ?_ | refine F0 (fun h => ?_) fun h => ?_ | refine A2 (fun h => ?_) fun h => ?_ | refine A7 (fun h => ?_) fun h => ?_) | (refine D5 ?_ ?_ ?_; (focus decide +kernel); (focus decide +kernel)))
    obtain ⟨f1,f2,f3⟩ := name_esc hj he
    obtain ⟨e4,e5⟩ := e4
    rw [show j + 2 = j + 1 + 1 by omega] at f2 f3
    refine ⟨_,?_,j + 1 + 1,_,rfl,by omega,by omega,by simp; omega,⟨?_,?_⟩,rfl⟩
    · unfold Hid at e6; omega
    · rw [e4,f2]; simp
    · rw [e5,f3]; omega
  · have he := zz33 _ ▸ he
    by_cases hl : j < l.length
    · by_cases hn : X6 (l.getD j.toNat 0) = true
      · have f5 := nam_ne hn
        repeat' (first | (simp (maxSteps := 10000000) -implicitDefEqProofs (disch := first | exact tStr | decide | omega | assumption | (simp only [zz20,yz25,yz20]; omega)) only [D3,G6,G4,A9,C9,G3,B4,A1,C6,B2,D4,G5,D6,C5,B1,G7,B7,B8,C0,D8,D9,A5,J8,H9,E0,E1,M2,M3,M5,M4,I3,I4,P2,E4,E6,I0,B5,M1,N8,M9,N2,N3,N4,N5,N6,N7,N1,J2,J3,J4,J5,J6,J1,I8,I7,I9,M0,K9,E3,L1,C3,O1,O2,G2,O9,N9,O0,B0,L8,D2,I2,zz28,yz28,jz28,zz29,yz23,zz23,jz22,yz27,jz19,yz29,zz20,yz25,Nat.reduceAdd,Nat.reduceSub,Nat.reduceLT,Nat.reduceEqDiff,zz22,jz23,if_true,if_false,yz21,decide_true,decide_false,zz25,jz24,reduceIte,List.getElem?_cons_succ,List.getElem?_cons_zero,UInt8.reduceOfNat,fin1,fin2,L2,O7,L3,O8,H3,H6,H4,L4,H5,L5,B6,A8,zz24,M7,H0,M6,G0,Option.some.injEq,DV.tup.injEq,jz29,zz30,Int.reduceToNat,yz30,and_true,true_and,beq_self_eq_true,jz30,zz31,not_true_eq_false,not_false_eq_true,M8,J7,J0,A6,L9,K6,A4,B9,D7,G9,O3,O4,K0,F2,F5,I5,I6,F7,F4,F3,F6,K1,K4,O5,O6,K3,K2,K5,F8,F9,E8,E2,J9,G1,C7,E9,L0,C4,I1,K8,K7,E7,P3,C8,B3,A0,L7,H8,E5,L6,H7,yz19,zz27,yz31,jz25,jz31,zz32,jz26,zz21,jz27,zz26,and_self,Nat.reduceLeDiff,jz18,exists_eq_left',yz24,jz21,Nat.reduceBEq,yz22,yz32,G8,A3,N0,Int.reduceLT,Int.reduceLE,Int.reduceEq,c57,c56, *]) | with_reducible (first | refine C2 (fun h => ?_) fun h => ?_ | refine F1 (fun h => ?_) fun h => ?_ | refine C1 (fun h => ?_) fun h => ?_ | refine F0 (fun h => ?_) fun h => ?_ | refine A2 (fun h => ?_) fun h => ?_ | refine A7 (fun h => ?_) fun h => ?_) | (refine D5 ?_ ?_ ?_; (focus decide +kernel); (focus decide +kernel)))
        obtain ⟨f2,f3⟩ := name_nam hj hl he hn
        obtain ⟨e4,e5⟩ := e4
        refine ⟨_,?_,j + 1,_,rfl,by omega,by omega,by simp; omega,⟨?_,?_⟩,rfl⟩
        · unfold Hid at e6; omega
        · rw [e4,f2]; simp
        · rw [e5,f3]; omega
      · have hn := zz33 _ ▸ hn
        repeat' (first | (simp (maxSteps := 10000000) -implicitDefEqProofs (disch := first | exact tStr | decide | omega | assumption | (simp only [zz20,yz25,yz20]; omega)) only [D3,G6,G4,A9,C9,G3,B4,A1,C6,B2,D4,G5,D6,C5,B1,G7,B7,B8,C0,D8,D9,A5,J8,H9,E0,E1,M2,M3,M5,M4,I3,I4,P2,E4,E6,I0,B5,M1,N8,M9,N2,N3,N4,N5,N6,N7,N1,J2,J3,J4,J5,J6,J1,I8,I7,I9,M0,K9,E3,L1,C3,O1,O2,G2,O9,N9,O0,B0,L8,D2,I2,zz28,yz28,jz28,zz29,yz23,zz23,jz22,yz27,jz19,yz29,zz20,yz25,Nat.reduceAdd,Nat.reduceSub,Nat.reduceLT,Nat.reduceEqDiff,zz22,jz23,if_true,if_false,yz21,decide_true,decide_false,zz25,jz24,reduceIte,List.getElem?_cons_succ,List.getElem?_cons_zero,UInt8.reduceOfNat,fin1,fin2,L2,O7,L3,O8,H3,H6,H4,L4,H5,L5,B6,A8,zz24,M7,H0,M6,G0,Option.some.injEq,DV.tup.injEq,jz29,zz30,Int.reduceToNat,yz30,and_true,true_and,beq_self_eq_true,jz30,zz31,not_true_eq_false,not_false_eq_true,M8,J7,J0,A6,L9,K6,A4,B9,D7,G9,O3,O4,K0,F2,F5,I5,I6,F7,F4,F3,F6,K1,K4,O5,O6,K3,K2,K5,F8,F9,E8,E2,J9,G1,C7,E9,L0,C4,I1,K8,K7,E7,P3,C8,B3,A0,L7,H8,E5,L6,H7,yz19,zz27,yz31,jz25,jz31,zz32,jz26,zz21,jz27,zz26,and_self,Nat.reduceLeDiff,jz18,exists_eq_left',yz24,jz21,Nat.reduceBEq,yz22,yz32,G8,A3,N0,Int.reduceLT,Int.reduceLE,Int.reduceEq,c57,c56, *]) | with_reducible (first | refine C2 (fun h => ?_) fun h => ?_ | refine F1 (fun h => ?_) fun h => ?_ | refine C1 (fun h => ?_) fun h => ?_ | refine F0 (fun h => ?_) fun h => ?_ | refine A2 (fun h => ?_) fun h => ?_ | refine A7 (fun h => ?_) fun h => ?_) | (refine D5 ?_ ?_ ?_; (focus decide +kernel); (focus decide +kernel)))
        have f := name_end hj he (fun _ => hn)
        obtain ⟨e4,e5⟩ := e4
        rw [f] at e4 e5
        rw [e4,e5]; simp
    · repeat' (first | (simp (maxSteps := 10000000) -implicitDefEqProofs (disch := first | exact tStr | decide | omega | assumption | (simp only [zz20,yz25,yz20]; omega)) only [D3,G6,G4,A9,C9,G3,B4,A1,C6,B2,D4,G5,D6,C5,B1,G7,B7,B8,C0,D8,D9,A5,J8,H9,E0,E1,M2,M3,M5,M4,I3,I4,P2,E4,E6,I0,B5,M1,N8,M9,N2,N3,N4,N5,N6,N7,N1,J2,J3,J4,J5,J6,J1,I8,I7,I9,M0,K9,E3,L1,C3,O1,O2,G2,O9,N9,O0,B0,L8,D2,I2,zz28,yz28,jz28,zz29,yz23,zz23,jz22,yz27,jz19,yz29,zz20,yz25,Nat.reduceAdd,Nat.reduceSub,Nat.reduceLT,Nat.reduceEqDiff,zz22,jz23,if_true,if_false,yz21,decide_true,decide_false,zz25,jz24,reduceIte,List.getElem?_cons_succ,List.getElem?_cons_zero,UInt8.reduceOfNat,fin1,fin2,L2,O7,L3,O8,H3,H6,H4,L4,H5,L5,B6,A8,zz24,M7,H0,M6,G0,Option.some.injEq,DV.tup.injEq,jz29,zz30,Int.reduceToNat,yz30,and_true,true_and,beq_self_eq_true,jz30,zz31,not_true_eq_false,not_false_eq_true,M8,J7,J0,A6,L9,K6,A4,B9,D7,G9,O3,O4,K0,F2,F5,I5,I6,F7,F4,F3,F6,K1,K4,O5,O6,K3,K2,K5,F8,F9,E8,E2,J9,G1,C7,E9,L0,C4,I1,K8,K7,E7,P3,C8,B3,A0,L7,H8,E5,L6,H7,yz19,zz27,yz31,jz25,jz31,zz32,jz26,zz21,jz27,zz26,and_self,Nat.reduceLeDiff,jz18,exists_eq_left',yz24,jz21,Nat.reduceBEq,yz22,yz32,G8,A3,N0,Int.reduceLT,Int.reduceLE,Int.reduceEq,c57,c56, *]) | with_reducible (first | refine C2 (fun h => ?_) fun h => ?_ | refine F1 (fun h => ?_) fun h => ?_ | refine C1 (fun h => ?_) fun h => ?_ | refine F0 (fun h => ?_) fun h => ?_ | refine A2 (fun h => ?_) fun h => ?_ | refine A7 (fun h => ?_) fun h => ?_) | (refine D5 ?_ ?_ ?_; (focus decide +kernel); (focus decide +kernel)))
      have f := name_end hj he (fun h => absurd h hl)
      obtain ⟨e4,e5⟩ := e4
      rw [f] at e4 e5
      rw [e4,e5]; simp
theorem c58 (h0 : 0 ≤ i) (h1 : i ≤ l.length) (h2 : l.length < 2 ^ 60) : R4 Tryd.prog cfgV 58 [strD l,intD i] H K = K (.tup [strD (P7 (l.drop i.toNat)).1,intD (i + (P7 (l.drop i.toNat)).2)]) H := T7 rfl rfl (p58 h0 h1 h2) H K
end Go.Dx
end
