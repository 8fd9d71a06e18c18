/- A part of the proof of VarFills: what functions of the program answer. -/
import Derived.Test.YtcclgnddbgaigaaDoorT18
open Nat renaming le_refl → jz18, add_zero → jz21, zero_add → yz24, le_zero_eq → yz32
open List renaming take_succ_cons → yz19, replicate_succ → jz19, length_cons → zz20, length_append → yz20, all_cons → zz21, singleton_append → yz22, cons_append → jz22, map_nil → zz23, map_cons → yz23, length_nil → yz25, drop_zero → jz25, append_nil → jz26, take_zero → zz27, nil_append → yz27, all_nil → jz27, set_cons_succ → zz28, set_cons_zero → yz28, getD_cons_succ → jz28, getD_cons_zero → zz29, replicate_zero → yz29, drop_succ_cons → yz31, drop_nil → jz31, take_nil → zz32, length_drop → jz32
open Bool renaming false_eq_true → yz21, not_false → jz24, not_true → zz25, and_self → zz26, true_beq → jz30, false_beq → zz31, not_eq_true → zz33
open Option renaming map_some → zz22, map_none → jz23, bind_some → zz24
open Int renaming toNat_natCast → yz26, toNat_zero → jz29, toNat_one → zz30, cast_ofNat_Int → yz30
set_option linter.all false
section
namespace Go.Dx
open Go Go.Proofs
set_option maxRecDepth 8000
attribute [local congr] Q7 Q6 R2 P8 Q2 Q5 Q3 zz1 zz14
variable {b c : UInt8} {l s p : List UInt8} {H : Heap} {K : DV → Heap → Prop} {i n m k : Int}
theorem num_not {c : UInt8} (h : l.getD 0 0 = c) (h1 : Y5 c = false) (h2 : ¬ c = 43) (h3 : ¬ c = 45) (h4 : ¬ c = 46) : ¬ 0 < (W1 l).2 := by
  rw [← num_eq]
  have e1 : P6 l = 0 := by unfold P6; rw [h,if_neg (fun e => e.elim h2 h3)]
  have e2 : U2 l = 0 := by
    unfold U2
    match l,h with
    | [],_ => rfl
    | a :: r,h =>
      simp only [zz29] at h
      rw [List.takeWhile_cons,h,h1]; rfl
  have e3 : Q0 l = 0 := by unfold Q0; rw [e1]; simpa using e2
  have e4 : R1 l 0 = 0 := by
    unfold R1
    rw [if_neg]
    rw [take1 (by decide),h]; exact h4
  unfold numP
  rw [e1,e3,e4]
  simp only [jz29,jz25,e2,jz21,if_true]
  omega
theorem beg_ne {c : UInt8} (h : W9 l = true) (h1 : ¬ c = 45) (h2 : isLet c = false) (h3 : ¬ c = 92) : ¬ l.getD 0 0 = c := by
  intro hc
  rw [beg_not hc h1 h2 h3] at h
  cases h
set_option maxHeartbeats 2000000 in
theorem p20_num (h1 : 0 < l.length) (h2 : l.length < 2 ^ 31) (hb : W2 (l.getD 0 0) = false) (hn : ¬ l.take 2 = [47,42]) (hm : 0 < (W1 l).2) : PE Tryd.prog cfgV 20 [strD l] (R0 l) := by
  refine PE.code rfl jz10 ?_
  dsimp only [sf20]
  have k1 : 0 < (l.length : Int) := by omega
  have k2 := yz11 (l := l)
  have k3 : ¬ 0 < (T9 l : Int) := by have := Y2 hb; omega
  have h3 := Z0 (l := l) [32,9,10,12,13]
  have h2' : l.length < 2 ^ 39 := by omega
  have h2'' : l.length < 2 ^ 60 := by omega
  have k4 := num_fits l
  have hn' := hn
  rw [yz2] at hn'
  have n39 : ¬ l.getD 0 0 = 39 := fun h => num_not h (by decide) (by decide) (by decide) (by decide) hm
  have n34 : ¬ l.getD 0 0 = 34 := fun h => num_not h (by decide) (by decide) (by decide) (by decide) hm
  have n35 : ¬ l.getD 0 0 = 35 := fun h => num_not h (by decide) (by decide) (by decide) (by decide) hm
  have n64 : ¬ l.getD 0 0 = 64 := fun h => num_not h (by decide) (by decide) (by decide) (by decide) hm
  obtain ⟨k,r,v,n,hk⟩ := numTok_is l (W1 l).1 (W1 l).2
  have ht' : R0 l = Y9 l (W1 l).1 (W1 l).2 := by
    unfold R0
    rw [hb,if_neg (by simp),if_neg hn',if_neg (fun h => h.elim n39 n34),if_pos hm]
  rw [ht',hk]
  clear ht' hn'
  repeat' (first | (simp (maxSteps := 10000000) -implicitDefEqProofs (disch := first | exact tStr | decide | omega | assumption | (simp only [zz20,yz25,yz20]; omega)) only [D3,G6,G4,A9,C9,G3,B4,A1,C6,B2,D4,G5,D6,C5,B1,G7,B7,B8,C0,D8,D9,A5,J8,H9,E0,E1,M2,M3,M5,M4,I3,I4,P2,E4,E6,I0,B5,M1,N8,M9,N2,N3,N4,N5,N6,N7,N1,J2,J3,J4,J5,J6,J1,I8,I7,I9,M0,K9,E3,L1,C3,O1,O2,G2,O9,N9,O0,B0,L8,D2,I2,zz28,yz28,jz28,zz29,yz23,zz23,jz22,yz27,jz19,yz29,zz20,yz25,Nat.reduceAdd,Nat.reduceSub,Nat.reduceLT,Nat.reduceEqDiff,zz22,jz23,if_true,if_false,yz21,decide_true,decide_false,zz25,jz24,reduceIte,List.getElem?_cons_succ,List.getElem?_cons_zero,UInt8.reduceOfNat,fin1,fin2,L2,O7,L3,O8,H3,H6,H4,L4,H5,L5,B6,A8,zz24,M7,H0,M6,G0,Option.some.injEq,DV.tup.injEq,jz29,zz30,Int.reduceToNat,yz30,and_true,true_and,beq_self_eq_true,jz30,zz31,not_true_eq_false,not_false_eq_true,M8,J7,J0,A6,L9,K6,A4,B9,D7,G9,O3,O4,K0,F2,F5,I5,I6,F7,F4,F3,F6,K1,K4,O5,O6,K3,K2,K5,F8,F9,E8,E2,J9,G1,C7,E9,L0,C4,I1,K8,K7,E7,P3,C8,B3,A0,L7,H8,E5,L6,H7,yz19,zz27,yz31,jz25,jz31,zz32,jz26,zz21,jz27,zz26,and_self,Nat.reduceLeDiff,jz18,exists_eq_left',yz24,jz21,Nat.reduceBEq,yz22,yz32,G8,A3,N0,Int.reduceLT,Int.reduceLE,Int.reduceEq,c32,X2,V5, *]) | with_reducible (first | refine C2 (fun h => ?_) fun h => ?_ | refine F1 (fun h => ?_) fun h => ?_ | refine C1 (fun h => ?_) fun h => ?_ | refine F0 (fun h => ?_) fun h => ?_ | refine A2 (fun h => ?_) fun h => ?_ | refine A7 (fun h => ?_) fun h => ?_) | (refine D5 ?_ ?_ ?_; (focus decide +kernel); (focus decide +kernel)))
  refine S7 [some (0,1),none,none,none,none,none,none] rfl (by decide +kernel) (by decide +kernel) ?_; simp only [yz23,zz23,jz19,yz29,List.zip_cons_cons,List.zip_nil_left]
  repeat' (first | (simp (maxSteps := 10000000) -implicitDefEqProofs (disch := first | exact tStr | decide | omega | assumption | (simp only [zz20,yz25,yz20]; omega)) only [D3,G6,G4,A9,C9,G3,B4,A1,C6,B2,D4,G5,D6,C5,B1,G7,B7,B8,C0,D8,D9,A5,J8,H9,E0,E1,M2,M3,M5,M4,I3,I4,P2,E4,E6,I0,B5,M1,N8,M9,N2,N3,N4,N5,N6,N7,N1,J2,J3,J4,J5,J6,J1,I8,I7,I9,M0,K9,E3,L1,C3,O1,O2,G2,O9,N9,O0,B0,L8,D2,I2,zz28,yz28,jz28,zz29,yz23,zz23,jz22,yz27,jz19,yz29,zz20,yz25,Nat.reduceAdd,Nat.reduceSub,Nat.reduceLT,Nat.reduceEqDiff,zz22,jz23,if_true,if_false,yz21,decide_true,decide_false,zz25,jz24,reduceIte,List.getElem?_cons_succ,List.getElem?_cons_zero,UInt8.reduceOfNat,fin1,fin2,L2,O7,L3,O8,H3,H6,H4,L4,H5,L5,B6,A8,zz24,M7,H0,M6,G0,Option.some.injEq,DV.tup.injEq,jz29,zz30,Int.reduceToNat,yz30,and_true,true_and,beq_self_eq_true,jz30,zz31,not_true_eq_false,not_false_eq_true,M8,J7,J0,A6,L9,K6,A4,B9,D7,G9,O3,O4,K0,F2,F5,I5,I6,F7,F4,F3,F6,K1,K4,O5,O6,K3,K2,K5,F8,F9,E8,E2,J9,G1,C7,E9,L0,C4,I1,K8,K7,E7,P3,C8,B3,A0,L7,H8,E5,L6,H7,yz19,zz27,yz31,jz25,jz31,zz32,jz26,zz21,jz27,zz26,and_self,Nat.reduceLeDiff,jz18,exists_eq_left',yz24,jz21,Nat.reduceBEq,yz22,yz32,G8,A3,N0,Int.reduceLT,Int.reduceLE,Int.reduceEq,c32,R3,W8,V4,T3,S4,R5,SOp.turns,S8,T6,U7,T0,X1,X0,c33,c36,c37,c38,c39,c40,c41, *]) | with_reducible (first | refine C2 (fun h => ?_) fun h => ?_ | refine F1 (fun h => ?_) fun h => ?_ | refine C1 (fun h => ?_) fun h => ?_ | refine F0 (fun h => ?_) fun h => ?_ | refine A2 (fun h => ?_) fun h => ?_ | refine A7 (fun h => ?_) fun h => ?_) | (refine D5 ?_ ?_ ?_; (focus decide +kernel); (focus decide +kernel)))
set_option maxHeartbeats 2000000 in
theorem p20_func (h1 : 0 < l.length) (h2 : l.length < 2 ^ 31) (hb : W2 (l.getD 0 0) = false) (hn : ¬ l.take 2 = [47,42]) (hm : ¬ 0 < (W1 l).2) (hg : W9 l = true) (hp : l.getD (P7 l).2 0 = 40) : PE Tryd.prog cfgV 20 [strD l] (R0 l) := by
  refine PE.code rfl jz10 ?_
  dsimp only [sf20]
  have k1 : 0 < (l.length : Int) := by omega
  have k2 := yz11 (l := l)
  have k3 : ¬ 0 < (T9 l : Int) := by have := Y2 hb; omega
  have h3 := Z0 (l := l) [32,9,10,12,13]
  have h2' : l.length < 2 ^ 39 := by omega
  have h2'' : l.length < 2 ^ 60 := by omega
  have hn' := hn
  rw [yz2] at hn'
  have n39 : ¬ l.getD 0 0 = 39 := beg_ne hg (by decide) (by decide) (by decide)
  have n34 : ¬ l.getD 0 0 = 34 := beg_ne hg (by decide) (by decide) (by decide)
  have n35 : ¬ l.getD 0 0 = 35 := beg_ne hg (by decide) (by decide) (by decide)
  have n64 : ¬ l.getD 0 0 = 64 := beg_ne hg (by decide) (by decide) (by decide)
  have k4 : ((P7 l).2 : Int) ≤ l.length := by have := yz8 l; omega
  have k6 : (l.take (P7 l).2).length = (P7 l).2 := by rw [List.length_take]; omega
  have t40 := take1 (l := l) (i := (P7 l).2) (c := 40) (by decide)
  have k5 : ((P7 l).2 : Int) + 1 ≤ l.length := by
    apply Classical.byContradiction
    intro hq
    rw [List.getD_eq_getElem?_getD,List.getElem?_eq_none (by omega)] at hp
    exact absurd hp (by decide)
  have ht' : R0 l = tokD 2 (l.take (((P7 l).2 : Int) + 1).toNat) (P7 l).1 0 := by
    unfold R0
    rw [hb,if_neg (by simp),if_neg hn',if_neg (fun h => h.elim n39 n34),if_neg hm,if_neg (fun h => n35 h.1),if_neg (fun h => n64 h.1),if_pos hg,if_pos hp]
  rw [ht']
  clear ht' hn'
  repeat' (first | (simp (maxSteps := 10000000) -implicitDefEqProofs (disch := first | exact tStr | decide | omega | assumption | (simp only [zz20,yz25,yz20]; omega)) only [D3,G6,G4,A9,C9,G3,B4,A1,C6,B2,D4,G5,D6,C5,B1,G7,B7,B8,C0,D8,D9,A5,J8,H9,E0,E1,M2,M3,M5,M4,I3,I4,P2,E4,E6,I0,B5,M1,N8,M9,N2,N3,N4,N5,N6,N7,N1,J2,J3,J4,J5,J6,J1,I8,I7,I9,M0,K9,E3,L1,C3,O1,O2,G2,O9,N9,O0,B0,L8,D2,I2,zz28,yz28,jz28,zz29,yz23,zz23,jz22,yz27,jz19,yz29,zz20,yz25,Nat.reduceAdd,Nat.reduceSub,Nat.reduceLT,Nat.reduceEqDiff,zz22,jz23,if_true,if_false,yz21,decide_true,decide_false,zz25,jz24,reduceIte,List.getElem?_cons_succ,List.getElem?_cons_zero,UInt8.reduceOfNat,fin1,fin2,L2,O7,L3,O8,H3,H6,H4,L4,H5,L5,B6,A8,zz24,M7,H0,M6,G0,Option.some.injEq,DV.tup.injEq,jz29,zz30,Int.reduceToNat,yz30,and_true,true_and,beq_self_eq_true,jz30,zz31,not_true_eq_false,not_false_eq_true,M8,J7,J0,A6,L9,K6,A4,B9,D7,G9,O3,O4,K0,F2,F5,I5,I6,F7,F4,F3,F6,K1,K4,O5,O6,K3,K2,K5,F8,F9,E8,E2,J9,G1,C7,E9,L0,C4,I1,K8,K7,E7,P3,C8,B3,A0,L7,H8,E5,L6,H7,yz19,zz27,yz31,jz25,jz31,zz32,jz26,zz21,jz27,zz26,and_self,Nat.reduceLeDiff,jz18,exists_eq_left',yz24,jz21,Nat.reduceBEq,yz22,yz32,G8,A3,N0,Int.reduceLT,Int.reduceLE,Int.reduceEq,c32,X2,V5, *]) | with_reducible (first | refine C2 (fun h => ?_) fun h => ?_ | refine F1 (fun h => ?_) fun h => ?_ | refine C1 (fun h => ?_) fun h => ?_ | refine F0 (fun h => ?_) fun h => ?_ | refine A2 (fun h => ?_) fun h => ?_ | refine A7 (fun h => ?_) fun h => ?_) | (refine D5 ?_ ?_ ?_; (focus decide +kernel); (focus decide +kernel)))
  refine S7 [some (0,1),none,none,none,none,none,none] rfl (by decide +kernel) (by decide +kernel) ?_; simp only [yz23,zz23,jz19,yz29,List.zip_cons_cons,List.zip_nil_left]
  repeat' (first | (simp (maxSteps := 10000000) -implicitDefEqProofs (disch := first | exact tStr | decide | omega | assumption | (simp only [zz20,yz25,yz20]; omega)) only [D3,G6,G4,A9,C9,G3,B4,A1,C6,B2,D4,G5,D6,C5,B1,G7,B7,B8,C0,D8,D9,A5,J8,H9,E0,E1,M2,M3,M5,M4,I3,I4,P2,E4,E6,I0,B5,M1,N8,M9,N2,N3,N4,N5,N6,N7,N1,J2,J3,J4,J5,J6,J1,I8,I7,I9,M0,K9,E3,L1,C3,O1,O2,G2,O9,N9,O0,B0,L8,D2,I2,zz28,yz28,jz28,zz29,yz23,zz23,jz22,yz27,jz19,yz29,zz20,yz25,Nat.reduceAdd,Nat.reduceSub,Nat.reduceLT,Nat.reduceEqDiff,zz22,jz23,if_true,if_false,yz21,decide_true,decide_false,zz25,jz24,reduceIte,List.getElem?_cons_succ,List.getElem?_cons_zero,UInt8.reduceOfNat,fin1,fin2,L2,O7,L3,O8,H3,H6,H4,L4,H5,L5,B6,A8,zz24,M7,H0,M6,G0,Option.some.injEq,DV.tup.injEq,jz29,zz30,Int.reduceToNat,yz30,and_true,true_and,beq_self_eq_true,jz30,zz31,not_true_eq_false,not_false_eq_true,M8,J7,J0,A6,L9,K6,A4,B9,D7,G9,O3,O4,K0,F2,F5,I5,I6,F7,F4,F3,F6,K1,K4,O5,O6,K3,K2,K5,F8,F9,E8,E2,J9,G1,C7,E9,L0,C4,I1,K8,K7,E7,P3,C8,B3,A0,L7,H8,E5,L6,H7,yz19,zz27,yz31,jz25,jz31,zz32,jz26,zz21,jz27,zz26,and_self,Nat.reduceLeDiff,jz18,exists_eq_left',yz24,jz21,Nat.reduceBEq,yz22,yz32,G8,A3,N0,Int.reduceLT,Int.reduceLE,Int.reduceEq,c32,R3,W8,V4,T3,S4,R5,SOp.turns,S8,T6,U7,T0,X1,X0,c33,c36,c37,c38,c39,c40,c42,tokD,Int.zero_add,yz26,jz25, *]) | with_reducible (first | refine C2 (fun h => ?_) fun h => ?_ | refine F1 (fun h => ?_) fun h => ?_ | refine C1 (fun h => ?_) fun h => ?_ | refine F0 (fun h => ?_) fun h => ?_ | refine A2 (fun h => ?_) fun h => ?_ | refine A7 (fun h => ?_) fun h => ?_) | (refine D5 ?_ ?_ ?_; (focus decide +kernel); (focus decide +kernel)))
  refine S7 [some (0,1),none,none,none,none,none,none,none] rfl (by decide +kernel) (by decide +kernel) ?_; simp only [yz23,zz23,jz19,yz29,List.zip_cons_cons,List.zip_nil_left]
  repeat' (first | (simp (maxSteps := 10000000) -implicitDefEqProofs (disch := first | exact tStr | decide | omega | assumption | (simp only [zz20,yz25,yz20]; omega)) only [D3,G6,G4,A9,C9,G3,B4,A1,C6,B2,D4,G5,D6,C5,B1,G7,B7,B8,C0,D8,D9,A5,J8,H9,E0,E1,M2,M3,M5,M4,I3,I4,P2,E4,E6,I0,B5,M1,N8,M9,N2,N3,N4,N5,N6,N7,N1,J2,J3,J4,J5,J6,J1,I8,I7,I9,M0,K9,E3,L1,C3,O1,O2,G2,O9,N9,O0,B0,L8,D2,I2,zz28,yz28,jz28,zz29,yz23,zz23,jz22,yz27,jz19,yz29,zz20,yz25,Nat.reduceAdd,Nat.reduceSub,Nat.reduceLT,Nat.reduceEqDiff,zz22,jz23,if_true,if_false,yz21,decide_true,decide_false,zz25,jz24,reduceIte,List.getElem?_cons_succ,List.getElem?_cons_zero,UInt8.reduceOfNat,fin1,fin2,L2,O7,L3,O8,H3,H6,H4,L4,H5,L5,B6,A8,zz24,M7,H0,M6,G0,Option.some.injEq,DV.tup.injEq,jz29,zz30,Int.reduceToNat,yz30,and_true,true_and,beq_self_eq_true,jz30,zz31,not_true_eq_false,not_false_eq_true,M8,J7,J0,A6,L9,K6,A4,B9,D7,G9,O3,O4,K0,F2,F5,I5,I6,F7,F4,F3,F6,K1,K4,O5,O6,K3,K2,K5,F8,F9,E8,E2,J9,G1,C7,E9,L0,C4,I1,K8,K7,E7,P3,C8,B3,A0,L7,H8,E5,L6,H7,yz19,zz27,yz31,jz25,jz31,zz32,jz26,zz21,jz27,zz26,and_self,Nat.reduceLeDiff,jz18,exists_eq_left',yz24,jz21,Nat.reduceBEq,yz22,yz32,G8,A3,N0,Int.reduceLT,Int.reduceLE,Int.reduceEq,c32,R3,W8,V4,T3,S4,R5,SOp.turns,S8,T6,U7,T0,X1,tokD, *]) | with_reducible (first | refine C2 (fun h => ?_) fun h => ?_ | refine F1 (fun h => ?_) fun h => ?_ | refine C1 (fun h => ?_) fun h => ?_ | refine F0 (fun h => ?_) fun h => ?_ | refine A2 (fun h => ?_) fun h => ?_ | refine A7 (fun h => ?_) fun h => ?_) | (refine D5 ?_ ?_ ?_; (focus decide +kernel); (focus decide +kernel)))
set_option maxHeartbeats 2000000 in
theorem p20_name (h1 : 0 < l.length) (h2 : l.length < 2 ^ 31) (hb : W2 (l.getD 0 0) = false) (hn : ¬ l.take 2 = [47,42]) (hm : ¬ 0 < (W1 l).2) (hg : W9 l = true) (hp : ¬ l.getD (P7 l).2 0 = 40) : PE Tryd.prog cfgV 20 [strD l] (R0 l) := by
  refine PE.code rfl jz10 ?_
  dsimp only [sf20]
  have k1 : 0 < (l.length : Int) := by omega
  have k2 := yz11 (l := l)
  have k3 : ¬ 0 < (T9 l : Int) := by have := Y2 hb; omega
  have h3 := Z0 (l := l) [32,9,10,12,13]
  have h2' : l.length < 2 ^ 39 := by omega
  have h2'' : l.length < 2 ^ 60 := by omega
  have hn' := hn
  rw [yz2] at hn'
  have n39 : ¬ l.getD 0 0 = 39 := beg_ne hg (by decide) (by decide) (by decide)
  have n34 : ¬ l.getD 0 0 = 34 := beg_ne hg (by decide) (by decide) (by decide)
  have n35 : ¬ l.getD 0 0 = 35 := beg_ne hg (by decide) (by decide) (by decide)
  have n64 : ¬ l.getD 0 0 = 64 := beg_ne hg (by decide) (by decide) (by decide)
  have k4 : ((P7 l).2 : Int) ≤ l.length := by have := yz8 l; omega
  have k6 : (l.take (P7 l).2).length = (P7 l).2 := by rw [List.length_take]; omega
  have t40 := take1 (l := l) (i := (P7 l).2) (c := 40) (by decide)
  have ht' : R0 l = tokD 1 (l.take (P7 l).2) (P7 l).1 0 := by
    unfold R0
    rw [hb,if_neg (by simp),if_neg hn',if_neg (fun h => h.elim n39 n34),if_neg hm,if_neg (fun h => n35 h.1),if_neg (fun h => n64 h.1),if_pos hg,if_neg hp]
  rw [ht']
  clear ht' hn'
  repeat' (first | (simp (maxSteps := 10000000) -implicitDefEqProofs (disch := first | exact tStr | decide | omega | assumption | (simp only [zz20,yz25,yz20]; omega)) only [D3,G6,G4,A9,C9,G3,B4,A1,C6,B2,D4,G5,D6,C5,B1,G7,B7,B8,C0,D8,D9,A5,J8,H9,E0,E1,M2,M3,M5,M4,I3,I4,P2,E4,E6,I0,B5,M1,N8,M9,N2,N3,N4,N5,N6,N7,N1,J2,J3,J4,J5,J6,J1,I8,I7,I9,M0,K9,E3,L1,C3,O1,O2,G2,O9,N9,O0,B0,L8,D2,I2,zz28,yz28,jz28,zz29,yz23,zz23,jz22,yz27,jz19,yz29,zz20,yz25,Nat.reduceAdd,Nat.reduceSub,Nat.reduceLT,Nat.reduceEqDiff,zz22,jz23,if_true,if_false,yz21,decide_true,decide_false,zz25,jz24,reduceIte,List.getElem?_cons_succ,List.getElem?_cons_zero,UInt8.reduceOfNat,fin1,fin2,L2,O7,L3,O8,H3,H6,H4,L4,H5,L5,B6,A8,zz24,M7,H0,M6,G0,Option.some.injEq,DV.tup.injEq,jz29,zz30,Int.reduceToNat,yz30,and_true,true_and,beq_self_eq_true,jz30,zz31,not_true_eq_false,not_false_eq_true,M8,J7,J0,A6,L9,K6,A4,B9,D7,G9,O3,O4,K0,F2,F5,I5,I6,F7,F4,F3,F6,K1,K4,O5,O6,K3,K2,K5,F8,F9,E8,E2,J9,G1,C7,E9,L0,C4,I1,K8,K7,E7,P3,C8,B3,A0,L7,H8,E5,L6,H7,yz19,zz27,yz31,jz25,jz31,zz32,jz26,zz21,jz27,zz26,and_self,Nat.reduceLeDiff,jz18,exists_eq_left',yz24,jz21,Nat.reduceBEq,yz22,yz32,G8,A3,N0,Int.reduceLT,Int.reduceLE,Int.reduceEq,c32,X2,V5, *]) | with_reducible (first | refine C2 (fun h => ?_) fun h => ?_ | refine F1 (fun h => ?_) fun h => ?_ | refine C1 (fun h => ?_) fun h => ?_ | refine F0 (fun h => ?_) fun h => ?_ | refine A2 (fun h => ?_) fun h => ?_ | refine A7 (fun h => ?_) fun h => ?_) | (refine D5 ?_ ?_ ?_; (focus decide +kernel); (focus decide +kernel)))
  refine S7 [some (0,1),none,none,none,none,none,none] rfl (by decide +kernel) (by decide +kernel) ?_; simp only [yz23,zz23,jz19,yz29,List.zip_cons_cons,List.zip_nil_left]
  repeat' (first | (simp (maxSteps := 10000000) -implicitDefEqProofs (disch := first | exact tStr | decide | omega | assumption | (simp only [zz20,yz25,yz20]; omega)) only [D3,G6,G4,A9,C9,G3,B4,A1,C6,B2,D4,G5,D6,C5,B1,G7,B7,B8,C0,D8,D9,A5,J8,H9,E0,E1,M2,M3,M5,M4,I3,I4,P2,E4,E6,I0,B5,M1,N8,M9,N2,N3,N4,N5,N6,N7,N1,J2,J3,J4,J5,J6,J1,I8,I7,I9,M0,K9,E3,L1,C3,O1,O2,G2,O9,N9,O0,B0,L8,D2,I2,zz28,yz28,jz28,zz29,yz23,zz23,jz22,yz27,jz19,yz29,zz20,yz25,Nat.reduceAdd,Nat.reduceSub,Nat.reduceLT,Nat.reduceEqDiff,zz22,jz23,if_true,if_false,yz21,decide_true,decide_false,zz25,jz24,reduceIte,List.getElem?_cons_succ,List.getElem?_cons_zero,UInt8.reduceOfNat,fin1,fin2,L2,O7,L3,O8,H3,H6,H4,L4,H5,L5,B6,A8,zz24,M7,H0,M6,G0,Option.some.injEq,DV.tup.injEq,jz29,zz30,Int.reduceToNat,yz30,and_true,true_and,beq_self_eq_true,jz30,zz31,not_true_eq_false,not_false_eq_true,M8,J7,J0,A6,L9,K6,A4,B9,D7,G9,O3,O4,K0,F2,F5,I5,I6,F7,F4,F3,F6,K1,K4,O5,O6,K3,K2,K5,F8,F9,E8,E2,J9,G1,C7,E9,L0,C4,I1,K8,K7,E7,P3,C8,B3,A0,L7,H8,E5,L6,H7,yz19,zz27,yz31,jz25,jz31,zz32,jz26,zz21,jz27,zz26,and_self,Nat.reduceLeDiff,jz18,exists_eq_left',yz24,jz21,Nat.reduceBEq,yz22,yz32,G8,A3,N0,Int.reduceLT,Int.reduceLE,Int.reduceEq,c32,R3,W8,V4,T3,S4,R5,SOp.turns,S8,T6,U7,T0,X1,X0,c33,c36,c37,c38,c39,c40,c42,tokD,Int.zero_add,yz26,jz25, *]) | with_reducible (first | refine C2 (fun h => ?_) fun h => ?_ | refine F1 (fun h => ?_) fun h => ?_ | refine C1 (fun h => ?_) fun h => ?_ | refine F0 (fun h => ?_) fun h => ?_ | refine A2 (fun h => ?_) fun h => ?_ | refine A7 (fun h => ?_) fun h => ?_) | (refine D5 ?_ ?_ ?_; (focus decide +kernel); (focus decide +kernel)))
set_option maxHeartbeats 2000000 in
theorem p20_sharp1 (h1 : 0 < l.length) (h2 : l.length < 2 ^ 31) (hb : W2 (l.getD 0 0) = false) (hn : ¬ l.take 2 = [47,42]) (hm : ¬ 0 < (W1 l).2) (hc : l.getD 0 0 = 35) (hl : ¬ 1 < (l.length : Int)) : PE Tryd.prog cfgV 20 [strD l] (R0 l) := by
  refine PE.code rfl jz10 ?_
  dsimp only [sf20]
  have k1 : 0 < (l.length : Int) := by omega
  have k2 := yz11 (l := l)
  have k3 : ¬ 0 < (T9 l : Int) := by have := Y2 hb; omega
  have h3 := Z0 (l := l) [32,9,10,12,13]
  have h2' : l.length < 2 ^ 39 := by omega
  have h2'' : l.length < 2 ^ 60 := by omega
  have k4 : 1 ≤ (l.length : Int) := by omega
  have hn' := hn
  rw [yz2] at hn'
  have hg : W9 l = false := beg_not hc (by decide) (by decide) (by decide)
  have he : Y3 (l.drop 1) = false := by rw [List.drop_eq_nil_of_le (by omega)]; rfl
  have ht' : R0 l = tokD 12 (l.take 1) [] 0 := by
    unfold R0
    rw [hb,if_neg (by simp),if_neg hn',if_neg (by rw [hc]; decide),if_neg hm,if_neg (by rw [he]; intro h; rcases h.2 with a | a; exact hl a.2; cases a),if_neg (by rw [hc]; intro h; exact absurd h.1 (by decide)),hg,if_neg (by simp),hc]
    rfl
  rw [ht']
  clear ht' hn'
  have q39 : ¬ (35 : UInt8) = 39 := by decide
  have q34 : ¬ (35 : UInt8) = 34 := by decide
  have q64 : ¬ (35 : UInt8) = 64 := by decide
  have q40 : ¬ (35 : UInt8) = 40 := by decide
  have q91 : ¬ (35 : UInt8) = 91 := by decide
  have q123 : ¬ (35 : UInt8) = 123 := by decide
  have q41 : ¬ (35 : UInt8) = 41 := by decide
  have q93 : ¬ (35 : UInt8) = 93 := by decide
  have q125 : ¬ (35 : UInt8) = 125 := by decide
  have q92 : ¬ (35 : UInt8) = 92 := by decide
  repeat' (first | (simp (maxSteps := 10000000) -implicitDefEqProofs (disch := first | exact tStr | decide | omega | assumption | (simp only [zz20,yz25,yz20]; omega)) only [D3,G6,G4,A9,C9,G3,B4,A1,C6,B2,D4,G5,D6,C5,B1,G7,B7,B8,C0,D8,D9,A5,J8,H9,E0,E1,M2,M3,M5,M4,I3,I4,P2,E4,E6,I0,B5,M1,N8,M9,N2,N3,N4,N5,N6,N7,N1,J2,J3,J4,J5,J6,J1,I8,I7,I9,M0,K9,E3,L1,C3,O1,O2,G2,O9,N9,O0,B0,L8,D2,I2,zz28,yz28,jz28,zz29,yz23,zz23,jz22,yz27,jz19,yz29,zz20,yz25,Nat.reduceAdd,Nat.reduceSub,Nat.reduceLT,Nat.reduceEqDiff,zz22,jz23,if_true,if_false,yz21,decide_true,decide_false,zz25,jz24,reduceIte,List.getElem?_cons_succ,List.getElem?_cons_zero,UInt8.reduceOfNat,fin1,fin2,L2,O7,L3,O8,H3,H6,H4,L4,H5,L5,B6,A8,zz24,M7,H0,M6,G0,Option.some.injEq,DV.tup.injEq,jz29,zz30,Int.reduceToNat,yz30,and_true,true_and,beq_self_eq_true,jz30,zz31,not_true_eq_false,not_false_eq_true,M8,J7,J0,A6,L9,K6,A4,B9,D7,G9,O3,O4,K0,F2,F5,I5,I6,F7,F4,F3,F6,K1,K4,O5,O6,K3,K2,K5,F8,F9,E8,E2,J9,G1,C7,E9,L0,C4,I1,K8,K7,E7,P3,C8,B3,A0,L7,H8,E5,L6,H7,yz19,zz27,yz31,jz25,jz31,zz32,jz26,zz21,jz27,zz26,and_self,Nat.reduceLeDiff,jz18,exists_eq_left',yz24,jz21,Nat.reduceBEq,yz22,yz32,G8,A3,N0,Int.reduceLT,Int.reduceLE,Int.reduceEq,c32,X2,V5, *]) | with_reducible (first | refine C2 (fun h => ?_) fun h => ?_ | refine F1 (fun h => ?_) fun h => ?_ | refine C1 (fun h => ?_) fun h => ?_ | refine F0 (fun h => ?_) fun h => ?_ | refine A2 (fun h => ?_) fun h => ?_ | refine A7 (fun h => ?_) fun h => ?_) | (refine D5 ?_ ?_ ?_; (focus decide +kernel); (focus decide +kernel)))
  refine S7 [some (0,1),none,none,none,none,none,none] rfl (by decide +kernel) (by decide +kernel) ?_; simp only [yz23,zz23,jz19,yz29,List.zip_cons_cons,List.zip_nil_left]
  repeat' (first | (simp (maxSteps := 10000000) -implicitDefEqProofs (disch := first | exact tStr | decide | omega | assumption | (simp only [zz20,yz25,yz20]; omega)) only [D3,G6,G4,A9,C9,G3,B4,A1,C6,B2,D4,G5,D6,C5,B1,G7,B7,B8,C0,D8,D9,A5,J8,H9,E0,E1,M2,M3,M5,M4,I3,I4,P2,E4,E6,I0,B5,M1,N8,M9,N2,N3,N4,N5,N6,N7,N1,J2,J3,J4,J5,J6,J1,I8,I7,I9,M0,K9,E3,L1,C3,O1,O2,G2,O9,N9,O0,B0,L8,D2,I2,zz28,yz28,jz28,zz29,yz23,zz23,jz22,yz27,jz19,yz29,zz20,yz25,Nat.reduceAdd,Nat.reduceSub,Nat.reduceLT,Nat.reduceEqDiff,zz22,jz23,if_true,if_false,yz21,decide_true,decide_false,zz25,jz24,reduceIte,List.getElem?_cons_succ,List.getElem?_cons_zero,UInt8.reduceOfNat,fin1,fin2,L2,O7,L3,O8,H3,H6,H4,L4,H5,L5,B6,A8,zz24,M7,H0,M6,G0,Option.some.injEq,DV.tup.injEq,jz29,zz30,Int.reduceToNat,yz30,and_true,true_and,beq_self_eq_true,jz30,zz31,not_true_eq_false,not_false_eq_true,M8,J7,J0,A6,L9,K6,A4,B9,D7,G9,O3,O4,K0,F2,F5,I5,I6,F7,F4,F3,F6,K1,K4,O5,O6,K3,K2,K5,F8,F9,E8,E2,J9,G1,C7,E9,L0,C4,I1,K8,K7,E7,P3,C8,B3,A0,L7,H8,E5,L6,H7,yz19,zz27,yz31,jz25,jz31,zz32,jz26,zz21,jz27,zz26,and_self,Nat.reduceLeDiff,jz18,exists_eq_left',yz24,jz21,Nat.reduceBEq,yz22,yz32,G8,A3,N0,Int.reduceLT,Int.reduceLE,Int.reduceEq,c32,R3,W8,V4,T3,S4,R5,SOp.turns,S8,T6,U7,T0,X1,X0,c33,c31',c36,c37,c38,c39,c40,c42,tokD,zz10,cv_fn,retc, *]) | with_reducible (first | refine C2 (fun h => ?_) fun h => ?_ | refine F1 (fun h => ?_) fun h => ?_ | refine C1 (fun h => ?_) fun h => ?_ | refine F0 (fun h => ?_) fun h => ?_ | refine A2 (fun h => ?_) fun h => ?_ | refine A7 (fun h => ?_) fun h => ?_) | (refine D5 ?_ ?_ ?_; (focus decide +kernel); (focus decide +kernel)))
set_option maxHeartbeats 2000000 in
theorem p20_sharp2 (h1 : 0 < l.length) (h2 : l.length < 2 ^ 31) (hb : W2 (l.getD 0 0) = false) (hn : ¬ l.take 2 = [47,42]) (hm : ¬ 0 < (W1 l).2) (hc : l.getD 0 0 = 35) (hl : 1 < (l.length : Int)) (hh : X6 (l.getD 1 0) = false) (he : Y3 (l.drop 1) = false) : PE Tryd.prog cfgV 20 [strD l] (R0 l) := by
  refine PE.code rfl jz10 ?_
  dsimp only [sf20]
  have k1 : 0 < (l.length : Int) := by omega
  have k2 := yz11 (l := l)
  have k3 : ¬ 0 < (T9 l : Int) := by have := Y2 hb; omega
  have h3 := Z0 (l := l) [32,9,10,12,13]
  have h2' : l.length < 2 ^ 39 := by omega
  have h2'' : l.length < 2 ^ 60 := by omega
  have k4 : 1 ≤ (l.length : Int) := by omega
  have hn' := hn
  rw [yz2] at hn'
  have hg : W9 l = false := beg_not hc (by decide) (by decide) (by decide)
  have ht' : R0 l = tokD 12 (l.take 1) [] 0 := by
    unfold R0
    rw [hb,if_neg (by simp),if_neg hn',if_neg (by rw [hc]; decide),if_neg hm,if_neg (by rw [he,hh]; intro h; rcases h.2 with a | a; cases a.1; cases a),if_neg (by rw [hc]; intro h; exact absurd h.1 (by decide)),hg,if_neg (by simp),hc]
    rfl
  rw [ht']
  clear ht' hn'
  have q39 : ¬ (35 : UInt8) = 39 := by decide
  have q34 : ¬ (35 : UInt8) = 34 := by decide
  have q64 : ¬ (35 : UInt8) = 64 := by decide
  have q40 : ¬ (35 : UInt8) = 40 := by decide
  have q91 : ¬ (35 : UInt8) = 91 := by decide
  have q123 : ¬ (35 : UInt8) = 123 := by decide
  have q41 : ¬ (35 : UInt8) = 41 := by decide
  have q93 : ¬ (35 : UInt8) = 93 := by decide
  have q125 : ¬ (35 : UInt8) = 125 := by decide
  have q92 : ¬ (35 : UInt8) = 92 := by decide
  repeat' (first | (simp (maxSteps := 10000000) -implicitDefEqProofs (disch := first | exact tStr | decide | omega | assumption | (simp only [zz20,yz25,yz20]; omega)) only [D3,G6,G4,A9,C9,G3,B4,A1,C6,B2,D4,G5,D6,C5,B1,G7,B7,B8,C0,D8,D9,A5,J8,H9,E0,E1,M2,M3,M5,M4,I3,I4,P2,E4,E6,I0,B5,M1,N8,M9,N2,N3,N4,N5,N6,N7,N1,J2,J3,J4,J5,J6,J1,I8,I7,I9,M0,K9,E3,L1,C3,O1,O2,G2,O9,N9,O0,B0,L8,D2,I2,zz28,yz28,jz28,zz29,yz23,zz23,jz22,yz27,jz19,yz29,zz20,yz25,Nat.reduceAdd,Nat.reduceSub,Nat.reduceLT,Nat.reduceEqDiff,zz22,jz23,if_true,if_false,yz21,decide_true,decide_false,zz25,jz24,reduceIte,List.getElem?_cons_succ,List.getElem?_cons_zero,UInt8.reduceOfNat,fin1,fin2,L2,O7,L3,O8,H3,H6,H4,L4,H5,L5,B6,A8,zz24,M7,H0,M6,G0,Option.some.injEq,DV.tup.injEq,jz29,zz30,Int.reduceToNat,yz30,and_true,true_and,beq_self_eq_true,jz30,zz31,not_true_eq_false,not_false_eq_true,M8,J7,J0,A6,L9,K6,A4,B9,D7,G9,O3,O4,K0,F2,F5,I5,I6,F7,F4,F3,F6,K1,K4,O5,O6,K3,K2,K5,F8,F9,E8,E2,J9,G1,C7,E9,L0,C4,I1,K8,K7,E7,P3,C8,B3,A0,L7,H8,E5,L6,H7,yz19,zz27,yz31,jz25,jz31,zz32,jz26,zz21,jz27,zz26,and_self,Nat.reduceLeDiff,jz18,exists_eq_left',yz24,jz21,Nat.reduceBEq,yz22,yz32,G8,A3,N0,Int.reduceLT,Int.reduceLE,Int.reduceEq,c32,X2,V5, *]) | with_reducible (first | refine C2 (fun h => ?_) fun h => ?_ | refine F1 (fun h => ?_) fun h => ?_ | refine C1 (fun h => ?_) fun h => ?_ | refine F0 (fun h => ?_) fun h => ?_ | refine A2 (fun h => ?_) fun h => ?_ | refine A7 (fun h => ?_) fun h => ?_) | (refine D5 ?_ ?_ ?_; (focus decide +kernel); (focus decide +kernel)))
  refine S7 [some (0,1),none,none,none,none,none,none] rfl (by decide +kernel) (by decide +kernel) ?_; simp only [yz23,zz23,jz19,yz29,List.zip_cons_cons,List.zip_nil_left]
  repeat' (first | (simp (maxSteps := 10000000) -implicitDefEqProofs (disch := first | exact tStr | decide | omega | assumption | (simp only [zz20,yz25,yz20]; omega)) only [D3,G6,G4,A9,C9,G3,B4,A1,C6,B2,D4,G5,D6,C5,B1,G7,B7,B8,C0,D8,D9,A5,J8,H9,E0,E1,M2,M3,M5,M4,I3,I4,P2,E4,E6,I0,B5,M1,N8,M9,N2,N3,N4,N5,N6,N7,N1,J2,J3,J4,J5,J6,J1,I8,I7,I9,M0,K9,E3,L1,C3,O1,O2,G2,O9,N9,O0,B0,L8,D2,I2,zz28,yz28,jz28,zz29,yz23,zz23,jz22,yz27,jz19,yz29,zz20,yz25,Nat.reduceAdd,Nat.reduceSub,Nat.reduceLT,Nat.reduceEqDiff,zz22,jz23,if_true,if_false,yz21,decide_true,decide_false,zz25,jz24,reduceIte,List.getElem?_cons_succ,List.getElem?_cons_zero,UInt8.reduceOfNat,fin1,fin2,L2,O7,L3,O8,H3,H6,H4,L4,H5,L5,B6,A8,zz24,M7,H0,M6,G0,Option.some.injEq,DV.tup.injEq,jz29,zz30,Int.reduceToNat,yz30,and_true,true_and,beq_self_eq_true,jz30,zz31,not_true_eq_false,not_false_eq_true,M8,J7,J0,A6,L9,K6,A4,B9,D7,G9,O3,O4,K0,F2,F5,I5,I6,F7,F4,F3,F6,K1,K4,O5,O6,K3,K2,K5,F8,F9,E8,E2,J9,G1,C7,E9,L0,C4,I1,K8,K7,E7,P3,C8,B3,A0,L7,H8,E5,L6,H7,yz19,zz27,yz31,jz25,jz31,zz32,jz26,zz21,jz27,zz26,and_self,Nat.reduceLeDiff,jz18,exists_eq_left',yz24,jz21,Nat.reduceBEq,yz22,yz32,G8,A3,N0,Int.reduceLT,Int.reduceLE,Int.reduceEq,c32,R3,W8,V4,T3,S4,R5,SOp.turns,S8,T6,U7,T0,X1,X0,c33,c31',c36,c37,c38,c39,c40,c42,tokD,zz10,cv_fn,retc, *]) | with_reducible (first | refine C2 (fun h => ?_) fun h => ?_ | refine F1 (fun h => ?_) fun h => ?_ | refine C1 (fun h => ?_) fun h => ?_ | refine F0 (fun h => ?_) fun h => ?_ | refine A2 (fun h => ?_) fun h => ?_ | refine A7 (fun h => ?_) fun h => ?_) | (refine D5 ?_ ?_ ?_; (focus decide +kernel); (focus decide +kernel)))
set_option maxHeartbeats 2000000 in
theorem p20_atsign (h1 : 0 < l.length) (h2 : l.length < 2 ^ 31) (hb : W2 (l.getD 0 0) = false) (hn : ¬ l.take 2 = [47,42]) (hm : ¬ 0 < (W1 l).2) (hc : l.getD 0 0 = 64) (hh : W9 (l.drop 1) = false) : PE Tryd.prog cfgV 20 [strD l] (R0 l) := by
  refine PE.code rfl jz10 ?_
  dsimp only [sf20]
  have k1 : 0 < (l.length : Int) := by omega
  have k2 := yz11 (l := l)
  have k3 : ¬ 0 < (T9 l : Int) := by have := Y2 hb; omega
  have h3 := Z0 (l := l) [32,9,10,12,13]
  have h2' : l.length < 2 ^ 39 := by omega
  have h2'' : l.length < 2 ^ 60 := by omega
  have k4 : 1 ≤ (l.length : Int) := by omega
  have hn' := hn
  rw [yz2] at hn'
  have hg : W9 l = false := beg_not hc (by decide) (by decide) (by decide)
  have ht' : R0 l = tokD 12 (l.take 1) [] 0 := by
    unfold R0
    rw [hb,if_neg (by simp),if_neg hn',if_neg (by rw [hc]; decide),if_neg hm,if_neg (by rw [hc]; intro h; exact absurd h.1 (by decide)),if_neg (by rw [hh]; intro h; cases h.2),hg,if_neg (by simp),hc]
    rfl
  rw [ht']
  clear ht' hn'
  have q39 : ¬ (64 : UInt8) = 39 := by decide
  have q34 : ¬ (64 : UInt8) = 34 := by decide
  have q35 : ¬ (64 : UInt8) = 35 := by decide
  have q40 : ¬ (64 : UInt8) = 40 := by decide
  have q91 : ¬ (64 : UInt8) = 91 := by decide
  have q123 : ¬ (64 : UInt8) = 123 := by decide
  have q41 : ¬ (64 : UInt8) = 41 := by decide
  have q93 : ¬ (64 : UInt8) = 93 := by decide
  have q125 : ¬ (64 : UInt8) = 125 := by decide
  have q92 : ¬ (64 : UInt8) = 92 := by decide
  repeat' (first | (simp (maxSteps := 10000000) -implicitDefEqProofs (disch := first | exact tStr | decide | omega | assumption | (simp only [zz20,yz25,yz20]; omega)) only [D3,G6,G4,A9,C9,G3,B4,A1,C6,B2,D4,G5,D6,C5,B1,G7,B7,B8,C0,D8,D9,A5,J8,H9,E0,E1,M2,M3,M5,M4,I3,I4,P2,E4,E6,I0,B5,M1,N8,M9,N2,N3,N4,N5,N6,N7,N1,J2,J3,J4,J5,J6,J1,I8,I7,I9,M0,K9,E3,L1,C3,O1,O2,G2,O9,N9,O0,B0,L8,D2,I2,zz28,yz28,jz28,zz29,yz23,zz23,jz22,yz27,jz19,yz29,zz20,yz25,Nat.reduceAdd,Nat.reduceSub,Nat.reduceLT,Nat.reduceEqDiff,zz22,jz23,if_true,if_false,yz21,decide_true,decide_false,zz25,jz24,reduceIte,List.getElem?_cons_succ,List.getElem?_cons_zero,UInt8.reduceOfNat,fin1,fin2,L2,O7,L3,O8,H3,H6,H4,L4,H5,L5,B6,A8,zz24,M7,H0,M6,G0,Option.some.injEq,DV.tup.injEq,jz29,zz30,Int.reduceToNat,yz30,and_true,true_and,beq_self_eq_true,jz30,zz31,not_true_eq_false,not_false_eq_true,M8,J7,J0,A6,L9,K6,A4,B9,D7,G9,O3,O4,K0,F2,F5,I5,I6,F7,F4,F3,F6,K1,K4,O5,O6,K3,K2,K5,F8,F9,E8,E2,J9,G1,C7,E9,L0,C4,I1,K8,K7,E7,P3,C8,B3,A0,L7,H8,E5,L6,H7,yz19,zz27,yz31,jz25,jz31,zz32,jz26,zz21,jz27,zz26,and_self,Nat.reduceLeDiff,jz18,exists_eq_left',yz24,jz21,Nat.reduceBEq,yz22,yz32,G8,A3,N0,Int.reduceLT,Int.reduceLE,Int.reduceEq,c32,X2,V5, *]) | with_reducible (first | refine C2 (fun h => ?_) fun h => ?_ | refine F1 (fun h => ?_) fun h => ?_ | refine C1 (fun h => ?_) fun h => ?_ | refine F0 (fun h => ?_) fun h => ?_ | refine A2 (fun h => ?_) fun h => ?_ | refine A7 (fun h => ?_) fun h => ?_) | (refine D5 ?_ ?_ ?_; (focus decide +kernel); (focus decide +kernel)))
  refine S7 [some (0,1),none,none,none,none,none,none] rfl (by decide +kernel) (by decide +kernel) ?_; simp only [yz23,zz23,jz19,yz29,List.zip_cons_cons,List.zip_nil_left]
  repeat' (first | (simp (maxSteps := 10000000) -implicitDefEqProofs (disch := first | exact tStr | decide | omega | assumption | (simp only [zz20,yz25,yz20]; omega)) only [D3,G6,G4,A9,C9,G3,B4,A1,C6,B2,D4,G5,D6,C5,B1,G7,B7,B8,C0,D8,D9,A5,J8,H9,E0,E1,M2,M3,M5,M4,I3,I4,P2,E4,E6,I0,B5,M1,N8,M9,N2,N3,N4,N5,N6,N7,N1,J2,J3,J4,J5,J6,J1,I8,I7,I9,M0,K9,E3,L1,C3,O1,O2,G2,O9,N9,O0,B0,L8,D2,I2,zz28,yz28,jz28,zz29,yz23,zz23,jz22,yz27,jz19,yz29,zz20,yz25,Nat.reduceAdd,Nat.reduceSub,Nat.reduceLT,Nat.reduceEqDiff,zz22,jz23,if_true,if_false,yz21,decide_true,decide_false,zz25,jz24,reduceIte,List.getElem?_cons_succ,List.getElem?_cons_zero,UInt8.reduceOfNat,fin1,fin2,L2,O7,L3,O8,H3,H6,H4,L4,H5,L5,B6,A8,zz24,M7,H0,M6,G0,Option.some.injEq,DV.tup.injEq,jz29,zz30,Int.reduceToNat,yz30,and_true,true_and,beq_self_eq_true,jz30,zz31,not_true_eq_false,not_false_eq_true,M8,J7,J0,A6,L9,K6,A4,B9,D7,G9,O3,O4,K0,F2,F5,I5,I6,F7,F4,F3,F6,K1,K4,O5,O6,K3,K2,K5,F8,F9,E8,E2,J9,G1,C7,E9,L0,C4,I1,K8,K7,E7,P3,C8,B3,A0,L7,H8,E5,L6,H7,yz19,zz27,yz31,jz25,jz31,zz32,jz26,zz21,jz27,zz26,and_self,Nat.reduceLeDiff,jz18,exists_eq_left',yz24,jz21,Nat.reduceBEq,yz22,yz32,G8,A3,N0,Int.reduceLT,Int.reduceLE,Int.reduceEq,c32,R3,W8,V4,T3,S4,R5,SOp.turns,S8,T6,U7,T0,X1,X0,c33,c31',c36,c37,c38,c39,c40,c42,tokD,zz10,cv_fn,retc, *]) | with_reducible (first | refine C2 (fun h => ?_) fun h => ?_ | refine F1 (fun h => ?_) fun h => ?_ | refine C1 (fun h => ?_) fun h => ?_ | refine F0 (fun h => ?_) fun h => ?_ | refine A2 (fun h => ?_) fun h => ?_ | refine A7 (fun h => ?_) fun h => ?_) | (refine D5 ?_ ?_ ?_; (focus decide +kernel); (focus decide +kernel)))
set_option maxHeartbeats 2000000 in
theorem p20_sign (h1 : 0 < l.length) (h2 : l.length < 2 ^ 31) (hb : W2 (l.getD 0 0) = false) (hn : ¬ l.take 2 = [47,42]) (hm : ¬ 0 < (W1 l).2) (hg : W9 l = false) (n39 : ¬ l.getD 0 0 = 39) (n34 : ¬ l.getD 0 0 = 34) (n35 : ¬ l.getD 0 0 = 35) (n64 : ¬ l.getD 0 0 = 64) : PE Tryd.prog cfgV 20 [strD l] (R0 l) := by
  refine PE.code rfl jz10 ?_
  dsimp only [sf20]
  have k1 : 0 < (l.length : Int) := by omega
  have k2 := yz11 (l := l)
  have k3 : ¬ 0 < (T9 l : Int) := by have := Y2 hb; omega
  have h3 := Z0 (l := l) [32,9,10,12,13]
  have h2' : l.length < 2 ^ 39 := by omega
  have h2'' : l.length < 2 ^ 60 := by omega
  have k4 : 1 ≤ (l.length : Int) := by omega
  have hn' := hn
  rw [yz2] at hn'
  have ht' : R0 l = tokD (zz7 (l.getD 0 0)) (l.take 1) [] 0 := by
    unfold R0
    rw [hb,if_neg (by simp),if_neg hn',if_neg (fun h => h.elim n39 n34),if_neg hm,if_neg (fun h => n35 h.1),if_neg (fun h => n64 h.1),hg,if_neg (by simp)]
  rw [ht']
  clear ht' hn'
  repeat' (first | (simp (maxSteps := 10000000) -implicitDefEqProofs (disch := first | exact tStr | decide | omega | assumption | (simp only [zz20,yz25,yz20]; omega)) only [D3,G6,G4,A9,C9,G3,B4,A1,C6,B2,D4,G5,D6,C5,B1,G7,B7,B8,C0,D8,D9,A5,J8,H9,E0,E1,M2,M3,M5,M4,I3,I4,P2,E4,E6,I0,B5,M1,N8,M9,N2,N3,N4,N5,N6,N7,N1,J2,J3,J4,J5,J6,J1,I8,I7,I9,M0,K9,E3,L1,C3,O1,O2,G2,O9,N9,O0,B0,L8,D2,I2,zz28,yz28,jz28,zz29,yz23,zz23,jz22,yz27,jz19,yz29,zz20,yz25,Nat.reduceAdd,Nat.reduceSub,Nat.reduceLT,Nat.reduceEqDiff,zz22,jz23,if_true,if_false,yz21,decide_true,decide_false,zz25,jz24,reduceIte,List.getElem?_cons_succ,List.getElem?_cons_zero,UInt8.reduceOfNat,fin1,fin2,L2,O7,L3,O8,H3,H6,H4,L4,H5,L5,B6,A8,zz24,M7,H0,M6,G0,Option.some.injEq,DV.tup.injEq,jz29,zz30,Int.reduceToNat,yz30,and_true,true_and,beq_self_eq_true,jz30,zz31,not_true_eq_false,not_false_eq_true,M8,J7,J0,A6,L9,K6,A4,B9,D7,G9,O3,O4,K0,F2,F5,I5,I6,F7,F4,F3,F6,K1,K4,O5,O6,K3,K2,K5,F8,F9,E8,E2,J9,G1,C7,E9,L0,C4,I1,K8,K7,E7,P3,C8,B3,A0,L7,H8,E5,L6,H7,yz19,zz27,yz31,jz25,jz31,zz32,jz26,zz21,jz27,zz26,and_self,Nat.reduceLeDiff,jz18,exists_eq_left',yz24,jz21,Nat.reduceBEq,yz22,yz32,G8,A3,N0,Int.reduceLT,Int.reduceLE,Int.reduceEq,c32,X2,V5, *]) | with_reducible (first | refine C2 (fun h => ?_) fun h => ?_ | refine F1 (fun h => ?_) fun h => ?_ | refine C1 (fun h => ?_) fun h => ?_ | refine F0 (fun h => ?_) fun h => ?_ | refine A2 (fun h => ?_) fun h => ?_ | refine A7 (fun h => ?_) fun h => ?_) | (refine D5 ?_ ?_ ?_; (focus decide +kernel); (focus decide +kernel)))
  refine S7 [some (0,1),none,none,none,none,none,none] rfl (by decide +kernel) (by decide +kernel) ?_; simp only [yz23,zz23,jz19,yz29,List.zip_cons_cons,List.zip_nil_left]
  repeat' (first | (simp (maxSteps := 10000000) -implicitDefEqProofs (disch := first | exact tStr | decide | omega | assumption | (simp only [zz20,yz25,yz20]; omega)) only [D3,G6,G4,A9,C9,G3,B4,A1,C6,B2,D4,G5,D6,C5,B1,G7,B7,B8,C0,D8,D9,A5,J8,H9,E0,E1,M2,M3,M5,M4,I3,I4,P2,E4,E6,I0,B5,M1,N8,M9,N2,N3,N4,N5,N6,N7,N1,J2,J3,J4,J5,J6,J1,I8,I7,I9,M0,K9,E3,L1,C3,O1,O2,G2,O9,N9,O0,B0,L8,D2,I2,zz28,yz28,jz28,zz29,yz23,zz23,jz22,yz27,jz19,yz29,zz20,yz25,Nat.reduceAdd,Nat.reduceSub,Nat.reduceLT,Nat.reduceEqDiff,zz22,jz23,if_true,if_false,yz21,decide_true,decide_false,zz25,jz24,reduceIte,List.getElem?_cons_succ,List.getElem?_cons_zero,UInt8.reduceOfNat,fin1,fin2,L2,O7,L3,O8,H3,H6,H4,L4,H5,L5,B6,A8,zz24,M7,H0,M6,G0,Option.some.injEq,DV.tup.injEq,jz29,zz30,Int.reduceToNat,yz30,and_true,true_and,beq_self_eq_true,jz30,zz31,not_true_eq_false,not_false_eq_true,M8,J7,J0,A6,L9,K6,A4,B9,D7,G9,O3,O4,K0,F2,F5,I5,I6,F7,F4,F3,F6,K1,K4,O5,O6,K3,K2,K5,F8,F9,E8,E2,J9,G1,C7,E9,L0,C4,I1,K8,K7,E7,P3,C8,B3,A0,L7,H8,E5,L6,H7,yz19,zz27,yz31,jz25,jz31,zz32,jz26,zz21,jz27,zz26,and_self,Nat.reduceLeDiff,jz18,exists_eq_left',yz24,jz21,Nat.reduceBEq,yz22,yz32,G8,A3,N0,Int.reduceLT,Int.reduceLE,Int.reduceEq,c32,R3,W8,V4,T3,S4,R5,SOp.turns,S8,T6,U7,T0,X1,X0,c33,c31',c36,c37,c38,c39,c40,c42,tokD,zz10,cv_fn,retc, *]) | with_reducible (first | refine C2 (fun h => ?_) fun h => ?_ | refine F1 (fun h => ?_) fun h => ?_ | refine C1 (fun h => ?_) fun h => ?_ | refine F0 (fun h => ?_) fun h => ?_ | refine A2 (fun h => ?_) fun h => ?_ | refine A7 (fun h => ?_) fun h => ?_) | (refine D5 ?_ ?_ ?_; (focus decide +kernel); (focus decide +kernel)))
  all_goals first
    | rfl
    | (exfalso; revert ‹_ = (_ : UInt8)›; decide)
    | (simp only [zz7, *,if_true,if_false,or_true,true_or,or_false,false_or]; done)
    | trace_state
theorem p20 (h1 : 0 < l.length) (h2 : l.length < 2 ^ 31) : PE Tryd.prog cfgV 20 [strD l] (R0 l) := by
  by_cases hb : W2 (l.getD 0 0) = true
  · exact p20_blank h1 h2 hb
  have hb := zz33 _ ▸ hb
  by_cases hn : l.take 2 = [47,42]
  · by_cases hi : 0 ≤ Lib.index (l.drop 2) [42,47]
    · exact p20_note1 h1 h2 hb hn hi
    · exact p20_note2 h1 h2 hb hn hi
  by_cases n39 : l.getD 0 0 = 39
  · exact p20_text39 h1 h2 hb hn n39
  by_cases n34 : l.getD 0 0 = 34
  · exact p20_text34 h1 h2 hb hn n34
  by_cases hm : 0 < (W1 l).2
  · exact p20_num h1 h2 hb hn hm
  by_cases n35 : l.getD 0 0 = 35
  · by_cases hl : 1 < (l.length : Int)
    · by_cases hh : X6 (l.getD 1 0) = true
      · exact p20_hash1 h1 h2 hb hn hm n35 hl hh
      · have hh := zz33 _ ▸ hh
        by_cases he : Y3 (l.drop 1) = true
        · exact p20_hash2 h1 h2 hb hn hm n35 hl hh he
        · exact p20_sharp2 h1 h2 hb hn hm n35 hl hh (zz33 _ ▸ he)
    · exact p20_sharp1 h1 h2 hb hn hm n35 hl
  by_cases n64 : l.getD 0 0 = 64
  · by_cases hh : W9 (l.drop 1) = true
    · exact p20_at h1 h2 hb hn hm n64 hh
    · exact p20_atsign h1 h2 hb hn hm n64 (zz33 _ ▸ hh)
  by_cases hg : W9 l = true
  · by_cases hp : l.getD (P7 l).2 0 = 40
    · exact p20_func h1 h2 hb hn hm hg hp
    · exact p20_name h1 h2 hb hn hm hg hp
  · exact p20_sign h1 h2 hb hn hm (zz33 _ ▸ hg) n39 n34 n35 n64
theorem c20 (h1 : 0 < l.length) (h2 : l.length < 2 ^ 31) : R4 Tryd.prog cfgV 20 [strD l] H K = K (R0 l) H := T7 rfl rfl (p20 h1 h2) H K
end Go.Dx
end
section
namespace Go.Dx
open Go Go.Proofs
set_option maxRecDepth 8000
attribute [local congr] Q7 Q6 R2 P8 Q2 Q5 Q3
variable {l : List UInt8} {H : Heap} {K : DV → Heap → Prop}
def sh7 (cur : List UInt8) (out : DV) (H : Heap) (x : Nat → DV) : DS := ⟨[strD cur,x 1,x 2,out,x 4,x 5,x 6,x 7,x 8,x 9,x 10,x 11,x 12,x 13,x 14,x 15,x 16,x 17,x 18],H⟩
def inv7 (l : List UInt8) (n : Nat) (s : DS) : Prop := ∃ (cur : List UInt8) (out : DV) (es : List (List DV)),s = sh7 cur out s.H (fun k => s.sl.getD k P9) ∧ Lst 4 37 s.H out es ∧ es.length + cur.length ≤ l.length ∧ Hid (toks l = es ++ toks cur) ∧ Hid (n = cur.length)
def post7 (l : List UInt8) (ex : Ex) (s : DS) : Prop := ex = .exit 0 ∧ ∃ out cur,s = sh7 cur out s.H (fun k => s.sl.getD k P9) ∧ Lst 4 37 s.H out (toks l)
theorem l7_0 (h2 : l.length < 2 ^ 31) {n : Nat} {s : DS} (hI : inv7 l n s) : runW Tryd.prog cfgV (.loop lp7_0) s (post7 l) := by
  refine V3 (inv7 l) ?_ hI
  rintro n s ⟨cur,out,es,hs,ho,e1,e2,e3⟩
  obtain ⟨x,H,rfl⟩ : ∃ x H,s = sh7 cur out H x := ⟨_,_,hs⟩
  clear hs
  dsimp only [lp7_0,sh7] at ho ⊢
  by_cases hc : cur = []
  · subst hc
    repeat' (first | (simp (maxSteps := 10000000) -implicitDefEqProofs (disch := first | exact tStr | decide | omega | assumption | (simp only [zz20,yz25,yz20]; omega)) only [D3,G6,G4,A9,C9,G3,B4,A1,C6,B2,D4,G5,D6,C5,B1,G7,B7,B8,C0,D8,D9,A5,J8,H9,E0,E1,M2,M3,M5,M4,I3,I4,P2,E4,E6,I0,B5,M1,N8,M9,N2,N3,N4,N5,N6,N7,N1,J2,J3,J4,J5,J6,J1,I8,I7,I9,M0,K9,E3,L1,C3,O1,O2,G2,O9,N9,O0,B0,L8,D2,I2,zz28,yz28,jz28,zz29,yz23,zz23,jz22,yz27,jz19,yz29,zz20,yz25,Nat.reduceAdd,Nat.reduceSub,Nat.reduceLT,Nat.reduceEqDiff,zz22,jz23,if_true,if_false,yz21,decide_true,decide_false,zz25,jz24,reduceIte,List.getElem?_cons_succ,List.getElem?_cons_zero,UInt8.reduceOfNat,fin1,fin2,L2,O7,L3,O8,H3,H6,H4,L4,H5,L5,B6,A8,zz24,M7,H0,M6,G0,Option.some.injEq,DV.tup.injEq,jz29,zz30,Int.reduceToNat,yz30,and_true,true_and,beq_self_eq_true,jz30,zz31,not_true_eq_false,not_false_eq_true,M8,J7,J0,A6,L9,K6,A4,B9,D7,G9,O3,O4,K0,F2,F5,I5,I6,F7,F4,F3,F6,K1,K4,O5,O6,K3,K2,K5,F8,F9,E8,E2,J9,G1,C7,E9,L0,C4,I1,K8,K7,E7,P3,C8,B3,A0,L7,H8,E5,L6,H7,yz19,zz27,yz31,jz25,jz31,zz32,jz26,zz21,jz27,zz26,and_self,Nat.reduceLeDiff,jz18,exists_eq_left',yz24,jz21,Nat.reduceBEq,yz22,yz32,G8,A3,N0,Int.reduceLT,Int.reduceLE,Int.reduceEq,c20, *]) | with_reducible (first | refine C2 (fun h => ?_) fun h => ?_ | refine F1 (fun h => ?_) fun h => ?_ | refine C1 (fun h => ?_) fun h => ?_ | refine F0 (fun h => ?_) fun h => ?_ | refine A2 (fun h => ?_) fun h => ?_ | refine A7 (fun h => ?_) fun h => ?_) | (refine D5 ?_ ?_ ?_; (focus decide +kernel); (focus decide +kernel)))
    unfold Hid at e2
    rw [toks_end (l := []) (by simp),jz26] at e2
    exact ⟨rfl,out, [],rfl,by rw [e2]; exact ho⟩
  · have hc' : 0 < (cur.length : Int) := nil_len hc
    obtain ⟨k,r,v,m,ht⟩ := tokOf_is cur
    have hr := Z3 (l := cur) (by omega)
    rw [ht,V8] at hr
    have hr2 : (r.length : Int) ≤ cur.length := by omega
    repeat' (first | (simp (maxSteps := 10000000) -implicitDefEqProofs (disch := first | exact tStr | decide | omega | assumption | (simp only [zz20,yz25,yz20]; omega)) only [D3,G6,G4,A9,C9,G3,B4,A1,C6,B2,D4,G5,D6,C5,B1,G7,B7,B8,C0,D8,D9,A5,J8,H9,E0,E1,M2,M3,M5,M4,I3,I4,P2,E4,E6,I0,B5,M1,N8,M9,N2,N3,N4,N5,N6,N7,N1,J2,J3,J4,J5,J6,J1,I8,I7,I9,M0,K9,E3,L1,C3,O1,O2,G2,O9,N9,O0,B0,L8,D2,I2,zz28,yz28,jz28,zz29,yz23,zz23,jz22,yz27,jz19,yz29,zz20,yz25,Nat.reduceAdd,Nat.reduceSub,Nat.reduceLT,Nat.reduceEqDiff,zz22,jz23,if_true,if_false,yz21,decide_true,decide_false,zz25,jz24,reduceIte,List.getElem?_cons_succ,List.getElem?_cons_zero,UInt8.reduceOfNat,fin1,fin2,L2,O7,L3,O8,H3,H6,H4,L4,H5,L5,B6,A8,zz24,M7,H0,M6,G0,Option.some.injEq,DV.tup.injEq,jz29,zz30,Int.reduceToNat,yz30,and_true,true_and,beq_self_eq_true,jz30,zz31,not_true_eq_false,not_false_eq_true,M8,J7,J0,A6,L9,K6,A4,B9,D7,G9,O3,O4,K0,F2,F5,I5,I6,F7,F4,F3,F6,K1,K4,O5,O6,K3,K2,K5,F8,F9,E8,E2,J9,G1,C7,E9,L0,C4,I1,K8,K7,E7,P3,C8,B3,A0,L7,H8,E5,L6,H7,yz19,zz27,yz31,jz25,jz31,zz32,jz26,zz21,jz27,zz26,and_self,Nat.reduceLeDiff,jz18,exists_eq_left',yz24,jz21,Nat.reduceBEq,yz22,yz32,G8,A3,N0,Int.reduceLT,Int.reduceLE,Int.reduceEq,c20,Y0,yz17,yz9,set_behind,jz17,bsl_agg,zz18,List.append_assoc,yz20,V9, *]) | with_reducible (first | refine C2 (fun h => ?_) fun h => ?_ | refine F1 (fun h => ?_) fun h => ?_ | refine C1 (fun h => ?_) fun h => ?_ | refine F0 (fun h => ?_) fun h => ?_ | refine A2 (fun h => ?_) fun h => ?_ | refine A7 (fun h => ?_) fun h => ?_) | (refine D5 ?_ ?_ ?_; (focus decide +kernel); (focus decide +kernel)))
    refine appW (ho.more) (elems_row row_end1 rfl rfl) (by omega) (by simp only [zz20,yz25]; omega) rfl ?_
    intro out' H' hl hk hn hle _
    have hrow := hk.at0 ho F8
    clear hk
    repeat' (first | (simp (maxSteps := 10000000) -implicitDefEqProofs (disch := first | exact tStr | decide | omega | assumption | (simp only [zz20,yz25,yz20]; omega)) only [D3,G6,G4,A9,C9,G3,B4,A1,C6,B2,D4,G5,D6,C5,B1,G7,B7,B8,C0,D8,D9,A5,J8,H9,E0,E1,M2,M3,M5,M4,I3,I4,P2,E4,E6,I0,B5,M1,N8,M9,N2,N3,N4,N5,N6,N7,N1,J2,J3,J4,J5,J6,J1,I8,I7,I9,M0,K9,E3,L1,C3,O1,O2,G2,O9,N9,O0,B0,L8,D2,I2,zz28,yz28,jz28,zz29,yz23,zz23,jz22,yz27,jz19,yz29,zz20,yz25,Nat.reduceAdd,Nat.reduceSub,Nat.reduceLT,Nat.reduceEqDiff,zz22,jz23,if_true,if_false,yz21,decide_true,decide_false,zz25,jz24,reduceIte,List.getElem?_cons_succ,List.getElem?_cons_zero,UInt8.reduceOfNat,fin1,fin2,L2,O7,L3,O8,H3,H6,H4,L4,H5,L5,B6,A8,zz24,M7,H0,M6,G0,Option.some.injEq,DV.tup.injEq,jz29,zz30,Int.reduceToNat,yz30,and_true,true_and,beq_self_eq_true,jz30,zz31,not_true_eq_false,not_false_eq_true,M8,J7,J0,A6,L9,K6,A4,B9,D7,G9,O3,O4,K0,F2,F5,I5,I6,F7,F4,F3,F6,K1,K4,O5,O6,K3,K2,K5,F8,F9,E8,E2,J9,G1,C7,E9,L0,C4,I1,K8,K7,E7,P3,C8,B3,A0,L7,H8,E5,L6,H7,yz19,zz27,yz31,jz25,jz31,zz32,jz26,zz21,jz27,zz26,and_self,Nat.reduceLeDiff,jz18,exists_eq_left',yz24,jz21,Nat.reduceBEq,yz22,yz32,G8,A3,N0,Int.reduceLT,Int.reduceLE,Int.reduceEq,c20,hrow, *]) | with_reducible (first | refine C2 (fun h => ?_) fun h => ?_ | refine F1 (fun h => ?_) fun h => ?_ | refine C1 (fun h => ?_) fun h => ?_ | refine F0 (fun h => ?_) fun h => ?_ | refine A2 (fun h => ?_) fun h => ?_ | refine A7 (fun h => ?_) fun h => ?_) | (refine D5 ?_ ?_ ?_; (focus decide +kernel); (focus decide +kernel)))
    refine ⟨(cur.drop r.length).length,?_,cur.drop r.length,out',es ++ [[intD k,strD r,strD v,intD m]],?_,hl,?_,?_,rfl⟩
    · unfold Hid at e3; rw [jz32]; omega
    · rw [yz26]; rfl
    · rw [yz20,jz32,zz20,yz25]; omega
    · unfold Hid at e2 ⊢
      rw [e2,toks_go (l := cur) (by omega),ht,V8,List.append_assoc]
      rfl
theorem p7 (h2 : l.length < 2 ^ 31) : PE Tryd.prog cfgV 7 [strD l] (.imm (toks l)) := by
  refine PE.code rfl code7 ?_
  dsimp only [sf7]
  repeat' (first | (simp (maxSteps := 10000000) -implicitDefEqProofs (disch := first | exact tStr | decide | omega | assumption | (simp only [zz20,yz25,yz20]; omega)) only [D3,G6,G4,A9,C9,G3,B4,A1,C6,B2,D4,G5,D6,C5,B1,G7,B7,B8,C0,D8,D9,A5,J8,H9,E0,E1,M2,M3,M5,M4,I3,I4,P2,E4,E6,I0,B5,M1,N8,M9,N2,N3,N4,N5,N6,N7,N1,J2,J3,J4,J5,J6,J1,I8,I7,I9,M0,K9,E3,L1,C3,O1,O2,G2,O9,N9,O0,B0,L8,D2,I2,zz28,yz28,jz28,zz29,yz23,zz23,jz22,yz27,jz19,yz29,zz20,yz25,Nat.reduceAdd,Nat.reduceSub,Nat.reduceLT,Nat.reduceEqDiff,zz22,jz23,if_true,if_false,yz21,decide_true,decide_false,zz25,jz24,reduceIte,List.getElem?_cons_succ,List.getElem?_cons_zero,UInt8.reduceOfNat,fin1,fin2,L2,O7,L3,O8,H3,H6,H4,L4,H5,L5,B6,A8,zz24,M7,H0,M6,G0,Option.some.injEq,DV.tup.injEq,jz29,zz30,Int.reduceToNat,yz30,and_true,true_and,beq_self_eq_true,jz30,zz31,not_true_eq_false,not_false_eq_true,M8,J7,J0,A6,L9,K6,A4,B9,D7,G9,O3,O4,K0,F2,F5,I5,I6,F7,F4,F3,F6,K1,K4,O5,O6,K3,K2,K5,F8,F9,E8,E2,J9,G1,C7,E9,L0,C4,I1,K8,K7,E7,P3,C8,B3,A0,L7,H8,E5,L6,H7,yz19,zz27,yz31,jz25,jz31,zz32,jz26,zz21,jz27,zz26,and_self,Nat.reduceLeDiff,jz18,exists_eq_left',yz24,jz21,Nat.reduceBEq,yz22,yz32,G8,A3,N0,Int.reduceLT,Int.reduceLE,Int.reduceEq,V9, *]) | with_reducible (first | refine C2 (fun h => ?_) fun h => ?_ | refine F1 (fun h => ?_) fun h => ?_ | refine C1 (fun h => ?_) fun h => ?_ | refine F0 (fun h => ?_) fun h => ?_ | refine A2 (fun h => ?_) fun h => ?_ | refine A7 (fun h => ?_) fun h => ?_) | (refine D5 ?_ ?_ ?_; (focus decide +kernel); (focus decide +kernel)))
  refine zz2 (l7_0 h2 (n := l.length) ⟨l, .nil, [],rfl,Lst.nil,by simp,rfl,rfl⟩) ?_
  rintro ex s ⟨rfl,out,cur,hs',ho⟩
  obtain ⟨x,H,rfl⟩ : ∃ x H,s = sh7 cur out H x := ⟨_,_,hs'⟩
  clear hs'
  dsimp only [sh7] at ho ⊢
  repeat' (first | (simp (maxSteps := 10000000) -implicitDefEqProofs (disch := first | exact tStr | decide | omega | assumption | (simp only [zz20,yz25,yz20]; omega)) only [D3,G6,G4,A9,C9,G3,B4,A1,C6,B2,D4,G5,D6,C5,B1,G7,B7,B8,C0,D8,D9,A5,J8,H9,E0,E1,M2,M3,M5,M4,I3,I4,P2,E4,E6,I0,B5,M1,N8,M9,N2,N3,N4,N5,N6,N7,N1,J2,J3,J4,J5,J6,J1,I8,I7,I9,M0,K9,E3,L1,C3,O1,O2,G2,O9,N9,O0,B0,L8,D2,I2,zz28,yz28,jz28,zz29,yz23,zz23,jz22,yz27,jz19,yz29,zz20,yz25,Nat.reduceAdd,Nat.reduceSub,Nat.reduceLT,Nat.reduceEqDiff,zz22,jz23,if_true,if_false,yz21,decide_true,decide_false,zz25,jz24,reduceIte,List.getElem?_cons_succ,List.getElem?_cons_zero,UInt8.reduceOfNat,fin1,fin2,L2,O7,L3,O8,H3,H6,H4,L4,H5,L5,B6,A8,zz24,M7,H0,M6,G0,Option.some.injEq,DV.tup.injEq,jz29,zz30,Int.reduceToNat,yz30,and_true,true_and,beq_self_eq_true,jz30,zz31,not_true_eq_false,not_false_eq_true,M8,J7,J0,A6,L9,K6,A4,B9,D7,G9,O3,O4,K0,F2,F5,I5,I6,F7,F4,F3,F6,K1,K4,O5,O6,K3,K2,K5,F8,F9,E8,E2,J9,G1,C7,E9,L0,C4,I1,K8,K7,E7,P3,C8,B3,A0,L7,H8,E5,L6,H7,yz19,zz27,yz31,jz25,jz31,zz32,jz26,zz21,jz27,zz26,and_self,Nat.reduceLeDiff,jz18,exists_eq_left',yz24,jz21,Nat.reduceBEq,yz22,yz32,G8,A3,N0,Int.reduceLT,Int.reduceLE,Int.reduceEq,V9, *]) | with_reducible (first | refine C2 (fun h => ?_) fun h => ?_ | refine F1 (fun h => ?_) fun h => ?_ | refine C1 (fun h => ?_) fun h => ?_ | refine F0 (fun h => ?_) fun h => ?_ | refine A2 (fun h => ?_) fun h => ?_ | refine A7 (fun h => ?_) fun h => ?_) | (refine D5 ?_ ?_ ?_; (focus decide +kernel); (focus decide +kernel)))
  exact frz_lst ho (frz_rows (m := 6) (toks_plain l))
theorem c7 (h2 : l.length < 2 ^ 31) : R4 Tryd.prog cfgV 7 [strD l] H K = K (.imm (toks l)) H := T7 rfl rfl (p7 h2) H K
end Go.Dx
end
section
namespace Go.Dx
open Go Go.Proofs
variable {l : List UInt8}
def intOf : DV → Int
  | .sc (.int _ n) => n
  | _ => 0
def txtOf (v : DV) : List UInt8 := (bytesOf v).getD []
def tokR : List DV → Tok
  | [a,b,c,d] => ⟨intOf a,txtOf b,txtOf c,intOf d⟩
  | _ => ⟨0, [], [],0⟩
theorem tokR_cs (t : Tok) : tokR t.cs = t := by
  obtain ⟨k,r,v,n⟩ := t
  simp only [Tok.cs,tokR,txtOf,zz5,intOf,intD,Option.getD_some]
def U0 (l : List UInt8) : List Tok := (toks l).map tokR
def tokT (l : List UInt8) : Tok := tokR (R0 l).cells
theorem tokOf_T (l : List UInt8) : R0 l = .agg (tokT l).cs := by
  obtain ⟨k,r,v,n,h⟩ := tokOf_is l
  unfold tokT
  rw [h]
  show _ = DV.agg (tokR (Tok.cs ⟨k,r,v,n⟩)).cs
  rw [tokR_cs]; rfl
theorem yz13 (l : List UInt8) : rawOf (R0 l) = (tokT l).raw := by
  rw [tokOf_T]
  exact V8
theorem toksT_go (h : 0 < l.length) : U0 l = tokT l :: U0 (l.drop (tokT l).raw.length) := by
  unfold U0
  rw [toks_go h,yz23,yz13]; rfl
theorem yz16 (h : ¬ 0 < l.length) : U0 l = [] := by
  unfold U0; rw [toks_end h]; rfl
theorem toks_T (l : List UInt8) : toks l = (U0 l).map Tok.cs := by
  generalize hn : l.length = n
  induction n using Nat.strongRecOn generalizing l with
  | _ n ih =>
    by_cases h : 0 < l.length
    · have hr := Z3 h
      rw [yz13] at hr
      rw [toks_go h,toksT_go h,yz23,yz13,ih _ (by rw [jz32]; omega) _ rfl,tokOf_T]; rfl
    · rw [toks_end h,yz16 h]; rfl
structure Tok.ok (t : Tok) : Prop where
  raw : t.raw ≠ []
  close : t.kind = 11 → t.raw.length = 1
  comma : t.raw = [44] → t.kind = 12
theorem W7 {k n : Int} {r v : List UInt8} (h : R0 l = tokD k r v n) : tokT l = ⟨k,r,v,n⟩ := by
  unfold tokT
  rw [h]
  exact tokR_cs ⟨k,r,v,n⟩
theorem jz1 {l : List UInt8} {j : Nat} {c : UInt8} (h : l.take j = [c]) : l.getD 0 0 = c := by
  match l,j with
  | [],_ => simp at h
  | a :: r,0 => simp at h
  | a :: r,j + 1 => simp only [yz19,List.cons.injEq] at h; simpa using h.1
theorem comma_num (h : l.getD 0 0 = 44) : ¬ 0 < (W1 l).2 := num_not h (by decide) (by decide) (by decide) (by decide)
theorem tokT_pre (h : 0 < l.length) : ∃ j,(tokT l).raw = l.take j ∧ ((tokT l).kind = 11 → (tokT l).raw.length = 1) ∧ ((tokT l).raw = [44] → (tokT l).kind = 12) := by
  have q : R0 l = R0 l := rfl
  conv at q => rhs; unfold R0
  split at q
  · rename_i hb
    rw [W7 q]
    exact ⟨_,rfl,fun e => by simp at e,fun e => by rw [jz1 e] at hb; exact absurd hb (by decide)⟩
  split at q
  · rename_i hb
    rw [W7 q]
    exact ⟨_,rfl,fun e => by simp at e,fun e => by rw [jz1 e] at hb; exact absurd hb.1 (by decide)⟩
  split at q
  · rename_i hb
    unfold W5 at q
    split at q <;>
    · rw [W7 q]
      exact ⟨_,rfl,fun e => by simp at e,fun e => by rw [jz1 e] at hb; rcases hb with a | a <;> exact absurd a (by decide)⟩
  split at q
  · rename_i hb
    unfold Y9 at q
    split at q
    · rw [W7 q]
      exact ⟨_,rfl,fun e => by simp at e,fun e => absurd hb (comma_num (jz1 e))⟩
    · split at q <;>
      · rw [W7 q]
        exact ⟨_,rfl,fun e => by simp at e,fun e => absurd hb (comma_num (jz1 e))⟩
  split at q
  · rename_i hb
    rw [W7 q]
    exact ⟨_,rfl,fun e => by simp at e,fun e => by rw [jz1 e] at hb; exact absurd hb.1 (by decide)⟩
  split at q
  · rename_i hb
    rw [W7 q]
    exact ⟨_,rfl,fun e => by simp at e,fun e => by rw [jz1 e] at hb; exact absurd hb.1 (by decide)⟩
  split at q
  · rename_i hb
    split at q <;>
    · rw [W7 q]
      refine ⟨_,rfl,fun e => by simp at e,fun e => ?_⟩
      rw [beg_not (jz1 e) (by decide) (by decide) (by decide)] at hb
      cases hb
  · rw [W7 q]
    refine ⟨_,rfl,fun _ => by simp only [List.length_take]; omega,fun e => ?_⟩
    show zz7 (l.getD 0 0) = 12
    rw [jz1 e]; rfl
theorem tokT_ok (h : 0 < l.length) : (tokT l).ok := by
  obtain ⟨j,h1,h2,h3⟩ := tokT_pre h
  have hr := Z3 h
  rw [yz13] at hr
  exact ⟨fun e => by rw [e] at hr; simp at hr,h2,h3⟩
theorem tokT_cut (h : 0 < l.length) : (tokT l).raw ++ l.drop (tokT l).raw.length = l := by
  obtain ⟨j,h1,_⟩ := tokT_pre h
  rw [h1,List.length_take]
  by_cases hj : j ≤ l.length
  · rw [Nat.min_eq_left hj]; exact List.take_append_drop j l
  · rw [Nat.min_eq_right (by omega),List.take_of_length_le (by omega),List.drop_length,jz26]
theorem toksT_ok (l : List UInt8) : ∀ t ∈ U0 l,t.ok := by
  generalize hn : l.length = n
  induction n using Nat.strongRecOn generalizing l with
  | _ n ih =>
    by_cases h : 0 < l.length
    · have hr := Z3 h
      rw [yz13] at hr
      rw [toksT_go h]
      intro t ht
      rcases List.mem_cons.mp ht with rfl | ht
      · exact tokT_ok h
      · exact ih _ (by rw [jz32]; omega) _ rfl t ht
    · rw [yz16 h]; intro t ht; cases ht
theorem toksT_text (l : List UInt8) : (U0 l).flatMap Tok.raw = l := by
  generalize hn : l.length = n
  induction n using Nat.strongRecOn generalizing l with
  | _ n ih =>
    by_cases h : 0 < l.length
    · have hr := Z3 h
      rw [yz13] at hr
      rw [toksT_go h,List.flatMap_cons,ih _ (by rw [jz32]; omega) _ rfl]
      exact tokT_cut h
    · rw [yz16 h]
      cases l with
      | nil => rfl
      | cons a r => simp at h
theorem toksT_length (l : List UInt8) : (U0 l).length ≤ l.length := by
  generalize hn : l.length = n
  induction n using Nat.strongRecOn generalizing l with
  | _ n ih =>
    by_cases h : 0 < l.length
    · have hr := Z3 h
      rw [yz13] at hr
      have := ih (l.drop (tokT l).raw.length).length (by rw [jz32]; omega) _ rfl
      rw [toksT_go h,zz20]
      rw [jz32] at this; omega
    · rw [yz16 h]; simp
end Go.Dx
end
