/- A part of the proof of VarFills: what functions of the program answer. -/
import Derived.Test.YtcclgnddbgaigaaDoorT12
open Nat renaming le_refl → jz18, add_zero → jz21, zero_add → yz24, le_zero_eq → yz32
open Bool renaming and_eq_true → zz19, false_eq_true → yz21, not_false → jz24, not_true → zz25, and_self → zz26, true_beq → jz30, false_beq → zz31, not_eq_true → zz33
open List renaming take_succ_cons → yz19, replicate_succ → jz19, length_cons → zz20, length_append → yz20, all_cons → zz21, singleton_append → yz22, cons_append → jz22, map_nil → zz23, map_cons → yz23, length_nil → yz25, drop_zero → jz25, append_nil → jz26, take_zero → zz27, nil_append → yz27, all_nil → jz27, set_cons_succ → zz28, set_cons_zero → yz28, getD_cons_succ → jz28, getD_cons_zero → zz29, replicate_zero → yz29, drop_succ_cons → yz31, drop_nil → jz31, take_nil → zz32, length_drop → jz32
open Option renaming map_some → zz22, map_none → jz23, bind_some → zz24
open Int renaming toNat_natCast → yz26, toNat_zero → jz29, toNat_one → zz30, cast_ofNat_Int → yz30
set_option linter.all false
section
namespace Go.Dx
open Go Go.Proofs
set_option maxRecDepth 8000
attribute [local congr] Q7 Q6 R2 P8 Q2 Q5 Q3
variable {b : UInt8} {l : List UInt8} {H : Heap} {K : DV → Heap → Prop} {i : Int}
def curL (l : List UInt8) (i : Nat) : List UInt8 := (l.take i).map lowB ++ l.drop i
theorem yz18 {n : Nat} : (curL l n).length = l.length := by simp [curL]; omega
theorem cur_get {l : List UInt8} {i : Nat} (h : i < l.length) : (curL l i).getD i 0 = l.getD i 0 := by
  unfold curL
  rw [List.getD_eq_getElem?_getD,List.getElem?_append_right (by simp; omega),List.getElem?_drop,List.getD_eq_getElem?_getD]
  congr 2
  simp; omega
theorem cur_set {l : List UInt8} {i : Nat} (h : i < l.length) : (curL l i).set i (lowB (l.getD i 0)) = curL l (i + 1) := by
  unfold curL
  rw [List.set_append_right _ _ (by simp; omega)]
  rw [List.drop_eq_getElem_cons h]
  have e : i - ((l.take i).map lowB).length = 0 := by simp; omega
  rw [e,yz28,List.take_add_one,List.getElem?_eq_getElem h,List.getD_eq_getElem?_getD,List.getElem?_eq_getElem h,List.map_append,List.append_assoc]
  rfl
theorem cur_same {l : List UInt8} {i : Nat} (h : i < l.length) (hb : lowB (l.getD i 0) = l.getD i 0) : curL l i = curL l (i + 1) := by
  rw [← cur_set h,hb]
  apply List.ext_getElem?
  intro k
  by_cases hk : k = i
  · subst hk
    rw [List.getElem?_set_self (by rw [yz18]; exact h)]
    have := cur_get h
    rw [List.getD_eq_getElem?_getD,List.getElem?_eq_getElem (by rw [yz18]; exact h)] at this
    rw [List.getElem?_eq_getElem (by rw [yz18]; exact h)]
    simpa using this
  · rw [List.getElem?_set_ne (fun e => hk e.symm)]
theorem cbs_one {ty : TypeId} {f n : Nat} {sf : Bool} (hn : n = l.length) : cbsD [some (Row.mk 1 (bys l) ty f sf)] (.osl 0 0 n) = .val (strD l) [some (Row.mk 1 (bys l) ty f sf)] := cbs_bys (f := f) F8 hn
def sh28 (l : List UInt8) (i : Int) (x : Nat → DV) : DS := ⟨[strD l,x 1,x 2,DV.osl 0 0 l.length,intD i,x 5,x 6,x 7,x 8,x 9,x 10,x 11,x 12,x 13,x 14,x 15,x 16,x 17,x 18,x 19,x 20,x 21,x 22,x 23,x 24,x 25,x 26,x 27,x 28,x 29,x 30,x 31,x 32,x 33,x 34], [some (Row.mk 1 (bys (curL l i.toNat)) 5 0 false)]⟩
def inv28 (l : List UInt8) (n : Nat) (s : DS) : Prop := ∃ i : Int,s = sh28 l i (fun k => s.sl.getD k P9) ∧ 0 ≤ i ∧ i ≤ l.length ∧ Hid (n = (l.length - i).toNat)
theorem p28 (h2 : l.length < 2 ^ 60) : PE Tryd.prog cfgV 28 [strD l] (strD (l.map lowB)) := by
  refine PE.code rfl code28 ?_
  dsimp only [sf28]
  repeat' (first | (simp (maxSteps := 10000000) -implicitDefEqProofs (disch := first | exact tStr | decide | omega | assumption | (simp only [zz20,yz25,yz20]; omega)) only [D3,G6,G4,A9,C9,G3,B4,A1,C6,B2,D4,G5,D6,C5,B1,G7,B7,B8,C0,D8,D9,A5,J8,H9,E0,E1,M2,M3,M5,M4,I3,I4,P2,E4,E6,I0,B5,M1,N8,M9,N2,N3,N4,N5,N6,N7,N1,J2,J3,J4,J5,J6,J1,I8,I7,I9,M0,K9,E3,L1,C3,O1,O2,G2,O9,N9,O0,B0,L8,D2,I2,zz28,yz28,jz28,zz29,yz23,zz23,jz22,yz27,jz19,yz29,zz20,yz25,Nat.reduceAdd,Nat.reduceSub,Nat.reduceLT,Nat.reduceEqDiff,zz22,jz23,if_true,if_false,yz21,decide_true,decide_false,zz25,jz24,reduceIte,List.getElem?_cons_succ,List.getElem?_cons_zero,UInt8.reduceOfNat,fin1,fin2,L2,O7,L3,O8,H3,H6,H4,L4,H5,L5,B6,A8,zz24,M7,H0,M6,G0,Option.some.injEq,DV.tup.injEq,jz29,zz30,Int.reduceToNat,yz30,and_true,true_and,beq_self_eq_true,jz30,zz31,not_true_eq_false,not_false_eq_true,M8,J7,J0,A6,L9,K6,A4,B9,D7,G9,O3,O4,K0,F2,F5,I5,I6,F7,F4,F3,F6,K1,K4,O5,O6,K3,K2,K5,F8,F9,E8,E2,J9,G1,C7,E9,L0,C4,I1,K8,K7,E7,P3,C8,B3,A0,L7,H8,E5,L6,H7,yz19,zz27,yz31,jz25,jz31,zz32,jz26,zz21,jz27,zz26,and_self,Nat.reduceLeDiff,jz18,exists_eq_left',yz24,jz21,Nat.reduceBEq,yz22,yz32,G8,A3,N0,Int.reduceLT,Int.reduceLE,Int.reduceEq,dop_convSB,csb_str, *]) | with_reducible (first | refine C2 (fun h => ?_) fun h => ?_ | refine F1 (fun h => ?_) fun h => ?_ | refine C1 (fun h => ?_) fun h => ?_ | refine F0 (fun h => ?_) fun h => ?_ | refine A2 (fun h => ?_) fun h => ?_ | refine A7 (fun h => ?_) fun h => ?_) | (refine D5 ?_ ?_ ?_; (focus decide +kernel); (focus decide +kernel)))
  refine V3 (inv28 l) ?_ (n := (l.length - 0 : Int).toNat) ⟨0,rfl,by omega,by omega,rfl⟩
  rintro n s ⟨i,hs,e1,e2,e6⟩
  obtain ⟨x,rfl⟩ : ∃ x,s = sh28 l i x := ⟨_,hs⟩
  clear hs
  dsimp only [lp28_0,sh28]
  have hcl : (curL l i.toNat).length = l.length := yz18
  by_cases hi : i < l.length
  · have hg := cur_get (l := l) (i := i.toNat) (by omega)
    have hi2 : i < (curL l i.toNat).length := by omega
    repeat' (first | (simp (maxSteps := 10000000) -implicitDefEqProofs (disch := first | exact tStr | decide | omega | assumption | (simp only [zz20,yz25,yz20]; omega)) only [D3,G6,G4,A9,C9,G3,B4,A1,C6,B2,D4,G5,D6,C5,B1,G7,B7,B8,C0,D8,D9,A5,J8,H9,E0,E1,M2,M3,M5,M4,I3,I4,P2,E4,E6,I0,B5,M1,N8,M9,N2,N3,N4,N5,N6,N7,N1,J2,J3,J4,J5,J6,J1,I8,I7,I9,M0,K9,E3,L1,C3,O1,O2,G2,O9,N9,O0,B0,L8,D2,I2,zz28,yz28,jz28,zz29,yz23,zz23,jz22,yz27,jz19,yz29,zz20,yz25,Nat.reduceAdd,Nat.reduceSub,Nat.reduceLT,Nat.reduceEqDiff,zz22,jz23,if_true,if_false,yz21,decide_true,decide_false,zz25,jz24,reduceIte,List.getElem?_cons_succ,List.getElem?_cons_zero,UInt8.reduceOfNat,fin1,fin2,L2,O7,L3,O8,H3,H6,H4,L4,H5,L5,B6,A8,zz24,M7,H0,M6,G0,Option.some.injEq,DV.tup.injEq,jz29,zz30,Int.reduceToNat,yz30,and_true,true_and,beq_self_eq_true,jz30,zz31,not_true_eq_false,not_false_eq_true,M8,J7,J0,A6,L9,K6,A4,B9,D7,G9,O3,O4,K0,F2,F5,I5,I6,F7,F4,F3,F6,K1,K4,O5,O6,K3,K2,K5,F8,F9,E8,E2,J9,G1,C7,E9,L0,C4,I1,K8,K7,E7,P3,C8,B3,A0,L7,H8,E5,L6,H7,yz19,zz27,yz31,jz25,jz31,zz32,jz26,zz21,jz27,zz26,and_self,Nat.reduceLeDiff,jz18,exists_eq_left',yz24,jz21,Nat.reduceBEq,yz22,yz32,G8,A3,N0,Int.reduceLT,Int.reduceLE,Int.reduceEq,P5,Y1,P4,ia_osl,ia_bys,ld_bys,sto_bys, *]) | with_reducible (first | refine C2 (fun h => ?_) fun h => ?_ | refine F1 (fun h => ?_) fun h => ?_ | refine C1 (fun h => ?_) fun h => ?_ | refine F0 (fun h => ?_) fun h => ?_ | refine A2 (fun h => ?_) fun h => ?_ | refine A7 (fun h => ?_) fun h => ?_) | (refine D5 ?_ ?_ ?_; (focus decide +kernel); (focus decide +kernel)))
    · rename_i h65
      have hl : lowB (l.getD i.toNat 0) = l.getD i.toNat 0 + 32 := by unfold lowB; rw [if_pos ⟨by assumption,by assumption⟩]
      refine ⟨(l.length - (i + 1) : Int).toNat,by unfold Hid at e6; omega,i + 1,?_,by omega,by omega,rfl⟩
      unfold sh28
      rw [show (i + 1).toNat = i.toNat + 1 by omega, ← cur_set (by omega),hl]
      rfl
    all_goals
      have hl : lowB (l.getD i.toNat 0) = l.getD i.toNat 0 := by
        unfold lowB; rw [if_neg]; intro hh; first | exact absurd hh.1 (by assumption) | exact absurd hh.2 (by assumption)
      refine ⟨(l.length - (i + 1) : Int).toNat,by unfold Hid at e6; omega,i + 1,?_,by omega,by omega,rfl⟩
      unfold sh28
      rw [show (i + 1).toNat = i.toNat + 1 by omega, ← cur_same (by omega) hl]
      rfl
  · repeat' (first | (simp (maxSteps := 10000000) -implicitDefEqProofs (disch := first | exact tStr | decide | omega | assumption | (simp only [zz20,yz25,yz20]; omega)) only [D3,G6,G4,A9,C9,G3,B4,A1,C6,B2,D4,G5,D6,C5,B1,G7,B7,B8,C0,D8,D9,A5,J8,H9,E0,E1,M2,M3,M5,M4,I3,I4,P2,E4,E6,I0,B5,M1,N8,M9,N2,N3,N4,N5,N6,N7,N1,J2,J3,J4,J5,J6,J1,I8,I7,I9,M0,K9,E3,L1,C3,O1,O2,G2,O9,N9,O0,B0,L8,D2,I2,zz28,yz28,jz28,zz29,yz23,zz23,jz22,yz27,jz19,yz29,zz20,yz25,Nat.reduceAdd,Nat.reduceSub,Nat.reduceLT,Nat.reduceEqDiff,zz22,jz23,if_true,if_false,yz21,decide_true,decide_false,zz25,jz24,reduceIte,List.getElem?_cons_succ,List.getElem?_cons_zero,UInt8.reduceOfNat,fin1,fin2,L2,O7,L3,O8,H3,H6,H4,L4,H5,L5,B6,A8,zz24,M7,H0,M6,G0,Option.some.injEq,DV.tup.injEq,jz29,zz30,Int.reduceToNat,yz30,and_true,true_and,beq_self_eq_true,jz30,zz31,not_true_eq_false,not_false_eq_true,M8,J7,J0,A6,L9,K6,A4,B9,D7,G9,O3,O4,K0,F2,F5,I5,I6,F7,F4,F3,F6,K1,K4,O5,O6,K3,K2,K5,F8,F9,E8,E2,J9,G1,C7,E9,L0,C4,I1,K8,K7,E7,P3,C8,B3,A0,L7,H8,E5,L6,H7,yz19,zz27,yz31,jz25,jz31,zz32,jz26,zz21,jz27,zz26,and_self,Nat.reduceLeDiff,jz18,exists_eq_left',yz24,jz21,Nat.reduceBEq,yz22,yz32,G8,A3,N0,Int.reduceLT,Int.reduceLE,Int.reduceEq,P5,Y1,P4,ia_osl,ia_bys,ld_bys,sto_bys,dop_convBS,cbs_one, *]) | with_reducible (first | refine C2 (fun h => ?_) fun h => ?_ | refine F1 (fun h => ?_) fun h => ?_ | refine C1 (fun h => ?_) fun h => ?_ | refine F0 (fun h => ?_) fun h => ?_ | refine A2 (fun h => ?_) fun h => ?_ | refine A7 (fun h => ?_) fun h => ?_) | (refine D5 ?_ ?_ ?_; (focus decide +kernel); (focus decide +kernel)))
    unfold curL
    rw [List.take_of_length_le (by omega),List.drop_eq_nil_of_le (by omega),jz26]
theorem c28 (h2 : l.length < 2 ^ 60) : R4 Tryd.prog cfgV 28 [strD l] H K = K (strD (l.map lowB)) H := T7 rfl rfl (p28 h2) H K
end Go.Dx
end
section
namespace Go.Dx
open Go Go.Proofs
set_option maxRecDepth 8000
attribute [local congr] Q7 Q6 R2 P8 Q2 Q5 Q3
variable {b : UInt8} {l : List UInt8} {H : Heap} {K : DV → Heap → Prop} {i m : Int}
theorem yz8 : ∀ l : List UInt8,(P7 l).2 ≤ l.length
  | [] => by simp [P7]
  | [a] => by rw [P7]; split <;> simp
  | a :: b :: r => by
    have h1 := yz8 r
    have h2 := yz8 (b :: r)
    rw [P7]
    simp only [zz20] at h2 ⊢
    split
    · simp only; omega
    · split <;> simp only <;> omega
theorem name_fits {l : List UInt8} {i : Int} (h0 : 0 ≤ i) (h1 : i ≤ l.length) : i + (P7 (l.drop i.toNat)).2 ≤ l.length := by
  have := yz8 (l.drop i.toNat)
  rw [jz32] at this; omega
theorem jz4 : ∀ l : List UInt8,(P7 l).1.length ≤ l.length
  | [] => by simp [P7]
  | [a] => by rw [P7]; split <;> simp
  | a :: b :: r => by
    have h1 := jz4 r
    have h2 := jz4 (b :: r)
    rw [P7]
    simp only [zz20] at h2 ⊢
    split
    · simp only [zz20]; omega
    · split <;> simp only [zz20,yz25] <;> omega
def Y9 (l : List UInt8) (n i : Int) : DV :=
  if l.getD i.toNat 0 = 37 then tokD 7 (l.take (i + 1).toNat) [37] n
  else if W9 (l.drop i.toNat) = true then tokD 7 (l.take (i + (P7 (l.drop i.toNat)).2).toNat) ((P7 (l.drop i.toNat)).1.map lowB) n
  else tokD 7 (l.take i.toNat) [] n
theorem p55 (h0 : 0 ≤ i) (h1 : i ≤ l.length) (h2 : l.length < 2 ^ 60) : PE Tryd.prog cfgV 55 [strD l,intD m,intD i] (Y9 l m i) := by
  refine PE.code rfl code55 ?_
  dsimp only [sf55]
  have k1 := name_fits h0 h1
  have k2 : (P7 (l.drop i.toNat)).1.length < 2 ^ 60 := by
    have := jz4 (l.drop i.toNat)
    rw [jz32] at this; omega
  by_cases hp : l.getD i.toNat 0 = 37
  · have k3 : i < l.length := by
      apply Classical.byContradiction
      intro hn
      rw [List.getD_eq_getElem?_getD,List.getElem?_eq_none (by omega)] at hp
      exact absurd hp (by decide)
    repeat' (first | (simp (maxSteps := 10000000) -implicitDefEqProofs (disch := first | exact tStr | decide | omega | assumption | (simp only [zz20,yz25,yz20]; omega)) only [D3,G6,G4,A9,C9,G3,B4,A1,C6,B2,D4,G5,D6,C5,B1,G7,B7,B8,C0,D8,D9,A5,J8,H9,E0,E1,M2,M3,M5,M4,I3,I4,P2,E4,E6,I0,B5,M1,N8,M9,N2,N3,N4,N5,N6,N7,N1,J2,J3,J4,J5,J6,J1,I8,I7,I9,M0,K9,E3,L1,C3,O1,O2,G2,O9,N9,O0,B0,L8,D2,I2,zz28,yz28,jz28,zz29,yz23,zz23,jz22,yz27,jz19,yz29,zz20,yz25,Nat.reduceAdd,Nat.reduceSub,Nat.reduceLT,Nat.reduceEqDiff,zz22,jz23,if_true,if_false,yz21,decide_true,decide_false,zz25,jz24,reduceIte,List.getElem?_cons_succ,List.getElem?_cons_zero,UInt8.reduceOfNat,fin1,fin2,L2,O7,L3,O8,H3,H6,H4,L4,H5,L5,B6,A8,zz24,M7,H0,M6,G0,Option.some.injEq,DV.tup.injEq,jz29,zz30,Int.reduceToNat,yz30,and_true,true_and,beq_self_eq_true,jz30,zz31,not_true_eq_false,not_false_eq_true,M8,J7,J0,A6,L9,K6,A4,B9,D7,G9,O3,O4,K0,F2,F5,I5,I6,F7,F4,F3,F6,K1,K4,O5,O6,K3,K2,K5,F8,F9,E8,E2,J9,G1,C7,E9,L0,C4,I1,K8,K7,E7,P3,C8,B3,A0,L7,H8,E5,L6,H7,yz19,zz27,yz31,jz25,jz31,zz32,jz26,zz21,jz27,zz26,and_self,Nat.reduceLeDiff,jz18,exists_eq_left',yz24,jz21,Nat.reduceBEq,yz22,yz32,G8,A3,N0,Int.reduceLT,Int.reduceLE,Int.reduceEq,c51,c59,c58,c28, *]) | with_reducible (first | refine C2 (fun h => ?_) fun h => ?_ | refine F1 (fun h => ?_) fun h => ?_ | refine C1 (fun h => ?_) fun h => ?_ | refine F0 (fun h => ?_) fun h => ?_ | refine A2 (fun h => ?_) fun h => ?_ | refine A7 (fun h => ?_) fun h => ?_) | (refine D5 ?_ ?_ ?_; (focus decide +kernel); (focus decide +kernel)))
    all_goals simp only [Y9,tokD, *,if_true]
  · by_cases hb : W9 (l.drop i.toNat) = true
    · repeat' (first | (simp (maxSteps := 10000000) -implicitDefEqProofs (disch := first | exact tStr | decide | omega | assumption | (simp only [zz20,yz25,yz20]; omega)) only [D3,G6,G4,A9,C9,G3,B4,A1,C6,B2,D4,G5,D6,C5,B1,G7,B7,B8,C0,D8,D9,A5,J8,H9,E0,E1,M2,M3,M5,M4,I3,I4,P2,E4,E6,I0,B5,M1,N8,M9,N2,N3,N4,N5,N6,N7,N1,J2,J3,J4,J5,J6,J1,I8,I7,I9,M0,K9,E3,L1,C3,O1,O2,G2,O9,N9,O0,B0,L8,D2,I2,zz28,yz28,jz28,zz29,yz23,zz23,jz22,yz27,jz19,yz29,zz20,yz25,Nat.reduceAdd,Nat.reduceSub,Nat.reduceLT,Nat.reduceEqDiff,zz22,jz23,if_true,if_false,yz21,decide_true,decide_false,zz25,jz24,reduceIte,List.getElem?_cons_succ,List.getElem?_cons_zero,UInt8.reduceOfNat,fin1,fin2,L2,O7,L3,O8,H3,H6,H4,L4,H5,L5,B6,A8,zz24,M7,H0,M6,G0,Option.some.injEq,DV.tup.injEq,jz29,zz30,Int.reduceToNat,yz30,and_true,true_and,beq_self_eq_true,jz30,zz31,not_true_eq_false,not_false_eq_true,M8,J7,J0,A6,L9,K6,A4,B9,D7,G9,O3,O4,K0,F2,F5,I5,I6,F7,F4,F3,F6,K1,K4,O5,O6,K3,K2,K5,F8,F9,E8,E2,J9,G1,C7,E9,L0,C4,I1,K8,K7,E7,P3,C8,B3,A0,L7,H8,E5,L6,H7,yz19,zz27,yz31,jz25,jz31,zz32,jz26,zz21,jz27,zz26,and_self,Nat.reduceLeDiff,jz18,exists_eq_left',yz24,jz21,Nat.reduceBEq,yz22,yz32,G8,A3,N0,Int.reduceLT,Int.reduceLE,Int.reduceEq,c51,c59,c58,c28,List.getElem?_cons_zero, *]) | with_reducible (first | refine C2 (fun h => ?_) fun h => ?_ | refine F1 (fun h => ?_) fun h => ?_ | refine C1 (fun h => ?_) fun h => ?_ | refine F0 (fun h => ?_) fun h => ?_ | refine A2 (fun h => ?_) fun h => ?_ | refine A7 (fun h => ?_) fun h => ?_) | (refine D5 ?_ ?_ ?_; (focus decide +kernel); (focus decide +kernel)))
      all_goals simp only [Y9,tokD, *,if_true,if_false]
    · repeat' (first | (simp (maxSteps := 10000000) -implicitDefEqProofs (disch := first | exact tStr | decide | omega | assumption | (simp only [zz20,yz25,yz20]; omega)) only [D3,G6,G4,A9,C9,G3,B4,A1,C6,B2,D4,G5,D6,C5,B1,G7,B7,B8,C0,D8,D9,A5,J8,H9,E0,E1,M2,M3,M5,M4,I3,I4,P2,E4,E6,I0,B5,M1,N8,M9,N2,N3,N4,N5,N6,N7,N1,J2,J3,J4,J5,J6,J1,I8,I7,I9,M0,K9,E3,L1,C3,O1,O2,G2,O9,N9,O0,B0,L8,D2,I2,zz28,yz28,jz28,zz29,yz23,zz23,jz22,yz27,jz19,yz29,zz20,yz25,Nat.reduceAdd,Nat.reduceSub,Nat.reduceLT,Nat.reduceEqDiff,zz22,jz23,if_true,if_false,yz21,decide_true,decide_false,zz25,jz24,reduceIte,List.getElem?_cons_succ,List.getElem?_cons_zero,UInt8.reduceOfNat,fin1,fin2,L2,O7,L3,O8,H3,H6,H4,L4,H5,L5,B6,A8,zz24,M7,H0,M6,G0,Option.some.injEq,DV.tup.injEq,jz29,zz30,Int.reduceToNat,yz30,and_true,true_and,beq_self_eq_true,jz30,zz31,not_true_eq_false,not_false_eq_true,M8,J7,J0,A6,L9,K6,A4,B9,D7,G9,O3,O4,K0,F2,F5,I5,I6,F7,F4,F3,F6,K1,K4,O5,O6,K3,K2,K5,F8,F9,E8,E2,J9,G1,C7,E9,L0,C4,I1,K8,K7,E7,P3,C8,B3,A0,L7,H8,E5,L6,H7,yz19,zz27,yz31,jz25,jz31,zz32,jz26,zz21,jz27,zz26,and_self,Nat.reduceLeDiff,jz18,exists_eq_left',yz24,jz21,Nat.reduceBEq,yz22,yz32,G8,A3,N0,Int.reduceLT,Int.reduceLE,Int.reduceEq,c51,c59,c58,c28, *]) | with_reducible (first | refine C2 (fun h => ?_) fun h => ?_ | refine F1 (fun h => ?_) fun h => ?_ | refine C1 (fun h => ?_) fun h => ?_ | refine F0 (fun h => ?_) fun h => ?_ | refine A2 (fun h => ?_) fun h => ?_ | refine A7 (fun h => ?_) fun h => ?_) | (refine D5 ?_ ?_ ?_; (focus decide +kernel); (focus decide +kernel)))
      all_goals simp only [Y9,tokD, *,if_true,if_false,yz21]
theorem numTok_plain {l : List UInt8} {n i : Int} : plain (Y9 l n i) = true := by
  unfold Y9; split
  · rfl
  · split <;> rfl
theorem c55 (h0 : 0 ≤ i) (h1 : i ≤ l.length) (h2 : l.length < 2 ^ 60) : R4 Tryd.prog cfgV 55 [strD l,intD m,intD i] H K = K (Y9 l m i) H := T7 rfl rfl (p55 h0 h1 h2) H K
end Go.Dx
end
section
namespace Go.Dx
open Go Go.Proofs
set_option maxRecDepth 8000
attribute [local congr] Q7 Q6 R2 P8 Q2 Q5 Q3
variable {b : UInt8} {l : List UInt8} {H : Heap} {K : DV → Heap → Prop} {i m : Int}
def T9 : List UInt8 → Nat
  | [] => 0
  | a :: r => if W2 a then T9 r + 1 else 0
theorem blk_go {l : List UInt8} {i : Int} (h : 0 ≤ i) (h1 : i < l.length) (hd : W2 (l.getD i.toNat 0) = true) : T9 (l.drop i.toNat) = T9 (l.drop (i + 1).toNat) + 1 := by
  rw [T2 h h1,T9,if_pos hd]
theorem blk_end {l : List UInt8} {i : Int} (h : 0 ≤ i) (hd : ¬ (i < l.length ∧ W2 (l.getD i.toNat 0) = true)) : T9 (l.drop i.toNat) = 0 := by
  by_cases h1 : i < l.length
  · rw [T2 h h1,T9,if_neg (fun e => hd ⟨h1,e⟩)]
  · rw [drop_nil h1 h,T9]
def hp27 : Heap := [some (Row.mk 4 [[intD 0,strD [],strD [],intD 0]] 37 0 true)]
def sh27 (l : List UInt8) (i : Int) (x : Nat → DV) : DS := ⟨[strD l,x 1,DV.ptr 0 0 0,x 3,intD i,x 5,x 6,x 7,x 8,x 9,x 10,x 11,x 12,x 13,x 14,x 15,x 16,x 17,x 18,x 19,x 20,x 21,x 22,x 23,x 24,x 25,x 26,x 27,x 28,x 29,x 30,x 31,x 32,x 33,x 34,x 35,x 36,x 37,x 38,x 39,x 40,x 41,x 42,x 43,x 44,x 45,x 46,x 47,x 48,x 49,x 50,x 51,x 52,x 53,x 54,x 55,x 56,x 57,x 58,x 59,x 60,x 61,x 62,x 63,x 64,x 65,x 66,x 67,x 68,x 69,x 70,x 71,x 72,x 73,x 74,x 75,x 76,x 77,x 78,x 79,x 80,x 81,x 82,x 83,x 84,x 85,x 86,x 87,x 88,x 89,x 90,x 91,x 92,x 93,x 94,x 95,x 96,x 97,x 98,x 99,x 100,x 101,x 102,x 103,x 104,x 105,x 106,x 107,x 108,x 109,x 110,x 111,x 112,x 113,x 114,x 115,x 116,x 117,x 118,x 119,x 120,x 121,x 122,x 123,x 124,x 125,x 126,x 127,x 128,x 129,x 130,x 131,x 132,x 133,x 134,x 135,x 136,x 137,x 138,x 139,x 140,x 141,x 142,x 143,x 144,x 145,x 146,x 147,x 148,x 149,x 150,x 151], [some (Row.mk 4 [[intD 0,strD [],strD [],intD 0]] 37 0 true)]⟩
def inv27 (l : List UInt8) (n : Nat) (s : DS) : Prop := ∃ i : Int,s = sh27 l i (fun k => s.sl.getD k P9) ∧ 0 ≤ i ∧ i ≤ l.length ∧ Hid (T9 l = T9 (l.drop i.toNat) + i.toNat) ∧ Hid (n = (l.length - i).toNat)
def post27 (l : List UInt8) (ex : Ex) (s : DS) : Prop := ex = .exit 0 ∧ s = sh27 l (T9 l) (fun k => s.sl.getD k P9) ∧ (T9 l : Int) ≤ l.length
theorem l27_0 (h2 : l.length < 2 ^ 60) {n : Nat} {s : DS} (hI : inv27 l n s) : runW Tryd.prog cfgV (.loop lp27_0) s (post27 l) := by
  refine V3 (inv27 l) ?_ hI
  rintro n s ⟨i,hs,e0,e1,e5,e6⟩
  obtain ⟨x,rfl⟩ : ∃ x,s = sh27 l i x := ⟨_,hs⟩
  clear hs
  dsimp only [lp27_0,sh27]
  by_cases hi : i < l.length
  · by_cases hd : W2 (l.getD i.toNat 0) = true
    · repeat' (first | (simp (maxSteps := 10000000) -implicitDefEqProofs (disch := first | exact tStr | decide | omega | assumption | (simp only [zz20,yz25,yz20]; omega)) only [D3,G6,G4,A9,C9,G3,B4,A1,C6,B2,D4,G5,D6,C5,B1,G7,B7,B8,C0,D8,D9,A5,J8,H9,E0,E1,M2,M3,M5,M4,I3,I4,P2,E4,E6,I0,B5,M1,N8,M9,N2,N3,N4,N5,N6,N7,N1,J2,J3,J4,J5,J6,J1,I8,I7,I9,M0,K9,E3,L1,C3,O1,O2,G2,O9,N9,O0,B0,L8,D2,I2,zz28,yz28,jz28,zz29,yz23,zz23,jz22,yz27,jz19,yz29,zz20,yz25,Nat.reduceAdd,Nat.reduceSub,Nat.reduceLT,Nat.reduceEqDiff,zz22,jz23,if_true,if_false,yz21,decide_true,decide_false,zz25,jz24,reduceIte,List.getElem?_cons_succ,List.getElem?_cons_zero,UInt8.reduceOfNat,fin1,fin2,L2,O7,L3,O8,H3,H6,H4,L4,H5,L5,B6,A8,zz24,M7,H0,M6,G0,Option.some.injEq,DV.tup.injEq,jz29,zz30,Int.reduceToNat,yz30,and_true,true_and,beq_self_eq_true,jz30,zz31,not_true_eq_false,not_false_eq_true,M8,J7,J0,A6,L9,K6,A4,B9,D7,G9,O3,O4,K0,F2,F5,I5,I6,F7,F4,F3,F6,K1,K4,O5,O6,K3,K2,K5,F8,F9,E8,E2,J9,G1,C7,E9,L0,C4,I1,K8,K7,E7,P3,C8,B3,A0,L7,H8,E5,L6,H7,yz19,zz27,yz31,jz25,jz31,zz32,jz26,zz21,jz27,zz26,and_self,Nat.reduceLeDiff,jz18,exists_eq_left',yz24,jz21,Nat.reduceBEq,yz22,yz32,G8,A3,N0,Int.reduceLT,Int.reduceLE,Int.reduceEq,c50, *]) | with_reducible (first | refine C2 (fun h => ?_) fun h => ?_ | refine F1 (fun h => ?_) fun h => ?_ | refine C1 (fun h => ?_) fun h => ?_ | refine F0 (fun h => ?_) fun h => ?_ | refine A2 (fun h => ?_) fun h => ?_ | refine A7 (fun h => ?_) fun h => ?_) | (refine D5 ?_ ?_ ?_; (focus decide +kernel); (focus decide +kernel)))
      have f := blk_go e0 hi hd
      unfold Hid at e5 e6
      refine ⟨(l.length - (i + 1) : Int).toNat,by omega,i + 1,rfl,by omega,by omega,?_,rfl⟩
      unfold Hid; omega
    · have hd' := zz33 _ ▸ hd
      repeat' (first | (simp (maxSteps := 10000000) -implicitDefEqProofs (disch := first | exact tStr | decide | omega | assumption | (simp only [zz20,yz25,yz20]; omega)) only [D3,G6,G4,A9,C9,G3,B4,A1,C6,B2,D4,G5,D6,C5,B1,G7,B7,B8,C0,D8,D9,A5,J8,H9,E0,E1,M2,M3,M5,M4,I3,I4,P2,E4,E6,I0,B5,M1,N8,M9,N2,N3,N4,N5,N6,N7,N1,J2,J3,J4,J5,J6,J1,I8,I7,I9,M0,K9,E3,L1,C3,O1,O2,G2,O9,N9,O0,B0,L8,D2,I2,zz28,yz28,jz28,zz29,yz23,zz23,jz22,yz27,jz19,yz29,zz20,yz25,Nat.reduceAdd,Nat.reduceSub,Nat.reduceLT,Nat.reduceEqDiff,zz22,jz23,if_true,if_false,yz21,decide_true,decide_false,zz25,jz24,reduceIte,List.getElem?_cons_succ,List.getElem?_cons_zero,UInt8.reduceOfNat,fin1,fin2,L2,O7,L3,O8,H3,H6,H4,L4,H5,L5,B6,A8,zz24,M7,H0,M6,G0,Option.some.injEq,DV.tup.injEq,jz29,zz30,Int.reduceToNat,yz30,and_true,true_and,beq_self_eq_true,jz30,zz31,not_true_eq_false,not_false_eq_true,M8,J7,J0,A6,L9,K6,A4,B9,D7,G9,O3,O4,K0,F2,F5,I5,I6,F7,F4,F3,F6,K1,K4,O5,O6,K3,K2,K5,F8,F9,E8,E2,J9,G1,C7,E9,L0,C4,I1,K8,K7,E7,P3,C8,B3,A0,L7,H8,E5,L6,H7,yz19,zz27,yz31,jz25,jz31,zz32,jz26,zz21,jz27,zz26,and_self,Nat.reduceLeDiff,jz18,exists_eq_left',yz24,jz21,Nat.reduceBEq,yz22,yz32,G8,A3,N0,Int.reduceLT,Int.reduceLE,Int.reduceEq,c50, *]) | with_reducible (first | refine C2 (fun h => ?_) fun h => ?_ | refine F1 (fun h => ?_) fun h => ?_ | refine C1 (fun h => ?_) fun h => ?_ | refine F0 (fun h => ?_) fun h => ?_ | refine A2 (fun h => ?_) fun h => ?_ | refine A7 (fun h => ?_) fun h => ?_) | (refine D5 ?_ ?_ ?_; (focus decide +kernel); (focus decide +kernel)))
      have f := blk_end e0 (fun h => hd h.2)
      unfold Hid at e5
      have hp : (T9 l : Int) = i := by omega
      unfold post27
      rw [hp]
      exact ⟨rfl,rfl,by omega⟩
  · repeat' (first | (simp (maxSteps := 10000000) -implicitDefEqProofs (disch := first | exact tStr | decide | omega | assumption | (simp only [zz20,yz25,yz20]; omega)) only [D3,G6,G4,A9,C9,G3,B4,A1,C6,B2,D4,G5,D6,C5,B1,G7,B7,B8,C0,D8,D9,A5,J8,H9,E0,E1,M2,M3,M5,M4,I3,I4,P2,E4,E6,I0,B5,M1,N8,M9,N2,N3,N4,N5,N6,N7,N1,J2,J3,J4,J5,J6,J1,I8,I7,I9,M0,K9,E3,L1,C3,O1,O2,G2,O9,N9,O0,B0,L8,D2,I2,zz28,yz28,jz28,zz29,yz23,zz23,jz22,yz27,jz19,yz29,zz20,yz25,Nat.reduceAdd,Nat.reduceSub,Nat.reduceLT,Nat.reduceEqDiff,zz22,jz23,if_true,if_false,yz21,decide_true,decide_false,zz25,jz24,reduceIte,List.getElem?_cons_succ,List.getElem?_cons_zero,UInt8.reduceOfNat,fin1,fin2,L2,O7,L3,O8,H3,H6,H4,L4,H5,L5,B6,A8,zz24,M7,H0,M6,G0,Option.some.injEq,DV.tup.injEq,jz29,zz30,Int.reduceToNat,yz30,and_true,true_and,beq_self_eq_true,jz30,zz31,not_true_eq_false,not_false_eq_true,M8,J7,J0,A6,L9,K6,A4,B9,D7,G9,O3,O4,K0,F2,F5,I5,I6,F7,F4,F3,F6,K1,K4,O5,O6,K3,K2,K5,F8,F9,E8,E2,J9,G1,C7,E9,L0,C4,I1,K8,K7,E7,P3,C8,B3,A0,L7,H8,E5,L6,H7,yz19,zz27,yz31,jz25,jz31,zz32,jz26,zz21,jz27,zz26,and_self,Nat.reduceLeDiff,jz18,exists_eq_left',yz24,jz21,Nat.reduceBEq,yz22,yz32,G8,A3,N0,Int.reduceLT,Int.reduceLE,Int.reduceEq,c50, *]) | with_reducible (first | refine C2 (fun h => ?_) fun h => ?_ | refine F1 (fun h => ?_) fun h => ?_ | refine C1 (fun h => ?_) fun h => ?_ | refine F0 (fun h => ?_) fun h => ?_ | refine A2 (fun h => ?_) fun h => ?_ | refine A7 (fun h => ?_) fun h => ?_) | (refine D5 ?_ ?_ ?_; (focus decide +kernel); (focus decide +kernel)))
    have f := blk_end e0 (fun h => hi h.1)
    unfold Hid at e5
    have hp : (T9 l : Int) = i := by omega
    unfold post27
    rw [hp]
    exact ⟨rfl,rfl,by omega⟩
end Go.Dx
end
section
namespace Go.Dx
open Go Go.Proofs
set_option maxRecDepth 8000
attribute [local congr] Q7 Q6 R2 P8 Q2 Q5 Q3
variable {b : UInt8} {l : List UInt8} {H : Heap} {K : DV → Heap → Prop} {i m : Int}
theorem whole_fits (l : List UInt8) (h : 0 < (T4 l).2) : R9 l ≤ l.length := by
  have hs : 0 ≤ P6 l ∧ P6 l ≤ 1 := by unfold P6; split <;> omega
  have h1 := digRun_len (l.drop (P6 l).toNat) 0
  unfold R9
  unfold T4 at h ⊢
  rw [jz32] at h1; omega
theorem frac_fits (l : List UInt8) (h : hasFrac l = true) : 0 ≤ R9 l ∧ R9 l + 1 + (X7 l).2 ≤ l.length := by
  have hs : 0 ≤ P6 l ∧ P6 l ≤ 1 := by unfold P6; split <;> omega
  unfold hasFrac at h
  simp only [zz19,decide_eq_true_eq] at h
  have h0 : 0 ≤ R9 l := by unfold R9; omega
  have h1 := fracRun_len (l.drop (R9 l + 1).toNat) (cap (1000 * (T4 l).1)) 100
  refine ⟨h0,?_⟩
  unfold X7
  rw [jz32] at h1; omega
theorem num_fits (l : List UInt8) : 0 ≤ (W1 l).2 ∧ (W1 l).2 ≤ l.length := by
  have hs : 0 ≤ P6 l ∧ P6 l ≤ 1 := by unfold P6; split <;> omega
  have h0 : 0 ≤ R9 l := by unfold R9; omega
  unfold W1
  by_cases hf : hasFrac l = true
  · have := frac_fits l hf
    simp only [hf,if_true]
    split <;> simp only <;> omega
  · simp only [hf,if_false,yz21]
    by_cases hw : ((T4 l).2 : Int) = 0
    · rw [if_pos hw]; simp only; omega
    · have := whole_fits l (by omega)
      rw [if_neg hw]; simp only; omega
def zz7 (c : UInt8) : Int := if c = 92 then 6 else if c = 41 ∨ c = 93 ∨ c = 125 then 11 else if c = 40 ∨ c = 91 ∨ c = 123 then 10 else 12
def R0 (l : List UInt8) : DV :=
  if W2 (l.getD 0 0) = true then tokD 8 (l.take (T9 l)) [] 0
  else if l.getD 0 0 = 47 ∧ l.getD 1 0 = 42 then tokD 9 (l.take (yz4 l)) [] 0
  else if l.getD 0 0 = 39 ∨ l.getD 0 0 = 34 then W5 l
  else if 0 < (W1 l).2 then Y9 l (W1 l).1 (W1 l).2
  else if l.getD 0 0 = 35 ∧ (X6 (l.getD 1 0) = true ∧ 1 < (l.length : Int) ∨ Y3 (l.drop 1) = true) then tokD 4 (l.take (1 + ((P7 (l.drop 1)).2 : Int)).toNat) (P7 (l.drop 1)).1 0
  else if l.getD 0 0 = 64 ∧ W9 (l.drop 1) = true then tokD 3 (l.take (1 + ((P7 (l.drop 1)).2 : Int)).toNat) (P7 (l.drop 1)).1 0
  else if W9 l = true then (if l.getD (P7 l).2 0 = 40 then tokD 2 (l.take (((P7 l).2 : Int) + 1).toNat) (P7 l).1 0 else tokD 1 (l.take (P7 l).2) (P7 l).1 0)
  else tokD (zz7 (l.getD 0 0)) (l.take 1) [] 0
set_option maxHeartbeats 1000000 in
theorem p27_blank (h1 : 0 < l.length) (h2 : l.length < 2 ^ 60) (hb : W2 (l.getD 0 0) = true) : PE Tryd.prog cfgV 27 [strD l] (R0 l) := by
  refine PE.code rfl code27 ?_
  dsimp only [sf27]
  have k1 : 0 < (l.length : Int) := by omega
  repeat' (first | (simp (maxSteps := 10000000) -implicitDefEqProofs (disch := first | exact tStr | decide | omega | assumption | (simp only [zz20,yz25,yz20]; omega)) only [D3,G6,G4,A9,C9,G3,B4,A1,C6,B2,D4,G5,D6,C5,B1,G7,B7,B8,C0,D8,D9,A5,J8,H9,E0,E1,M2,M3,M5,M4,I3,I4,P2,E4,E6,I0,B5,M1,N8,M9,N2,N3,N4,N5,N6,N7,N1,J2,J3,J4,J5,J6,J1,I8,I7,I9,M0,K9,E3,L1,C3,O1,O2,G2,O9,N9,O0,B0,L8,D2,I2,zz28,yz28,jz28,zz29,yz23,zz23,jz22,yz27,jz19,yz29,zz20,yz25,Nat.reduceAdd,Nat.reduceSub,Nat.reduceLT,Nat.reduceEqDiff,zz22,jz23,if_true,if_false,yz21,decide_true,decide_false,zz25,jz24,reduceIte,List.getElem?_cons_succ,List.getElem?_cons_zero,UInt8.reduceOfNat,fin1,fin2,L2,O7,L3,O8,H3,H6,H4,L4,H5,L5,B6,A8,zz24,M7,H0,M6,G0,Option.some.injEq,DV.tup.injEq,jz29,zz30,Int.reduceToNat,yz30,and_true,true_and,beq_self_eq_true,jz30,zz31,not_true_eq_false,not_false_eq_true,M8,J7,J0,A6,L9,K6,A4,B9,D7,G9,O3,O4,K0,F2,F5,I5,I6,F7,F4,F3,F6,K1,K4,O5,O6,K3,K2,K5,F8,F9,E8,E2,J9,G1,C7,E9,L0,C4,I1,K8,K7,E7,P3,C8,B3,A0,L7,H8,E5,L6,H7,yz19,zz27,yz31,jz25,jz31,zz32,jz26,zz21,jz27,zz26,and_self,Nat.reduceLeDiff,jz18,exists_eq_left',yz24,jz21,Nat.reduceBEq,yz22,yz32,G8,A3,N0,Int.reduceLT,Int.reduceLE,Int.reduceEq,c50, *]) | with_reducible (first | refine C2 (fun h => ?_) fun h => ?_ | refine F1 (fun h => ?_) fun h => ?_ | refine C1 (fun h => ?_) fun h => ?_ | refine F0 (fun h => ?_) fun h => ?_ | refine A2 (fun h => ?_) fun h => ?_ | refine A7 (fun h => ?_) fun h => ?_) | (refine D5 ?_ ?_ ?_; (focus decide +kernel); (focus decide +kernel)))
  refine zz2 (l27_0 h2 (n := (l.length - 0 : Int).toNat) ⟨0,rfl,by omega,by omega,by simp [Hid],rfl⟩) ?_
  rintro ex s ⟨rfl,hs',b0⟩
  obtain ⟨x,rfl⟩ : ∃ x,s = sh27 l (T9 l) x := ⟨_,hs'⟩
  clear hs'
  dsimp only [sh27]
  repeat' (first | (simp (maxSteps := 10000000) -implicitDefEqProofs (disch := first | exact tStr | decide | omega | assumption | (simp only [zz20,yz25,yz20]; omega)) only [D3,G6,G4,A9,C9,G3,B4,A1,C6,B2,D4,G5,D6,C5,B1,G7,B7,B8,C0,D8,D9,A5,J8,H9,E0,E1,M2,M3,M5,M4,I3,I4,P2,E4,E6,I0,B5,M1,N8,M9,N2,N3,N4,N5,N6,N7,N1,J2,J3,J4,J5,J6,J1,I8,I7,I9,M0,K9,E3,L1,C3,O1,O2,G2,O9,N9,O0,B0,L8,D2,I2,zz28,yz28,jz28,zz29,yz23,zz23,jz22,yz27,jz19,yz29,zz20,yz25,Nat.reduceAdd,Nat.reduceSub,Nat.reduceLT,Nat.reduceEqDiff,zz22,jz23,if_true,if_false,yz21,decide_true,decide_false,zz25,jz24,reduceIte,List.getElem?_cons_succ,List.getElem?_cons_zero,UInt8.reduceOfNat,fin1,fin2,L2,O7,L3,O8,H3,H6,H4,L4,H5,L5,B6,A8,zz24,M7,H0,M6,G0,Option.some.injEq,DV.tup.injEq,jz29,zz30,Int.reduceToNat,yz30,and_true,true_and,beq_self_eq_true,jz30,zz31,not_true_eq_false,not_false_eq_true,M8,J7,J0,A6,L9,K6,A4,B9,D7,G9,O3,O4,K0,F2,F5,I5,I6,F7,F4,F3,F6,K1,K4,O5,O6,K3,K2,K5,F8,F9,E8,E2,J9,G1,C7,E9,L0,C4,I1,K8,K7,E7,P3,C8,B3,A0,L7,H8,E5,L6,H7,yz19,zz27,yz31,jz25,jz31,zz32,jz26,zz21,jz27,zz26,and_self,Nat.reduceLeDiff,jz18,exists_eq_left',yz24,jz21,Nat.reduceBEq,yz22,yz32,G8,A3,N0,Int.reduceLT,Int.reduceLE,Int.reduceEq,c50, *]) | with_reducible (first | refine C2 (fun h => ?_) fun h => ?_ | refine F1 (fun h => ?_) fun h => ?_ | refine C1 (fun h => ?_) fun h => ?_ | refine F0 (fun h => ?_) fun h => ?_ | refine A2 (fun h => ?_) fun h => ?_ | refine A7 (fun h => ?_) fun h => ?_) | (refine D5 ?_ ?_ ?_; (focus decide +kernel); (focus decide +kernel)))
  all_goals simp only [R0,hb,if_true,tokD,yz26]
set_option maxHeartbeats 1000000 in
theorem p27_note (h1 : 0 < l.length) (h2 : l.length < 2 ^ 60) (hc : l.getD 0 0 = 47) (hd : l.getD 1 0 = 42) : PE Tryd.prog cfgV 27 [strD l] (R0 l) := by
  refine PE.code rfl code27 ?_
  dsimp only [sf27]
  have k1 : 0 < (l.length : Int) := by omega
  have q : W2 47 = false := by decide
  repeat' (first | (simp (maxSteps := 10000000) -implicitDefEqProofs (disch := first | exact tStr | decide | omega | assumption | (simp only [zz20,yz25,yz20]; omega)) only [D3,G6,G4,A9,C9,G3,B4,A1,C6,B2,D4,G5,D6,C5,B1,G7,B7,B8,C0,D8,D9,A5,J8,H9,E0,E1,M2,M3,M5,M4,I3,I4,P2,E4,E6,I0,B5,M1,N8,M9,N2,N3,N4,N5,N6,N7,N1,J2,J3,J4,J5,J6,J1,I8,I7,I9,M0,K9,E3,L1,C3,O1,O2,G2,O9,N9,O0,B0,L8,D2,I2,zz28,yz28,jz28,zz29,yz23,zz23,jz22,yz27,jz19,yz29,zz20,yz25,Nat.reduceAdd,Nat.reduceSub,Nat.reduceLT,Nat.reduceEqDiff,zz22,jz23,if_true,if_false,yz21,decide_true,decide_false,zz25,jz24,reduceIte,List.getElem?_cons_succ,List.getElem?_cons_zero,UInt8.reduceOfNat,fin1,fin2,L2,O7,L3,O8,H3,H6,H4,L4,H5,L5,B6,A8,zz24,M7,H0,M6,G0,Option.some.injEq,DV.tup.injEq,jz29,zz30,Int.reduceToNat,yz30,and_true,true_and,beq_self_eq_true,jz30,zz31,not_true_eq_false,not_false_eq_true,M8,J7,J0,A6,L9,K6,A4,B9,D7,G9,O3,O4,K0,F2,F5,I5,I6,F7,F4,F3,F6,K1,K4,O5,O6,K3,K2,K5,F8,F9,E8,E2,J9,G1,C7,E9,L0,C4,I1,K8,K7,E7,P3,C8,B3,A0,L7,H8,E5,L6,H7,yz19,zz27,yz31,jz25,jz31,zz32,jz26,zz21,jz27,zz26,and_self,Nat.reduceLeDiff,jz18,exists_eq_left',yz24,jz21,Nat.reduceBEq,yz22,yz32,G8,A3,N0,Int.reduceLT,Int.reduceLE,Int.reduceEq,c50,c51,c52,tokD, *]) | with_reducible (first | refine C2 (fun h => ?_) fun h => ?_ | refine F1 (fun h => ?_) fun h => ?_ | refine C1 (fun h => ?_) fun h => ?_ | refine F0 (fun h => ?_) fun h => ?_ | refine A2 (fun h => ?_) fun h => ?_ | refine A7 (fun h => ?_) fun h => ?_) | (refine D5 ?_ ?_ ?_; (focus decide +kernel); (focus decide +kernel)))
  all_goals simp only [R0, *,if_true,if_false,yz21,and_self,tokD]
theorem textTok_is (l : List UInt8) : ∃ k r v n,W5 l = .agg [intD k,strD r,strD v,intD n] := by
  unfold W5 tokD; split <;> exact ⟨_,_,_,_,rfl⟩
theorem numTok_is (l : List UInt8) (m i : Int) : ∃ k r v n,Y9 l m i = .agg [intD k,strD r,strD v,intD n] := by
  unfold Y9 tokD; split
  · exact ⟨_,_,_,_,rfl⟩
  · split <;> exact ⟨_,_,_,_,rfl⟩
set_option maxHeartbeats 1000000 in
theorem p27_text (h1 : 0 < l.length) (h2 : l.length < 2 ^ 60) (hc : l.getD 0 0 = 39 ∨ l.getD 0 0 = 34) : PE Tryd.prog cfgV 27 [strD l] (R0 l) := by
  refine PE.code rfl code27 ?_
  dsimp only [sf27]
  have k1 : 0 < (l.length : Int) := by omega
  have q1 : W2 39 = false := by decide
  have q2 : W2 34 = false := by decide
  have q3 : ¬ (39 : UInt8) = 47 := by decide
  have q4 : ¬ (34 : UInt8) = 47 := by decide
  have q5 : ¬ (34 : UInt8) = 39 := by decide
  obtain ⟨k,r,v,n,ht⟩ := textTok_is l
  have ht' : R0 l = W5 l := by
    unfold R0
    rcases hc with hc | hc <;> simp only [hc,q1,q2,q3,q4,q5,yz21,if_false,if_true,false_and,true_or,or_true]
  rw [ht',ht]
  rcases hc with hc | hc
  · repeat' (first | (simp (maxSteps := 10000000) -implicitDefEqProofs (disch := first | exact tStr | decide | omega | assumption | (simp only [zz20,yz25,yz20]; omega)) only [D3,G6,G4,A9,C9,G3,B4,A1,C6,B2,D4,G5,D6,C5,B1,G7,B7,B8,C0,D8,D9,A5,J8,H9,E0,E1,M2,M3,M5,M4,I3,I4,P2,E4,E6,I0,B5,M1,N8,M9,N2,N3,N4,N5,N6,N7,N1,J2,J3,J4,J5,J6,J1,I8,I7,I9,M0,K9,E3,L1,C3,O1,O2,G2,O9,N9,O0,B0,L8,D2,I2,zz28,yz28,jz28,zz29,yz23,zz23,jz22,yz27,jz19,yz29,zz20,yz25,Nat.reduceAdd,Nat.reduceSub,Nat.reduceLT,Nat.reduceEqDiff,zz22,jz23,if_true,if_false,yz21,decide_true,decide_false,zz25,jz24,reduceIte,List.getElem?_cons_succ,List.getElem?_cons_zero,UInt8.reduceOfNat,fin1,fin2,L2,O7,L3,O8,H3,H6,H4,L4,H5,L5,B6,A8,zz24,M7,H0,M6,G0,Option.some.injEq,DV.tup.injEq,jz29,zz30,Int.reduceToNat,yz30,and_true,true_and,beq_self_eq_true,jz30,zz31,not_true_eq_false,not_false_eq_true,M8,J7,J0,A6,L9,K6,A4,B9,D7,G9,O3,O4,K0,F2,F5,I5,I6,F7,F4,F3,F6,K1,K4,O5,O6,K3,K2,K5,F8,F9,E8,E2,J9,G1,C7,E9,L0,C4,I1,K8,K7,E7,P3,C8,B3,A0,L7,H8,E5,L6,H7,yz19,zz27,yz31,jz25,jz31,zz32,jz26,zz21,jz27,zz26,and_self,Nat.reduceLeDiff,jz18,exists_eq_left',yz24,jz21,Nat.reduceBEq,yz22,yz32,G8,A3,N0,Int.reduceLT,Int.reduceLE,Int.reduceEq,c50,c51,c53, *]) | with_reducible (first | refine C2 (fun h => ?_) fun h => ?_ | refine F1 (fun h => ?_) fun h => ?_ | refine C1 (fun h => ?_) fun h => ?_ | refine F0 (fun h => ?_) fun h => ?_ | refine A2 (fun h => ?_) fun h => ?_ | refine A7 (fun h => ?_) fun h => ?_) | (refine D5 ?_ ?_ ?_; (focus decide +kernel); (focus decide +kernel)))
  · repeat' (first | (simp (maxSteps := 10000000) -implicitDefEqProofs (disch := first | exact tStr | decide | omega | assumption | (simp only [zz20,yz25,yz20]; omega)) only [D3,G6,G4,A9,C9,G3,B4,A1,C6,B2,D4,G5,D6,C5,B1,G7,B7,B8,C0,D8,D9,A5,J8,H9,E0,E1,M2,M3,M5,M4,I3,I4,P2,E4,E6,I0,B5,M1,N8,M9,N2,N3,N4,N5,N6,N7,N1,J2,J3,J4,J5,J6,J1,I8,I7,I9,M0,K9,E3,L1,C3,O1,O2,G2,O9,N9,O0,B0,L8,D2,I2,zz28,yz28,jz28,zz29,yz23,zz23,jz22,yz27,jz19,yz29,zz20,yz25,Nat.reduceAdd,Nat.reduceSub,Nat.reduceLT,Nat.reduceEqDiff,zz22,jz23,if_true,if_false,yz21,decide_true,decide_false,zz25,jz24,reduceIte,List.getElem?_cons_succ,List.getElem?_cons_zero,UInt8.reduceOfNat,fin1,fin2,L2,O7,L3,O8,H3,H6,H4,L4,H5,L5,B6,A8,zz24,M7,H0,M6,G0,Option.some.injEq,DV.tup.injEq,jz29,zz30,Int.reduceToNat,yz30,and_true,true_and,beq_self_eq_true,jz30,zz31,not_true_eq_false,not_false_eq_true,M8,J7,J0,A6,L9,K6,A4,B9,D7,G9,O3,O4,K0,F2,F5,I5,I6,F7,F4,F3,F6,K1,K4,O5,O6,K3,K2,K5,F8,F9,E8,E2,J9,G1,C7,E9,L0,C4,I1,K8,K7,E7,P3,C8,B3,A0,L7,H8,E5,L6,H7,yz19,zz27,yz31,jz25,jz31,zz32,jz26,zz21,jz27,zz26,and_self,Nat.reduceLeDiff,jz18,exists_eq_left',yz24,jz21,Nat.reduceBEq,yz22,yz32,G8,A3,N0,Int.reduceLT,Int.reduceLE,Int.reduceEq,c50,c51,c53, *]) | with_reducible (first | refine C2 (fun h => ?_) fun h => ?_ | refine F1 (fun h => ?_) fun h => ?_ | refine C1 (fun h => ?_) fun h => ?_ | refine F0 (fun h => ?_) fun h => ?_ | refine A2 (fun h => ?_) fun h => ?_ | refine A7 (fun h => ?_) fun h => ?_) | (refine D5 ?_ ?_ ?_; (focus decide +kernel); (focus decide +kernel)))
set_option maxHeartbeats 1000000 in
theorem p27_num (h1 : 0 < l.length) (h2 : l.length < 2 ^ 60) (hb : W2 (l.getD 0 0) = false) (hn : ¬ (l.getD 0 0 = 47 ∧ l.getD 1 0 = 42)) (ht : ¬ l.getD 0 0 = 39) (hu : ¬ l.getD 0 0 = 34) (hm : 0 < (W1 l).2) : PE Tryd.prog cfgV 27 [strD l] (R0 l) := by
  refine PE.code rfl code27 ?_
  dsimp only [sf27]
  have k1 : 0 < (l.length : Int) := by omega
  have k2 := num_fits l
  obtain ⟨k,r,v,n,hk⟩ := numTok_is l (W1 l).1 (W1 l).2
  have ht' : R0 l = Y9 l (W1 l).1 (W1 l).2 := by
    unfold R0
    rw [hb]
    simp only [yz21,if_false]
    rw [if_neg hn,if_neg (fun h => h.elim ht hu),if_pos hm]
  rw [ht',hk]
  have q1 : W2 47 = false := by decide
  have q3 : ¬ (47 : UInt8) = 39 := by decide
  have q4 : ¬ (47 : UInt8) = 34 := by decide
  repeat' (first | (simp (maxSteps := 10000000) -implicitDefEqProofs (disch := first | exact tStr | decide | omega | assumption | (simp only [zz20,yz25,yz20]; omega)) only [D3,G6,G4,A9,C9,G3,B4,A1,C6,B2,D4,G5,D6,C5,B1,G7,B7,B8,C0,D8,D9,A5,J8,H9,E0,E1,M2,M3,M5,M4,I3,I4,P2,E4,E6,I0,B5,M1,N8,M9,N2,N3,N4,N5,N6,N7,N1,J2,J3,J4,J5,J6,J1,I8,I7,I9,M0,K9,E3,L1,C3,O1,O2,G2,O9,N9,O0,B0,L8,D2,I2,zz28,yz28,jz28,zz29,yz23,zz23,jz22,yz27,jz19,yz29,zz20,yz25,Nat.reduceAdd,Nat.reduceSub,Nat.reduceLT,Nat.reduceEqDiff,zz22,jz23,if_true,if_false,yz21,decide_true,decide_false,zz25,jz24,reduceIte,List.getElem?_cons_succ,List.getElem?_cons_zero,UInt8.reduceOfNat,fin1,fin2,L2,O7,L3,O8,H3,H6,H4,L4,H5,L5,B6,A8,zz24,M7,H0,M6,G0,Option.some.injEq,DV.tup.injEq,jz29,zz30,Int.reduceToNat,yz30,and_true,true_and,beq_self_eq_true,jz30,zz31,not_true_eq_false,not_false_eq_true,M8,J7,J0,A6,L9,K6,A4,B9,D7,G9,O3,O4,K0,F2,F5,I5,I6,F7,F4,F3,F6,K1,K4,O5,O6,K3,K2,K5,F8,F9,E8,E2,J9,G1,C7,E9,L0,C4,I1,K8,K7,E7,P3,C8,B3,A0,L7,H8,E5,L6,H7,yz19,zz27,yz31,jz25,jz31,zz32,jz26,zz21,jz27,zz26,and_self,Nat.reduceLeDiff,jz18,exists_eq_left',yz24,jz21,Nat.reduceBEq,yz22,yz32,G8,A3,N0,Int.reduceLT,Int.reduceLE,Int.reduceEq,c50,c51,c54,c55,List.getElem?_cons_zero, *]) | with_reducible (first | refine C2 (fun h => ?_) fun h => ?_ | refine F1 (fun h => ?_) fun h => ?_ | refine C1 (fun h => ?_) fun h => ?_ | refine F0 (fun h => ?_) fun h => ?_ | refine A2 (fun h => ?_) fun h => ?_ | refine A7 (fun h => ?_) fun h => ?_) | (refine D5 ?_ ?_ ?_; (focus decide +kernel); (focus decide +kernel)))
  all_goals exact absurd ⟨by assumption,by assumption⟩ hn
end Go.Dx
end
section
namespace Go.Dx
open Go Go.Proofs
set_option maxRecDepth 8000
attribute [local congr] Q7 Q6 R2 P8 Q2 Q5 Q3
variable {b : UInt8} {l : List UInt8} {H : Heap} {K : DV → Heap → Prop} {i m : Int}
set_option maxHeartbeats 1000000 in
theorem p27_hash (h1 : 0 < l.length) (h2 : l.length < 2 ^ 60) (hm : ¬ 0 < (W1 l).2) (hc : l.getD 0 0 = 35)
    (hh : X6 (l.getD 1 0) = true ∧ 1 < (l.length : Int) ∨ Y3 (l.drop 1) = true) : PE Tryd.prog cfgV 27 [strD l] (R0 l) := by
  refine PE.code rfl code27 ?_
  dsimp only [sf27]
  have k1 : 0 < (l.length : Int) := by omega
  have k2 : 1 ≤ (l.length : Int) := by omega
  have k3 := name_fits (l := l) (i := 1) (by omega) k2
  have q1 : W2 35 = false := by decide
  have q2 : ¬ (35 : UInt8) = 47 := by decide
  have q3 : ¬ (35 : UInt8) = 39 := by decide
  have q4 : ¬ (35 : UInt8) = 34 := by decide
  have ht' : R0 l = tokD 4 (l.take (1 + ((P7 (l.drop 1)).2 : Int)).toNat) (P7 (l.drop 1)).1 0 := by
    unfold R0
    rw [hc,q1]
    simp only [yz21,if_false]
    rw [if_neg (fun h => q2 h.1),if_neg (fun h => h.elim q3 q4),if_neg hm,if_pos ⟨True.intro,hh⟩]
  rw [ht']
  have k3 : 1 + ((P7 (l.drop 1)).2 : Int) ≤ l.length := k3
  by_cases hn : X6 (l.getD 1 0) = true
  · by_cases hl : 1 < (l.length : Int)
    · repeat' (first | (simp (maxSteps := 10000000) -implicitDefEqProofs (disch := first | exact tStr | decide | omega | assumption | (simp only [zz20,yz25,yz20]; omega)) only [D3,G6,G4,A9,C9,G3,B4,A1,C6,B2,D4,G5,D6,C5,B1,G7,B7,B8,C0,D8,D9,A5,J8,H9,E0,E1,M2,M3,M5,M4,I3,I4,P2,E4,E6,I0,B5,M1,N8,M9,N2,N3,N4,N5,N6,N7,N1,J2,J3,J4,J5,J6,J1,I8,I7,I9,M0,K9,E3,L1,C3,O1,O2,G2,O9,N9,O0,B0,L8,D2,I2,zz28,yz28,jz28,zz29,yz23,zz23,jz22,yz27,jz19,yz29,zz20,yz25,Nat.reduceAdd,Nat.reduceSub,Nat.reduceLT,Nat.reduceEqDiff,zz22,jz23,if_true,if_false,yz21,decide_true,decide_false,zz25,jz24,reduceIte,List.getElem?_cons_succ,List.getElem?_cons_zero,UInt8.reduceOfNat,fin1,fin2,L2,O7,L3,O8,H3,H6,H4,L4,H5,L5,B6,A8,zz24,M7,H0,M6,G0,Option.some.injEq,DV.tup.injEq,jz29,zz30,Int.reduceToNat,yz30,and_true,true_and,beq_self_eq_true,jz30,zz31,not_true_eq_false,not_false_eq_true,M8,J7,J0,A6,L9,K6,A4,B9,D7,G9,O3,O4,K0,F2,F5,I5,I6,F7,F4,F3,F6,K1,K4,O5,O6,K3,K2,K5,F8,F9,E8,E2,J9,G1,C7,E9,L0,C4,I1,K8,K7,E7,P3,C8,B3,A0,L7,H8,E5,L6,H7,yz19,zz27,yz31,jz25,jz31,zz32,jz26,zz21,jz27,zz26,and_self,Nat.reduceLeDiff,jz18,exists_eq_left',yz24,jz21,Nat.reduceBEq,yz22,yz32,G8,A3,N0,Int.reduceLT,Int.reduceLE,Int.reduceEq,c50,c51,c54,c56,c57,c58,tokD,List.getElem?_cons_zero, *]) | with_reducible (first | refine C2 (fun h => ?_) fun h => ?_ | refine F1 (fun h => ?_) fun h => ?_ | refine C1 (fun h => ?_) fun h => ?_ | refine F0 (fun h => ?_) fun h => ?_ | refine A2 (fun h => ?_) fun h => ?_ | refine A7 (fun h => ?_) fun h => ?_) | (refine D5 ?_ ?_ ?_; (focus decide +kernel); (focus decide +kernel)))
    · have he : Y3 (l.drop 1) = true := hh.elim (fun h => absurd h.2 hl) id
      repeat' (first | (simp (maxSteps := 10000000) -implicitDefEqProofs (disch := first | exact tStr | decide | omega | assumption | (simp only [zz20,yz25,yz20]; omega)) only [D3,G6,G4,A9,C9,G3,B4,A1,C6,B2,D4,G5,D6,C5,B1,G7,B7,B8,C0,D8,D9,A5,J8,H9,E0,E1,M2,M3,M5,M4,I3,I4,P2,E4,E6,I0,B5,M1,N8,M9,N2,N3,N4,N5,N6,N7,N1,J2,J3,J4,J5,J6,J1,I8,I7,I9,M0,K9,E3,L1,C3,O1,O2,G2,O9,N9,O0,B0,L8,D2,I2,zz28,yz28,jz28,zz29,yz23,zz23,jz22,yz27,jz19,yz29,zz20,yz25,Nat.reduceAdd,Nat.reduceSub,Nat.reduceLT,Nat.reduceEqDiff,zz22,jz23,if_true,if_false,yz21,decide_true,decide_false,zz25,jz24,reduceIte,List.getElem?_cons_succ,List.getElem?_cons_zero,UInt8.reduceOfNat,fin1,fin2,L2,O7,L3,O8,H3,H6,H4,L4,H5,L5,B6,A8,zz24,M7,H0,M6,G0,Option.some.injEq,DV.tup.injEq,jz29,zz30,Int.reduceToNat,yz30,and_true,true_and,beq_self_eq_true,jz30,zz31,not_true_eq_false,not_false_eq_true,M8,J7,J0,A6,L9,K6,A4,B9,D7,G9,O3,O4,K0,F2,F5,I5,I6,F7,F4,F3,F6,K1,K4,O5,O6,K3,K2,K5,F8,F9,E8,E2,J9,G1,C7,E9,L0,C4,I1,K8,K7,E7,P3,C8,B3,A0,L7,H8,E5,L6,H7,yz19,zz27,yz31,jz25,jz31,zz32,jz26,zz21,jz27,zz26,and_self,Nat.reduceLeDiff,jz18,exists_eq_left',yz24,jz21,Nat.reduceBEq,yz22,yz32,G8,A3,N0,Int.reduceLT,Int.reduceLE,Int.reduceEq,c50,c51,c54,c56,c57,c58,tokD,List.getElem?_cons_zero, *]) | with_reducible (first | refine C2 (fun h => ?_) fun h => ?_ | refine F1 (fun h => ?_) fun h => ?_ | refine C1 (fun h => ?_) fun h => ?_ | refine F0 (fun h => ?_) fun h => ?_ | refine A2 (fun h => ?_) fun h => ?_ | refine A7 (fun h => ?_) fun h => ?_) | (refine D5 ?_ ?_ ?_; (focus decide +kernel); (focus decide +kernel)))
  · have he : Y3 (l.drop 1) = true := hh.elim (fun h => absurd h.1 hn) id
    repeat' (first | (simp (maxSteps := 10000000) -implicitDefEqProofs (disch := first | exact tStr | decide | omega | assumption | (simp only [zz20,yz25,yz20]; omega)) only [D3,G6,G4,A9,C9,G3,B4,A1,C6,B2,D4,G5,D6,C5,B1,G7,B7,B8,C0,D8,D9,A5,J8,H9,E0,E1,M2,M3,M5,M4,I3,I4,P2,E4,E6,I0,B5,M1,N8,M9,N2,N3,N4,N5,N6,N7,N1,J2,J3,J4,J5,J6,J1,I8,I7,I9,M0,K9,E3,L1,C3,O1,O2,G2,O9,N9,O0,B0,L8,D2,I2,zz28,yz28,jz28,zz29,yz23,zz23,jz22,yz27,jz19,yz29,zz20,yz25,Nat.reduceAdd,Nat.reduceSub,Nat.reduceLT,Nat.reduceEqDiff,zz22,jz23,if_true,if_false,yz21,decide_true,decide_false,zz25,jz24,reduceIte,List.getElem?_cons_succ,List.getElem?_cons_zero,UInt8.reduceOfNat,fin1,fin2,L2,O7,L3,O8,H3,H6,H4,L4,H5,L5,B6,A8,zz24,M7,H0,M6,G0,Option.some.injEq,DV.tup.injEq,jz29,zz30,Int.reduceToNat,yz30,and_true,true_and,beq_self_eq_true,jz30,zz31,not_true_eq_false,not_false_eq_true,M8,J7,J0,A6,L9,K6,A4,B9,D7,G9,O3,O4,K0,F2,F5,I5,I6,F7,F4,F3,F6,K1,K4,O5,O6,K3,K2,K5,F8,F9,E8,E2,J9,G1,C7,E9,L0,C4,I1,K8,K7,E7,P3,C8,B3,A0,L7,H8,E5,L6,H7,yz19,zz27,yz31,jz25,jz31,zz32,jz26,zz21,jz27,zz26,and_self,Nat.reduceLeDiff,jz18,exists_eq_left',yz24,jz21,Nat.reduceBEq,yz22,yz32,G8,A3,N0,Int.reduceLT,Int.reduceLE,Int.reduceEq,c50,c51,c54,c56,c57,c58,tokD,List.getElem?_cons_zero, *]) | with_reducible (first | refine C2 (fun h => ?_) fun h => ?_ | refine F1 (fun h => ?_) fun h => ?_ | refine C1 (fun h => ?_) fun h => ?_ | refine F0 (fun h => ?_) fun h => ?_ | refine A2 (fun h => ?_) fun h => ?_ | refine A7 (fun h => ?_) fun h => ?_) | (refine D5 ?_ ?_ ?_; (focus decide +kernel); (focus decide +kernel)))
set_option maxHeartbeats 1000000 in
theorem p27_at (h1 : 0 < l.length) (h2 : l.length < 2 ^ 60) (hm : ¬ 0 < (W1 l).2) (hc : l.getD 0 0 = 64)
    (hh : W9 (l.drop 1) = true) : PE Tryd.prog cfgV 27 [strD l] (R0 l) := by
  refine PE.code rfl code27 ?_
  dsimp only [sf27]
  have k1 : 0 < (l.length : Int) := by omega
  have k2 : 1 ≤ (l.length : Int) := by omega
  have k3 : 1 + ((P7 (l.drop 1)).2 : Int) ≤ l.length := name_fits (l := l) (i := 1) (by omega) k2
  have q1 : W2 64 = false := by decide
  have q2 : ¬ (64 : UInt8) = 47 := by decide
  have q3 : ¬ (64 : UInt8) = 39 := by decide
  have q4 : ¬ (64 : UInt8) = 34 := by decide
  have q5 : ¬ (64 : UInt8) = 35 := by decide
  have ht' : R0 l = tokD 3 (l.take (1 + ((P7 (l.drop 1)).2 : Int)).toNat) (P7 (l.drop 1)).1 0 := by
    unfold R0
    rw [hc,q1]
    simp only [yz21,if_false]
    rw [if_neg (fun h => q2 h.1),if_neg (fun h => h.elim q3 q4),if_neg hm,if_neg (fun h => q5 h.1),if_pos ⟨True.intro,hh⟩]
  rw [ht']
  repeat' (first | (simp (maxSteps := 10000000) -implicitDefEqProofs (disch := first | exact tStr | decide | omega | assumption | (simp only [zz20,yz25,yz20]; omega)) only [D3,G6,G4,A9,C9,G3,B4,A1,C6,B2,D4,G5,D6,C5,B1,G7,B7,B8,C0,D8,D9,A5,J8,H9,E0,E1,M2,M3,M5,M4,I3,I4,P2,E4,E6,I0,B5,M1,N8,M9,N2,N3,N4,N5,N6,N7,N1,J2,J3,J4,J5,J6,J1,I8,I7,I9,M0,K9,E3,L1,C3,O1,O2,G2,O9,N9,O0,B0,L8,D2,I2,zz28,yz28,jz28,zz29,yz23,zz23,jz22,yz27,jz19,yz29,zz20,yz25,Nat.reduceAdd,Nat.reduceSub,Nat.reduceLT,Nat.reduceEqDiff,zz22,jz23,if_true,if_false,yz21,decide_true,decide_false,zz25,jz24,reduceIte,List.getElem?_cons_succ,List.getElem?_cons_zero,UInt8.reduceOfNat,fin1,fin2,L2,O7,L3,O8,H3,H6,H4,L4,H5,L5,B6,A8,zz24,M7,H0,M6,G0,Option.some.injEq,DV.tup.injEq,jz29,zz30,Int.reduceToNat,yz30,and_true,true_and,beq_self_eq_true,jz30,zz31,not_true_eq_false,not_false_eq_true,M8,J7,J0,A6,L9,K6,A4,B9,D7,G9,O3,O4,K0,F2,F5,I5,I6,F7,F4,F3,F6,K1,K4,O5,O6,K3,K2,K5,F8,F9,E8,E2,J9,G1,C7,E9,L0,C4,I1,K8,K7,E7,P3,C8,B3,A0,L7,H8,E5,L6,H7,yz19,zz27,yz31,jz25,jz31,zz32,jz26,zz21,jz27,zz26,and_self,Nat.reduceLeDiff,jz18,exists_eq_left',yz24,jz21,Nat.reduceBEq,yz22,yz32,G8,A3,N0,Int.reduceLT,Int.reduceLE,Int.reduceEq,c50,c51,c54,c56,c57,c58,c59,tokD,List.getElem?_cons_zero, *]) | with_reducible (first | refine C2 (fun h => ?_) fun h => ?_ | refine F1 (fun h => ?_) fun h => ?_ | refine C1 (fun h => ?_) fun h => ?_ | refine F0 (fun h => ?_) fun h => ?_ | refine A2 (fun h => ?_) fun h => ?_ | refine A7 (fun h => ?_) fun h => ?_) | (refine D5 ?_ ?_ ?_; (focus decide +kernel); (focus decide +kernel)))
set_option maxHeartbeats 2000000 in
theorem p27_name (h1 : 0 < l.length) (h2 : l.length < 2 ^ 60) (hb : W2 (l.getD 0 0) = false) (hn : ¬ (l.getD 0 0 = 47 ∧ l.getD 1 0 = 42)) (ht : ¬ l.getD 0 0 = 39) (hu : ¬ l.getD 0 0 = 34) (hm : ¬ 0 < (W1 l).2)
    (hh : ¬ (l.getD 0 0 = 35 ∧ (X6 (l.getD 1 0) = true ∧ 1 < (l.length : Int) ∨ Y3 (l.drop 1) = true))) (ha : ¬ (l.getD 0 0 = 64 ∧ W9 (l.drop 1) = true)) (hg : W9 l = true) (k47 : ¬ l.getD 0 0 = 47) (k35 : ¬ l.getD 0 0 = 35) (k64 : ¬ l.getD 0 0 = 64) : PE Tryd.prog cfgV 27 [strD l] (R0 l) := by
  refine PE.code rfl code27 ?_
  dsimp only [sf27]
  have k1 : 0 < (l.length : Int) := by omega
  have k3 : ((P7 l).2 : Int) ≤ l.length := by have := yz8 l; omega
  have ht' : R0 l = (if l.getD (P7 l).2 0 = 40 then tokD 2 (l.take (((P7 l).2 : Int) + 1).toNat) (P7 l).1 0 else tokD 1 (l.take (P7 l).2) (P7 l).1 0) := by
    unfold R0
    rw [hb]
    simp only [yz21,if_false]
    rw [if_neg hn,if_neg (fun h => h.elim ht hu),if_neg hm,if_neg hh,if_neg ha,if_pos hg]
  rw [ht']
  clear hn hh ha ht'
  by_cases hp : l.getD (P7 l).2 0 = 40
  · rw [if_pos hp]
    have k4 : ((P7 l).2 : Int) + 1 ≤ l.length := by
      apply Classical.byContradiction
      intro hq
      rw [List.getD_eq_getElem?_getD,List.getElem?_eq_none (by omega)] at hp
      exact absurd hp (by decide)
    repeat' (first | (simp (maxSteps := 10000000) -implicitDefEqProofs (disch := first | exact tStr | decide | omega | assumption | (simp only [zz20,yz25,yz20]; omega)) only [D3,G6,G4,A9,C9,G3,B4,A1,C6,B2,D4,G5,D6,C5,B1,G7,B7,B8,C0,D8,D9,A5,J8,H9,E0,E1,M2,M3,M5,M4,I3,I4,P2,E4,E6,I0,B5,M1,N8,M9,N2,N3,N4,N5,N6,N7,N1,J2,J3,J4,J5,J6,J1,I8,I7,I9,M0,K9,E3,L1,C3,O1,O2,G2,O9,N9,O0,B0,L8,D2,I2,zz28,yz28,jz28,zz29,yz23,zz23,jz22,yz27,jz19,yz29,zz20,yz25,Nat.reduceAdd,Nat.reduceSub,Nat.reduceLT,Nat.reduceEqDiff,zz22,jz23,if_true,if_false,yz21,decide_true,decide_false,zz25,jz24,reduceIte,List.getElem?_cons_succ,List.getElem?_cons_zero,UInt8.reduceOfNat,fin1,fin2,L2,O7,L3,O8,H3,H6,H4,L4,H5,L5,B6,A8,zz24,M7,H0,M6,G0,Option.some.injEq,DV.tup.injEq,jz29,zz30,Int.reduceToNat,yz30,and_true,true_and,beq_self_eq_true,jz30,zz31,not_true_eq_false,not_false_eq_true,M8,J7,J0,A6,L9,K6,A4,B9,D7,G9,O3,O4,K0,F2,F5,I5,I6,F7,F4,F3,F6,K1,K4,O5,O6,K3,K2,K5,F8,F9,E8,E2,J9,G1,C7,E9,L0,C4,I1,K8,K7,E7,P3,C8,B3,A0,L7,H8,E5,L6,H7,yz19,zz27,yz31,jz25,jz31,zz32,jz26,zz21,jz27,zz26,and_self,Nat.reduceLeDiff,jz18,exists_eq_left',yz24,jz21,Nat.reduceBEq,yz22,yz32,G8,A3,N0,Int.reduceLT,Int.reduceLE,Int.reduceEq,c50,c51,c54,c56,c57,c58,c59,tokD,List.getElem?_cons_zero,jz25,Int.zero_add,yz26, *]) | with_reducible (first | refine C2 (fun h => ?_) fun h => ?_ | refine F1 (fun h => ?_) fun h => ?_ | refine C1 (fun h => ?_) fun h => ?_ | refine F0 (fun h => ?_) fun h => ?_ | refine A2 (fun h => ?_) fun h => ?_ | refine A7 (fun h => ?_) fun h => ?_) | (refine D5 ?_ ?_ ?_; (focus decide +kernel); (focus decide +kernel)))
  · rw [if_neg hp]
    repeat' (first | (simp (maxSteps := 10000000) -implicitDefEqProofs (disch := first | exact tStr | decide | omega | assumption | (simp only [zz20,yz25,yz20]; omega)) only [D3,G6,G4,A9,C9,G3,B4,A1,C6,B2,D4,G5,D6,C5,B1,G7,B7,B8,C0,D8,D9,A5,J8,H9,E0,E1,M2,M3,M5,M4,I3,I4,P2,E4,E6,I0,B5,M1,N8,M9,N2,N3,N4,N5,N6,N7,N1,J2,J3,J4,J5,J6,J1,I8,I7,I9,M0,K9,E3,L1,C3,O1,O2,G2,O9,N9,O0,B0,L8,D2,I2,zz28,yz28,jz28,zz29,yz23,zz23,jz22,yz27,jz19,yz29,zz20,yz25,Nat.reduceAdd,Nat.reduceSub,Nat.reduceLT,Nat.reduceEqDiff,zz22,jz23,if_true,if_false,yz21,decide_true,decide_false,zz25,jz24,reduceIte,List.getElem?_cons_succ,List.getElem?_cons_zero,UInt8.reduceOfNat,fin1,fin2,L2,O7,L3,O8,H3,H6,H4,L4,H5,L5,B6,A8,zz24,M7,H0,M6,G0,Option.some.injEq,DV.tup.injEq,jz29,zz30,Int.reduceToNat,yz30,and_true,true_and,beq_self_eq_true,jz30,zz31,not_true_eq_false,not_false_eq_true,M8,J7,J0,A6,L9,K6,A4,B9,D7,G9,O3,O4,K0,F2,F5,I5,I6,F7,F4,F3,F6,K1,K4,O5,O6,K3,K2,K5,F8,F9,E8,E2,J9,G1,C7,E9,L0,C4,I1,K8,K7,E7,P3,C8,B3,A0,L7,H8,E5,L6,H7,yz19,zz27,yz31,jz25,jz31,zz32,jz26,zz21,jz27,zz26,and_self,Nat.reduceLeDiff,jz18,exists_eq_left',yz24,jz21,Nat.reduceBEq,yz22,yz32,G8,A3,N0,Int.reduceLT,Int.reduceLE,Int.reduceEq,c50,c51,c54,c56,c57,c58,c59,tokD,List.getElem?_cons_zero,jz25,Int.zero_add,yz26, *]) | with_reducible (first | refine C2 (fun h => ?_) fun h => ?_ | refine F1 (fun h => ?_) fun h => ?_ | refine C1 (fun h => ?_) fun h => ?_ | refine F0 (fun h => ?_) fun h => ?_ | refine A2 (fun h => ?_) fun h => ?_ | refine A7 (fun h => ?_) fun h => ?_) | (refine D5 ?_ ?_ ?_; (focus decide +kernel); (focus decide +kernel)))
end Go.Dx
end
section
namespace Go.Dx
open Go Go.Proofs
set_option maxRecDepth 8000
attribute [local congr] Q7 Q6 R2 P8 Q2 Q5 Q3
variable {b : UInt8} {l : List UInt8} {H : Heap} {K : DV → Heap → Prop} {i m : Int}
set_option maxHeartbeats 2000000 in
theorem p27_sign (h1 : 0 < l.length) (h2 : l.length < 2 ^ 60) (hb : W2 (l.getD 0 0) = false) (hn : ¬ (l.getD 0 0 = 47 ∧ l.getD 1 0 = 42)) (ht : ¬ l.getD 0 0 = 39) (hu : ¬ l.getD 0 0 = 34) (hm : ¬ 0 < (W1 l).2)
    (hh : ¬ (l.getD 0 0 = 35 ∧ (X6 (l.getD 1 0) = true ∧ 1 < (l.length : Int) ∨ Y3 (l.drop 1) = true))) (ha : ¬ (l.getD 0 0 = 64 ∧ W9 (l.drop 1) = true)) (hg : W9 l = false) (k47 : ¬ l.getD 0 0 = 47) (k35 : ¬ l.getD 0 0 = 35) (k64 : ¬ l.getD 0 0 = 64) : PE Tryd.prog cfgV 27 [strD l] (R0 l) := by
  refine PE.code rfl code27 ?_
  dsimp only [sf27]
  have k1 : 0 < (l.length : Int) := by omega
  have k2 : 1 ≤ (l.length : Int) := by omega
  have ht' : R0 l = tokD (zz7 (l.getD 0 0)) (l.take 1) [] 0 := by
    unfold R0
    rw [hb]
    simp only [yz21,if_false]
    rw [if_neg hn,if_neg (fun h => h.elim ht hu),if_neg hm,if_neg hh,if_neg ha,hg]
    simp only [yz21,if_false]
  rw [ht']
  clear hn hh ha ht'
  repeat' (first | (simp (maxSteps := 10000000) -implicitDefEqProofs (disch := first | exact tStr | decide | omega | assumption | (simp only [zz20,yz25,yz20]; omega)) only [D3,G6,G4,A9,C9,G3,B4,A1,C6,B2,D4,G5,D6,C5,B1,G7,B7,B8,C0,D8,D9,A5,J8,H9,E0,E1,M2,M3,M5,M4,I3,I4,P2,E4,E6,I0,B5,M1,N8,M9,N2,N3,N4,N5,N6,N7,N1,J2,J3,J4,J5,J6,J1,I8,I7,I9,M0,K9,E3,L1,C3,O1,O2,G2,O9,N9,O0,B0,L8,D2,I2,zz28,yz28,jz28,zz29,yz23,zz23,jz22,yz27,jz19,yz29,zz20,yz25,Nat.reduceAdd,Nat.reduceSub,Nat.reduceLT,Nat.reduceEqDiff,zz22,jz23,if_true,if_false,yz21,decide_true,decide_false,zz25,jz24,reduceIte,List.getElem?_cons_succ,List.getElem?_cons_zero,UInt8.reduceOfNat,fin1,fin2,L2,O7,L3,O8,H3,H6,H4,L4,H5,L5,B6,A8,zz24,M7,H0,M6,G0,Option.some.injEq,DV.tup.injEq,jz29,zz30,Int.reduceToNat,yz30,and_true,true_and,beq_self_eq_true,jz30,zz31,not_true_eq_false,not_false_eq_true,M8,J7,J0,A6,L9,K6,A4,B9,D7,G9,O3,O4,K0,F2,F5,I5,I6,F7,F4,F3,F6,K1,K4,O5,O6,K3,K2,K5,F8,F9,E8,E2,J9,G1,C7,E9,L0,C4,I1,K8,K7,E7,P3,C8,B3,A0,L7,H8,E5,L6,H7,yz19,zz27,yz31,jz25,jz31,zz32,jz26,zz21,jz27,zz26,and_self,Nat.reduceLeDiff,jz18,exists_eq_left',yz24,jz21,Nat.reduceBEq,yz22,yz32,G8,A3,N0,Int.reduceLT,Int.reduceLE,Int.reduceEq,c50,c51,c54,c56,c57,c58,c59,tokD,List.getElem?_cons_zero,jz25,Int.zero_add,yz26, *]) | with_reducible (first | refine C2 (fun h => ?_) fun h => ?_ | refine F1 (fun h => ?_) fun h => ?_ | refine C1 (fun h => ?_) fun h => ?_ | refine F0 (fun h => ?_) fun h => ?_ | refine A2 (fun h => ?_) fun h => ?_ | refine A7 (fun h => ?_) fun h => ?_) | (refine D5 ?_ ?_ ?_; (focus decide +kernel); (focus decide +kernel)))
  all_goals first
    | (exfalso; revert ‹_ = (_ : UInt8)›; decide)
    | (simp only [zz7, *,if_true,if_false,or_true,true_or,or_false,false_or]; done)
    | trace_state
end Go.Dx
end
