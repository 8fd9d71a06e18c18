/- A part of the proof of VarFills: what functions of the program answer. -/
import Derived.Test.YtcclgnddbgaigaaDoorT21
open Nat renaming le_refl → jz18, add_zero → jz21, zero_add → yz24, le_zero_eq → yz32
open Bool renaming and_eq_true → zz19, false_eq_true → yz21, not_false → jz24, not_true → zz25, and_self → zz26, true_beq → jz30, false_beq → zz31, not_eq_true → zz33
open List renaming take_succ_cons → yz19, replicate_succ → jz19, length_cons → zz20, length_append → yz20, all_cons → zz21, singleton_append → yz22, cons_append → jz22, map_nil → zz23, map_cons → yz23, length_nil → yz25, drop_zero → jz25, append_nil → jz26, take_zero → zz27, nil_append → yz27, all_nil → jz27, set_cons_succ → zz28, set_cons_zero → yz28, getD_cons_succ → jz28, getD_cons_zero → zz29, replicate_zero → yz29, drop_succ_cons → yz31, drop_nil → jz31, take_nil → zz32, length_drop → jz32
open Option renaming map_some → zz22, map_none → jz23, bind_some → zz24
open Int renaming toNat_zero → jz29, toNat_one → zz30, cast_ofNat_Int → yz30
set_option linter.all false
section
namespace Go.Dx
open Go Go.Proofs
set_option maxRecDepth 8000
attribute [local congr] Q7 Q6 R2 P8 Q2 Q5 Q3
variable {l s : List UInt8} {H L : Heap} {K : DV → Heap → Prop} {i j k n : Int} {r v : List UInt8} {ts : List Tok} {t : Tok}
def S9 (s : List UInt8) (gap : Bool) : List Tok → List UInt8
  | [] => s
  | t :: r => if silK t.kind = true then S9 s (!decide (s = [])) r else S9 (s ++ if gap = true then 32 :: t.raw else t.raw) false r
def R7 : List Tok → Nat
  | [] => 0
  | t :: r => t.raw.length + 1 + R7 r
theorem headRun_len : ∀ (ts : List Tok) (s : List UInt8) (g : Bool),(S9 s g ts).length ≤ s.length + R7 ts
  | [],s,g => by simp [S9,R7]
  | t :: r,s,g => by
    rw [S9,R7]
    split
    · have := headRun_len r s (!decide (s = [])); omega
    · have := headRun_len r (s ++ if g = true then 32 :: t.raw else t.raw) false
      rw [yz20] at this
      split at this
      · rename_i h; rw [if_pos h]; simp only [zz20] at this; omega
      · rename_i h; rw [if_neg h]; omega
def gapAt (ts : List Tok) (s : List UInt8) (i : Int) : Bool := !decide (s = []) && silK (ts.getD (i - 1).toNat tok0).kind
def sh19 (ts : List Tok) (s : List UInt8) (i : Int) (x : Nat → DV) : DS := ⟨[DV.imm (S5 ts),x 1,x 2,strD s,intD i,x 5,x 6,x 7,x 8,x 9,x 10,x 11,x 12,x 13,x 14,x 15,x 16,x 17,x 18,x 19,x 20,x 21,x 22,x 23,x 24,x 25,x 26,x 27,x 28,x 29,x 30,x 31,x 32,x 33,x 34,x 35], []⟩
def inv19 (ts : List Tok) (n : Nat) (d : DS) : Prop := ∃ (i : Int) (s : List UInt8),d = sh19 ts s i (fun k => d.sl.getD k P9) ∧ 0 ≤ i ∧ i ≤ ts.length ∧ (¬ s = [] → 0 < i) ∧ s.length + R7 (ts.drop i.toNat) ≤ R7 ts ∧
  Hid (S9 [] false ts = S9 s (gapAt ts s i) (ts.drop i.toNat)) ∧ Hid (n = (ts.length - i).toNat)
theorem p19 (h2 : ts.length < 2 ^ 31) (h3 : R7 ts < 2 ^ 39) : PE Tryd.prog cfgV 19 [.imm (S5 ts)] (strD (S9 [] false ts)) := by
  refine PE.code rfl code19 ?_
  dsimp only [sf19]
  repeat' (first | (simp (maxSteps := 10000000) -implicitDefEqProofs (disch := first | exact tStr | decide | omega | assumption | (simp only [zz20,yz25,yz20]; omega)) only [D3,G6,G4,A9,C9,G3,B4,A1,C6,B2,D4,G5,D6,C5,B1,G7,B7,B8,C0,D8,D9,A5,J8,H9,E0,E1,M2,M3,M5,M4,I3,I4,P2,E4,E6,I0,B5,M1,N8,M9,N2,N3,N4,N5,N6,N7,N1,J2,J3,J4,J5,J6,J1,I8,I7,I9,M0,K9,E3,L1,C3,O1,O2,G2,O9,N9,O0,B0,L8,D2,I2,zz28,yz28,jz28,zz29,yz23,zz23,jz22,yz27,jz19,yz29,zz20,yz25,Nat.reduceAdd,Nat.reduceSub,Nat.reduceLT,Nat.reduceEqDiff,zz22,jz23,if_true,if_false,yz21,decide_true,decide_false,zz25,jz24,reduceIte,List.getElem?_cons_succ,List.getElem?_cons_zero,UInt8.reduceOfNat,fin1,fin2,L2,O7,L3,O8,H3,H6,H4,L4,H5,L5,B6,A8,zz24,M7,H0,M6,G0,Option.some.injEq,DV.tup.injEq,jz29,zz30,Int.reduceToNat,yz30,and_true,true_and,beq_self_eq_true,jz30,zz31,not_true_eq_false,not_false_eq_true,M8,J7,J0,A6,L9,K6,A4,B9,D7,G9,O3,O4,K0,F2,F5,I5,I6,F7,F4,F3,F6,K1,K4,O5,O6,K3,K2,K5,F8,F9,E8,E2,J9,G1,C7,E9,L0,C4,I1,K8,K7,E7,P3,C8,B3,A0,L7,H8,E5,L6,H7,yz19,zz27,yz31,jz25,jz31,zz32,jz26,zz21,jz27,zz26,and_self,Nat.reduceLeDiff,jz18,exists_eq_left',yz24,jz21,Nat.reduceBEq,yz22,yz32,G8,A3,N0,Int.reduceLT,Int.reduceLE,Int.reduceEq,V9, *]) | with_reducible (first | refine C2 (fun h => ?_) fun h => ?_ | refine F1 (fun h => ?_) fun h => ?_ | refine C1 (fun h => ?_) fun h => ?_ | refine F0 (fun h => ?_) fun h => ?_ | refine A2 (fun h => ?_) fun h => ?_ | refine A7 (fun h => ?_) fun h => ?_) | (refine D5 ?_ ?_ ?_; (focus decide +kernel); (focus decide +kernel)))
  refine V3 (inv19 ts) ?_ (n := (ts.length - 0 : Int).toNat) ⟨0, [],rfl,by omega,by omega,by simp,by simp,rfl,rfl⟩
  rintro n d ⟨i,s,hs,e1,e2,e3,e4,e5,e6⟩
  obtain ⟨x,rfl⟩ : ∃ x,d = sh19 ts s i x := ⟨_,hs⟩
  clear hs
  dsimp only [lp19_0,sh19]
  by_cases hi : i < ts.length
  · have hd := dropT e1 hi
    have iaT := ia_T (ts := ts) (H := []) e1 hi
    unfold Hid at e5
    rw [hd,S9] at e5
    rw [hd,R7] at e4
    have hj : (i + 1 - 1).toNat = i.toNat := by omega
    by_cases hsl : silK (ts.getD i.toNat tok0).kind = true
    · rw [if_pos hsl] at e5
      have hg : gapAt ts s (i + 1) = !decide (s = []) := by unfold gapAt; rw [hj,hsl,Bool.and_true]
      rw [← hg] at e5
      replace e5 := hid e5
      clear hg hd hj
      repeat' (first | (simp (maxSteps := 10000000) -implicitDefEqProofs (disch := first | exact tStr | decide | omega | assumption | (simp only [zz20,yz25,yz20]; omega)) only [D3,G6,G4,A9,C9,G3,B4,A1,C6,B2,D4,G5,D6,C5,B1,G7,B7,B8,C0,D8,D9,A5,J8,H9,E0,E1,M2,M3,M5,M4,I3,I4,P2,E4,E6,I0,B5,M1,N8,M9,N2,N3,N4,N5,N6,N7,N1,J2,J3,J4,J5,J6,J1,I8,I7,I9,M0,K9,E3,L1,C3,O1,O2,G2,O9,N9,O0,B0,L8,D2,I2,zz28,yz28,jz28,zz29,yz23,zz23,jz22,yz27,jz19,yz29,zz20,yz25,Nat.reduceAdd,Nat.reduceSub,Nat.reduceLT,Nat.reduceEqDiff,zz22,jz23,if_true,if_false,yz21,decide_true,decide_false,zz25,jz24,reduceIte,List.getElem?_cons_succ,List.getElem?_cons_zero,UInt8.reduceOfNat,fin1,fin2,L2,O7,L3,O8,H3,H6,H4,L4,H5,L5,B6,A8,zz24,M7,H0,M6,G0,Option.some.injEq,DV.tup.injEq,jz29,zz30,Int.reduceToNat,yz30,and_true,true_and,beq_self_eq_true,jz30,zz31,not_true_eq_false,not_false_eq_true,M8,J7,J0,A6,L9,K6,A4,B9,D7,G9,O3,O4,K0,F2,F5,I5,I6,F7,F4,F3,F6,K1,K4,O5,O6,K3,K2,K5,F8,F9,E8,E2,J9,G1,C7,E9,L0,C4,I1,K8,K7,E7,P3,C8,B3,A0,L7,H8,E5,L6,H7,yz19,zz27,yz31,jz25,jz31,zz32,jz26,zz21,jz27,zz26,and_self,Nat.reduceLeDiff,jz18,exists_eq_left',yz24,jz21,Nat.reduceBEq,yz22,yz32,G8,A3,N0,Int.reduceLT,Int.reduceLE,Int.reduceEq,c30,P5,R6,P4,iaT, *]) | with_reducible (first | refine C2 (fun h => ?_) fun h => ?_ | refine F1 (fun h => ?_) fun h => ?_ | refine C1 (fun h => ?_) fun h => ?_ | refine F0 (fun h => ?_) fun h => ?_ | refine A2 (fun h => ?_) fun h => ?_ | refine A7 (fun h => ?_) fun h => ?_) | (refine D5 ?_ ?_ ?_; (focus decide +kernel); (focus decide +kernel)))
      exact ⟨(ts.length - (i + 1) : Int).toNat,by unfold Hid at e6; omega,i + 1,s,rfl,by omega,by omega,fun _ => by omega,by omega,e5,rfl⟩
    · have hsl' := zz33 _ ▸ hsl
      rw [if_neg hsl] at e5
      have hg : ∀ q,gapAt ts q (i + 1) = false := fun q => by unfold gapAt; rw [hj,hsl',Bool.and_false]
      by_cases hn : s = []
      · have hgg : gapAt ts s i = false := by unfold gapAt; rw [hn]; rfl
        rw [hgg] at e5
        simp only [yz21,if_false] at e5
        replace e5 := hid e5
        have hln : s.length = 0 := by rw [hn]; rfl
        clear hgg hj hd e3
        replace hg := hid hg
        subst hn
        repeat' (first | (simp (maxSteps := 10000000) -implicitDefEqProofs (disch := first | exact tStr | decide | omega | assumption | (simp only [zz20,yz25,yz20]; omega)) only [D3,G6,G4,A9,C9,G3,B4,A1,C6,B2,D4,G5,D6,C5,B1,G7,B7,B8,C0,D8,D9,A5,J8,H9,E0,E1,M2,M3,M5,M4,I3,I4,P2,E4,E6,I0,B5,M1,N8,M9,N2,N3,N4,N5,N6,N7,N1,J2,J3,J4,J5,J6,J1,I8,I7,I9,M0,K9,E3,L1,C3,O1,O2,G2,O9,N9,O0,B0,L8,D2,I2,zz28,yz28,jz28,zz29,yz23,zz23,jz22,yz27,jz19,yz29,zz20,yz25,Nat.reduceAdd,Nat.reduceSub,Nat.reduceLT,Nat.reduceEqDiff,zz22,jz23,if_true,if_false,yz21,decide_true,decide_false,zz25,jz24,reduceIte,List.getElem?_cons_succ,List.getElem?_cons_zero,UInt8.reduceOfNat,fin1,fin2,L2,O7,L3,O8,H3,H6,H4,L4,H5,L5,B6,A8,zz24,M7,H0,M6,G0,Option.some.injEq,DV.tup.injEq,jz29,zz30,Int.reduceToNat,yz30,and_true,true_and,beq_self_eq_true,jz30,zz31,not_true_eq_false,not_false_eq_true,M8,J7,J0,A6,L9,K6,A4,B9,D7,G9,O3,O4,K0,F2,F5,I5,I6,F7,F4,F3,F6,K1,K4,O5,O6,K3,K2,K5,F8,F9,E8,E2,J9,G1,C7,E9,L0,C4,I1,K8,K7,E7,P3,C8,B3,A0,L7,H8,E5,L6,H7,yz19,zz27,yz31,jz25,jz31,zz32,jz26,zz21,jz27,zz26,and_self,Nat.reduceLeDiff,jz18,exists_eq_left',yz24,jz21,Nat.reduceBEq,yz22,yz32,G8,A3,N0,Int.reduceLT,Int.reduceLE,Int.reduceEq,c30,P5,R6,P4,iaT, *]) | with_reducible (first | refine C2 (fun h => ?_) fun h => ?_ | refine F1 (fun h => ?_) fun h => ?_ | refine C1 (fun h => ?_) fun h => ?_ | refine F0 (fun h => ?_) fun h => ?_ | refine A2 (fun h => ?_) fun h => ?_ | refine A7 (fun h => ?_) fun h => ?_) | (refine D5 ?_ ?_ ?_; (focus decide +kernel); (focus decide +kernel)))
        exact ⟨(ts.length - (i + 1) : Int).toNat,by unfold Hid at e6; omega,i + 1,_,rfl,by omega,by omega,fun _ => by omega,by omega,by unfold Hid at e5 hg ⊢; rw [e5,hg] <;> rfl,rfl⟩
      · have hip := e3 hn
        have iaT1 := ia_T (ts := ts) (H := []) (i := i - 1) (by omega) (by omega)
        have hgg : gapAt ts s i = silK (ts.getD (i - 1).toNat tok0).kind := by unfold gapAt; simp [hn]
        rw [hgg] at e5
        by_cases hs1 : silK (ts.getD (i - 1).toNat tok0).kind = true
        · rw [if_pos hs1] at e5
          replace e5 := hid e5
          clear hgg hj hd e3
          replace hg := hid hg
          repeat' (first | (simp (maxSteps := 10000000) -implicitDefEqProofs (disch := first | exact tStr | decide | omega | assumption | (simp only [zz20,yz25,yz20]; omega)) only [D3,G6,G4,A9,C9,G3,B4,A1,C6,B2,D4,G5,D6,C5,B1,G7,B7,B8,C0,D8,D9,A5,J8,H9,E0,E1,M2,M3,M5,M4,I3,I4,P2,E4,E6,I0,B5,M1,N8,M9,N2,N3,N4,N5,N6,N7,N1,J2,J3,J4,J5,J6,J1,I8,I7,I9,M0,K9,E3,L1,C3,O1,O2,G2,O9,N9,O0,B0,L8,D2,I2,zz28,yz28,jz28,zz29,yz23,zz23,jz22,yz27,jz19,yz29,zz20,yz25,Nat.reduceAdd,Nat.reduceSub,Nat.reduceLT,Nat.reduceEqDiff,zz22,jz23,if_true,if_false,yz21,decide_true,decide_false,zz25,jz24,reduceIte,List.getElem?_cons_succ,List.getElem?_cons_zero,UInt8.reduceOfNat,fin1,fin2,L2,O7,L3,O8,H3,H6,H4,L4,H5,L5,B6,A8,zz24,M7,H0,M6,G0,Option.some.injEq,DV.tup.injEq,jz29,zz30,Int.reduceToNat,yz30,and_true,true_and,beq_self_eq_true,jz30,zz31,not_true_eq_false,not_false_eq_true,M8,J7,J0,A6,L9,K6,A4,B9,D7,G9,O3,O4,K0,F2,F5,I5,I6,F7,F4,F3,F6,K1,K4,O5,O6,K3,K2,K5,F8,F9,E8,E2,J9,G1,C7,E9,L0,C4,I1,K8,K7,E7,P3,C8,B3,A0,L7,H8,E5,L6,H7,yz19,zz27,yz31,jz25,jz31,zz32,jz26,zz21,jz27,zz26,and_self,Nat.reduceLeDiff,jz18,exists_eq_left',yz24,jz21,Nat.reduceBEq,yz22,yz32,G8,A3,N0,Int.reduceLT,Int.reduceLE,Int.reduceEq,c30,P5,R6,P4,iaT,iaT1,List.append_assoc, *]) | with_reducible (first | refine C2 (fun h => ?_) fun h => ?_ | refine F1 (fun h => ?_) fun h => ?_ | refine C1 (fun h => ?_) fun h => ?_ | refine F0 (fun h => ?_) fun h => ?_ | refine A2 (fun h => ?_) fun h => ?_ | refine A7 (fun h => ?_) fun h => ?_) | (refine D5 ?_ ?_ ?_; (focus decide +kernel); (focus decide +kernel)))
          exact ⟨(ts.length - (i + 1) : Int).toNat,by unfold Hid at e6; omega,i + 1,_,rfl,by omega,by omega,fun _ => by omega,by simp only [yz20,zz20]; omega,by unfold Hid at e5 hg ⊢; rw [e5,hg] <;> rfl,rfl⟩
        · have hs1' := zz33 _ ▸ hs1
          rw [if_neg hs1] at e5
          replace e5 := hid e5
          clear hgg hj hd e3
          replace hg := hid hg
          repeat' (first | (simp (maxSteps := 10000000) -implicitDefEqProofs (disch := first | exact tStr | decide | omega | assumption | (simp only [zz20,yz25,yz20]; omega)) only [D3,G6,G4,A9,C9,G3,B4,A1,C6,B2,D4,G5,D6,C5,B1,G7,B7,B8,C0,D8,D9,A5,J8,H9,E0,E1,M2,M3,M5,M4,I3,I4,P2,E4,E6,I0,B5,M1,N8,M9,N2,N3,N4,N5,N6,N7,N1,J2,J3,J4,J5,J6,J1,I8,I7,I9,M0,K9,E3,L1,C3,O1,O2,G2,O9,N9,O0,B0,L8,D2,I2,zz28,yz28,jz28,zz29,yz23,zz23,jz22,yz27,jz19,yz29,zz20,yz25,Nat.reduceAdd,Nat.reduceSub,Nat.reduceLT,Nat.reduceEqDiff,zz22,jz23,if_true,if_false,yz21,decide_true,decide_false,zz25,jz24,reduceIte,List.getElem?_cons_succ,List.getElem?_cons_zero,UInt8.reduceOfNat,fin1,fin2,L2,O7,L3,O8,H3,H6,H4,L4,H5,L5,B6,A8,zz24,M7,H0,M6,G0,Option.some.injEq,DV.tup.injEq,jz29,zz30,Int.reduceToNat,yz30,and_true,true_and,beq_self_eq_true,jz30,zz31,not_true_eq_false,not_false_eq_true,M8,J7,J0,A6,L9,K6,A4,B9,D7,G9,O3,O4,K0,F2,F5,I5,I6,F7,F4,F3,F6,K1,K4,O5,O6,K3,K2,K5,F8,F9,E8,E2,J9,G1,C7,E9,L0,C4,I1,K8,K7,E7,P3,C8,B3,A0,L7,H8,E5,L6,H7,yz19,zz27,yz31,jz25,jz31,zz32,jz26,zz21,jz27,zz26,and_self,Nat.reduceLeDiff,jz18,exists_eq_left',yz24,jz21,Nat.reduceBEq,yz22,yz32,G8,A3,N0,Int.reduceLT,Int.reduceLE,Int.reduceEq,c30,P5,R6,P4,iaT,iaT1,List.append_assoc, *]) | with_reducible (first | refine C2 (fun h => ?_) fun h => ?_ | refine F1 (fun h => ?_) fun h => ?_ | refine C1 (fun h => ?_) fun h => ?_ | refine F0 (fun h => ?_) fun h => ?_ | refine A2 (fun h => ?_) fun h => ?_ | refine A7 (fun h => ?_) fun h => ?_) | (refine D5 ?_ ?_ ?_; (focus decide +kernel); (focus decide +kernel)))
          exact ⟨(ts.length - (i + 1) : Int).toNat,by unfold Hid at e6; omega,i + 1,_,rfl,by omega,by omega,fun _ => by omega,by simp only [yz20]; omega,by unfold Hid at e5 hg ⊢; rw [e5,hg] <;> rfl,rfl⟩
  · repeat' (first | (simp (maxSteps := 10000000) -implicitDefEqProofs (disch := first | exact tStr | decide | omega | assumption | (simp only [zz20,yz25,yz20]; omega)) only [D3,G6,G4,A9,C9,G3,B4,A1,C6,B2,D4,G5,D6,C5,B1,G7,B7,B8,C0,D8,D9,A5,J8,H9,E0,E1,M2,M3,M5,M4,I3,I4,P2,E4,E6,I0,B5,M1,N8,M9,N2,N3,N4,N5,N6,N7,N1,J2,J3,J4,J5,J6,J1,I8,I7,I9,M0,K9,E3,L1,C3,O1,O2,G2,O9,N9,O0,B0,L8,D2,I2,zz28,yz28,jz28,zz29,yz23,zz23,jz22,yz27,jz19,yz29,zz20,yz25,Nat.reduceAdd,Nat.reduceSub,Nat.reduceLT,Nat.reduceEqDiff,zz22,jz23,if_true,if_false,yz21,decide_true,decide_false,zz25,jz24,reduceIte,List.getElem?_cons_succ,List.getElem?_cons_zero,UInt8.reduceOfNat,fin1,fin2,L2,O7,L3,O8,H3,H6,H4,L4,H5,L5,B6,A8,zz24,M7,H0,M6,G0,Option.some.injEq,DV.tup.injEq,jz29,zz30,Int.reduceToNat,yz30,and_true,true_and,beq_self_eq_true,jz30,zz31,not_true_eq_false,not_false_eq_true,M8,J7,J0,A6,L9,K6,A4,B9,D7,G9,O3,O4,K0,F2,F5,I5,I6,F7,F4,F3,F6,K1,K4,O5,O6,K3,K2,K5,F8,F9,E8,E2,J9,G1,C7,E9,L0,C4,I1,K8,K7,E7,P3,C8,B3,A0,L7,H8,E5,L6,H7,yz19,zz27,yz31,jz25,jz31,zz32,jz26,zz21,jz27,zz26,and_self,Nat.reduceLeDiff,jz18,exists_eq_left',yz24,jz21,Nat.reduceBEq,yz22,yz32,G8,A3,N0,Int.reduceLT,Int.reduceLE,Int.reduceEq,P5,R6, *]) | with_reducible (first | refine C2 (fun h => ?_) fun h => ?_ | refine F1 (fun h => ?_) fun h => ?_ | refine C1 (fun h => ?_) fun h => ?_ | refine F0 (fun h => ?_) fun h => ?_ | refine A2 (fun h => ?_) fun h => ?_ | refine A7 (fun h => ?_) fun h => ?_) | (refine D5 ?_ ?_ ?_; (focus decide +kernel); (focus decide +kernel)))
    unfold Hid at e5
    rw [e5,jz9 hi e1]; rfl
theorem c19 (h2 : ts.length < 2 ^ 31) (h3 : R7 ts < 2 ^ 39) : R4 Tryd.prog cfgV 19 [.imm (S5 ts)] H K = K (strD (S9 [] false ts)) H :=
  T7 rfl (by simp only [zz21,jz27,plain_T.2,Bool.true_and]) (p19 h2 h3) H K
end Go.Dx
end
section
namespace Go.Dx
open Go Go.Proofs
set_option maxRecDepth 8000
attribute [local congr] Q7 Q6 R2 P8 Q2 Q5 Q3
variable {l s : List UInt8} {H L : Heap} {K : DV → Heap → Prop} {i j k n : Int} {r v : List UInt8} {ts : List Tok} {t : Tok}
theorem Bld.more {b : Nat} {v : DV} (h : Bld H b v l) : Bld (H ++ L) b v l := by
  obtain ⟨a,h1,h2,h3,h4⟩ := h
  exact ⟨a,by rw [Y4 (row_lt h1)]; exact h1,h2,h3.more,h4⟩
theorem Bld.end {b : Nat} {v : DV} (h : Bld H b v l) : ∀ off n,v ≠ .osl H.length off n := by
  intro off n e
  obtain ⟨a,h1,h2,h3,h4⟩ := h
  have := h3.lt e
  omega
theorem Bld.lt {b : Nat} {v : DV} (h : Bld H b v l) : b < H.length := by
  obtain ⟨a,h1,h2,h3,h4⟩ := h
  exact row_lt h1
theorem c12 {b : Nat} {v : DV} (hb : Bld H b v l) : R4 Tryd.prog cfgV 12 [.ptr b 0 0] H K = K (intD l.length) H := by
  refine callW_eq ?_ K
  exact w12 hb ⟨rfl,rfl⟩
theorem neg_nil : (!decide (s = [])) = decide (0 < (s.length : Int)) := by
  cases s with
  | nil => rfl
  | cons a r => simp only [zz20]; rw [decide_eq_true (by omega : (0 : Int) < ((r.length + 1 : Nat) : Int))]; rfl
def sh26 (ts : List Tok) (g : Bool) (i : Int) (H : Heap) (x : Nat → DV) : DS := ⟨[x 0,x 1,x 2,DV.ptr 0 0 0,boD g,x 5,x 6,DV.imm (S5 ts),intD ts.length,intD i,x 10,x 11,x 12,x 13,x 14,x 15,x 16,x 17,x 18,x 19,x 20,x 21,x 22,x 23],H⟩
def inv26 (ts : List Tok) (n : Nat) (d : DS) : Prop := ∃ (i : Int) (s : List UInt8) (v : DV) (g : Bool),d = sh26 ts g i d.H (fun k => d.sl.getD k P9) ∧ Bld d.H 0 v s ∧ 0 ≤ i ∧ i ≤ ts.length ∧ s.length + R7 (ts.drop i.toNat) ≤ R7 ts ∧
  Hid (S9 [] false ts = S9 s g (ts.drop i.toNat)) ∧ Hid (n = (ts.length - i).toNat)
theorem p26 (h2 : ts.length < 2 ^ 31) (h3 : R7 ts < 2 ^ 39) : PE Tryd.prog cfgV 26 [.imm (S5 ts)] (strD (S9 [] false ts)) := by
  refine PE.code rfl code26 ?_
  dsimp only [sf26]
  repeat' (first | (simp (maxSteps := 10000000) -implicitDefEqProofs (disch := first | exact tStr | decide | omega | assumption | (simp only [zz20,yz25,yz20]; omega)) only [D3,G6,G4,A9,C9,G3,B4,A1,C6,B2,D4,G5,D6,C5,B1,G7,B7,B8,C0,D8,D9,A5,J8,H9,E0,E1,M2,M3,M5,M4,I3,I4,P2,E4,E6,I0,B5,M1,N8,M9,N2,N3,N4,N5,N6,N7,N1,J2,J3,J4,J5,J6,J1,I8,I7,I9,M0,K9,E3,L1,C3,O1,O2,G2,O9,N9,O0,B0,L8,D2,I2,zz28,yz28,jz28,zz29,yz23,zz23,jz22,yz27,jz19,yz29,zz20,yz25,Nat.reduceAdd,Nat.reduceSub,Nat.reduceLT,Nat.reduceEqDiff,zz22,jz23,if_true,if_false,yz21,decide_true,decide_false,zz25,jz24,reduceIte,List.getElem?_cons_succ,List.getElem?_cons_zero,UInt8.reduceOfNat,fin1,fin2,L2,O7,L3,O8,H3,H6,H4,L4,H5,L5,B6,A8,zz24,M7,H0,M6,G0,Option.some.injEq,DV.tup.injEq,jz29,zz30,Int.reduceToNat,yz30,and_true,true_and,beq_self_eq_true,jz30,zz31,not_true_eq_false,not_false_eq_true,M8,J7,J0,A6,L9,K6,A4,B9,D7,G9,O3,O4,K0,F2,F5,I5,I6,F7,F4,F3,F6,K1,K4,O5,O6,K3,K2,K5,F8,F9,E8,E2,J9,G1,C7,E9,L0,C4,I1,K8,K7,E7,P3,C8,B3,A0,L7,H8,E5,L6,H7,yz19,zz27,yz31,jz25,jz31,zz32,jz26,zz21,jz27,zz26,and_self,Nat.reduceLeDiff,jz18,exists_eq_left',yz24,jz21,Nat.reduceBEq,yz22,yz32,G8,A3,N0,Int.reduceLT,Int.reduceLE,Int.reduceEq,V9,P5,R6, *]) | with_reducible (first | refine C2 (fun h => ?_) fun h => ?_ | refine F1 (fun h => ?_) fun h => ?_ | refine C1 (fun h => ?_) fun h => ?_ | refine F0 (fun h => ?_) fun h => ?_ | refine A2 (fun h => ?_) fun h => ?_ | refine A7 (fun h => ?_) fun h => ?_) | (refine D5 ?_ ?_ ?_; (focus decide +kernel); (focus decide +kernel)))
  refine V3 (inv26 ts) ?_ (n := (ts.length - 0 : Int).toNat) ⟨0, [], .nil,false,rfl,⟨_,F8, .inl rfl,Lst.nil,fun _ => rfl⟩,by omega,by omega,by simp,rfl,rfl⟩
  rintro n d ⟨i,s,v,g,hs,hb,e1,e2,e4,e5,e6⟩
  obtain ⟨x,H,rfl⟩ : ∃ x H,d = sh26 ts g i H x := ⟨_,_,hs⟩
  clear hs
  dsimp only [lp26_0,sh26] at hb ⊢
  by_cases hi : i < ts.length
  · have hd := dropT e1 hi
    have iaT := ia_T (ts := ts) (H := H) e1 hi
    unfold Hid at e5
    rw [hd,S9] at e5
    rw [hd,R7] at e4
    obtain ⟨rw0,hrw⟩ : ∃ r,r = some (Row.mk 4 [[intD (ts.getD i.toNat tok0).kind,strD (ts.getD i.toNat tok0).raw,strD (ts.getD i.toNat tok0).value,intD (ts.getD i.toNat tok0).num]] 37 0 true) := ⟨_,rfl⟩
    have hb1 : Bld (H ++ [rw0]) 0 v s := hb.more
    have hne := hb.end
    have hl0 := hb.lt
    have hre : Heap.row (H ++ [rw0]) H.length = rw0 := Y0
    subst hrw
    have hz : ¬ H.length = 0 := by omega
    clear hd
    generalize ts.getD i.toNat tok0 = tt at *
    by_cases hsl : silK tt.kind = true
    · rw [if_pos hsl,neg_nil] at e5
      replace e5 := hid e5
      repeat' (first | (simp (maxSteps := 10000000) -implicitDefEqProofs (disch := first | exact tStr | decide | omega | assumption | (simp only [zz20,yz25,yz20]; omega)) only [D3,G6,G4,A9,C9,G3,B4,A1,C6,B2,D4,G5,D6,C5,B1,G7,B7,B8,C0,D8,D9,A5,J8,H9,E0,E1,M2,M3,M5,M4,I3,I4,P2,E4,E6,I0,B5,M1,N8,M9,N2,N3,N4,N5,N6,N7,N1,J2,J3,J4,J5,J6,J1,I8,I7,I9,M0,K9,E3,L1,C3,O1,O2,G2,O9,N9,O0,B0,L8,D2,I2,zz28,yz28,jz28,zz29,yz23,zz23,jz22,yz27,jz19,yz29,zz20,yz25,Nat.reduceAdd,Nat.reduceSub,Nat.reduceLT,Nat.reduceEqDiff,zz22,jz23,if_true,if_false,yz21,decide_true,decide_false,zz25,jz24,reduceIte,List.getElem?_cons_succ,List.getElem?_cons_zero,UInt8.reduceOfNat,fin1,fin2,L2,O7,L3,O8,H3,H6,H4,L4,H5,L5,B6,A8,zz24,M7,H0,M6,G0,Option.some.injEq,DV.tup.injEq,jz29,zz30,Int.reduceToNat,yz30,and_true,true_and,beq_self_eq_true,jz30,zz31,not_true_eq_false,not_false_eq_true,M8,J7,J0,A6,L9,K6,A4,B9,D7,G9,O3,O4,K0,F2,F5,I5,I6,F7,F4,F3,F6,K1,K4,O5,O6,K3,K2,K5,F8,F9,E8,E2,J9,G1,C7,E9,L0,C4,I1,K8,K7,E7,P3,C8,B3,A0,L7,H8,E5,L6,H7,yz19,zz27,yz31,jz25,jz31,zz32,jz26,zz21,jz27,zz26,and_self,Nat.reduceLeDiff,jz18,exists_eq_left',yz24,jz21,Nat.reduceBEq,yz22,yz32,G8,A3,N0,Int.reduceLT,Int.reduceLE,Int.reduceEq,c48,P4,iaT,yz9,Y0,c12 hb1, *]) | with_reducible (first | refine C2 (fun h => ?_) fun h => ?_ | refine F1 (fun h => ?_) fun h => ?_ | refine C1 (fun h => ?_) fun h => ?_ | refine F0 (fun h => ?_) fun h => ?_ | refine A2 (fun h => ?_) fun h => ?_ | refine A7 (fun h => ?_) fun h => ?_) | (refine D5 ?_ ?_ ?_; (focus decide +kernel); (focus decide +kernel)))
      exact ⟨(ts.length - (i + 1) : Int).toNat,by unfold Hid at e6; omega,i + 1,s,v,_,rfl,hb1,by omega,by omega,by omega,e5,rfl⟩
    · rw [if_neg hsl] at e5
      have hsl' := zz33 _ ▸ hsl
      cases g with
      | true =>
        simp only [if_true] at e5
        replace e5 := hid e5
        repeat' (first | (simp (maxSteps := 10000000) -implicitDefEqProofs (disch := first | exact tStr | decide | omega | assumption | (simp only [zz20,yz25,yz20]; omega)) only [D3,G6,G4,A9,C9,G3,B4,A1,C6,B2,D4,G5,D6,C5,B1,G7,B7,B8,C0,D8,D9,A5,J8,H9,E0,E1,M2,M3,M5,M4,I3,I4,P2,E4,E6,I0,B5,M1,N8,M9,N2,N3,N4,N5,N6,N7,N1,J2,J3,J4,J5,J6,J1,I8,I7,I9,M0,K9,E3,L1,C3,O1,O2,G2,O9,N9,O0,B0,L8,D2,I2,zz28,yz28,jz28,zz29,yz23,zz23,jz22,yz27,jz19,yz29,zz20,yz25,Nat.reduceAdd,Nat.reduceSub,Nat.reduceLT,Nat.reduceEqDiff,zz22,jz23,if_true,if_false,yz21,decide_true,decide_false,zz25,jz24,reduceIte,List.getElem?_cons_succ,List.getElem?_cons_zero,UInt8.reduceOfNat,fin1,fin2,L2,O7,L3,O8,H3,H6,H4,L4,H5,L5,B6,A8,zz24,M7,H0,M6,G0,Option.some.injEq,DV.tup.injEq,jz29,zz30,Int.reduceToNat,yz30,and_true,true_and,beq_self_eq_true,jz30,zz31,not_true_eq_false,not_false_eq_true,M8,J7,J0,A6,L9,K6,A4,B9,D7,G9,O3,O4,K0,F2,F5,I5,I6,F7,F4,F3,F6,K1,K4,O5,O6,K3,K2,K5,F8,F9,E8,E2,J9,G1,C7,E9,L0,C4,I1,K8,K7,E7,P3,C8,B3,A0,L7,H8,E5,L6,H7,yz19,zz27,yz31,jz25,jz31,zz32,jz26,zz21,jz27,zz26,and_self,Nat.reduceLeDiff,jz18,exists_eq_left',yz24,jz21,Nat.reduceBEq,yz22,yz32,G8,A3,N0,Int.reduceLT,Int.reduceLE,Int.reduceEq,c48,P4,iaT,yz9,Y0,c12 hb1, *]) | with_reducible (first | refine C2 (fun h => ?_) fun h => ?_ | refine F1 (fun h => ?_) fun h => ?_ | refine C1 (fun h => ?_) fun h => ?_ | refine F0 (fun h => ?_) fun h => ?_ | refine A2 (fun h => ?_) fun h => ?_ | refine A7 (fun h => ?_) fun h => ?_) | (refine D5 ?_ ?_ ?_; (focus decide +kernel); (focus decide +kernel)))
        refine w49 hb1 (by omega) fun v1 H1 b1 k1 _ _ => ?_
        have hr1 := k1 _ _ hre hz hne
        repeat' (first | (simp (maxSteps := 10000000) -implicitDefEqProofs (disch := first | exact tStr | decide | omega | assumption | (simp only [zz20,yz25,yz20]; omega)) only [D3,G6,G4,A9,C9,G3,B4,A1,C6,B2,D4,G5,D6,C5,B1,G7,B7,B8,C0,D8,D9,A5,J8,H9,E0,E1,M2,M3,M5,M4,I3,I4,P2,E4,E6,I0,B5,M1,N8,M9,N2,N3,N4,N5,N6,N7,N1,J2,J3,J4,J5,J6,J1,I8,I7,I9,M0,K9,E3,L1,C3,O1,O2,G2,O9,N9,O0,B0,L8,D2,I2,zz28,yz28,jz28,zz29,yz23,zz23,jz22,yz27,jz19,yz29,zz20,yz25,Nat.reduceAdd,Nat.reduceSub,Nat.reduceLT,Nat.reduceEqDiff,zz22,jz23,if_true,if_false,yz21,decide_true,decide_false,zz25,jz24,reduceIte,List.getElem?_cons_succ,List.getElem?_cons_zero,UInt8.reduceOfNat,fin1,fin2,L2,O7,L3,O8,H3,H6,H4,L4,H5,L5,B6,A8,zz24,M7,H0,M6,G0,Option.some.injEq,DV.tup.injEq,jz29,zz30,Int.reduceToNat,yz30,and_true,true_and,beq_self_eq_true,jz30,zz31,not_true_eq_false,not_false_eq_true,M8,J7,J0,A6,L9,K6,A4,B9,D7,G9,O3,O4,K0,F2,F5,I5,I6,F7,F4,F3,F6,K1,K4,O5,O6,K3,K2,K5,F8,F9,E8,E2,J9,G1,C7,E9,L0,C4,I1,K8,K7,E7,P3,C8,B3,A0,L7,H8,E5,L6,H7,yz19,zz27,yz31,jz25,jz31,zz32,jz26,zz21,jz27,zz26,and_self,Nat.reduceLeDiff,jz18,exists_eq_left',yz24,jz21,Nat.reduceBEq,yz22,yz32,G8,A3,N0,Int.reduceLT,Int.reduceLE,Int.reduceEq,c48,hr1, *]) | with_reducible (first | refine C2 (fun h => ?_) fun h => ?_ | refine F1 (fun h => ?_) fun h => ?_ | refine C1 (fun h => ?_) fun h => ?_ | refine F0 (fun h => ?_) fun h => ?_ | refine A2 (fun h => ?_) fun h => ?_ | refine A7 (fun h => ?_) fun h => ?_) | (refine D5 ?_ ?_ ?_; (focus decide +kernel); (focus decide +kernel)))
        refine w9 b1 (by simp only [yz20,zz20,yz25]; omega) fun v2 H2 b2 _ _ _ => ?_
        repeat' (first | (simp (maxSteps := 10000000) -implicitDefEqProofs (disch := first | exact tStr | decide | omega | assumption | (simp only [zz20,yz25,yz20]; omega)) only [D3,G6,G4,A9,C9,G3,B4,A1,C6,B2,D4,G5,D6,C5,B1,G7,B7,B8,C0,D8,D9,A5,J8,H9,E0,E1,M2,M3,M5,M4,I3,I4,P2,E4,E6,I0,B5,M1,N8,M9,N2,N3,N4,N5,N6,N7,N1,J2,J3,J4,J5,J6,J1,I8,I7,I9,M0,K9,E3,L1,C3,O1,O2,G2,O9,N9,O0,B0,L8,D2,I2,zz28,yz28,jz28,zz29,yz23,zz23,jz22,yz27,jz19,yz29,zz20,yz25,Nat.reduceAdd,Nat.reduceSub,Nat.reduceLT,Nat.reduceEqDiff,zz22,jz23,if_true,if_false,yz21,decide_true,decide_false,zz25,jz24,reduceIte,List.getElem?_cons_succ,List.getElem?_cons_zero,UInt8.reduceOfNat,fin1,fin2,L2,O7,L3,O8,H3,H6,H4,L4,H5,L5,B6,A8,zz24,M7,H0,M6,G0,Option.some.injEq,DV.tup.injEq,jz29,zz30,Int.reduceToNat,yz30,and_true,true_and,beq_self_eq_true,jz30,zz31,not_true_eq_false,not_false_eq_true,M8,J7,J0,A6,L9,K6,A4,B9,D7,G9,O3,O4,K0,F2,F5,I5,I6,F7,F4,F3,F6,K1,K4,O5,O6,K3,K2,K5,F8,F9,E8,E2,J9,G1,C7,E9,L0,C4,I1,K8,K7,E7,P3,C8,B3,A0,L7,H8,E5,L6,H7,yz19,zz27,yz31,jz25,jz31,zz32,jz26,zz21,jz27,zz26,and_self,Nat.reduceLeDiff,jz18,exists_eq_left',yz24,jz21,Nat.reduceBEq,yz22,yz32,G8,A3,N0,Int.reduceLT,Int.reduceLE,Int.reduceEq,c48, *]) | with_reducible (first | refine C2 (fun h => ?_) fun h => ?_ | refine F1 (fun h => ?_) fun h => ?_ | refine C1 (fun h => ?_) fun h => ?_ | refine F0 (fun h => ?_) fun h => ?_ | refine A2 (fun h => ?_) fun h => ?_ | refine A7 (fun h => ?_) fun h => ?_) | (refine D5 ?_ ?_ ?_; (focus decide +kernel); (focus decide +kernel)))
        refine ⟨(ts.length - (i + 1) : Int).toNat,by unfold Hid at e6; omega,i + 1,_,v2,false,rfl,b2,by omega,by omega,by simp only [yz20,zz20,yz25]; omega,?_,rfl⟩
        unfold Hid at e5 ⊢
        rw [e5,List.append_assoc]; rfl
      | false =>
        simp only [yz21,if_false] at e5
        replace e5 := hid e5
        repeat' (first | (simp (maxSteps := 10000000) -implicitDefEqProofs (disch := first | exact tStr | decide | omega | assumption | (simp only [zz20,yz25,yz20]; omega)) only [D3,G6,G4,A9,C9,G3,B4,A1,C6,B2,D4,G5,D6,C5,B1,G7,B7,B8,C0,D8,D9,A5,J8,H9,E0,E1,M2,M3,M5,M4,I3,I4,P2,E4,E6,I0,B5,M1,N8,M9,N2,N3,N4,N5,N6,N7,N1,J2,J3,J4,J5,J6,J1,I8,I7,I9,M0,K9,E3,L1,C3,O1,O2,G2,O9,N9,O0,B0,L8,D2,I2,zz28,yz28,jz28,zz29,yz23,zz23,jz22,yz27,jz19,yz29,zz20,yz25,Nat.reduceAdd,Nat.reduceSub,Nat.reduceLT,Nat.reduceEqDiff,zz22,jz23,if_true,if_false,yz21,decide_true,decide_false,zz25,jz24,reduceIte,List.getElem?_cons_succ,List.getElem?_cons_zero,UInt8.reduceOfNat,fin1,fin2,L2,O7,L3,O8,H3,H6,H4,L4,H5,L5,B6,A8,zz24,M7,H0,M6,G0,Option.some.injEq,DV.tup.injEq,jz29,zz30,Int.reduceToNat,yz30,and_true,true_and,beq_self_eq_true,jz30,zz31,not_true_eq_false,not_false_eq_true,M8,J7,J0,A6,L9,K6,A4,B9,D7,G9,O3,O4,K0,F2,F5,I5,I6,F7,F4,F3,F6,K1,K4,O5,O6,K3,K2,K5,F8,F9,E8,E2,J9,G1,C7,E9,L0,C4,I1,K8,K7,E7,P3,C8,B3,A0,L7,H8,E5,L6,H7,yz19,zz27,yz31,jz25,jz31,zz32,jz26,zz21,jz27,zz26,and_self,Nat.reduceLeDiff,jz18,exists_eq_left',yz24,jz21,Nat.reduceBEq,yz22,yz32,G8,A3,N0,Int.reduceLT,Int.reduceLE,Int.reduceEq,c48,P4,iaT,yz9,Y0,c12 hb1, *]) | with_reducible (first | refine C2 (fun h => ?_) fun h => ?_ | refine F1 (fun h => ?_) fun h => ?_ | refine C1 (fun h => ?_) fun h => ?_ | refine F0 (fun h => ?_) fun h => ?_ | refine A2 (fun h => ?_) fun h => ?_ | refine A7 (fun h => ?_) fun h => ?_) | (refine D5 ?_ ?_ ?_; (focus decide +kernel); (focus decide +kernel)))
        refine w9 hb1 (by omega) fun v2 H2 b2 _ _ _ => ?_
        repeat' (first | (simp (maxSteps := 10000000) -implicitDefEqProofs (disch := first | exact tStr | decide | omega | assumption | (simp only [zz20,yz25,yz20]; omega)) only [D3,G6,G4,A9,C9,G3,B4,A1,C6,B2,D4,G5,D6,C5,B1,G7,B7,B8,C0,D8,D9,A5,J8,H9,E0,E1,M2,M3,M5,M4,I3,I4,P2,E4,E6,I0,B5,M1,N8,M9,N2,N3,N4,N5,N6,N7,N1,J2,J3,J4,J5,J6,J1,I8,I7,I9,M0,K9,E3,L1,C3,O1,O2,G2,O9,N9,O0,B0,L8,D2,I2,zz28,yz28,jz28,zz29,yz23,zz23,jz22,yz27,jz19,yz29,zz20,yz25,Nat.reduceAdd,Nat.reduceSub,Nat.reduceLT,Nat.reduceEqDiff,zz22,jz23,if_true,if_false,yz21,decide_true,decide_false,zz25,jz24,reduceIte,List.getElem?_cons_succ,List.getElem?_cons_zero,UInt8.reduceOfNat,fin1,fin2,L2,O7,L3,O8,H3,H6,H4,L4,H5,L5,B6,A8,zz24,M7,H0,M6,G0,Option.some.injEq,DV.tup.injEq,jz29,zz30,Int.reduceToNat,yz30,and_true,true_and,beq_self_eq_true,jz30,zz31,not_true_eq_false,not_false_eq_true,M8,J7,J0,A6,L9,K6,A4,B9,D7,G9,O3,O4,K0,F2,F5,I5,I6,F7,F4,F3,F6,K1,K4,O5,O6,K3,K2,K5,F8,F9,E8,E2,J9,G1,C7,E9,L0,C4,I1,K8,K7,E7,P3,C8,B3,A0,L7,H8,E5,L6,H7,yz19,zz27,yz31,jz25,jz31,zz32,jz26,zz21,jz27,zz26,and_self,Nat.reduceLeDiff,jz18,exists_eq_left',yz24,jz21,Nat.reduceBEq,yz22,yz32,G8,A3,N0,Int.reduceLT,Int.reduceLE,Int.reduceEq,c48, *]) | with_reducible (first | refine C2 (fun h => ?_) fun h => ?_ | refine F1 (fun h => ?_) fun h => ?_ | refine C1 (fun h => ?_) fun h => ?_ | refine F0 (fun h => ?_) fun h => ?_ | refine A2 (fun h => ?_) fun h => ?_ | refine A7 (fun h => ?_) fun h => ?_) | (refine D5 ?_ ?_ ?_; (focus decide +kernel); (focus decide +kernel)))
        exact ⟨(ts.length - (i + 1) : Int).toNat,by unfold Hid at e6; omega,i + 1,_,v2,false,rfl,b2,by omega,by omega,by simp only [yz20]; omega,e5,rfl⟩
  · repeat' (first | (simp (maxSteps := 10000000) -implicitDefEqProofs (disch := first | exact tStr | decide | omega | assumption | (simp only [zz20,yz25,yz20]; omega)) only [D3,G6,G4,A9,C9,G3,B4,A1,C6,B2,D4,G5,D6,C5,B1,G7,B7,B8,C0,D8,D9,A5,J8,H9,E0,E1,M2,M3,M5,M4,I3,I4,P2,E4,E6,I0,B5,M1,N8,M9,N2,N3,N4,N5,N6,N7,N1,J2,J3,J4,J5,J6,J1,I8,I7,I9,M0,K9,E3,L1,C3,O1,O2,G2,O9,N9,O0,B0,L8,D2,I2,zz28,yz28,jz28,zz29,yz23,zz23,jz22,yz27,jz19,yz29,zz20,yz25,Nat.reduceAdd,Nat.reduceSub,Nat.reduceLT,Nat.reduceEqDiff,zz22,jz23,if_true,if_false,yz21,decide_true,decide_false,zz25,jz24,reduceIte,List.getElem?_cons_succ,List.getElem?_cons_zero,UInt8.reduceOfNat,fin1,fin2,L2,O7,L3,O8,H3,H6,H4,L4,H5,L5,B6,A8,zz24,M7,H0,M6,G0,Option.some.injEq,DV.tup.injEq,jz29,zz30,Int.reduceToNat,yz30,and_true,true_and,beq_self_eq_true,jz30,zz31,not_true_eq_false,not_false_eq_true,M8,J7,J0,A6,L9,K6,A4,B9,D7,G9,O3,O4,K0,F2,F5,I5,I6,F7,F4,F3,F6,K1,K4,O5,O6,K3,K2,K5,F8,F9,E8,E2,J9,G1,C7,E9,L0,C4,I1,K8,K7,E7,P3,C8,B3,A0,L7,H8,E5,L6,H7,yz19,zz27,yz31,jz25,jz31,zz32,jz26,zz21,jz27,zz26,and_self,Nat.reduceLeDiff,jz18,exists_eq_left',yz24,jz21,Nat.reduceBEq,yz22,yz32,G8,A3,N0,Int.reduceLT,Int.reduceLE,Int.reduceEq,P5,R6, *]) | with_reducible (first | refine C2 (fun h => ?_) fun h => ?_ | refine F1 (fun h => ?_) fun h => ?_ | refine C1 (fun h => ?_) fun h => ?_ | refine F0 (fun h => ?_) fun h => ?_ | refine A2 (fun h => ?_) fun h => ?_ | refine A7 (fun h => ?_) fun h => ?_) | (refine D5 ?_ ?_ ?_; (focus decide +kernel); (focus decide +kernel)))
    refine w13 hb (by omega) fun H' _ _ => ?_
    repeat' (first | (simp (maxSteps := 10000000) -implicitDefEqProofs (disch := first | exact tStr | decide | omega | assumption | (simp only [zz20,yz25,yz20]; omega)) only [D3,G6,G4,A9,C9,G3,B4,A1,C6,B2,D4,G5,D6,C5,B1,G7,B7,B8,C0,D8,D9,A5,J8,H9,E0,E1,M2,M3,M5,M4,I3,I4,P2,E4,E6,I0,B5,M1,N8,M9,N2,N3,N4,N5,N6,N7,N1,J2,J3,J4,J5,J6,J1,I8,I7,I9,M0,K9,E3,L1,C3,O1,O2,G2,O9,N9,O0,B0,L8,D2,I2,zz28,yz28,jz28,zz29,yz23,zz23,jz22,yz27,jz19,yz29,zz20,yz25,Nat.reduceAdd,Nat.reduceSub,Nat.reduceLT,Nat.reduceEqDiff,zz22,jz23,if_true,if_false,yz21,decide_true,decide_false,zz25,jz24,reduceIte,List.getElem?_cons_succ,List.getElem?_cons_zero,UInt8.reduceOfNat,fin1,fin2,L2,O7,L3,O8,H3,H6,H4,L4,H5,L5,B6,A8,zz24,M7,H0,M6,G0,Option.some.injEq,DV.tup.injEq,jz29,zz30,Int.reduceToNat,yz30,and_true,true_and,beq_self_eq_true,jz30,zz31,not_true_eq_false,not_false_eq_true,M8,J7,J0,A6,L9,K6,A4,B9,D7,G9,O3,O4,K0,F2,F5,I5,I6,F7,F4,F3,F6,K1,K4,O5,O6,K3,K2,K5,F8,F9,E8,E2,J9,G1,C7,E9,L0,C4,I1,K8,K7,E7,P3,C8,B3,A0,L7,H8,E5,L6,H7,yz19,zz27,yz31,jz25,jz31,zz32,jz26,zz21,jz27,zz26,and_self,Nat.reduceLeDiff,jz18,exists_eq_left',yz24,jz21,Nat.reduceBEq,yz22,yz32,G8,A3,N0,Int.reduceLT,Int.reduceLE,Int.reduceEq,P5, *]) | with_reducible (first | refine C2 (fun h => ?_) fun h => ?_ | refine F1 (fun h => ?_) fun h => ?_ | refine C1 (fun h => ?_) fun h => ?_ | refine F0 (fun h => ?_) fun h => ?_ | refine A2 (fun h => ?_) fun h => ?_ | refine A7 (fun h => ?_) fun h => ?_) | (refine D5 ?_ ?_ ?_; (focus decide +kernel); (focus decide +kernel)))
    unfold Hid at e5
    rw [e5,jz9 hi e1]; rfl
theorem c26 (h2 : ts.length < 2 ^ 31) (h3 : R7 ts < 2 ^ 39) : R4 Tryd.prog cfgV 26 [.imm (S5 ts)] H K = K (strD (S9 [] false ts)) H :=
  T7 rfl (by simp only [zz21,jz27,plain_T.2,Bool.true_and]) (p26 h2 h3) H K
variable {vs : List (List UInt8 × List UInt8)} {m : List UInt8}
theorem svs_all : (svs vs).all (fun e => e.all jz6) = true := by
  unfold svs; rw [List.all_map,List.all_eq_true]; intro x _; rfl
theorem plain_S : plain (.imm (svs vs)) = true := noIdss_all svs_all
theorem svs_len : (svs vs).length = vs.length := by simp [svs]
theorem llen_S : llenD H (.imm (svs vs)) = .val (intD vs.length) H := by rw [llen_imm,svs_len]
theorem ia_S (h0 : 0 ≤ i) (h1 : i < vs.length) : iaD H 2 (.imm (svs vs)) (intD i) = .val (.iptr [strD (vs.getD i.toNat ([], [])).1,strD (vs.getD i.toNat ([], [])).2]) H := by
  have : (svs vs)[i.toNat]? = some [strD (vs.getD i.toNat ([], [])).1,strD (vs.getD i.toNat ([], [])).2] := by
    unfold svs
    rw [List.getElem?_map,List.getElem?_eq_getElem (by omega),List.getD_eq_getElem?_getD,List.getElem?_eq_getElem (by omega)]; rfl
  simp only [iaD,intD,dint,jz8,if_pos h0,this]
  rfl
theorem lastP_snoc {p : List UInt8 × List UInt8} : ∀ vs : List (List UInt8 × List UInt8),Z1 (vs ++ [p]) m = if p.1 = m then some p.2 else Z1 vs m
  | [] => by
    obtain ⟨a,b⟩ := p
    simp only [yz27,Z1]
  | (a,b) :: r => by
    simp only [jz22,Z1,lastP_snoc r]
    by_cases h : p.1 = m
    · simp only [h,if_true]
    · simp only [h,if_false]
theorem c25 (h2 : vs.length < 2 ^ 61) : R4 Tryd.prog cfgV 25 [.imm (svs vs),strD m] H K = K (lastD (Z1 vs m)) H := by
  refine T7 rfl (by simp only [zz21,jz27,plain_S,Bool.true_and]; rfl) (PE.prim (g := prim25) rfl ?_ ?_) H K
  · simp only [prim25,zz5,unsv_svs,if_pos h2]
  · unfold lastD; cases Z1 vs m <;> rfl
def sh18 (vs : List (List UInt8 × List UInt8)) (m : List UInt8) (i : Int) (x : Nat → DV) : DS := ⟨[DV.imm (svs vs),strD m,x 2,x 3,x 4,x 5,intD i,x 7,x 8,x 9,x 10,x 11,x 12,x 13,x 14,x 15,x 16,x 17,x 18,x 19,x 20,x 21,x 22,x 23,x 24,x 25], []⟩
def inv18 (vs : List (List UInt8 × List UInt8)) (m : List UInt8) (n : Nat) (d : DS) : Prop := ∃ i : Int,d = sh18 vs m i (fun k => d.sl.getD k P9) ∧ -1 ≤ i ∧ i < vs.length ∧ Hid (Z1 vs m = Z1 (vs.take (i + 1).toNat) m) ∧ Hid (n = (i + 1).toNat)
theorem p18 (h2 : vs.length < 2 ^ 61) : PE Tryd.prog cfgV 18 [.imm (svs vs),strD m] (lastD (Z1 vs m)) := by
  refine PE.code rfl code18 ?_
  dsimp only [sf18]
  repeat' (first | (simp (maxSteps := 10000000) -implicitDefEqProofs (disch := first | exact tStr | decide | omega | assumption | (simp only [zz20,yz25,yz20]; omega)) only [D3,G6,G4,A9,C9,G3,B4,A1,C6,B2,D4,G5,D6,C5,B1,G7,B7,B8,C0,D8,D9,A5,J8,H9,E0,E1,M2,M3,M5,M4,I3,I4,P2,E4,E6,I0,B5,M1,N8,M9,N2,N3,N4,N5,N6,N7,N1,J2,J3,J4,J5,J6,J1,I8,I7,I9,M0,K9,E3,L1,C3,O1,O2,G2,O9,N9,O0,B0,L8,D2,I2,zz28,yz28,jz28,zz29,yz23,zz23,jz22,yz27,jz19,yz29,zz20,yz25,Nat.reduceAdd,Nat.reduceSub,Nat.reduceLT,Nat.reduceEqDiff,zz22,jz23,if_true,if_false,yz21,decide_true,decide_false,zz25,jz24,reduceIte,List.getElem?_cons_succ,List.getElem?_cons_zero,UInt8.reduceOfNat,fin1,fin2,L2,O7,L3,O8,H3,H6,H4,L4,H5,L5,B6,A8,zz24,M7,H0,M6,G0,Option.some.injEq,DV.tup.injEq,jz29,zz30,Int.reduceToNat,yz30,and_true,true_and,beq_self_eq_true,jz30,zz31,not_true_eq_false,not_false_eq_true,M8,J7,J0,A6,L9,K6,A4,B9,D7,G9,O3,O4,K0,F2,F5,I5,I6,F7,F4,F3,F6,K1,K4,O5,O6,K3,K2,K5,F8,F9,E8,E2,J9,G1,C7,E9,L0,C4,I1,K8,K7,E7,P3,C8,B3,A0,L7,H8,E5,L6,H7,yz19,zz27,yz31,jz25,jz31,zz32,jz26,zz21,jz27,zz26,and_self,Nat.reduceLeDiff,jz18,exists_eq_left',yz24,jz21,Nat.reduceBEq,yz22,yz32,G8,A3,N0,Int.reduceLT,Int.reduceLE,Int.reduceEq,P5,llen_S, *]) | with_reducible (first | refine C2 (fun h => ?_) fun h => ?_ | refine F1 (fun h => ?_) fun h => ?_ | refine C1 (fun h => ?_) fun h => ?_ | refine F0 (fun h => ?_) fun h => ?_ | refine A2 (fun h => ?_) fun h => ?_ | refine A7 (fun h => ?_) fun h => ?_) | (refine D5 ?_ ?_ ?_; (focus decide +kernel); (focus decide +kernel)))
  refine V3 (inv18 vs m) ?_ (n := (vs.length - 1 + 1 : Int).toNat) ⟨(vs.length : Int) - 1,rfl,by omega,by omega,by unfold Hid; rw [show ((vs.length : Int) - 1 + 1).toNat = vs.length by omega,List.take_length],rfl⟩
  rintro n d ⟨i,hs,e1,e2,e5,e6⟩
  obtain ⟨x,rfl⟩ : ∃ x,d = sh18 vs m i x := ⟨_,hs⟩
  clear hs
  dsimp only [lp18_0,sh18]
  unfold Hid at e5
  by_cases hi : 0 ≤ i
  · have iaS := ia_S (vs := vs) (H := []) hi e2
    have ht : vs.take (i + 1).toNat = vs.take i.toNat ++ [vs.getD i.toNat ([], [])] := by
      rw [show (i + 1).toNat = i.toNat + 1 by omega,List.take_add_one,List.getElem?_eq_getElem (by omega),List.getD_eq_getElem?_getD,List.getElem?_eq_getElem (by omega)]; rfl
    rw [ht,lastP_snoc] at e5
    clear ht
    generalize vs.getD i.toNat ([], []) = p at *
    obtain ⟨a,b⟩ := p
    simp only at e5 iaS
    by_cases hm : a = m
    · rw [if_pos hm] at e5
      subst hm
      rw [e5]
      clear e5
      repeat' (first | (simp (maxSteps := 10000000) -implicitDefEqProofs (disch := first | exact tStr | decide | omega | assumption | (simp only [zz20,yz25,yz20]; omega)) only [D3,G6,G4,A9,C9,G3,B4,A1,C6,B2,D4,G5,D6,C5,B1,G7,B7,B8,C0,D8,D9,A5,J8,H9,E0,E1,M2,M3,M5,M4,I3,I4,P2,E4,E6,I0,B5,M1,N8,M9,N2,N3,N4,N5,N6,N7,N1,J2,J3,J4,J5,J6,J1,I8,I7,I9,M0,K9,E3,L1,C3,O1,O2,G2,O9,N9,O0,B0,L8,D2,I2,zz28,yz28,jz28,zz29,yz23,zz23,jz22,yz27,jz19,yz29,zz20,yz25,Nat.reduceAdd,Nat.reduceSub,Nat.reduceLT,Nat.reduceEqDiff,zz22,jz23,if_true,if_false,yz21,decide_true,decide_false,zz25,jz24,reduceIte,List.getElem?_cons_succ,List.getElem?_cons_zero,UInt8.reduceOfNat,fin1,fin2,L2,O7,L3,O8,H3,H6,H4,L4,H5,L5,B6,A8,zz24,M7,H0,M6,G0,Option.some.injEq,DV.tup.injEq,jz29,zz30,Int.reduceToNat,yz30,and_true,true_and,beq_self_eq_true,jz30,zz31,not_true_eq_false,not_false_eq_true,M8,J7,J0,A6,L9,K6,A4,B9,D7,G9,O3,O4,K0,F2,F5,I5,I6,F7,F4,F3,F6,K1,K4,O5,O6,K3,K2,K5,F8,F9,E8,E2,J9,G1,C7,E9,L0,C4,I1,K8,K7,E7,P3,C8,B3,A0,L7,H8,E5,L6,H7,yz19,zz27,yz31,jz25,jz31,zz32,jz26,zz21,jz27,zz26,and_self,Nat.reduceLeDiff,jz18,exists_eq_left',yz24,jz21,Nat.reduceBEq,yz22,yz32,G8,A3,N0,Int.reduceLT,Int.reduceLE,Int.reduceEq,P5,llen_S,P4,iaS,lastD, *]) | with_reducible (first | refine C2 (fun h => ?_) fun h => ?_ | refine F1 (fun h => ?_) fun h => ?_ | refine C1 (fun h => ?_) fun h => ?_ | refine F0 (fun h => ?_) fun h => ?_ | refine A2 (fun h => ?_) fun h => ?_ | refine A7 (fun h => ?_) fun h => ?_) | (refine D5 ?_ ?_ ?_; (focus decide +kernel); (focus decide +kernel)))
    · rw [if_neg hm] at e5
      replace e5 := hid e5
      repeat' (first | (simp (maxSteps := 10000000) -implicitDefEqProofs (disch := first | exact tStr | decide | omega | assumption | (simp only [zz20,yz25,yz20]; omega)) only [D3,G6,G4,A9,C9,G3,B4,A1,C6,B2,D4,G5,D6,C5,B1,G7,B7,B8,C0,D8,D9,A5,J8,H9,E0,E1,M2,M3,M5,M4,I3,I4,P2,E4,E6,I0,B5,M1,N8,M9,N2,N3,N4,N5,N6,N7,N1,J2,J3,J4,J5,J6,J1,I8,I7,I9,M0,K9,E3,L1,C3,O1,O2,G2,O9,N9,O0,B0,L8,D2,I2,zz28,yz28,jz28,zz29,yz23,zz23,jz22,yz27,jz19,yz29,zz20,yz25,Nat.reduceAdd,Nat.reduceSub,Nat.reduceLT,Nat.reduceEqDiff,zz22,jz23,if_true,if_false,yz21,decide_true,decide_false,zz25,jz24,reduceIte,List.getElem?_cons_succ,List.getElem?_cons_zero,UInt8.reduceOfNat,fin1,fin2,L2,O7,L3,O8,H3,H6,H4,L4,H5,L5,B6,A8,zz24,M7,H0,M6,G0,Option.some.injEq,DV.tup.injEq,jz29,zz30,Int.reduceToNat,yz30,and_true,true_and,beq_self_eq_true,jz30,zz31,not_true_eq_false,not_false_eq_true,M8,J7,J0,A6,L9,K6,A4,B9,D7,G9,O3,O4,K0,F2,F5,I5,I6,F7,F4,F3,F6,K1,K4,O5,O6,K3,K2,K5,F8,F9,E8,E2,J9,G1,C7,E9,L0,C4,I1,K8,K7,E7,P3,C8,B3,A0,L7,H8,E5,L6,H7,yz19,zz27,yz31,jz25,jz31,zz32,jz26,zz21,jz27,zz26,and_self,Nat.reduceLeDiff,jz18,exists_eq_left',yz24,jz21,Nat.reduceBEq,yz22,yz32,G8,A3,N0,Int.reduceLT,Int.reduceLE,Int.reduceEq,P5,llen_S,P4,iaS,lastD, *]) | with_reducible (first | refine C2 (fun h => ?_) fun h => ?_ | refine F1 (fun h => ?_) fun h => ?_ | refine C1 (fun h => ?_) fun h => ?_ | refine F0 (fun h => ?_) fun h => ?_ | refine A2 (fun h => ?_) fun h => ?_ | refine A7 (fun h => ?_) fun h => ?_) | (refine D5 ?_ ?_ ?_; (focus decide +kernel); (focus decide +kernel)))
      exact ⟨(i - 1 + 1).toNat,by unfold Hid at e6; omega,i - 1,rfl,by omega,by omega,by unfold Hid at e5 ⊢; rw [e5,show i - 1 + 1 = i by omega],rfl⟩
  · rw [e5,show (i + 1).toNat = 0 by omega,zz27]
    clear e5
    repeat' (first | (simp (maxSteps := 10000000) -implicitDefEqProofs (disch := first | exact tStr | decide | omega | assumption | (simp only [zz20,yz25,yz20]; omega)) only [D3,G6,G4,A9,C9,G3,B4,A1,C6,B2,D4,G5,D6,C5,B1,G7,B7,B8,C0,D8,D9,A5,J8,H9,E0,E1,M2,M3,M5,M4,I3,I4,P2,E4,E6,I0,B5,M1,N8,M9,N2,N3,N4,N5,N6,N7,N1,J2,J3,J4,J5,J6,J1,I8,I7,I9,M0,K9,E3,L1,C3,O1,O2,G2,O9,N9,O0,B0,L8,D2,I2,zz28,yz28,jz28,zz29,yz23,zz23,jz22,yz27,jz19,yz29,zz20,yz25,Nat.reduceAdd,Nat.reduceSub,Nat.reduceLT,Nat.reduceEqDiff,zz22,jz23,if_true,if_false,yz21,decide_true,decide_false,zz25,jz24,reduceIte,List.getElem?_cons_succ,List.getElem?_cons_zero,UInt8.reduceOfNat,fin1,fin2,L2,O7,L3,O8,H3,H6,H4,L4,H5,L5,B6,A8,zz24,M7,H0,M6,G0,Option.some.injEq,DV.tup.injEq,jz29,zz30,Int.reduceToNat,yz30,and_true,true_and,beq_self_eq_true,jz30,zz31,not_true_eq_false,not_false_eq_true,M8,J7,J0,A6,L9,K6,A4,B9,D7,G9,O3,O4,K0,F2,F5,I5,I6,F7,F4,F3,F6,K1,K4,O5,O6,K3,K2,K5,F8,F9,E8,E2,J9,G1,C7,E9,L0,C4,I1,K8,K7,E7,P3,C8,B3,A0,L7,H8,E5,L6,H7,yz19,zz27,yz31,jz25,jz31,zz32,jz26,zz21,jz27,zz26,and_self,Nat.reduceLeDiff,jz18,exists_eq_left',yz24,jz21,Nat.reduceBEq,yz22,yz32,G8,A3,N0,Int.reduceLT,Int.reduceLE,Int.reduceEq,P5,llen_S,lastD,Z1, *]) | with_reducible (first | refine C2 (fun h => ?_) fun h => ?_ | refine F1 (fun h => ?_) fun h => ?_ | refine C1 (fun h => ?_) fun h => ?_ | refine F0 (fun h => ?_) fun h => ?_ | refine A2 (fun h => ?_) fun h => ?_ | refine A7 (fun h => ?_) fun h => ?_) | (refine D5 ?_ ?_ ?_; (focus decide +kernel); (focus decide +kernel)))
theorem c18 (h2 : vs.length < 2 ^ 61) : R4 Tryd.prog cfgV 18 [.imm (svs vs),strD m] H K = K (lastD (Z1 vs m)) H :=
  T7 rfl (by simp only [zz21,jz27,plain_S,Bool.true_and]; rfl) (p18 h2) H K
end Go.Dx
end
section
namespace Go.Dx
open Go Go.Proofs
set_option maxRecDepth 8000
attribute [local congr] Q7 Q6 R2 P8 Q2 Q5 Q3
variable {l s : List UInt8} {H L : Heap} {K : DV → Heap → Prop} {i j k : Int} {r v m : List UInt8} {ts : List Tok} {t : Tok} {vs : List (List UInt8 × List UInt8)}
def putT (fill : List UInt8 → Option (List UInt8)) (vs : List (List UInt8 × List UInt8)) (ts : List Tok) : Option (List UInt8) :=
  match askT ts with
  | none => none
  | some (name,q) => match Z1 vs name with
    | some v => some v
    | none => match q with
      | none => none
      | some o => fill (S9 [] false o)
def X3 (fill : List UInt8 → Option (List UInt8)) (vs : List (List UInt8 × List UInt8)) : Nat → List Tok → List UInt8 → Option (List UInt8)
  | 0,_,_ => none
  | _ + 1, [],acc => if 400 < acc.length then none else some acc
  | m + 1,t :: r,acc => if yz3 t.kind t.value = true then (match S6 [] (t :: r) 0 with
      | none => none
      | some n => match putT fill vs (r.take (n - 2)) with
        | none => none
        | some s => if 400 < (acc ++ s).length then none else X3 fill vs m ((t :: r).drop n) (acc ++ s)) else X3 fill vs m r (acc ++ t.raw)
def yz12 : Nat → List (List UInt8 × List UInt8) → List UInt8 → Option (List UInt8)
  | 0,_,_ => none
  | n + 1,vs,value => if 400 < value.length then none else X3 (yz12 n vs) vs ((U0 value).length + 1) (U0 value) []
def resD : Option (List UInt8) → DV
  | some v => .tup [strD v,boD true]
  | none => .tup [strD [],boD false]
theorem stk_shift : ∀ (l : List Tok) (st : List UInt8) (n k : Nat),S6 st l (n + k) = (S6 st l n).map (· + k)
  | [],st,n,k => rfl
  | t :: r,st,n,k => by
    simp only [S6]
    generalize (if zz12 t.kind = true then X8 t.raw :: st else if t.kind = 11 ∧ t.raw = [st.headD 0] then st.tail else st) = st'
    by_cases h : st' = []
    · rw [if_pos h,if_pos h,zz22]; congr 1; omega
    · rw [if_neg h,if_neg h,show n + k + 1 = n + 1 + k by omega]
      exact stk_shift r st' (n + 1) k
theorem var_open (h : yz3 t.kind t.value = true) : zz12 t.kind = true := by
  unfold yz3 at h
  simp only [zz19,decide_eq_true_eq] at h
  unfold zz12; rw [h.1]; rfl
theorem stk_open {t : Tok} {r : List Tok} (h : zz12 t.kind = true) : S6 [] (t :: r) 0 = S6 [X8 t.raw] r 1 := by
  simp only [S6,h,if_true]
  rw [if_neg (by simp)]
theorem stk_two {t : Tok} {r : List Tok} {n : Nat} (h : zz12 t.kind = true) (hn : S6 [] (t :: r) 0 = some n) : 2 ≤ n ∧ n ≤ r.length + 1 := by
  rw [stk_open h] at hn
  have := stk_gt _ _ _ _ hn
  omega
theorem blk_stk {i : Nat} (hi : i < ts.length) (h : zz12 (ts.getD i tok0).kind = true) : jz14 ts i = match S6 [] (ts.drop i) 0 with | none => 0 | some n => i + n := by
  unfold jz14
  have hd : ts.drop i = ts.getD i tok0 :: ts.drop (i + 1) := by
    have := dropT (ts := ts) (i := (i : Int)) (by omega) (by omega)
    simpa [show ((i : Int) + 1).toNat = i + 1 by omega] using this
  rw [hd,stk_open h,show i + 1 = 1 + i by omega,stk_shift]
  rw [show 1 + i = i + 1 by omega]
  cases S6 [X8 (ts.getD i tok0).raw] (ts.drop (i + 1)) 1 with
  | none => rfl
  | some n => simp only [zz22,Option.getD_some]; omega
theorem askT_sub {name : List UInt8} {o : List Tok} (h : askT ts = some (name,some o)) : ∃ a,ts.drop a = o ∧ o.length + 2 ≤ ts.length := by
  unfold askT at h
  split at h
  · cases h
  · rename_i t r hr
    split at h
    · split at h
      · simp at h
      · rename_i u q hq
        split at h
        · simp only [Option.some.injEq,Prod.mk.injEq] at h
          obtain ⟨_,rfl⟩ := h
          have e : ts.drop (Q4 ts + 1 + Q4 r + 1) = q := by
            rw [show Q4 ts + 1 + Q4 r + 1 = Q4 ts + (1 + (Q4 r + 1)) by omega, ← List.drop_drop,hr, ← List.drop_drop,yz31,jz25, ← List.drop_drop,hq]; rfl
          have l1 := congrArg List.length hr
          have l2 := congrArg List.length hq
          rw [jz32,zz20] at l1 l2
          exact ⟨_,e,by omega⟩
        · simp at h
    · simp at h
theorem U5 (a : Nat) (ts : List Tok) : R7 (ts.drop a) ≤ R7 ts := by
  induction ts generalizing a with
  | nil => simp
  | cons t r ih =>
    cases a with
    | zero => simp
    | succ a => rw [yz31,R7]; have := ih a; omega
theorem rawSum_take (a : Nat) (ts : List Tok) : R7 (ts.take a) ≤ R7 ts := by
  induction ts generalizing a with
  | nil => simp
  | cons t r ih =>
    cases a with
    | zero => simp [R7]
    | succ a => rw [yz19,R7,R7]; have := ih a; omega
theorem rawSum_length (ts : List Tok) : ts.length ≤ R7 ts := by
  induction ts with
  | nil => simp [R7]
  | cons t r ih => rw [R7,zz20]; omega
theorem mem_raw (ts : List Tok) : ∀ t ∈ ts,t.raw.length ≤ R7 ts := by
  induction ts with
  | nil => intro t h; cases h
  | cons a r ih =>
    intro t h
    rw [R7]
    rcases List.mem_cons.mp h with rfl | h
    · omega
    · have := ih t h; omega
theorem rawSum_text (ts : List Tok) : R7 ts = (ts.flatMap Tok.raw).length + ts.length := by
  induction ts with
  | nil => rfl
  | cons t r ih => rw [R7,List.flatMap_cons,yz20,zz20,ih]; omega
theorem toks_sum (l : List UInt8) : R7 (U0 l) ≤ 2 * l.length := by
  rw [rawSum_text,toksT_text]
  have := toksT_length l
  omega
theorem head_short : ∀ (ts : List Tok) (s : List UInt8) (g : Bool),(∀ t ∈ ts,t.ok) → (S9 s g ts).length ≤ s.length + (if g = true then 1 else 0) + (ts.flatMap Tok.raw).length
  | [],s,g,_ => by simp [S9]
  | t :: r,s,g,h => by
    have hr := fun x hx => h x (List.mem_cons_of_mem _ hx)
    have ht := List.length_pos_iff.mpr (h t (List.mem_cons_self ..)).raw
    rw [S9,List.flatMap_cons,yz20]
    split
    · have := head_short r s (!decide (s = [])) hr
      split at this <;> omega
    · have := head_short r (s ++ if g = true then 32 :: t.raw else t.raw) false hr
      rw [yz20] at this
      cases g with
      | true => simp only [if_true,zz20,yz21,if_false] at this ⊢; omega
      | false => simp only [yz21,if_false] at this ⊢; omega
theorem flat_drop (a : Nat) (ts : List Tok) : ((ts.drop a).flatMap Tok.raw).length ≤ (ts.flatMap Tok.raw).length := by
  induction ts generalizing a with
  | nil => simp
  | cons t r ih =>
    cases a with
    | zero => simp
    | succ a => rw [yz31,List.flatMap_cons,yz20]; have := ih a; omega
theorem flat_take (a : Nat) (ts : List Tok) : ((ts.take a).flatMap Tok.raw).length ≤ (ts.flatMap Tok.raw).length := by
  induction ts generalizing a with
  | nil => simp
  | cons t r ih =>
    cases a with
    | zero => simp
    | succ a => rw [yz19,List.flatMap_cons,List.flatMap_cons,yz20,yz20]; have := ih a; omega
theorem put_some {fill : List UInt8 → Option (List UInt8)} {name : List UInt8} {q : Option (List Tok)} (h : askT ts = some (name,q)) {v : List UInt8} (hv : Z1 vs name = some v) : putT fill vs ts = some v := by
  unfold putT; rw [h]; simp only [hv]
theorem put_none {fill : List UInt8 → Option (List UInt8)} (h : askT ts = none) : putT fill vs ts = none := by
  unfold putT; rw [h]
theorem put_no {fill : List UInt8 → Option (List UInt8)} {name : List UInt8} (h : askT ts = some (name,none)) (hv : Z1 vs name = none) : putT fill vs ts = none := by
  unfold putT; rw [h]; simp only [hv]
theorem put_fill {fill : List UInt8 → Option (List UInt8)} {name : List UInt8} {o : List Tok} (h : askT ts = some (name,some o)) (hv : Z1 vs name = none) : putT fill vs ts = fill (S9 [] false o) := by
  unfold putT; rw [h]; simp only [hv]
theorem p11 {fill : List UInt8 → Option (List UInt8)} (h2 : R7 ts < 2 ^ 30) (hv : vs.length < 2 ^ 61)
    (hf : ∀ name o,askT ts = some (name,some o) → Z1 vs name = none → PE Tryd.prog cfgV 5 [strD (S9 [] false o), .imm (svs vs)] (resD (fill (S9 [] false o)))) :
    PE Tryd.prog cfgV 11 [.imm (S5 ts), .imm (svs vs)] (resD (putT fill vs ts)) := by
  refine PE.code rfl code11 ?_
  dsimp only [sf11]
  have hl := rawSum_length ts
  have h3 : ts.length < 2 ^ 31 := by omega
  cases ha : askT ts with
  | none =>
    rw [put_none ha]
    repeat' (first | (simp (maxSteps := 10000000) -implicitDefEqProofs (disch := first | exact tStr | decide | omega | assumption | (simp only [zz20,yz25,yz20]; omega)) only [D3,G6,G4,A9,C9,G3,B4,A1,C6,B2,D4,G5,D6,C5,B1,G7,B7,B8,C0,D8,D9,A5,J8,H9,E0,E1,M2,M3,M5,M4,I3,I4,P2,E4,E6,I0,B5,M1,N8,M9,N2,N3,N4,N5,N6,N7,N1,J2,J3,J4,J5,J6,J1,I8,I7,I9,M0,K9,E3,L1,C3,O1,O2,G2,O9,N9,O0,B0,L8,D2,I2,zz28,yz28,jz28,zz29,yz23,zz23,jz22,yz27,jz19,yz29,zz20,yz25,Nat.reduceAdd,Nat.reduceSub,Nat.reduceLT,Nat.reduceEqDiff,zz22,jz23,if_true,if_false,yz21,decide_true,decide_false,zz25,jz24,reduceIte,List.getElem?_cons_succ,List.getElem?_cons_zero,UInt8.reduceOfNat,fin1,fin2,L2,O7,L3,O8,H3,H6,H4,L4,H5,L5,B6,A8,zz24,M7,H0,M6,G0,Option.some.injEq,DV.tup.injEq,jz29,zz30,Int.reduceToNat,yz30,and_true,true_and,beq_self_eq_true,jz30,zz31,not_true_eq_false,not_false_eq_true,M8,J7,J0,A6,L9,K6,A4,B9,D7,G9,O3,O4,K0,F2,F5,I5,I6,F7,F4,F3,F6,K1,K4,O5,O6,K3,K2,K5,F8,F9,E8,E2,J9,G1,C7,E9,L0,C4,I1,K8,K7,E7,P3,C8,B3,A0,L7,H8,E5,L6,H7,yz19,zz27,yz31,jz25,jz31,zz32,jz26,zz21,jz27,zz26,and_self,Nat.reduceLeDiff,jz18,exists_eq_left',yz24,jz21,Nat.reduceBEq,yz22,yz32,G8,A3,N0,Int.reduceLT,Int.reduceLE,Int.reduceEq,c24,askD,resD,ret2, *]) | with_reducible (first | refine C2 (fun h => ?_) fun h => ?_ | refine F1 (fun h => ?_) fun h => ?_ | refine C1 (fun h => ?_) fun h => ?_ | refine F0 (fun h => ?_) fun h => ?_ | refine A2 (fun h => ?_) fun h => ?_ | refine A7 (fun h => ?_) fun h => ?_) | (refine D5 ?_ ?_ ?_; (focus decide +kernel); (focus decide +kernel)))
  | some p =>
    obtain ⟨name,q⟩ := p
    cases hn : Z1 vs name with
    | some v =>
      rw [put_some ha hn]
      cases q with
      | none => repeat' (first | (simp (maxSteps := 10000000) -implicitDefEqProofs (disch := first | exact tStr | decide | omega | assumption | (simp only [zz20,yz25,yz20]; omega)) only [D3,G6,G4,A9,C9,G3,B4,A1,C6,B2,D4,G5,D6,C5,B1,G7,B7,B8,C0,D8,D9,A5,J8,H9,E0,E1,M2,M3,M5,M4,I3,I4,P2,E4,E6,I0,B5,M1,N8,M9,N2,N3,N4,N5,N6,N7,N1,J2,J3,J4,J5,J6,J1,I8,I7,I9,M0,K9,E3,L1,C3,O1,O2,G2,O9,N9,O0,B0,L8,D2,I2,zz28,yz28,jz28,zz29,yz23,zz23,jz22,yz27,jz19,yz29,zz20,yz25,Nat.reduceAdd,Nat.reduceSub,Nat.reduceLT,Nat.reduceEqDiff,zz22,jz23,if_true,if_false,yz21,decide_true,decide_false,zz25,jz24,reduceIte,List.getElem?_cons_succ,List.getElem?_cons_zero,UInt8.reduceOfNat,fin1,fin2,L2,O7,L3,O8,H3,H6,H4,L4,H5,L5,B6,A8,zz24,M7,H0,M6,G0,Option.some.injEq,DV.tup.injEq,jz29,zz30,Int.reduceToNat,yz30,and_true,true_and,beq_self_eq_true,jz30,zz31,not_true_eq_false,not_false_eq_true,M8,J7,J0,A6,L9,K6,A4,B9,D7,G9,O3,O4,K0,F2,F5,I5,I6,F7,F4,F3,F6,K1,K4,O5,O6,K3,K2,K5,F8,F9,E8,E2,J9,G1,C7,E9,L0,C4,I1,K8,K7,E7,P3,C8,B3,A0,L7,H8,E5,L6,H7,yz19,zz27,yz31,jz25,jz31,zz32,jz26,zz21,jz27,zz26,and_self,Nat.reduceLeDiff,jz18,exists_eq_left',yz24,jz21,Nat.reduceBEq,yz22,yz32,G8,A3,N0,Int.reduceLT,Int.reduceLE,Int.reduceEq,c24,c25,askD,resD,lastD, *]) | with_reducible (first | refine C2 (fun h => ?_) fun h => ?_ | refine F1 (fun h => ?_) fun h => ?_ | refine C1 (fun h => ?_) fun h => ?_ | refine F0 (fun h => ?_) fun h => ?_ | refine A2 (fun h => ?_) fun h => ?_ | refine A7 (fun h => ?_) fun h => ?_) | (refine D5 ?_ ?_ ?_; (focus decide +kernel); (focus decide +kernel)))
      | some o => repeat' (first | (simp (maxSteps := 10000000) -implicitDefEqProofs (disch := first | exact tStr | decide | omega | assumption | (simp only [zz20,yz25,yz20]; omega)) only [D3,G6,G4,A9,C9,G3,B4,A1,C6,B2,D4,G5,D6,C5,B1,G7,B7,B8,C0,D8,D9,A5,J8,H9,E0,E1,M2,M3,M5,M4,I3,I4,P2,E4,E6,I0,B5,M1,N8,M9,N2,N3,N4,N5,N6,N7,N1,J2,J3,J4,J5,J6,J1,I8,I7,I9,M0,K9,E3,L1,C3,O1,O2,G2,O9,N9,O0,B0,L8,D2,I2,zz28,yz28,jz28,zz29,yz23,zz23,jz22,yz27,jz19,yz29,zz20,yz25,Nat.reduceAdd,Nat.reduceSub,Nat.reduceLT,Nat.reduceEqDiff,zz22,jz23,if_true,if_false,yz21,decide_true,decide_false,zz25,jz24,reduceIte,List.getElem?_cons_succ,List.getElem?_cons_zero,UInt8.reduceOfNat,fin1,fin2,L2,O7,L3,O8,H3,H6,H4,L4,H5,L5,B6,A8,zz24,M7,H0,M6,G0,Option.some.injEq,DV.tup.injEq,jz29,zz30,Int.reduceToNat,yz30,and_true,true_and,beq_self_eq_true,jz30,zz31,not_true_eq_false,not_false_eq_true,M8,J7,J0,A6,L9,K6,A4,B9,D7,G9,O3,O4,K0,F2,F5,I5,I6,F7,F4,F3,F6,K1,K4,O5,O6,K3,K2,K5,F8,F9,E8,E2,J9,G1,C7,E9,L0,C4,I1,K8,K7,E7,P3,C8,B3,A0,L7,H8,E5,L6,H7,yz19,zz27,yz31,jz25,jz31,zz32,jz26,zz21,jz27,zz26,and_self,Nat.reduceLeDiff,jz18,exists_eq_left',yz24,jz21,Nat.reduceBEq,yz22,yz32,G8,A3,N0,Int.reduceLT,Int.reduceLE,Int.reduceEq,c24,c25,askD,resD,lastD, *]) | with_reducible (first | refine C2 (fun h => ?_) fun h => ?_ | refine F1 (fun h => ?_) fun h => ?_ | refine C1 (fun h => ?_) fun h => ?_ | refine F0 (fun h => ?_) fun h => ?_ | refine A2 (fun h => ?_) fun h => ?_ | refine A7 (fun h => ?_) fun h => ?_) | (refine D5 ?_ ?_ ?_; (focus decide +kernel); (focus decide +kernel)))
    | none =>
      cases q with
      | none =>
        rw [put_no ha hn]
        repeat' (first | (simp (maxSteps := 10000000) -implicitDefEqProofs (disch := first | exact tStr | decide | omega | assumption | (simp only [zz20,yz25,yz20]; omega)) only [D3,G6,G4,A9,C9,G3,B4,A1,C6,B2,D4,G5,D6,C5,B1,G7,B7,B8,C0,D8,D9,A5,J8,H9,E0,E1,M2,M3,M5,M4,I3,I4,P2,E4,E6,I0,B5,M1,N8,M9,N2,N3,N4,N5,N6,N7,N1,J2,J3,J4,J5,J6,J1,I8,I7,I9,M0,K9,E3,L1,C3,O1,O2,G2,O9,N9,O0,B0,L8,D2,I2,zz28,yz28,jz28,zz29,yz23,zz23,jz22,yz27,jz19,yz29,zz20,yz25,Nat.reduceAdd,Nat.reduceSub,Nat.reduceLT,Nat.reduceEqDiff,zz22,jz23,if_true,if_false,yz21,decide_true,decide_false,zz25,jz24,reduceIte,List.getElem?_cons_succ,List.getElem?_cons_zero,UInt8.reduceOfNat,fin1,fin2,L2,O7,L3,O8,H3,H6,H4,L4,H5,L5,B6,A8,zz24,M7,H0,M6,G0,Option.some.injEq,DV.tup.injEq,jz29,zz30,Int.reduceToNat,yz30,and_true,true_and,beq_self_eq_true,jz30,zz31,not_true_eq_false,not_false_eq_true,M8,J7,J0,A6,L9,K6,A4,B9,D7,G9,O3,O4,K0,F2,F5,I5,I6,F7,F4,F3,F6,K1,K4,O5,O6,K3,K2,K5,F8,F9,E8,E2,J9,G1,C7,E9,L0,C4,I1,K8,K7,E7,P3,C8,B3,A0,L7,H8,E5,L6,H7,yz19,zz27,yz31,jz25,jz31,zz32,jz26,zz21,jz27,zz26,and_self,Nat.reduceLeDiff,jz18,exists_eq_left',yz24,jz21,Nat.reduceBEq,yz22,yz32,G8,A3,N0,Int.reduceLT,Int.reduceLE,Int.reduceEq,c24,c25,askD,resD,lastD, *]) | with_reducible (first | refine C2 (fun h => ?_) fun h => ?_ | refine F1 (fun h => ?_) fun h => ?_ | refine C1 (fun h => ?_) fun h => ?_ | refine F0 (fun h => ?_) fun h => ?_ | refine A2 (fun h => ?_) fun h => ?_ | refine A7 (fun h => ?_) fun h => ?_) | (refine D5 ?_ ?_ ?_; (focus decide +kernel); (focus decide +kernel)))
      | some o =>
        rw [put_fill ha hn]
        obtain ⟨a,e1,e2⟩ := askT_sub ha
        have ho : R7 o < 2 ^ 39 := by rw [← e1]; have := U5 a ts; omega
        have hol : o.length < 2 ^ 31 := by omega
        have hc : ∀ (H : Heap) (K : DV → Heap → Prop),R4 Tryd.prog cfgV 5 [strD (S9 [] false o), .imm (svs vs)] H K = K (resD (fill (S9 [] false o))) H := fun H K =>
          T7 rfl (by simp only [zz21,jz27,plain_S,Bool.and_true]; rfl) (hf name o ha hn) H K
        clear e1 e2
        cases hr : fill (S9 [] false o) with
        | none =>
          rw [hr] at hc
          repeat' (first | (simp (maxSteps := 10000000) -implicitDefEqProofs (disch := first | exact tStr | decide | omega | assumption | (simp only [zz20,yz25,yz20]; omega)) only [D3,G6,G4,A9,C9,G3,B4,A1,C6,B2,D4,G5,D6,C5,B1,G7,B7,B8,C0,D8,D9,A5,J8,H9,E0,E1,M2,M3,M5,M4,I3,I4,P2,E4,E6,I0,B5,M1,N8,M9,N2,N3,N4,N5,N6,N7,N1,J2,J3,J4,J5,J6,J1,I8,I7,I9,M0,K9,E3,L1,C3,O1,O2,G2,O9,N9,O0,B0,L8,D2,I2,zz28,yz28,jz28,zz29,yz23,zz23,jz22,yz27,jz19,yz29,zz20,yz25,Nat.reduceAdd,Nat.reduceSub,Nat.reduceLT,Nat.reduceEqDiff,zz22,jz23,if_true,if_false,yz21,decide_true,decide_false,zz25,jz24,reduceIte,List.getElem?_cons_succ,List.getElem?_cons_zero,UInt8.reduceOfNat,fin1,fin2,L2,O7,L3,O8,H3,H6,H4,L4,H5,L5,B6,A8,zz24,M7,H0,M6,G0,Option.some.injEq,DV.tup.injEq,jz29,zz30,Int.reduceToNat,yz30,and_true,true_and,beq_self_eq_true,jz30,zz31,not_true_eq_false,not_false_eq_true,M8,J7,J0,A6,L9,K6,A4,B9,D7,G9,O3,O4,K0,F2,F5,I5,I6,F7,F4,F3,F6,K1,K4,O5,O6,K3,K2,K5,F8,F9,E8,E2,J9,G1,C7,E9,L0,C4,I1,K8,K7,E7,P3,C8,B3,A0,L7,H8,E5,L6,H7,yz19,zz27,yz31,jz25,jz31,zz32,jz26,zz21,jz27,zz26,and_self,Nat.reduceLeDiff,jz18,exists_eq_left',yz24,jz21,Nat.reduceBEq,yz22,yz32,G8,A3,N0,Int.reduceLT,Int.reduceLE,Int.reduceEq,c24,c25,c26,hc,askD,resD,lastD, *]) | with_reducible (first | refine C2 (fun h => ?_) fun h => ?_ | refine F1 (fun h => ?_) fun h => ?_ | refine C1 (fun h => ?_) fun h => ?_ | refine F0 (fun h => ?_) fun h => ?_ | refine A2 (fun h => ?_) fun h => ?_ | refine A7 (fun h => ?_) fun h => ?_) | (refine D5 ?_ ?_ ?_; (focus decide +kernel); (focus decide +kernel)))
        | some w =>
          rw [hr] at hc
          repeat' (first | (simp (maxSteps := 10000000) -implicitDefEqProofs (disch := first | exact tStr | decide | omega | assumption | (simp only [zz20,yz25,yz20]; omega)) only [D3,G6,G4,A9,C9,G3,B4,A1,C6,B2,D4,G5,D6,C5,B1,G7,B7,B8,C0,D8,D9,A5,J8,H9,E0,E1,M2,M3,M5,M4,I3,I4,P2,E4,E6,I0,B5,M1,N8,M9,N2,N3,N4,N5,N6,N7,N1,J2,J3,J4,J5,J6,J1,I8,I7,I9,M0,K9,E3,L1,C3,O1,O2,G2,O9,N9,O0,B0,L8,D2,I2,zz28,yz28,jz28,zz29,yz23,zz23,jz22,yz27,jz19,yz29,zz20,yz25,Nat.reduceAdd,Nat.reduceSub,Nat.reduceLT,Nat.reduceEqDiff,zz22,jz23,if_true,if_false,yz21,decide_true,decide_false,zz25,jz24,reduceIte,List.getElem?_cons_succ,List.getElem?_cons_zero,UInt8.reduceOfNat,fin1,fin2,L2,O7,L3,O8,H3,H6,H4,L4,H5,L5,B6,A8,zz24,M7,H0,M6,G0,Option.some.injEq,DV.tup.injEq,jz29,zz30,Int.reduceToNat,yz30,and_true,true_and,beq_self_eq_true,jz30,zz31,not_true_eq_false,not_false_eq_true,M8,J7,J0,A6,L9,K6,A4,B9,D7,G9,O3,O4,K0,F2,F5,I5,I6,F7,F4,F3,F6,K1,K4,O5,O6,K3,K2,K5,F8,F9,E8,E2,J9,G1,C7,E9,L0,C4,I1,K8,K7,E7,P3,C8,B3,A0,L7,H8,E5,L6,H7,yz19,zz27,yz31,jz25,jz31,zz32,jz26,zz21,jz27,zz26,and_self,Nat.reduceLeDiff,jz18,exists_eq_left',yz24,jz21,Nat.reduceBEq,yz22,yz32,G8,A3,N0,Int.reduceLT,Int.reduceLE,Int.reduceEq,c24,c25,c26,hc,askD,resD,lastD, *]) | with_reducible (first | refine C2 (fun h => ?_) fun h => ?_ | refine F1 (fun h => ?_) fun h => ?_ | refine C1 (fun h => ?_) fun h => ?_ | refine F0 (fun h => ?_) fun h => ?_ | refine A2 (fun h => ?_) fun h => ?_ | refine A7 (fun h => ?_) fun h => ?_) | (refine D5 ?_ ?_ ?_; (focus decide +kernel); (focus decide +kernel)))
end Go.Dx
end
