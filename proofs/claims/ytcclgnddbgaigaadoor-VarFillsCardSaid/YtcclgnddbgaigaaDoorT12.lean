/- A part of the proof of VarFills: what functions of the program answer. -/
import Derived.Test.YtcclgnddbgaigaaDoorT11
open Nat renaming le_refl → jz18, add_zero → jz21, zero_add → yz24, le_zero_eq → yz32
open Bool renaming and_eq_true → zz19, false_eq_true → yz21, not_false → jz24, not_true → zz25, and_self → zz26, true_beq → jz30, false_beq → zz31, not_eq_true → zz33
open List renaming take_succ_cons → yz19, replicate_succ → jz19, length_cons → zz20, length_append → yz20, all_cons → zz21, singleton_append → yz22, cons_append → jz22, map_nil → zz23, map_cons → yz23, length_nil → yz25, drop_zero → jz25, append_nil → jz26, take_zero → zz27, nil_append → yz27, all_nil → jz27, set_cons_succ → zz28, set_cons_zero → yz28, getD_cons_succ → jz28, getD_cons_zero → zz29, replicate_zero → yz29, drop_succ_cons → yz31, drop_nil → jz31, take_nil → zz32, length_drop → jz32
open Option renaming map_some → zz22, map_none → jz23, bind_some → zz24
open Int renaming toNat_zero → jz29, toNat_one → zz30, cast_ofNat_Int → yz30
set_option linter.all false
section
namespace Go.Dx
open Go Go.Proofs
set_option maxRecDepth 8000
attribute [local congr] Q7 Q6 R2 P8 Q2 Q5 Q3
variable {b : UInt8} {l : List UInt8} {H : Heap} {K : DV → Heap → Prop} {i : Int}
structure Tok where
  kind : Int
  raw : List UInt8
  value : List UInt8
  num : Int
def Tok.cs (t : Tok) : List DV := [intD t.kind,strD t.raw,strD t.value,intD t.num]
def tokD (k : Int) (r v : List UInt8) (n : Int) : DV := .agg [intD k,strD r,strD v,intD n]
def U6 : Nat → List UInt8 → Option Nat
  | n,a :: b :: r => if a = 42 ∧ b = 47 then some (n + 2) else U6 (n + 1) (b :: r)
  | _,_ => none
termination_by _ l => l.length
def yz4 (l : List UInt8) : Nat := (U6 2 (l.drop 2)).getD l.length
theorem note_hit {l : List UInt8} {i : Int} (h : 0 ≤ i) (h1 : i + 1 < l.length) (ha : l.getD i.toNat 0 = 42) (hb : l.getD (i + 1).toNat 0 = 47) : U6 i.toNat (l.drop i.toNat) = some (i + 2).toNat := by
  rw [T2 h (by omega),T2 (by omega) h1,U6,if_pos ⟨ha,hb⟩]
  congr 1; omega
theorem note_go {l : List UInt8} {i : Int} (h : 0 ≤ i) (h1 : i + 1 < l.length) (hn : ¬ (l.getD i.toNat 0 = 42 ∧ l.getD (i + 1).toNat 0 = 47)) : U6 i.toNat (l.drop i.toNat) = U6 (i + 1).toNat (l.drop (i + 1).toNat) := by
  rw [T2 h (by omega),T2 (by omega) h1,U6,if_neg hn]
  congr 1; omega
theorem note_end {l : List UInt8} {i : Int} (h : 0 ≤ i) (h1 : ¬ i + 1 < l.length) : U6 i.toNat (l.drop i.toNat) = none := by
  by_cases h2 : i < l.length
  · rw [T2 h h2,drop_nil h1 (by omega)]; simp [U6]
  · rw [drop_nil h2 h]; simp [U6]
def sh52 (l : List UInt8) (i : Int) (x : Nat → DV) : DS := ⟨[strD l,x 1,DV.ptr 0 0 0,intD i,x 4,x 5,x 6,x 7,x 8,x 9,x 10,x 11,x 12,x 13,x 14,x 15,x 16,x 17,x 18,x 19,x 20,x 21,x 22,x 23,x 24,x 25,x 26,x 27,x 28], [some (Row.mk 4 [[intD 0,strD [],strD [],intD 0]] 37 0 true)]⟩
def inv52 (l : List UInt8) (n : Nat) (s : DS) : Prop := ∃ (i : Int),s = sh52 l i (fun k => s.sl.getD k P9) ∧ 2 ≤ i ∧ i ≤ l.length + 2 ∧
  Hid (U6 2 (l.drop 2) = U6 i.toNat (l.drop i.toNat)) ∧ Hid (n = (l.length - i).toNat)
theorem p52 (h2 : l.length < 2 ^ 60) : PE Tryd.prog cfgV 52 [strD l] (tokD 9 (l.take (yz4 l)) [] 0) := by
  refine PE.code rfl code52 ?_
  dsimp only [sf52]
  repeat' (first | (simp (maxSteps := 10000000) -implicitDefEqProofs (disch := first | exact tStr | decide | omega | assumption | (simp only [zz20,yz25,yz20]; omega)) only [D3,G6,G4,A9,C9,G3,B4,A1,C6,B2,D4,G5,D6,C5,B1,G7,B7,B8,C0,D8,D9,A5,J8,H9,E0,E1,M2,M3,M5,M4,I3,I4,P2,E4,E6,I0,B5,M1,N8,M9,N2,N3,N4,N5,N6,N7,N1,J2,J3,J4,J5,J6,J1,I8,I7,I9,M0,K9,E3,L1,C3,O1,O2,G2,O9,N9,O0,B0,L8,D2,I2,zz28,yz28,jz28,zz29,yz23,zz23,jz22,yz27,jz19,yz29,zz20,yz25,Nat.reduceAdd,Nat.reduceSub,Nat.reduceLT,Nat.reduceEqDiff,zz22,jz23,if_true,if_false,yz21,decide_true,decide_false,zz25,jz24,reduceIte,List.getElem?_cons_succ,List.getElem?_cons_zero,UInt8.reduceOfNat,fin1,fin2,L2,O7,L3,O8,H3,H6,H4,L4,H5,L5,B6,A8,zz24,M7,H0,M6,G0,Option.some.injEq,DV.tup.injEq,jz29,zz30,Int.reduceToNat,yz30,and_true,true_and,beq_self_eq_true,jz30,zz31,not_true_eq_false,not_false_eq_true,M8,J7,J0,A6,L9,K6,A4,B9,D7,G9,O3,O4,K0,F2,F5,I5,I6,F7,F4,F3,F6,K1,K4,O5,O6,K3,K2,K5,F8,F9,E8,E2,J9,G1,C7,E9,L0,C4,I1,K8,K7,E7,P3,C8,B3,A0,L7,H8,E5,L6,H7,yz19,zz27,yz31,jz25,jz31,zz32,jz26,zz21,jz27,zz26,and_self,Nat.reduceLeDiff,jz18,exists_eq_left',yz24,jz21,Nat.reduceBEq,yz22,yz32,G8,A3,N0,Int.reduceLT,Int.reduceLE,Int.reduceEq,c57, *]) | with_reducible (first | refine C2 (fun h => ?_) fun h => ?_ | refine F1 (fun h => ?_) fun h => ?_ | refine C1 (fun h => ?_) fun h => ?_ | refine F0 (fun h => ?_) fun h => ?_ | refine A2 (fun h => ?_) fun h => ?_ | refine A7 (fun h => ?_) fun h => ?_) | (refine D5 ?_ ?_ ?_; (focus decide +kernel); (focus decide +kernel)))
  refine V3 (inv52 l) ?_ (n := (l.length - 2 : Int).toNat) ⟨2,rfl,by omega,by omega,rfl,rfl⟩
  rintro n s ⟨i,hs,e1,e2,e4,e6⟩
  obtain ⟨x,rfl⟩ : ∃ x,s = sh52 l i x := ⟨_,hs⟩
  clear hs
  dsimp only [lp52_0,sh52]
  by_cases h1 : i + 1 < l.length
  · by_cases hn : l.getD i.toNat 0 = 42 ∧ l.getD (i + 1).toNat 0 = 47
    · obtain ⟨ha,hb⟩ := hn
      repeat' (first | (simp (maxSteps := 10000000) -implicitDefEqProofs (disch := first | exact tStr | decide | omega | assumption | (simp only [zz20,yz25,yz20]; omega)) only [D3,G6,G4,A9,C9,G3,B4,A1,C6,B2,D4,G5,D6,C5,B1,G7,B7,B8,C0,D8,D9,A5,J8,H9,E0,E1,M2,M3,M5,M4,I3,I4,P2,E4,E6,I0,B5,M1,N8,M9,N2,N3,N4,N5,N6,N7,N1,J2,J3,J4,J5,J6,J1,I8,I7,I9,M0,K9,E3,L1,C3,O1,O2,G2,O9,N9,O0,B0,L8,D2,I2,zz28,yz28,jz28,zz29,yz23,zz23,jz22,yz27,jz19,yz29,zz20,yz25,Nat.reduceAdd,Nat.reduceSub,Nat.reduceLT,Nat.reduceEqDiff,zz22,jz23,if_true,if_false,yz21,decide_true,decide_false,zz25,jz24,reduceIte,List.getElem?_cons_succ,List.getElem?_cons_zero,UInt8.reduceOfNat,fin1,fin2,L2,O7,L3,O8,H3,H6,H4,L4,H5,L5,B6,A8,zz24,M7,H0,M6,G0,Option.some.injEq,DV.tup.injEq,jz29,zz30,Int.reduceToNat,yz30,and_true,true_and,beq_self_eq_true,jz30,zz31,not_true_eq_false,not_false_eq_true,M8,J7,J0,A6,L9,K6,A4,B9,D7,G9,O3,O4,K0,F2,F5,I5,I6,F7,F4,F3,F6,K1,K4,O5,O6,K3,K2,K5,F8,F9,E8,E2,J9,G1,C7,E9,L0,C4,I1,K8,K7,E7,P3,C8,B3,A0,L7,H8,E5,L6,H7,yz19,zz27,yz31,jz25,jz31,zz32,jz26,zz21,jz27,zz26,and_self,Nat.reduceLeDiff,jz18,exists_eq_left',yz24,jz21,Nat.reduceBEq,yz22,yz32,G8,A3,N0,Int.reduceLT,Int.reduceLE,Int.reduceEq,c57, *]) | with_reducible (first | refine C2 (fun h => ?_) fun h => ?_ | refine F1 (fun h => ?_) fun h => ?_ | refine C1 (fun h => ?_) fun h => ?_ | refine F0 (fun h => ?_) fun h => ?_ | refine A2 (fun h => ?_) fun h => ?_ | refine A7 (fun h => ?_) fun h => ?_) | (refine D5 ?_ ?_ ?_; (focus decide +kernel); (focus decide +kernel)))
      have f := note_hit (by omega) h1 ha hb
      unfold Hid at e4
      simp only [tokD,yz4,e4,f,Option.getD_some]
    · repeat' (first | (simp (maxSteps := 10000000) -implicitDefEqProofs (disch := first | exact tStr | decide | omega | assumption | (simp only [zz20,yz25,yz20]; omega)) only [D3,G6,G4,A9,C9,G3,B4,A1,C6,B2,D4,G5,D6,C5,B1,G7,B7,B8,C0,D8,D9,A5,J8,H9,E0,E1,M2,M3,M5,M4,I3,I4,P2,E4,E6,I0,B5,M1,N8,M9,N2,N3,N4,N5,N6,N7,N1,J2,J3,J4,J5,J6,J1,I8,I7,I9,M0,K9,E3,L1,C3,O1,O2,G2,O9,N9,O0,B0,L8,D2,I2,zz28,yz28,jz28,zz29,yz23,zz23,jz22,yz27,jz19,yz29,zz20,yz25,Nat.reduceAdd,Nat.reduceSub,Nat.reduceLT,Nat.reduceEqDiff,zz22,jz23,if_true,if_false,yz21,decide_true,decide_false,zz25,jz24,reduceIte,List.getElem?_cons_succ,List.getElem?_cons_zero,UInt8.reduceOfNat,fin1,fin2,L2,O7,L3,O8,H3,H6,H4,L4,H5,L5,B6,A8,zz24,M7,H0,M6,G0,Option.some.injEq,DV.tup.injEq,jz29,zz30,Int.reduceToNat,yz30,and_true,true_and,beq_self_eq_true,jz30,zz31,not_true_eq_false,not_false_eq_true,M8,J7,J0,A6,L9,K6,A4,B9,D7,G9,O3,O4,K0,F2,F5,I5,I6,F7,F4,F3,F6,K1,K4,O5,O6,K3,K2,K5,F8,F9,E8,E2,J9,G1,C7,E9,L0,C4,I1,K8,K7,E7,P3,C8,B3,A0,L7,H8,E5,L6,H7,yz19,zz27,yz31,jz25,jz31,zz32,jz26,zz21,jz27,zz26,and_self,Nat.reduceLeDiff,jz18,exists_eq_left',yz24,jz21,Nat.reduceBEq,yz22,yz32,G8,A3,N0,Int.reduceLT,Int.reduceLE,Int.reduceEq,c57, *]) | with_reducible (first | refine C2 (fun h => ?_) fun h => ?_ | refine F1 (fun h => ?_) fun h => ?_ | refine C1 (fun h => ?_) fun h => ?_ | refine F0 (fun h => ?_) fun h => ?_ | refine A2 (fun h => ?_) fun h => ?_ | refine A7 (fun h => ?_) fun h => ?_) | (refine D5 ?_ ?_ ?_; (focus decide +kernel); (focus decide +kernel)))
      · exact absurd ⟨by assumption,by assumption⟩ hn
      all_goals
        refine ⟨(l.length - (i + 1) : Int).toNat,?_,i + 1,rfl,by omega,by omega,?_,rfl⟩
        · unfold Hid at e6; omega
        · unfold Hid at e4 ⊢; rw [e4]; exact note_go (by omega) h1 hn
  · repeat' (first | (simp (maxSteps := 10000000) -implicitDefEqProofs (disch := first | exact tStr | decide | omega | assumption | (simp only [zz20,yz25,yz20]; omega)) only [D3,G6,G4,A9,C9,G3,B4,A1,C6,B2,D4,G5,D6,C5,B1,G7,B7,B8,C0,D8,D9,A5,J8,H9,E0,E1,M2,M3,M5,M4,I3,I4,P2,E4,E6,I0,B5,M1,N8,M9,N2,N3,N4,N5,N6,N7,N1,J2,J3,J4,J5,J6,J1,I8,I7,I9,M0,K9,E3,L1,C3,O1,O2,G2,O9,N9,O0,B0,L8,D2,I2,zz28,yz28,jz28,zz29,yz23,zz23,jz22,yz27,jz19,yz29,zz20,yz25,Nat.reduceAdd,Nat.reduceSub,Nat.reduceLT,Nat.reduceEqDiff,zz22,jz23,if_true,if_false,yz21,decide_true,decide_false,zz25,jz24,reduceIte,List.getElem?_cons_succ,List.getElem?_cons_zero,UInt8.reduceOfNat,fin1,fin2,L2,O7,L3,O8,H3,H6,H4,L4,H5,L5,B6,A8,zz24,M7,H0,M6,G0,Option.some.injEq,DV.tup.injEq,jz29,zz30,Int.reduceToNat,yz30,and_true,true_and,beq_self_eq_true,jz30,zz31,not_true_eq_false,not_false_eq_true,M8,J7,J0,A6,L9,K6,A4,B9,D7,G9,O3,O4,K0,F2,F5,I5,I6,F7,F4,F3,F6,K1,K4,O5,O6,K3,K2,K5,F8,F9,E8,E2,J9,G1,C7,E9,L0,C4,I1,K8,K7,E7,P3,C8,B3,A0,L7,H8,E5,L6,H7,yz19,zz27,yz31,jz25,jz31,zz32,jz26,zz21,jz27,zz26,and_self,Nat.reduceLeDiff,jz18,exists_eq_left',yz24,jz21,Nat.reduceBEq,yz22,yz32,G8,A3,N0,Int.reduceLT,Int.reduceLE,Int.reduceEq,c57, *]) | with_reducible (first | refine C2 (fun h => ?_) fun h => ?_ | refine F1 (fun h => ?_) fun h => ?_ | refine C1 (fun h => ?_) fun h => ?_ | refine F0 (fun h => ?_) fun h => ?_ | refine A2 (fun h => ?_) fun h => ?_ | refine A7 (fun h => ?_) fun h => ?_) | (refine D5 ?_ ?_ ?_; (focus decide +kernel); (focus decide +kernel)))
    have f := note_end (by omega) h1
    unfold Hid at e4
    simp only [tokD,yz4,e4,f,Option.getD_none,List.take_length]
theorem c52 (h2 : l.length < 2 ^ 60) : R4 Tryd.prog cfgV 52 [strD l] H K = K (tokD 9 (l.take (yz4 l)) [] 0) H := T7 rfl rfl (p52 h2) H K
def R8 (q : UInt8) (n : Nat) : List UInt8 → List UInt8 × Nat × Bool
  | [] => ([],n,false)
  | [a] => if a = q then ([],n,true) else if a = 10 then ([],n,false) else ([a],n + 1,false)
  | a :: b :: r => if a = q then ([],n,true) else if a = 10 then ([],n,false) else
      if a = 92 then (b :: (R8 q (n + 2) r).1,(R8 q (n + 2) r).2) else (a :: (R8 q (n + 1) (b :: r)).1,(R8 q (n + 1) (b :: r)).2)
termination_by l => l.length
def W5 (l : List UInt8) : DV :=
  if (R8 (l.getD 0 0) 1 (l.drop 1)).2.2 = true then tokD 5 (l.take ((R8 (l.getD 0 0) 1 (l.drop 1)).2.1 + 1)) (R8 (l.getD 0 0) 1 (l.drop 1)).1 0
  else tokD 6 (l.take (R8 (l.getD 0 0) 1 (l.drop 1)).2.1) [] 0
theorem text_close {q : UInt8} {l : List UInt8} {i : Int} (h : 0 ≤ i) (h1 : i < l.length) (ha : l.getD i.toNat 0 = q) : R8 q i.toNat (l.drop i.toNat) = ([],i.toNat,true) := by
  rw [T2 h h1]
  cases l.drop (i + 1).toNat <;> rw [R8,if_pos ha]
theorem text_line {q : UInt8} {l : List UInt8} {i : Int} (h : 0 ≤ i) (h1 : i < l.length) (ha : ¬ l.getD i.toNat 0 = q) (hb : l.getD i.toNat 0 = 10) : R8 q i.toNat (l.drop i.toNat) = ([],i.toNat,false) := by
  rw [T2 h h1]
  cases l.drop (i + 1).toNat <;> rw [R8,if_neg ha,if_pos hb]
theorem text_end {q : UInt8} {l : List UInt8} {i : Int} (h : 0 ≤ i) (h1 : ¬ i < l.length) : R8 q i.toNat (l.drop i.toNat) = ([],i.toNat,false) := by
  rw [drop_nil h1 h,R8]
theorem text_esc {q : UInt8} {l : List UInt8} {i : Int} (h : 0 ≤ i) (h1 : i + 1 < l.length) (ha : ¬ l.getD i.toNat 0 = q) (hb : ¬ l.getD i.toNat 0 = 10) (hc : l.getD i.toNat 0 = 92) :
    R8 q i.toNat (l.drop i.toNat) = (l.getD (i + 1).toNat 0 :: (R8 q (i + 1 + 1).toNat (l.drop (i + 1 + 1).toNat)).1,(R8 q (i + 1 + 1).toNat (l.drop (i + 1 + 1).toNat)).2) := by
  rw [T2 h (by omega),T2 (by omega) h1,R8,if_neg ha,if_neg hb,if_pos hc]
  rw [show i.toNat + 2 = (i + 1 + 1).toNat by omega]
theorem text_go {q : UInt8} {l : List UInt8} {i : Int} (h : 0 ≤ i) (h1 : i < l.length) (ha : ¬ l.getD i.toNat 0 = q) (hb : ¬ l.getD i.toNat 0 = 10) (hc : ¬ (l.getD i.toNat 0 = 92 ∧ i + 1 < l.length)) :
    R8 q i.toNat (l.drop i.toNat) = (l.getD i.toNat 0 :: (R8 q (i + 1).toNat (l.drop (i + 1).toNat)).1,(R8 q (i + 1).toNat (l.drop (i + 1).toNat)).2) := by
  rw [T2 h h1]
  by_cases h2 : i + 1 < l.length
  · rw [T2 (i := i + 1) (by omega) h2,R8,if_neg ha,if_neg hb,if_neg (fun e => hc ⟨e,h2⟩)]
    rw [show i.toNat + 1 = (i + 1).toNat by omega]
  · rw [drop_nil h2 (by omega),R8,R8,if_neg ha,if_neg hb]
    rw [show i.toNat + 1 = (i + 1).toNat by omega]
def sh53 (l : List UInt8) (i : Int) (o : List UInt8) (x : Nat → DV) : DS := ⟨[strD l,x 1,DV.ptr 0 0 0,strD o,intD i,x 5,x 6,x 7,x 8,x 9,x 10,x 11,x 12,x 13,x 14,x 15,x 16,x 17,x 18,x 19,x 20,x 21,x 22,x 23,x 24,x 25,x 26,x 27,x 28,x 29,x 30,x 31,x 32,x 33,x 34,x 35,x 36,x 37,x 38,x 39,x 40,x 41,x 42,x 43,x 44,x 45,x 46,x 47,x 48,x 49,x 50,x 51,x 52,x 53,x 54,x 55,x 56,x 57,x 58,x 59,x 60,x 61,x 62,x 63,x 64,x 65,x 66], [some (Row.mk 4 [[intD 0,strD [],strD [],intD 0]] 37 0 true)]⟩
def inv53 (l : List UInt8) (n : Nat) (s : DS) : Prop := ∃ (i : Int) (o : List UInt8),s = sh53 l i o (fun k => s.sl.getD k P9) ∧ 1 ≤ i ∧ i ≤ l.length ∧ o.length ≤ i ∧
  Hid (R8 (l.getD 0 0) 1 (l.drop 1) = (o ++ (R8 (l.getD 0 0) i.toNat (l.drop i.toNat)).1,(R8 (l.getD 0 0) i.toNat (l.drop i.toNat)).2)) ∧ Hid (n = (l.length - i).toNat)
theorem p53 (h1 : 0 < l.length) (h2 : l.length < 2 ^ 60) : PE Tryd.prog cfgV 53 [strD l] (W5 l) := by
  refine PE.code rfl code53 ?_
  dsimp only [sf53]
  repeat' (first | (simp (maxSteps := 10000000) -implicitDefEqProofs (disch := first | exact tStr | decide | omega | assumption | (simp only [zz20,yz25,yz20]; omega)) only [D3,G6,G4,A9,C9,G3,B4,A1,C6,B2,D4,G5,D6,C5,B1,G7,B7,B8,C0,D8,D9,A5,J8,H9,E0,E1,M2,M3,M5,M4,I3,I4,P2,E4,E6,I0,B5,M1,N8,M9,N2,N3,N4,N5,N6,N7,N1,J2,J3,J4,J5,J6,J1,I8,I7,I9,M0,K9,E3,L1,C3,O1,O2,G2,O9,N9,O0,B0,L8,D2,I2,zz28,yz28,jz28,zz29,yz23,zz23,jz22,yz27,jz19,yz29,zz20,yz25,Nat.reduceAdd,Nat.reduceSub,Nat.reduceLT,Nat.reduceEqDiff,zz22,jz23,if_true,if_false,yz21,decide_true,decide_false,zz25,jz24,reduceIte,List.getElem?_cons_succ,List.getElem?_cons_zero,UInt8.reduceOfNat,fin1,fin2,L2,O7,L3,O8,H3,H6,H4,L4,H5,L5,B6,A8,zz24,M7,H0,M6,G0,Option.some.injEq,DV.tup.injEq,jz29,zz30,Int.reduceToNat,yz30,and_true,true_and,beq_self_eq_true,jz30,zz31,not_true_eq_false,not_false_eq_true,M8,J7,J0,A6,L9,K6,A4,B9,D7,G9,O3,O4,K0,F2,F5,I5,I6,F7,F4,F3,F6,K1,K4,O5,O6,K3,K2,K5,F8,F9,E8,E2,J9,G1,C7,E9,L0,C4,I1,K8,K7,E7,P3,C8,B3,A0,L7,H8,E5,L6,H7,yz19,zz27,yz31,jz25,jz31,zz32,jz26,zz21,jz27,zz26,and_self,Nat.reduceLeDiff,jz18,exists_eq_left',yz24,jz21,Nat.reduceBEq,yz22,yz32,G8,A3,N0,Int.reduceLT,Int.reduceLE,Int.reduceEq,c57, *]) | with_reducible (first | refine C2 (fun h => ?_) fun h => ?_ | refine F1 (fun h => ?_) fun h => ?_ | refine C1 (fun h => ?_) fun h => ?_ | refine F0 (fun h => ?_) fun h => ?_ | refine A2 (fun h => ?_) fun h => ?_ | refine A7 (fun h => ?_) fun h => ?_) | (refine D5 ?_ ?_ ?_; (focus decide +kernel); (focus decide +kernel)))
  refine V3 (inv53 l) ?_ (n := (l.length - 1 : Int).toNat) ⟨1, [],rfl,by omega,by omega,by simp,by simp [Hid],rfl⟩
  rintro n s ⟨i,o,hs,e1,e2,e3,e4,e6⟩
  obtain ⟨x,rfl⟩ : ∃ x,s = sh53 l i o x := ⟨_,hs⟩
  clear hs
  dsimp only [lp53_0,sh53]
  have e0 : 0 ≤ i := by omega
  by_cases hi : i < l.length
  · by_cases ha : l.getD i.toNat 0 = l.getD 0 0
    · have f := text_close e0 hi ha
      by_cases hb : l.getD 0 0 = 10
      · repeat' (first | (simp (maxSteps := 10000000) -implicitDefEqProofs (disch := first | exact tStr | decide | omega | assumption | (simp only [zz20,yz25,yz20]; omega)) only [D3,G6,G4,A9,C9,G3,B4,A1,C6,B2,D4,G5,D6,C5,B1,G7,B7,B8,C0,D8,D9,A5,J8,H9,E0,E1,M2,M3,M5,M4,I3,I4,P2,E4,E6,I0,B5,M1,N8,M9,N2,N3,N4,N5,N6,N7,N1,J2,J3,J4,J5,J6,J1,I8,I7,I9,M0,K9,E3,L1,C3,O1,O2,G2,O9,N9,O0,B0,L8,D2,I2,zz28,yz28,jz28,zz29,yz23,zz23,jz22,yz27,jz19,yz29,zz20,yz25,Nat.reduceAdd,Nat.reduceSub,Nat.reduceLT,Nat.reduceEqDiff,zz22,jz23,if_true,if_false,yz21,decide_true,decide_false,zz25,jz24,reduceIte,List.getElem?_cons_succ,List.getElem?_cons_zero,UInt8.reduceOfNat,fin1,fin2,L2,O7,L3,O8,H3,H6,H4,L4,H5,L5,B6,A8,zz24,M7,H0,M6,G0,Option.some.injEq,DV.tup.injEq,jz29,zz30,Int.reduceToNat,yz30,and_true,true_and,beq_self_eq_true,jz30,zz31,not_true_eq_false,not_false_eq_true,M8,J7,J0,A6,L9,K6,A4,B9,D7,G9,O3,O4,K0,F2,F5,I5,I6,F7,F4,F3,F6,K1,K4,O5,O6,K3,K2,K5,F8,F9,E8,E2,J9,G1,C7,E9,L0,C4,I1,K8,K7,E7,P3,C8,B3,A0,L7,H8,E5,L6,H7,yz19,zz27,yz31,jz25,jz31,zz32,jz26,zz21,jz27,zz26,and_self,Nat.reduceLeDiff,jz18,exists_eq_left',yz24,jz21,Nat.reduceBEq,yz22,yz32,G8,A3,N0,Int.reduceLT,Int.reduceLE,Int.reduceEq,c57, *]) | with_reducible (first | refine C2 (fun h => ?_) fun h => ?_ | refine F1 (fun h => ?_) fun h => ?_ | refine C1 (fun h => ?_) fun h => ?_ | refine F0 (fun h => ?_) fun h => ?_ | refine A2 (fun h => ?_) fun h => ?_ | refine A7 (fun h => ?_) fun h => ?_) | (refine D5 ?_ ?_ ?_; (focus decide +kernel); (focus decide +kernel)))
        unfold Hid at e4
        rw [f] at e4
        simp only [W5,e4,if_true,jz26,tokD]
        rw [show i.toNat + 1 = (i + 1).toNat by omega]
      · repeat' (first | (simp (maxSteps := 10000000) -implicitDefEqProofs (disch := first | exact tStr | decide | omega | assumption | (simp only [zz20,yz25,yz20]; omega)) only [D3,G6,G4,A9,C9,G3,B4,A1,C6,B2,D4,G5,D6,C5,B1,G7,B7,B8,C0,D8,D9,A5,J8,H9,E0,E1,M2,M3,M5,M4,I3,I4,P2,E4,E6,I0,B5,M1,N8,M9,N2,N3,N4,N5,N6,N7,N1,J2,J3,J4,J5,J6,J1,I8,I7,I9,M0,K9,E3,L1,C3,O1,O2,G2,O9,N9,O0,B0,L8,D2,I2,zz28,yz28,jz28,zz29,yz23,zz23,jz22,yz27,jz19,yz29,zz20,yz25,Nat.reduceAdd,Nat.reduceSub,Nat.reduceLT,Nat.reduceEqDiff,zz22,jz23,if_true,if_false,yz21,decide_true,decide_false,zz25,jz24,reduceIte,List.getElem?_cons_succ,List.getElem?_cons_zero,UInt8.reduceOfNat,fin1,fin2,L2,O7,L3,O8,H3,H6,H4,L4,H5,L5,B6,A8,zz24,M7,H0,M6,G0,Option.some.injEq,DV.tup.injEq,jz29,zz30,Int.reduceToNat,yz30,and_true,true_and,beq_self_eq_true,jz30,zz31,not_true_eq_false,not_false_eq_true,M8,J7,J0,A6,L9,K6,A4,B9,D7,G9,O3,O4,K0,F2,F5,I5,I6,F7,F4,F3,F6,K1,K4,O5,O6,K3,K2,K5,F8,F9,E8,E2,J9,G1,C7,E9,L0,C4,I1,K8,K7,E7,P3,C8,B3,A0,L7,H8,E5,L6,H7,yz19,zz27,yz31,jz25,jz31,zz32,jz26,zz21,jz27,zz26,and_self,Nat.reduceLeDiff,jz18,exists_eq_left',yz24,jz21,Nat.reduceBEq,yz22,yz32,G8,A3,N0,Int.reduceLT,Int.reduceLE,Int.reduceEq,c57, *]) | with_reducible (first | refine C2 (fun h => ?_) fun h => ?_ | refine F1 (fun h => ?_) fun h => ?_ | refine C1 (fun h => ?_) fun h => ?_ | refine F0 (fun h => ?_) fun h => ?_ | refine A2 (fun h => ?_) fun h => ?_ | refine A7 (fun h => ?_) fun h => ?_) | (refine D5 ?_ ?_ ?_; (focus decide +kernel); (focus decide +kernel)))
        unfold Hid at e4
        rw [f] at e4
        simp only [W5,e4,if_true,jz26,tokD]
        rw [show i.toNat + 1 = (i + 1).toNat by omega]
    · by_cases hb : l.getD i.toNat 0 = 10
      · have f := text_line e0 hi ha hb
        rw [hb] at ha
        repeat' (first | (simp (maxSteps := 10000000) -implicitDefEqProofs (disch := first | exact tStr | decide | omega | assumption | (simp only [zz20,yz25,yz20]; omega)) only [D3,G6,G4,A9,C9,G3,B4,A1,C6,B2,D4,G5,D6,C5,B1,G7,B7,B8,C0,D8,D9,A5,J8,H9,E0,E1,M2,M3,M5,M4,I3,I4,P2,E4,E6,I0,B5,M1,N8,M9,N2,N3,N4,N5,N6,N7,N1,J2,J3,J4,J5,J6,J1,I8,I7,I9,M0,K9,E3,L1,C3,O1,O2,G2,O9,N9,O0,B0,L8,D2,I2,zz28,yz28,jz28,zz29,yz23,zz23,jz22,yz27,jz19,yz29,zz20,yz25,Nat.reduceAdd,Nat.reduceSub,Nat.reduceLT,Nat.reduceEqDiff,zz22,jz23,if_true,if_false,yz21,decide_true,decide_false,zz25,jz24,reduceIte,List.getElem?_cons_succ,List.getElem?_cons_zero,UInt8.reduceOfNat,fin1,fin2,L2,O7,L3,O8,H3,H6,H4,L4,H5,L5,B6,A8,zz24,M7,H0,M6,G0,Option.some.injEq,DV.tup.injEq,jz29,zz30,Int.reduceToNat,yz30,and_true,true_and,beq_self_eq_true,jz30,zz31,not_true_eq_false,not_false_eq_true,M8,J7,J0,A6,L9,K6,A4,B9,D7,G9,O3,O4,K0,F2,F5,I5,I6,F7,F4,F3,F6,K1,K4,O5,O6,K3,K2,K5,F8,F9,E8,E2,J9,G1,C7,E9,L0,C4,I1,K8,K7,E7,P3,C8,B3,A0,L7,H8,E5,L6,H7,yz19,zz27,yz31,jz25,jz31,zz32,jz26,zz21,jz27,zz26,and_self,Nat.reduceLeDiff,jz18,exists_eq_left',yz24,jz21,Nat.reduceBEq,yz22,yz32,G8,A3,N0,Int.reduceLT,Int.reduceLE,Int.reduceEq,c57, *]) | with_reducible (first | refine C2 (fun h => ?_) fun h => ?_ | refine F1 (fun h => ?_) fun h => ?_ | refine C1 (fun h => ?_) fun h => ?_ | refine F0 (fun h => ?_) fun h => ?_ | refine A2 (fun h => ?_) fun h => ?_ | refine A7 (fun h => ?_) fun h => ?_) | (refine D5 ?_ ?_ ?_; (focus decide +kernel); (focus decide +kernel)))
        unfold Hid at e4
        rw [f] at e4
        simp only [W5,e4,yz21,if_false,tokD]
      · by_cases hc : l.getD i.toNat 0 = 92
        · by_cases h3 : i + 1 < l.length
          · have f := text_esc e0 h3 ha hb hc
            rw [hc] at ha
            have k1 : ¬ (92 : UInt8) = 10 := by decide
            repeat' (first | (simp (maxSteps := 10000000) -implicitDefEqProofs (disch := first | exact tStr | decide | omega | assumption | (simp only [zz20,yz25,yz20]; omega)) only [D3,G6,G4,A9,C9,G3,B4,A1,C6,B2,D4,G5,D6,C5,B1,G7,B7,B8,C0,D8,D9,A5,J8,H9,E0,E1,M2,M3,M5,M4,I3,I4,P2,E4,E6,I0,B5,M1,N8,M9,N2,N3,N4,N5,N6,N7,N1,J2,J3,J4,J5,J6,J1,I8,I7,I9,M0,K9,E3,L1,C3,O1,O2,G2,O9,N9,O0,B0,L8,D2,I2,zz28,yz28,jz28,zz29,yz23,zz23,jz22,yz27,jz19,yz29,zz20,yz25,Nat.reduceAdd,Nat.reduceSub,Nat.reduceLT,Nat.reduceEqDiff,zz22,jz23,if_true,if_false,yz21,decide_true,decide_false,zz25,jz24,reduceIte,List.getElem?_cons_succ,List.getElem?_cons_zero,UInt8.reduceOfNat,fin1,fin2,L2,O7,L3,O8,H3,H6,H4,L4,H5,L5,B6,A8,zz24,M7,H0,M6,G0,Option.some.injEq,DV.tup.injEq,jz29,zz30,Int.reduceToNat,yz30,and_true,true_and,beq_self_eq_true,jz30,zz31,not_true_eq_false,not_false_eq_true,M8,J7,J0,A6,L9,K6,A4,B9,D7,G9,O3,O4,K0,F2,F5,I5,I6,F7,F4,F3,F6,K1,K4,O5,O6,K3,K2,K5,F8,F9,E8,E2,J9,G1,C7,E9,L0,C4,I1,K8,K7,E7,P3,C8,B3,A0,L7,H8,E5,L6,H7,yz19,zz27,yz31,jz25,jz31,zz32,jz26,zz21,jz27,zz26,and_self,Nat.reduceLeDiff,jz18,exists_eq_left',yz24,jz21,Nat.reduceBEq,yz22,yz32,G8,A3,N0,Int.reduceLT,Int.reduceLE,Int.reduceEq,c57, *]) | with_reducible (first | refine C2 (fun h => ?_) fun h => ?_ | refine F1 (fun h => ?_) fun h => ?_ | refine C1 (fun h => ?_) fun h => ?_ | refine F0 (fun h => ?_) fun h => ?_ | refine A2 (fun h => ?_) fun h => ?_ | refine A7 (fun h => ?_) fun h => ?_) | (refine D5 ?_ ?_ ?_; (focus decide +kernel); (focus decide +kernel)))
            all_goals
              unfold Hid at e4
              rw [f] at e4
              refine ⟨(l.length - (i + 1 + 1) : Int).toNat,?_,i + 1 + 1,_,rfl,by omega,by omega,by simp; omega,?_,rfl⟩
              · unfold Hid at e6; omega
              · unfold Hid; rw [e4]; simp
          · have f := text_go e0 hi ha hb (fun h => h3 h.2)
            rw [hc] at ha
            have k1 : ¬ (92 : UInt8) = 10 := by decide
            repeat' (first | (simp (maxSteps := 10000000) -implicitDefEqProofs (disch := first | exact tStr | decide | omega | assumption | (simp only [zz20,yz25,yz20]; omega)) only [D3,G6,G4,A9,C9,G3,B4,A1,C6,B2,D4,G5,D6,C5,B1,G7,B7,B8,C0,D8,D9,A5,J8,H9,E0,E1,M2,M3,M5,M4,I3,I4,P2,E4,E6,I0,B5,M1,N8,M9,N2,N3,N4,N5,N6,N7,N1,J2,J3,J4,J5,J6,J1,I8,I7,I9,M0,K9,E3,L1,C3,O1,O2,G2,O9,N9,O0,B0,L8,D2,I2,zz28,yz28,jz28,zz29,yz23,zz23,jz22,yz27,jz19,yz29,zz20,yz25,Nat.reduceAdd,Nat.reduceSub,Nat.reduceLT,Nat.reduceEqDiff,zz22,jz23,if_true,if_false,yz21,decide_true,decide_false,zz25,jz24,reduceIte,List.getElem?_cons_succ,List.getElem?_cons_zero,UInt8.reduceOfNat,fin1,fin2,L2,O7,L3,O8,H3,H6,H4,L4,H5,L5,B6,A8,zz24,M7,H0,M6,G0,Option.some.injEq,DV.tup.injEq,jz29,zz30,Int.reduceToNat,yz30,and_true,true_and,beq_self_eq_true,jz30,zz31,not_true_eq_false,not_false_eq_true,M8,J7,J0,A6,L9,K6,A4,B9,D7,G9,O3,O4,K0,F2,F5,I5,I6,F7,F4,F3,F6,K1,K4,O5,O6,K3,K2,K5,F8,F9,E8,E2,J9,G1,C7,E9,L0,C4,I1,K8,K7,E7,P3,C8,B3,A0,L7,H8,E5,L6,H7,yz19,zz27,yz31,jz25,jz31,zz32,jz26,zz21,jz27,zz26,and_self,Nat.reduceLeDiff,jz18,exists_eq_left',yz24,jz21,Nat.reduceBEq,yz22,yz32,G8,A3,N0,Int.reduceLT,Int.reduceLE,Int.reduceEq,c57, *]) | with_reducible (first | refine C2 (fun h => ?_) fun h => ?_ | refine F1 (fun h => ?_) fun h => ?_ | refine C1 (fun h => ?_) fun h => ?_ | refine F0 (fun h => ?_) fun h => ?_ | refine A2 (fun h => ?_) fun h => ?_ | refine A7 (fun h => ?_) fun h => ?_) | (refine D5 ?_ ?_ ?_; (focus decide +kernel); (focus decide +kernel)))
            all_goals
              unfold Hid at e4
              rw [f] at e4
              refine ⟨(l.length - (i + 1) : Int).toNat,?_,i + 1,_,rfl,by omega,by omega,by simp; omega,?_,rfl⟩
              · unfold Hid at e6; omega
              · unfold Hid; rw [e4,hc]; simp
        · have f := text_go e0 hi ha hb (fun h => hc h.1)
          repeat' (first | (simp (maxSteps := 10000000) -implicitDefEqProofs (disch := first | exact tStr | decide | omega | assumption | (simp only [zz20,yz25,yz20]; omega)) only [D3,G6,G4,A9,C9,G3,B4,A1,C6,B2,D4,G5,D6,C5,B1,G7,B7,B8,C0,D8,D9,A5,J8,H9,E0,E1,M2,M3,M5,M4,I3,I4,P2,E4,E6,I0,B5,M1,N8,M9,N2,N3,N4,N5,N6,N7,N1,J2,J3,J4,J5,J6,J1,I8,I7,I9,M0,K9,E3,L1,C3,O1,O2,G2,O9,N9,O0,B0,L8,D2,I2,zz28,yz28,jz28,zz29,yz23,zz23,jz22,yz27,jz19,yz29,zz20,yz25,Nat.reduceAdd,Nat.reduceSub,Nat.reduceLT,Nat.reduceEqDiff,zz22,jz23,if_true,if_false,yz21,decide_true,decide_false,zz25,jz24,reduceIte,List.getElem?_cons_succ,List.getElem?_cons_zero,UInt8.reduceOfNat,fin1,fin2,L2,O7,L3,O8,H3,H6,H4,L4,H5,L5,B6,A8,zz24,M7,H0,M6,G0,Option.some.injEq,DV.tup.injEq,jz29,zz30,Int.reduceToNat,yz30,and_true,true_and,beq_self_eq_true,jz30,zz31,not_true_eq_false,not_false_eq_true,M8,J7,J0,A6,L9,K6,A4,B9,D7,G9,O3,O4,K0,F2,F5,I5,I6,F7,F4,F3,F6,K1,K4,O5,O6,K3,K2,K5,F8,F9,E8,E2,J9,G1,C7,E9,L0,C4,I1,K8,K7,E7,P3,C8,B3,A0,L7,H8,E5,L6,H7,yz19,zz27,yz31,jz25,jz31,zz32,jz26,zz21,jz27,zz26,and_self,Nat.reduceLeDiff,jz18,exists_eq_left',yz24,jz21,Nat.reduceBEq,yz22,yz32,G8,A3,N0,Int.reduceLT,Int.reduceLE,Int.reduceEq,c57, *]) | with_reducible (first | refine C2 (fun h => ?_) fun h => ?_ | refine F1 (fun h => ?_) fun h => ?_ | refine C1 (fun h => ?_) fun h => ?_ | refine F0 (fun h => ?_) fun h => ?_ | refine A2 (fun h => ?_) fun h => ?_ | refine A7 (fun h => ?_) fun h => ?_) | (refine D5 ?_ ?_ ?_; (focus decide +kernel); (focus decide +kernel)))
          all_goals
              unfold Hid at e4
              rw [f] at e4
              refine ⟨(l.length - (i + 1) : Int).toNat,?_,i + 1,_,rfl,by omega,by omega,by simp; omega,?_,rfl⟩
              · unfold Hid at e6; omega
              · unfold Hid; rw [e4]; simp
  · have f := text_end (q := l.getD 0 0) e0 hi
    repeat' (first | (simp (maxSteps := 10000000) -implicitDefEqProofs (disch := first | exact tStr | decide | omega | assumption | (simp only [zz20,yz25,yz20]; omega)) only [D3,G6,G4,A9,C9,G3,B4,A1,C6,B2,D4,G5,D6,C5,B1,G7,B7,B8,C0,D8,D9,A5,J8,H9,E0,E1,M2,M3,M5,M4,I3,I4,P2,E4,E6,I0,B5,M1,N8,M9,N2,N3,N4,N5,N6,N7,N1,J2,J3,J4,J5,J6,J1,I8,I7,I9,M0,K9,E3,L1,C3,O1,O2,G2,O9,N9,O0,B0,L8,D2,I2,zz28,yz28,jz28,zz29,yz23,zz23,jz22,yz27,jz19,yz29,zz20,yz25,Nat.reduceAdd,Nat.reduceSub,Nat.reduceLT,Nat.reduceEqDiff,zz22,jz23,if_true,if_false,yz21,decide_true,decide_false,zz25,jz24,reduceIte,List.getElem?_cons_succ,List.getElem?_cons_zero,UInt8.reduceOfNat,fin1,fin2,L2,O7,L3,O8,H3,H6,H4,L4,H5,L5,B6,A8,zz24,M7,H0,M6,G0,Option.some.injEq,DV.tup.injEq,jz29,zz30,Int.reduceToNat,yz30,and_true,true_and,beq_self_eq_true,jz30,zz31,not_true_eq_false,not_false_eq_true,M8,J7,J0,A6,L9,K6,A4,B9,D7,G9,O3,O4,K0,F2,F5,I5,I6,F7,F4,F3,F6,K1,K4,O5,O6,K3,K2,K5,F8,F9,E8,E2,J9,G1,C7,E9,L0,C4,I1,K8,K7,E7,P3,C8,B3,A0,L7,H8,E5,L6,H7,yz19,zz27,yz31,jz25,jz31,zz32,jz26,zz21,jz27,zz26,and_self,Nat.reduceLeDiff,jz18,exists_eq_left',yz24,jz21,Nat.reduceBEq,yz22,yz32,G8,A3,N0,Int.reduceLT,Int.reduceLE,Int.reduceEq,c57, *]) | with_reducible (first | refine C2 (fun h => ?_) fun h => ?_ | refine F1 (fun h => ?_) fun h => ?_ | refine C1 (fun h => ?_) fun h => ?_ | refine F0 (fun h => ?_) fun h => ?_ | refine A2 (fun h => ?_) fun h => ?_ | refine A7 (fun h => ?_) fun h => ?_) | (refine D5 ?_ ?_ ?_; (focus decide +kernel); (focus decide +kernel)))
    unfold Hid at e4
    rw [f] at e4
    simp only [W5,e4,yz21,if_false,tokD]
theorem c53 (h1 : 0 < l.length) (h2 : l.length < 2 ^ 60) : R4 Tryd.prog cfgV 53 [strD l] H K = K (W5 l) H := by
  refine T7 rfl ?_ (p53 h1 h2) H K
  rfl
end Go.Dx
end
section
namespace Go.Dx
open Go Go.Proofs
set_option maxRecDepth 8000
attribute [local congr] Q7 Q6 R2 P8 Q2 Q5 Q3
variable {b : UInt8} {l : List UInt8} {H : Heap} {K : DV → Heap → Prop} {i : Int}
def digV (b : UInt8) : Int := ((b - 48).toNat : Int)
theorem digV_le {b : UInt8} (h : Y5 b = true) : 0 ≤ digV b ∧ digV b ≤ 9 := by
  unfold digV Y5 at *
  simp only [zz19,decide_eq_true_eq,UInt8.le_iff_toNat_le] at h
  have h1 : (48 : UInt8).toNat = 48 := rfl
  have h2 : (57 : UInt8).toNat = 57 := rfl
  have : (b - 48).toNat = b.toNat - 48 := by
    rw [UInt8.toNat_sub_of_le]
    · rw [h1]
    · rw [UInt8.le_iff_toNat_le]; exact h.1
  omega
def cap (n : Int) : Int := if 1000000000 < n then 1000000000 else n
theorem cap_le {n : Int} (h : 0 ≤ n) : 0 ≤ cap n ∧ cap n ≤ 1000000000 := by unfold cap; split <;> omega
def zz6 (n : Int) : List UInt8 → Int × Nat
  | [] => (n,0)
  | a :: r => if Y5 a then ((zz6 (cap (10 * n + digV a)) r).1,(zz6 (cap (10 * n + digV a)) r).2 + 1) else (n,0)
def T5 (n u : Int) : List UInt8 → Int × Nat
  | [] => (n,0)
  | a :: r => if Y5 a then ((T5 (cap (n + u * digV a)) (u / 10) r).1,(T5 (cap (n + u * digV a)) (u / 10) r).2 + 1) else (n,0)
theorem dig_go {l : List UInt8} {i n : Int} (h : 0 ≤ i) (h1 : i < l.length) (hd : Y5 (l.getD i.toNat 0) = true) :
    zz6 n (l.drop i.toNat) = ((zz6 (cap (10 * n + digV (l.getD i.toNat 0))) (l.drop (i + 1).toNat)).1,(zz6 (cap (10 * n + digV (l.getD i.toNat 0))) (l.drop (i + 1).toNat)).2 + 1) := by
  rw [T2 h h1,zz6,if_pos hd]
theorem dig_end {l : List UInt8} {i n : Int} (h : 0 ≤ i) (hd : ¬ (i < l.length ∧ Y5 (l.getD i.toNat 0) = true)) : zz6 n (l.drop i.toNat) = (n,0) := by
  by_cases h1 : i < l.length
  · rw [T2 h h1,zz6,if_neg (fun e => hd ⟨h1,e⟩)]
  · rw [drop_nil h1 h,zz6]
theorem frac_go {l : List UInt8} {i n u : Int} (h : 0 ≤ i) (h1 : i < l.length) (hd : Y5 (l.getD i.toNat 0) = true) :
    T5 n u (l.drop i.toNat) = ((T5 (cap (n + u * digV (l.getD i.toNat 0))) (u / 10) (l.drop (i + 1).toNat)).1,(T5 (cap (n + u * digV (l.getD i.toNat 0))) (u / 10) (l.drop (i + 1).toNat)).2 + 1) := by
  rw [T2 h h1,T5,if_pos hd]
theorem frac_end {l : List UInt8} {i n u : Int} (h : 0 ≤ i) (hd : ¬ (i < l.length ∧ Y5 (l.getD i.toNat 0) = true)) : T5 n u (l.drop i.toNat) = (n,0) := by
  by_cases h1 : i < l.length
  · rw [T2 h h1,T5,if_neg (fun e => hd ⟨h1,e⟩)]
  · rw [drop_nil h1 h,T5]
def P6 (l : List UInt8) : Int := if l.getD 0 0 = 43 ∨ l.getD 0 0 = 45 then 1 else 0
def T4 (l : List UInt8) : Int × Nat := zz6 0 (l.drop (P6 l).toNat)
def R9 (l : List UInt8) : Int := P6 l + (T4 l).2
def hasFrac (l : List UInt8) : Bool := decide (l.getD (R9 l).toNat 0 = 46) && (decide (R9 l + 1 < l.length) && Y5 (l.getD (R9 l + 1).toNat 0))
def X7 (l : List UInt8) : Int × Nat := T5 (cap (1000 * (T4 l).1)) 100 (l.drop (R9 l + 1).toNat)
def W1 (l : List UInt8) : Int × Int :=
  let r : Int × Int × Int := if hasFrac l then ((X7 l).1,R9 l + 1 + (X7 l).2,(T4 l).2 + (X7 l).2) else (cap (1000 * (T4 l).1),R9 l,(T4 l).2)
  if r.2.2 = 0 then (0,0) else (if l.getD 0 0 = 45 then 0 - r.1 else r.1,r.2.1)
def sh54 (l : List UInt8) (i m : Int) (x : Nat → DV) : DS := ⟨[strD l,x 1,x 2,x 3,intD i,intD (P6 l),intD m,x 7,x 8,x 9,x 10,x 11,x 12,x 13,x 14,x 15,x 16,x 17,x 18,x 19,x 20,x 21,x 22,x 23,x 24,x 25,x 26,x 27,x 28,x 29,x 30,x 31,x 32,x 33,x 34,x 35,x 36,x 37,x 38,x 39,x 40,x 41,x 42,x 43,x 44,x 45,x 46,x 47,x 48,x 49,x 50,x 51,x 52,x 53,x 54,x 55,x 56,x 57,x 58,x 59,x 60,x 61,x 62,x 63,x 64,x 65,x 66,x 67,x 68,x 69,x 70,x 71,x 72,x 73,x 74,x 75,x 76,x 77,x 78,x 79,x 80,x 81,x 82,x 83,x 84,x 85,x 86,x 87,x 88,x 89,x 90,x 91,x 92,x 93,x 94,x 95,x 96,x 97,x 98,x 99], []⟩
def inv54 (l : List UInt8) (n : Nat) (s : DS) : Prop := ∃ i m : Int,s = sh54 l i m (fun k => s.sl.getD k P9) ∧ 0 ≤ i ∧ i ≤ l.length + 1 ∧ P6 l ≤ i ∧ 0 ≤ m ∧ m ≤ 1000000000 ∧
  Hid (T4 l = ((zz6 m (l.drop i.toNat)).1,(zz6 m (l.drop i.toNat)).2 + (i - P6 l).toNat)) ∧ Hid (n = (l.length - i).toNat)
def post54 (l : List UInt8) (ex : Ex) (s : DS) : Prop := ex = .exit 0 ∧ s = sh54 l (R9 l) (T4 l).1 (fun k => s.sl.getD k P9) ∧ 0 ≤ R9 l ∧ R9 l ≤ l.length + 1 ∧ 0 ≤ (T4 l).1 ∧ (T4 l).1 ≤ 1000000000 ∧ R9 l - P6 l = (T4 l).2
theorem l54_0 (h2 : l.length < 2 ^ 60) {n : Nat} {s : DS} (hI : inv54 l n s) : runW Tryd.prog cfgV (.loop lp54_0) s (post54 l) := by
  refine V3 (inv54 l) ?_ hI
  rintro n s ⟨i,m,hs,e0,e1,e2,e3,e4,e5,e6⟩
  obtain ⟨x,rfl⟩ : ∃ x,s = sh54 l i m x := ⟨_,hs⟩
  clear hs
  dsimp only [lp54_0,sh54]
  have hs : 0 ≤ P6 l ∧ P6 l ≤ 1 := by unfold P6; split <;> omega
  have hb := UInt8.toNat_lt (l.getD i.toNat 0 - 48)
  by_cases hi : i < l.length
  · by_cases hd : Y5 (l.getD i.toNat 0) = true
    · repeat' (first | (simp (maxSteps := 10000000) -implicitDefEqProofs (disch := first | exact tStr | decide | omega | assumption | (simp only [zz20,yz25,yz20]; omega)) only [D3,G6,G4,A9,C9,G3,B4,A1,C6,B2,D4,G5,D6,C5,B1,G7,B7,B8,C0,D8,D9,A5,J8,H9,E0,E1,M2,M3,M5,M4,I3,I4,P2,E4,E6,I0,B5,M1,N8,M9,N2,N3,N4,N5,N6,N7,N1,J2,J3,J4,J5,J6,J1,I8,I7,I9,M0,K9,E3,L1,C3,O1,O2,G2,O9,N9,O0,B0,L8,D2,I2,zz28,yz28,jz28,zz29,yz23,zz23,jz22,yz27,jz19,yz29,zz20,yz25,Nat.reduceAdd,Nat.reduceSub,Nat.reduceLT,Nat.reduceEqDiff,zz22,jz23,if_true,if_false,yz21,decide_true,decide_false,zz25,jz24,reduceIte,List.getElem?_cons_succ,List.getElem?_cons_zero,UInt8.reduceOfNat,fin1,fin2,L2,O7,L3,O8,H3,H6,H4,L4,H5,L5,B6,A8,zz24,M7,H0,M6,G0,Option.some.injEq,DV.tup.injEq,jz29,zz30,Int.reduceToNat,yz30,and_true,true_and,beq_self_eq_true,jz30,zz31,not_true_eq_false,not_false_eq_true,M8,J7,J0,A6,L9,K6,A4,B9,D7,G9,O3,O4,K0,F2,F5,I5,I6,F7,F4,F3,F6,K1,K4,O5,O6,K3,K2,K5,F8,F9,E8,E2,J9,G1,C7,E9,L0,C4,I1,K8,K7,E7,P3,C8,B3,A0,L7,H8,E5,L6,H7,yz19,zz27,yz31,jz25,jz31,zz32,jz26,zz21,jz27,zz26,and_self,Nat.reduceLeDiff,jz18,exists_eq_left',yz24,jz21,Nat.reduceBEq,yz22,yz32,G8,A3,N0,Int.reduceLT,Int.reduceLE,Int.reduceEq,c77,A6 tByte tInt, *]) | with_reducible (first | refine C2 (fun h => ?_) fun h => ?_ | refine F1 (fun h => ?_) fun h => ?_ | refine C1 (fun h => ?_) fun h => ?_ | refine F0 (fun h => ?_) fun h => ?_ | refine A2 (fun h => ?_) fun h => ?_ | refine A7 (fun h => ?_) fun h => ?_) | (refine D5 ?_ ?_ ?_; (focus decide +kernel); (focus decide +kernel)))
      have f := dig_go (n := m) e0 hi hd
      have hv := digV_le hd
      have hc := cap_le (n := 10 * m + digV (l.getD i.toNat 0)) (by omega)
      unfold Hid at e5 e6
      rw [f] at e5
      refine ⟨(l.length - (i + 1) : Int).toNat,by omega,i + 1,cap (10 * m + digV (l.getD i.toNat 0)),rfl,by omega,by omega,by omega,hc.1,hc.2,?_,rfl⟩
      unfold Hid
      rw [e5]
      simp only [Prod.mk.injEq,true_and]
      omega
    · have hd' := zz33 _ ▸ hd
      repeat' (first | (simp (maxSteps := 10000000) -implicitDefEqProofs (disch := first | exact tStr | decide | omega | assumption | (simp only [zz20,yz25,yz20]; omega)) only [D3,G6,G4,A9,C9,G3,B4,A1,C6,B2,D4,G5,D6,C5,B1,G7,B7,B8,C0,D8,D9,A5,J8,H9,E0,E1,M2,M3,M5,M4,I3,I4,P2,E4,E6,I0,B5,M1,N8,M9,N2,N3,N4,N5,N6,N7,N1,J2,J3,J4,J5,J6,J1,I8,I7,I9,M0,K9,E3,L1,C3,O1,O2,G2,O9,N9,O0,B0,L8,D2,I2,zz28,yz28,jz28,zz29,yz23,zz23,jz22,yz27,jz19,yz29,zz20,yz25,Nat.reduceAdd,Nat.reduceSub,Nat.reduceLT,Nat.reduceEqDiff,zz22,jz23,if_true,if_false,yz21,decide_true,decide_false,zz25,jz24,reduceIte,List.getElem?_cons_succ,List.getElem?_cons_zero,UInt8.reduceOfNat,fin1,fin2,L2,O7,L3,O8,H3,H6,H4,L4,H5,L5,B6,A8,zz24,M7,H0,M6,G0,Option.some.injEq,DV.tup.injEq,jz29,zz30,Int.reduceToNat,yz30,and_true,true_and,beq_self_eq_true,jz30,zz31,not_true_eq_false,not_false_eq_true,M8,J7,J0,A6,L9,K6,A4,B9,D7,G9,O3,O4,K0,F2,F5,I5,I6,F7,F4,F3,F6,K1,K4,O5,O6,K3,K2,K5,F8,F9,E8,E2,J9,G1,C7,E9,L0,C4,I1,K8,K7,E7,P3,C8,B3,A0,L7,H8,E5,L6,H7,yz19,zz27,yz31,jz25,jz31,zz32,jz26,zz21,jz27,zz26,and_self,Nat.reduceLeDiff,jz18,exists_eq_left',yz24,jz21,Nat.reduceBEq,yz22,yz32,G8,A3,N0,Int.reduceLT,Int.reduceLE,Int.reduceEq,c77,A6 tByte tInt, *]) | with_reducible (first | refine C2 (fun h => ?_) fun h => ?_ | refine F1 (fun h => ?_) fun h => ?_ | refine C1 (fun h => ?_) fun h => ?_ | refine F0 (fun h => ?_) fun h => ?_ | refine A2 (fun h => ?_) fun h => ?_ | refine A7 (fun h => ?_) fun h => ?_) | (refine D5 ?_ ?_ ?_; (focus decide +kernel); (focus decide +kernel)))
      have f := dig_end (n := m) e0 (fun h => hd h.2)
      unfold Hid at e5
      rw [f] at e5
      have hp : R9 l = i := by unfold R9; rw [e5]; simp only; omega
      have hw : (T4 l).1 = m := by rw [e5]
      have hq : ((T4 l).2 : Int) = i - P6 l := by rw [e5]; simp only; omega
      unfold post54
      rw [hp,hw,hq]
      exact ⟨rfl,rfl,by omega,by omega,by omega,by omega,by omega⟩
  · repeat' (first | (simp (maxSteps := 10000000) -implicitDefEqProofs (disch := first | exact tStr | decide | omega | assumption | (simp only [zz20,yz25,yz20]; omega)) only [D3,G6,G4,A9,C9,G3,B4,A1,C6,B2,D4,G5,D6,C5,B1,G7,B7,B8,C0,D8,D9,A5,J8,H9,E0,E1,M2,M3,M5,M4,I3,I4,P2,E4,E6,I0,B5,M1,N8,M9,N2,N3,N4,N5,N6,N7,N1,J2,J3,J4,J5,J6,J1,I8,I7,I9,M0,K9,E3,L1,C3,O1,O2,G2,O9,N9,O0,B0,L8,D2,I2,zz28,yz28,jz28,zz29,yz23,zz23,jz22,yz27,jz19,yz29,zz20,yz25,Nat.reduceAdd,Nat.reduceSub,Nat.reduceLT,Nat.reduceEqDiff,zz22,jz23,if_true,if_false,yz21,decide_true,decide_false,zz25,jz24,reduceIte,List.getElem?_cons_succ,List.getElem?_cons_zero,UInt8.reduceOfNat,fin1,fin2,L2,O7,L3,O8,H3,H6,H4,L4,H5,L5,B6,A8,zz24,M7,H0,M6,G0,Option.some.injEq,DV.tup.injEq,jz29,zz30,Int.reduceToNat,yz30,and_true,true_and,beq_self_eq_true,jz30,zz31,not_true_eq_false,not_false_eq_true,M8,J7,J0,A6,L9,K6,A4,B9,D7,G9,O3,O4,K0,F2,F5,I5,I6,F7,F4,F3,F6,K1,K4,O5,O6,K3,K2,K5,F8,F9,E8,E2,J9,G1,C7,E9,L0,C4,I1,K8,K7,E7,P3,C8,B3,A0,L7,H8,E5,L6,H7,yz19,zz27,yz31,jz25,jz31,zz32,jz26,zz21,jz27,zz26,and_self,Nat.reduceLeDiff,jz18,exists_eq_left',yz24,jz21,Nat.reduceBEq,yz22,yz32,G8,A3,N0,Int.reduceLT,Int.reduceLE,Int.reduceEq,c77,A6 tByte tInt, *]) | with_reducible (first | refine C2 (fun h => ?_) fun h => ?_ | refine F1 (fun h => ?_) fun h => ?_ | refine C1 (fun h => ?_) fun h => ?_ | refine F0 (fun h => ?_) fun h => ?_ | refine A2 (fun h => ?_) fun h => ?_ | refine A7 (fun h => ?_) fun h => ?_) | (refine D5 ?_ ?_ ?_; (focus decide +kernel); (focus decide +kernel)))
    have f := dig_end (n := m) e0 (fun h => hi h.1)
    unfold Hid at e5
    rw [f] at e5
    have hp : R9 l = i := by unfold R9; rw [e5]; simp only; omega
    have hw : (T4 l).1 = m := by rw [e5]
    have hq : ((T4 l).2 : Int) = i - P6 l := by rw [e5]; simp only; omega
    unfold post54
    rw [hp,hw,hq]
    exact ⟨rfl,rfl,by omega,by omega,by omega,by omega,by omega⟩
def sh54b (l : List UInt8) (i m u k : Int) (x : Nat → DV) : DS := ⟨[strD l,x 1,x 2,x 3,intD i,x 5,intD m,intD k,intD u,x 9,x 10,x 11,x 12,x 13,x 14,x 15,x 16,x 17,x 18,x 19,x 20,x 21,x 22,x 23,x 24,x 25,x 26,x 27,x 28,x 29,x 30,x 31,x 32,x 33,x 34,x 35,x 36,x 37,x 38,x 39,x 40,x 41,x 42,x 43,x 44,x 45,x 46,x 47,x 48,x 49,x 50,x 51,x 52,x 53,x 54,x 55,x 56,x 57,x 58,x 59,x 60,x 61,x 62,x 63,x 64,x 65,x 66,x 67,x 68,x 69,x 70,x 71,x 72,x 73,x 74,x 75,x 76,x 77,x 78,x 79,x 80,x 81,x 82,x 83,x 84,x 85,x 86,x 87,x 88,x 89,x 90,x 91,x 92,x 93,x 94,x 95,x 96,x 97,x 98,x 99], []⟩
def inv54b (l : List UInt8) (n : Nat) (s : DS) : Prop := ∃ i m u k : Int,s = sh54b l i m u k (fun k => s.sl.getD k P9) ∧ 0 ≤ i ∧ i ≤ l.length + 1 ∧ R9 l + 1 ≤ i ∧ 0 ≤ m ∧ m ≤ 1000000000 ∧ 0 ≤ u ∧ u ≤ 100 ∧ 0 ≤ k ∧ k ≤ i ∧
  Hid (k = (T4 l).2 + (i - (R9 l + 1)) ∧ X7 l = ((T5 m u (l.drop i.toNat)).1,(T5 m u (l.drop i.toNat)).2 + (i - (R9 l + 1)).toNat)) ∧ Hid (n = (l.length - i).toNat)
def post54b (l : List UInt8) (ex : Ex) (s : DS) : Prop := ex = .exit 2 ∧ ∃ u,s = sh54b l (R9 l + 1 + (X7 l).2) (X7 l).1 u ((T4 l).2 + (X7 l).2) (fun k => s.sl.getD k P9) ∧ 0 ≤ (X7 l).1 ∧ (X7 l).1 ≤ 1000000000
theorem l54_1 (h2 : l.length < 2 ^ 60) {n : Nat} {s : DS} (hI : inv54b l n s) : runW Tryd.prog cfgV (.loop lp54_1) s (post54b l) := by
  refine V3 (inv54b l) ?_ hI
  rintro n s ⟨i,m,u,k,hs,e0,e1,e2,e3,e4,f1,f2,f3,f4,e5,e6⟩
  obtain ⟨x,rfl⟩ : ∃ x,s = sh54b l i m u k x := ⟨_,hs⟩
  clear hs
  dsimp only [lp54_1,sh54b]
  have hb := UInt8.toNat_lt (l.getD i.toNat 0 - 48)
  by_cases hi : i < l.length
  · by_cases hd : Y5 (l.getD i.toNat 0) = true
    · have hv := digV_le hd
      have hm : 0 ≤ u * digV (l.getD i.toNat 0) := Int.mul_nonneg f1 hv.1
      have hm2 : u * digV (l.getD i.toNat 0) ≤ 100 * 9 := Int.mul_le_mul f2 hv.2 hv.1 (by omega)
      have hm3 : 0 ≤ u * ((l.getD i.toNat 0 - 48).toNat : Int) ∧ u * ((l.getD i.toNat 0 - 48).toNat : Int) ≤ 900 := ⟨hm,hm2⟩
      repeat' (first | (simp (maxSteps := 10000000) -implicitDefEqProofs (disch := first | exact tStr | decide | omega | assumption | (simp only [zz20,yz25,yz20]; omega)) only [D3,G6,G4,A9,C9,G3,B4,A1,C6,B2,D4,G5,D6,C5,B1,G7,B7,B8,C0,D8,D9,A5,J8,H9,E0,E1,M2,M3,M5,M4,I3,I4,P2,E4,E6,I0,B5,M1,N8,M9,N2,N3,N4,N5,N6,N7,N1,J2,J3,J4,J5,J6,J1,I8,I7,I9,M0,K9,E3,L1,C3,O1,O2,G2,O9,N9,O0,B0,L8,D2,I2,zz28,yz28,jz28,zz29,yz23,zz23,jz22,yz27,jz19,yz29,zz20,yz25,Nat.reduceAdd,Nat.reduceSub,Nat.reduceLT,Nat.reduceEqDiff,zz22,jz23,if_true,if_false,yz21,decide_true,decide_false,zz25,jz24,reduceIte,List.getElem?_cons_succ,List.getElem?_cons_zero,UInt8.reduceOfNat,fin1,fin2,L2,O7,L3,O8,H3,H6,H4,L4,H5,L5,B6,A8,zz24,M7,H0,M6,G0,Option.some.injEq,DV.tup.injEq,jz29,zz30,Int.reduceToNat,yz30,and_true,true_and,beq_self_eq_true,jz30,zz31,not_true_eq_false,not_false_eq_true,M8,J7,J0,A6,L9,K6,A4,B9,D7,G9,O3,O4,K0,F2,F5,I5,I6,F7,F4,F3,F6,K1,K4,O5,O6,K3,K2,K5,F8,F9,E8,E2,J9,G1,C7,E9,L0,C4,I1,K8,K7,E7,P3,C8,B3,A0,L7,H8,E5,L6,H7,yz19,zz27,yz31,jz25,jz31,zz32,jz26,zz21,jz27,zz26,and_self,Nat.reduceLeDiff,jz18,exists_eq_left',yz24,jz21,Nat.reduceBEq,yz22,yz32,G8,A3,N0,Int.reduceLT,Int.reduceLE,Int.reduceEq,c77,A6 tByte tInt, *]) | with_reducible (first | refine C2 (fun h => ?_) fun h => ?_ | refine F1 (fun h => ?_) fun h => ?_ | refine C1 (fun h => ?_) fun h => ?_ | refine F0 (fun h => ?_) fun h => ?_ | refine A2 (fun h => ?_) fun h => ?_ | refine A7 (fun h => ?_) fun h => ?_) | (refine D5 ?_ ?_ ?_; (focus decide +kernel); (focus decide +kernel)))
      have f := frac_go (n := m) (u := u) e0 hi hd
      have hc := cap_le (n := m + u * digV (l.getD i.toNat 0)) (by omega)
      obtain ⟨e5,e7⟩ := e5
      unfold Hid at e6
      rw [f] at e7
      refine ⟨(l.length - (i + 1) : Int).toNat,by omega,i + 1,cap (m + u * digV (l.getD i.toNat 0)),u / 10,k + 1,rfl,by omega,by omega,by omega,hc.1,hc.2,by omega,by omega,by omega,by omega,⟨by omega,?_⟩,rfl⟩
      rw [e7]
      simp only [Prod.mk.injEq,true_and]
      omega
    · have hd' := zz33 _ ▸ hd
      repeat' (first | (simp (maxSteps := 10000000) -implicitDefEqProofs (disch := first | exact tStr | decide | omega | assumption | (simp only [zz20,yz25,yz20]; omega)) only [D3,G6,G4,A9,C9,G3,B4,A1,C6,B2,D4,G5,D6,C5,B1,G7,B7,B8,C0,D8,D9,A5,J8,H9,E0,E1,M2,M3,M5,M4,I3,I4,P2,E4,E6,I0,B5,M1,N8,M9,N2,N3,N4,N5,N6,N7,N1,J2,J3,J4,J5,J6,J1,I8,I7,I9,M0,K9,E3,L1,C3,O1,O2,G2,O9,N9,O0,B0,L8,D2,I2,zz28,yz28,jz28,zz29,yz23,zz23,jz22,yz27,jz19,yz29,zz20,yz25,Nat.reduceAdd,Nat.reduceSub,Nat.reduceLT,Nat.reduceEqDiff,zz22,jz23,if_true,if_false,yz21,decide_true,decide_false,zz25,jz24,reduceIte,List.getElem?_cons_succ,List.getElem?_cons_zero,UInt8.reduceOfNat,fin1,fin2,L2,O7,L3,O8,H3,H6,H4,L4,H5,L5,B6,A8,zz24,M7,H0,M6,G0,Option.some.injEq,DV.tup.injEq,jz29,zz30,Int.reduceToNat,yz30,and_true,true_and,beq_self_eq_true,jz30,zz31,not_true_eq_false,not_false_eq_true,M8,J7,J0,A6,L9,K6,A4,B9,D7,G9,O3,O4,K0,F2,F5,I5,I6,F7,F4,F3,F6,K1,K4,O5,O6,K3,K2,K5,F8,F9,E8,E2,J9,G1,C7,E9,L0,C4,I1,K8,K7,E7,P3,C8,B3,A0,L7,H8,E5,L6,H7,yz19,zz27,yz31,jz25,jz31,zz32,jz26,zz21,jz27,zz26,and_self,Nat.reduceLeDiff,jz18,exists_eq_left',yz24,jz21,Nat.reduceBEq,yz22,yz32,G8,A3,N0,Int.reduceLT,Int.reduceLE,Int.reduceEq,c77,A6 tByte tInt, *]) | with_reducible (first | refine C2 (fun h => ?_) fun h => ?_ | refine F1 (fun h => ?_) fun h => ?_ | refine C1 (fun h => ?_) fun h => ?_ | refine F0 (fun h => ?_) fun h => ?_ | refine A2 (fun h => ?_) fun h => ?_ | refine A7 (fun h => ?_) fun h => ?_) | (refine D5 ?_ ?_ ?_; (focus decide +kernel); (focus decide +kernel)))
      have f := frac_end (n := m) (u := u) e0 (fun h => hd h.2)
      obtain ⟨e5,e7⟩ := e5
      rw [f] at e7
      have hw : (X7 l).1 = m := by rw [e7]
      have hq : ((X7 l).2 : Int) = i - (R9 l + 1) := by rw [e7]; simp only; omega
      unfold post54b
      rw [hw,hq,show R9 l + 1 + (i - (R9 l + 1)) = i by omega, ← e5]
      exact ⟨rfl,u,rfl,by omega,by omega⟩
  · repeat' (first | (simp (maxSteps := 10000000) -implicitDefEqProofs (disch := first | exact tStr | decide | omega | assumption | (simp only [zz20,yz25,yz20]; omega)) only [D3,G6,G4,A9,C9,G3,B4,A1,C6,B2,D4,G5,D6,C5,B1,G7,B7,B8,C0,D8,D9,A5,J8,H9,E0,E1,M2,M3,M5,M4,I3,I4,P2,E4,E6,I0,B5,M1,N8,M9,N2,N3,N4,N5,N6,N7,N1,J2,J3,J4,J5,J6,J1,I8,I7,I9,M0,K9,E3,L1,C3,O1,O2,G2,O9,N9,O0,B0,L8,D2,I2,zz28,yz28,jz28,zz29,yz23,zz23,jz22,yz27,jz19,yz29,zz20,yz25,Nat.reduceAdd,Nat.reduceSub,Nat.reduceLT,Nat.reduceEqDiff,zz22,jz23,if_true,if_false,yz21,decide_true,decide_false,zz25,jz24,reduceIte,List.getElem?_cons_succ,List.getElem?_cons_zero,UInt8.reduceOfNat,fin1,fin2,L2,O7,L3,O8,H3,H6,H4,L4,H5,L5,B6,A8,zz24,M7,H0,M6,G0,Option.some.injEq,DV.tup.injEq,jz29,zz30,Int.reduceToNat,yz30,and_true,true_and,beq_self_eq_true,jz30,zz31,not_true_eq_false,not_false_eq_true,M8,J7,J0,A6,L9,K6,A4,B9,D7,G9,O3,O4,K0,F2,F5,I5,I6,F7,F4,F3,F6,K1,K4,O5,O6,K3,K2,K5,F8,F9,E8,E2,J9,G1,C7,E9,L0,C4,I1,K8,K7,E7,P3,C8,B3,A0,L7,H8,E5,L6,H7,yz19,zz27,yz31,jz25,jz31,zz32,jz26,zz21,jz27,zz26,and_self,Nat.reduceLeDiff,jz18,exists_eq_left',yz24,jz21,Nat.reduceBEq,yz22,yz32,G8,A3,N0,Int.reduceLT,Int.reduceLE,Int.reduceEq,c77,A6 tByte tInt, *]) | with_reducible (first | refine C2 (fun h => ?_) fun h => ?_ | refine F1 (fun h => ?_) fun h => ?_ | refine C1 (fun h => ?_) fun h => ?_ | refine F0 (fun h => ?_) fun h => ?_ | refine A2 (fun h => ?_) fun h => ?_ | refine A7 (fun h => ?_) fun h => ?_) | (refine D5 ?_ ?_ ?_; (focus decide +kernel); (focus decide +kernel)))
    have f := frac_end (n := m) (u := u) e0 (fun h => hi h.1)
    obtain ⟨e5,e7⟩ := e5
    rw [f] at e7
    have hw : (X7 l).1 = m := by rw [e7]
    have hq : ((X7 l).2 : Int) = i - (R9 l + 1) := by rw [e7]; simp only; omega
    unfold post54b
    rw [hw,hq,show R9 l + 1 + (i - (R9 l + 1)) = i by omega, ← e5]
    exact ⟨rfl,u,rfl,by omega,by omega⟩
end Go.Dx
end
section
namespace Go.Dx
open Go Go.Proofs
set_option maxRecDepth 8000
attribute [local congr] Q7 Q6 R2 P8 Q2 Q5 Q3
variable {b : UInt8} {l : List UInt8} {H : Heap} {K : DV → Heap → Prop} {i : Int}
theorem digRun_len : ∀ (l : List UInt8) (n : Int),(zz6 n l).2 ≤ l.length
  | [],n => by simp [zz6]
  | a :: r,n => by
    have := digRun_len r (cap (10 * n + digV a))
    rw [zz6]; split <;> simp only [zz20] <;> omega
theorem fracRun_len : ∀ (l : List UInt8) (n u : Int),(T5 n u l).2 ≤ l.length
  | [],n,u => by simp [T5]
  | a :: r,n,u => by
    have := fracRun_len r (cap (n + u * digV a)) (u / 10)
    rw [T5]; split <;> simp only [zz20] <;> omega
theorem whole_len (l : List UInt8) : (T4 l).2 ≤ l.length := by
  have := digRun_len (l.drop (P6 l).toNat) 0
  unfold T4; rw [jz32] at this; omega
theorem frac_len (l : List UInt8) : (X7 l).2 ≤ l.length := by
  have := fracRun_len (l.drop (R9 l + 1).toNat) (cap (1000 * (T4 l).1)) 100
  unfold X7; rw [jz32] at this; omega
set_option maxHeartbeats 2000000 in
theorem p54 (h2 : l.length < 2 ^ 60) : PE Tryd.prog cfgV 54 [strD l] (.tup [intD (W1 l).1,intD (W1 l).2]) := by
  refine PE.code rfl code54 ?_
  dsimp only [sf54]
  have hs : 0 ≤ P6 l ∧ P6 l ≤ 1 := by unfold P6; split <;> omega
  have k1 := whole_len l
  have k2 := frac_len l
  have start : ∃ z : Int,P6 l = z ∧ (l.getD 0 0 = 43 ∧ z = 1 ∨ ¬ l.getD 0 0 = 43 ∧ l.getD 0 0 = 45 ∧ z = 1 ∨ ¬ l.getD 0 0 = 43 ∧ ¬ l.getD 0 0 = 45 ∧ z = 0) := by
    refine ⟨_,rfl,?_⟩
    unfold P6
    by_cases h1 : l.getD 0 0 = 43
    · exact .inl ⟨h1,by rw [if_pos (.inl h1)]⟩
    · by_cases h2 : l.getD 0 0 = 45
      · exact .inr (.inl ⟨h1,h2,by rw [if_pos (.inr h2)]⟩)
      · exact .inr (.inr ⟨h1,h2,by rw [if_neg (fun h => h.elim h1 h2)]⟩)
  obtain ⟨z,hz,start⟩ := start
  have q1 : ¬ (45 : UInt8) = 43 := by decide
  have q2 : ¬ (43 : UInt8) = 45 := by decide
  rcases start with ⟨g1,gz⟩ | ⟨g1,g2,gz⟩ | ⟨g1,g2,gz⟩
  all_goals
    subst z
    repeat' (first | (simp (maxSteps := 10000000) -implicitDefEqProofs (disch := first | exact tStr | decide | omega | assumption | (simp only [zz20,yz25,yz20]; omega)) only [D3,G6,G4,A9,C9,G3,B4,A1,C6,B2,D4,G5,D6,C5,B1,G7,B7,B8,C0,D8,D9,A5,J8,H9,E0,E1,M2,M3,M5,M4,I3,I4,P2,E4,E6,I0,B5,M1,N8,M9,N2,N3,N4,N5,N6,N7,N1,J2,J3,J4,J5,J6,J1,I8,I7,I9,M0,K9,E3,L1,C3,O1,O2,G2,O9,N9,O0,B0,L8,D2,I2,zz28,yz28,jz28,zz29,yz23,zz23,jz22,yz27,jz19,yz29,zz20,yz25,Nat.reduceAdd,Nat.reduceSub,Nat.reduceLT,Nat.reduceEqDiff,zz22,jz23,if_true,if_false,yz21,decide_true,decide_false,zz25,jz24,reduceIte,List.getElem?_cons_succ,List.getElem?_cons_zero,UInt8.reduceOfNat,fin1,fin2,L2,O7,L3,O8,H3,H6,H4,L4,H5,L5,B6,A8,zz24,M7,H0,M6,G0,Option.some.injEq,DV.tup.injEq,jz29,zz30,Int.reduceToNat,yz30,and_true,true_and,beq_self_eq_true,jz30,zz31,not_true_eq_false,not_false_eq_true,M8,J7,J0,A6,L9,K6,A4,B9,D7,G9,O3,O4,K0,F2,F5,I5,I6,F7,F4,F3,F6,K1,K4,O5,O6,K3,K2,K5,F8,F9,E8,E2,J9,G1,C7,E9,L0,C4,I1,K8,K7,E7,P3,C8,B3,A0,L7,H8,E5,L6,H7,yz19,zz27,yz31,jz25,jz31,zz32,jz26,zz21,jz27,zz26,and_self,Nat.reduceLeDiff,jz18,exists_eq_left',yz24,jz21,Nat.reduceBEq,yz22,yz32,G8,A3,N0,Int.reduceLT,Int.reduceLE,Int.reduceEq,c51, *]) | with_reducible (first | refine C2 (fun h => ?_) fun h => ?_ | refine F1 (fun h => ?_) fun h => ?_ | refine C1 (fun h => ?_) fun h => ?_ | refine F0 (fun h => ?_) fun h => ?_ | refine A2 (fun h => ?_) fun h => ?_ | refine A7 (fun h => ?_) fun h => ?_) | (refine D5 ?_ ?_ ?_; (focus decide +kernel); (focus decide +kernel)))
    refine zz2 (l54_0 h2 (n := (l.length - P6 l : Int).toNat) ⟨P6 l,0,by unfold sh54; first | (rw [gz]; done) | (rw [gz]; rfl),by omega,by omega,by omega,by omega,by omega,by simp [Hid,T4],rfl⟩) ?_
    rintro ex s ⟨rfl,hs',b0,b1,b2,b3,b4⟩
    obtain ⟨x,rfl⟩ : ∃ x,s = sh54 l (R9 l) (T4 l).1 x := ⟨_,hs'⟩
    clear hs'
    dsimp only [sh54]
    clear gz
    by_cases hf : hasFrac l = true
    · have hf2 := hf
      unfold hasFrac at hf2
      simp only [zz19,decide_eq_true_eq] at hf2
      obtain ⟨f1,f2,f3⟩ := hf2
      repeat' (first | (simp (maxSteps := 10000000) -implicitDefEqProofs (disch := first | exact tStr | decide | omega | assumption | (simp only [zz20,yz25,yz20]; omega)) only [D3,G6,G4,A9,C9,G3,B4,A1,C6,B2,D4,G5,D6,C5,B1,G7,B7,B8,C0,D8,D9,A5,J8,H9,E0,E1,M2,M3,M5,M4,I3,I4,P2,E4,E6,I0,B5,M1,N8,M9,N2,N3,N4,N5,N6,N7,N1,J2,J3,J4,J5,J6,J1,I8,I7,I9,M0,K9,E3,L1,C3,O1,O2,G2,O9,N9,O0,B0,L8,D2,I2,zz28,yz28,jz28,zz29,yz23,zz23,jz22,yz27,jz19,yz29,zz20,yz25,Nat.reduceAdd,Nat.reduceSub,Nat.reduceLT,Nat.reduceEqDiff,zz22,jz23,if_true,if_false,yz21,decide_true,decide_false,zz25,jz24,reduceIte,List.getElem?_cons_succ,List.getElem?_cons_zero,UInt8.reduceOfNat,fin1,fin2,L2,O7,L3,O8,H3,H6,H4,L4,H5,L5,B6,A8,zz24,M7,H0,M6,G0,Option.some.injEq,DV.tup.injEq,jz29,zz30,Int.reduceToNat,yz30,and_true,true_and,beq_self_eq_true,jz30,zz31,not_true_eq_false,not_false_eq_true,M8,J7,J0,A6,L9,K6,A4,B9,D7,G9,O3,O4,K0,F2,F5,I5,I6,F7,F4,F3,F6,K1,K4,O5,O6,K3,K2,K5,F8,F9,E8,E2,J9,G1,C7,E9,L0,C4,I1,K8,K7,E7,P3,C8,B3,A0,L7,H8,E5,L6,H7,yz19,zz27,yz31,jz25,jz31,zz32,jz26,zz21,jz27,zz26,and_self,Nat.reduceLeDiff,jz18,exists_eq_left',yz24,jz21,Nat.reduceBEq,yz22,yz32,G8,A3,N0,Int.reduceLT,Int.reduceLE,Int.reduceEq,c51,c77, *]) | with_reducible (first | refine C2 (fun h => ?_) fun h => ?_ | refine F1 (fun h => ?_) fun h => ?_ | refine C1 (fun h => ?_) fun h => ?_ | refine F0 (fun h => ?_) fun h => ?_ | refine A2 (fun h => ?_) fun h => ?_ | refine A7 (fun h => ?_) fun h => ?_) | (refine D5 ?_ ?_ ?_; (focus decide +kernel); (focus decide +kernel)))
      have hc := cap_le (n := 1000 * (T4 l).1) (by omega)
      refine zz2 (l54_1 h2 (n := (l.length - (R9 l + 1) : Int).toNat) ⟨R9 l + 1,cap (1000 * (T4 l).1),100,(T4 l).2,rfl,by omega,by omega,by omega,hc.1,hc.2,by omega,by omega,by omega,by omega,⟨by omega,by simp [X7]⟩,rfl⟩) ?_
      rintro ex s ⟨rfl,u,hs',d1,d2⟩
      obtain ⟨x,rfl⟩ : ∃ x,s = sh54b l (R9 l + 1 + (X7 l).2) (X7 l).1 u ((T4 l).2 + (X7 l).2) x := ⟨_,hs'⟩
      clear hs'
      dsimp only [sh54b]
      repeat' (first | (simp (maxSteps := 10000000) -implicitDefEqProofs (disch := first | exact tStr | decide | omega | assumption | (simp only [zz20,yz25,yz20]; omega)) only [D3,G6,G4,A9,C9,G3,B4,A1,C6,B2,D4,G5,D6,C5,B1,G7,B7,B8,C0,D8,D9,A5,J8,H9,E0,E1,M2,M3,M5,M4,I3,I4,P2,E4,E6,I0,B5,M1,N8,M9,N2,N3,N4,N5,N6,N7,N1,J2,J3,J4,J5,J6,J1,I8,I7,I9,M0,K9,E3,L1,C3,O1,O2,G2,O9,N9,O0,B0,L8,D2,I2,zz28,yz28,jz28,zz29,yz23,zz23,jz22,yz27,jz19,yz29,zz20,yz25,Nat.reduceAdd,Nat.reduceSub,Nat.reduceLT,Nat.reduceEqDiff,zz22,jz23,if_true,if_false,yz21,decide_true,decide_false,zz25,jz24,reduceIte,List.getElem?_cons_succ,List.getElem?_cons_zero,UInt8.reduceOfNat,fin1,fin2,L2,O7,L3,O8,H3,H6,H4,L4,H5,L5,B6,A8,zz24,M7,H0,M6,G0,Option.some.injEq,DV.tup.injEq,jz29,zz30,Int.reduceToNat,yz30,and_true,true_and,beq_self_eq_true,jz30,zz31,not_true_eq_false,not_false_eq_true,M8,J7,J0,A6,L9,K6,A4,B9,D7,G9,O3,O4,K0,F2,F5,I5,I6,F7,F4,F3,F6,K1,K4,O5,O6,K3,K2,K5,F8,F9,E8,E2,J9,G1,C7,E9,L0,C4,I1,K8,K7,E7,P3,C8,B3,A0,L7,H8,E5,L6,H7,yz19,zz27,yz31,jz25,jz31,zz32,jz26,zz21,jz27,zz26,and_self,Nat.reduceLeDiff,jz18,exists_eq_left',yz24,jz21,Nat.reduceBEq,yz22,yz32,G8,A3,N0,Int.reduceLT,Int.reduceLE,Int.reduceEq,c51,c77, *]) | with_reducible (first | refine C2 (fun h => ?_) fun h => ?_ | refine F1 (fun h => ?_) fun h => ?_ | refine C1 (fun h => ?_) fun h => ?_ | refine F0 (fun h => ?_) fun h => ?_ | refine A2 (fun h => ?_) fun h => ?_ | refine A7 (fun h => ?_) fun h => ?_) | (refine D5 ?_ ?_ ?_; (focus decide +kernel); (focus decide +kernel)))
      all_goals simp only [W1,cap, *,if_true,if_false,yz21]
    · repeat' (first | (simp (maxSteps := 10000000) -implicitDefEqProofs (disch := first | exact tStr | decide | omega | assumption | (simp only [zz20,yz25,yz20]; omega)) only [D3,G6,G4,A9,C9,G3,B4,A1,C6,B2,D4,G5,D6,C5,B1,G7,B7,B8,C0,D8,D9,A5,J8,H9,E0,E1,M2,M3,M5,M4,I3,I4,P2,E4,E6,I0,B5,M1,N8,M9,N2,N3,N4,N5,N6,N7,N1,J2,J3,J4,J5,J6,J1,I8,I7,I9,M0,K9,E3,L1,C3,O1,O2,G2,O9,N9,O0,B0,L8,D2,I2,zz28,yz28,jz28,zz29,yz23,zz23,jz22,yz27,jz19,yz29,zz20,yz25,Nat.reduceAdd,Nat.reduceSub,Nat.reduceLT,Nat.reduceEqDiff,zz22,jz23,if_true,if_false,yz21,decide_true,decide_false,zz25,jz24,reduceIte,List.getElem?_cons_succ,List.getElem?_cons_zero,UInt8.reduceOfNat,fin1,fin2,L2,O7,L3,O8,H3,H6,H4,L4,H5,L5,B6,A8,zz24,M7,H0,M6,G0,Option.some.injEq,DV.tup.injEq,jz29,zz30,Int.reduceToNat,yz30,and_true,true_and,beq_self_eq_true,jz30,zz31,not_true_eq_false,not_false_eq_true,M8,J7,J0,A6,L9,K6,A4,B9,D7,G9,O3,O4,K0,F2,F5,I5,I6,F7,F4,F3,F6,K1,K4,O5,O6,K3,K2,K5,F8,F9,E8,E2,J9,G1,C7,E9,L0,C4,I1,K8,K7,E7,P3,C8,B3,A0,L7,H8,E5,L6,H7,yz19,zz27,yz31,jz25,jz31,zz32,jz26,zz21,jz27,zz26,and_self,Nat.reduceLeDiff,jz18,exists_eq_left',yz24,jz21,Nat.reduceBEq,yz22,yz32,G8,A3,N0,Int.reduceLT,Int.reduceLE,Int.reduceEq,c51,c77, *]) | with_reducible (first | refine C2 (fun h => ?_) fun h => ?_ | refine F1 (fun h => ?_) fun h => ?_ | refine C1 (fun h => ?_) fun h => ?_ | refine F0 (fun h => ?_) fun h => ?_ | refine A2 (fun h => ?_) fun h => ?_ | refine A7 (fun h => ?_) fun h => ?_) | (refine D5 ?_ ?_ ?_; (focus decide +kernel); (focus decide +kernel)))
      all_goals first | (exfalso; apply hf; unfold hasFrac; simp only [*,decide_true,zz26]; done) | (simp only [W1,cap, *,if_true,if_false,yz21]; done)
theorem c54 (h2 : l.length < 2 ^ 60) : R4 Tryd.prog cfgV 54 [strD l] H K = K (.tup [intD (W1 l).1,intD (W1 l).2]) H := T7 rfl rfl (p54 h2) H K
end Go.Dx
end
