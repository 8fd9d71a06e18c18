/- A part of the proof of VarFills: what functions of the program answer. -/
import Derived.Test.YtcclgnddbgaigaaDoorT13
open Nat renaming le_refl → jz18, add_zero → jz21, zero_add → yz24, le_zero_eq → yz32
open List renaming take_succ_cons → yz19, replicate_succ → jz19, length_cons → zz20, length_append → yz20, all_cons → zz21, singleton_append → yz22, cons_append → jz22, map_nil → zz23, map_cons → yz23, length_nil → yz25, drop_zero → jz25, append_nil → jz26, take_zero → zz27, nil_append → yz27, all_nil → jz27, set_cons_succ → zz28, set_cons_zero → yz28, getD_cons_succ → jz28, getD_cons_zero → zz29, replicate_zero → yz29, drop_succ_cons → yz31, drop_nil → jz31, take_nil → zz32, length_drop → jz32
open Bool renaming false_eq_true → yz21, not_false → jz24, not_true → zz25, and_self → zz26, true_beq → jz30, false_beq → zz31, not_eq_true → zz33
open Option renaming map_some → zz22, map_none → jz23, bind_some → zz24
open Int renaming toNat_natCast → yz26, toNat_zero → jz29, toNat_one → zz30, cast_ofNat_Int → yz30
set_option linter.all false
section
namespace Go.Dx
open Go Go.Proofs
set_option maxRecDepth 8000
attribute [local congr] Q7 Q6 R2 P8 Q2 Q5 Q3
variable {b : UInt8} {l : List UInt8} {H : Heap} {K : DV → Heap → Prop} {i m : Int}
theorem beg_not {c : UInt8} (hc : l.getD 0 0 = c) (h1 : ¬ c = 45) (h2 : isLet c = false) (h3 : ¬ c = 92) : W9 l = false := by
  rw [beg_get,hc,if_neg (fun h => h1 h.1),h2,esc_get,hc]
  simp [h3]
set_option maxHeartbeats 2000000 in
theorem p27_slash (h1 : 0 < l.length) (h2 : l.length < 2 ^ 60) (hm : ¬ 0 < (W1 l).2) (hc : l.getD 0 0 = 47) (hd : ¬ l.getD 1 0 = 42) : PE Tryd.prog cfgV 27 [strD l] (R0 l) := by
  refine PE.code rfl code27 ?_
  dsimp only [sf27]
  have k1 : 0 < (l.length : Int) := by omega
  have k2 : 1 ≤ (l.length : Int) := by omega
  have hg : W9 l = false := beg_not hc (by decide) (by decide) (by decide)
  have q0 : W2 47 = false := by decide
  have q39 : ¬ (47 : UInt8) = 39 := by decide
  have q34 : ¬ (47 : UInt8) = 34 := by decide
  have q35 : ¬ (47 : UInt8) = 35 := by decide
  have q64 : ¬ (47 : UInt8) = 64 := by decide
  have q40 : ¬ (47 : UInt8) = 40 := by decide
  have q91 : ¬ (47 : UInt8) = 91 := by decide
  have q123 : ¬ (47 : UInt8) = 123 := by decide
  have q41 : ¬ (47 : UInt8) = 41 := by decide
  have q93 : ¬ (47 : UInt8) = 93 := by decide
  have q125 : ¬ (47 : UInt8) = 125 := by decide
  have q92 : ¬ (47 : UInt8) = 92 := by decide
  have ht' : R0 l = tokD 12 (l.take 1) [] 0 := by
    unfold R0 zz7
    simp only [*,yz21,if_false,false_and,and_false,or_self,or_false,false_or]
  rw [ht']
  clear ht'
  repeat' (first | (simp (maxSteps := 10000000) -implicitDefEqProofs (disch := first | exact tStr | decide | omega | assumption | (simp only [zz20,yz25,yz20]; omega)) only [D3,G6,G4,A9,C9,G3,B4,A1,C6,B2,D4,G5,D6,C5,B1,G7,B7,B8,C0,D8,D9,A5,J8,H9,E0,E1,M2,M3,M5,M4,I3,I4,P2,E4,E6,I0,B5,M1,N8,M9,N2,N3,N4,N5,N6,N7,N1,J2,J3,J4,J5,J6,J1,I8,I7,I9,M0,K9,E3,L1,C3,O1,O2,G2,O9,N9,O0,B0,L8,D2,I2,zz28,yz28,jz28,zz29,yz23,zz23,jz22,yz27,jz19,yz29,zz20,yz25,Nat.reduceAdd,Nat.reduceSub,Nat.reduceLT,Nat.reduceEqDiff,zz22,jz23,if_true,if_false,yz21,decide_true,decide_false,zz25,jz24,reduceIte,List.getElem?_cons_succ,List.getElem?_cons_zero,UInt8.reduceOfNat,fin1,fin2,L2,O7,L3,O8,H3,H6,H4,L4,H5,L5,B6,A8,zz24,M7,H0,M6,G0,Option.some.injEq,DV.tup.injEq,jz29,zz30,Int.reduceToNat,yz30,and_true,true_and,beq_self_eq_true,jz30,zz31,not_true_eq_false,not_false_eq_true,M8,J7,J0,A6,L9,K6,A4,B9,D7,G9,O3,O4,K0,F2,F5,I5,I6,F7,F4,F3,F6,K1,K4,O5,O6,K3,K2,K5,F8,F9,E8,E2,J9,G1,C7,E9,L0,C4,I1,K8,K7,E7,P3,C8,B3,A0,L7,H8,E5,L6,H7,yz19,zz27,yz31,jz25,jz31,zz32,jz26,zz21,jz27,zz26,and_self,Nat.reduceLeDiff,jz18,exists_eq_left',yz24,jz21,Nat.reduceBEq,yz22,yz32,G8,A3,N0,Int.reduceLT,Int.reduceLE,Int.reduceEq,c50,c51,c54,c56,c57,c58,c59,tokD,List.getElem?_cons_zero,jz25,Int.zero_add,yz26, *]) | with_reducible (first | refine C2 (fun h => ?_) fun h => ?_ | refine F1 (fun h => ?_) fun h => ?_ | refine C1 (fun h => ?_) fun h => ?_ | refine F0 (fun h => ?_) fun h => ?_ | refine A2 (fun h => ?_) fun h => ?_ | refine A7 (fun h => ?_) fun h => ?_) | (refine D5 ?_ ?_ ?_; (focus decide +kernel); (focus decide +kernel)))
  all_goals exact absurd ⟨by assumption,by assumption⟩ hd
set_option maxHeartbeats 2000000 in
theorem p27_sharp (h1 : 0 < l.length) (h2 : l.length < 2 ^ 60) (hm : ¬ 0 < (W1 l).2) (hc : l.getD 0 0 = 35) (hd : ¬ (X6 (l.getD 1 0) = true ∧ 1 < (l.length : Int))) (he : Y3 (l.drop 1) = false) : PE Tryd.prog cfgV 27 [strD l] (R0 l) := by
  refine PE.code rfl code27 ?_
  dsimp only [sf27]
  have k1 : 0 < (l.length : Int) := by omega
  have k2 : 1 ≤ (l.length : Int) := by omega
  have hg : W9 l = false := beg_not hc (by decide) (by decide) (by decide)
  have q0 : W2 35 = false := by decide
  have q47 : ¬ (35 : UInt8) = 47 := by decide
  have q39 : ¬ (35 : UInt8) = 39 := by decide
  have q34 : ¬ (35 : UInt8) = 34 := by decide
  have q64 : ¬ (35 : UInt8) = 64 := by decide
  have q40 : ¬ (35 : UInt8) = 40 := by decide
  have q91 : ¬ (35 : UInt8) = 91 := by decide
  have q123 : ¬ (35 : UInt8) = 123 := by decide
  have q41 : ¬ (35 : UInt8) = 41 := by decide
  have q93 : ¬ (35 : UInt8) = 93 := by decide
  have q125 : ¬ (35 : UInt8) = 125 := by decide
  have q92 : ¬ (35 : UInt8) = 92 := by decide
  have ht' : R0 l = tokD 12 (l.take 1) [] 0 := by
    unfold R0 zz7
    simp only [*,yz21,if_false,false_and,and_false,or_self,or_false,false_or]
  rw [ht']
  clear ht'
  repeat' (first | (simp (maxSteps := 10000000) -implicitDefEqProofs (disch := first | exact tStr | decide | omega | assumption | (simp only [zz20,yz25,yz20]; omega)) only [D3,G6,G4,A9,C9,G3,B4,A1,C6,B2,D4,G5,D6,C5,B1,G7,B7,B8,C0,D8,D9,A5,J8,H9,E0,E1,M2,M3,M5,M4,I3,I4,P2,E4,E6,I0,B5,M1,N8,M9,N2,N3,N4,N5,N6,N7,N1,J2,J3,J4,J5,J6,J1,I8,I7,I9,M0,K9,E3,L1,C3,O1,O2,G2,O9,N9,O0,B0,L8,D2,I2,zz28,yz28,jz28,zz29,yz23,zz23,jz22,yz27,jz19,yz29,zz20,yz25,Nat.reduceAdd,Nat.reduceSub,Nat.reduceLT,Nat.reduceEqDiff,zz22,jz23,if_true,if_false,yz21,decide_true,decide_false,zz25,jz24,reduceIte,List.getElem?_cons_succ,List.getElem?_cons_zero,UInt8.reduceOfNat,fin1,fin2,L2,O7,L3,O8,H3,H6,H4,L4,H5,L5,B6,A8,zz24,M7,H0,M6,G0,Option.some.injEq,DV.tup.injEq,jz29,zz30,Int.reduceToNat,yz30,and_true,true_and,beq_self_eq_true,jz30,zz31,not_true_eq_false,not_false_eq_true,M8,J7,J0,A6,L9,K6,A4,B9,D7,G9,O3,O4,K0,F2,F5,I5,I6,F7,F4,F3,F6,K1,K4,O5,O6,K3,K2,K5,F8,F9,E8,E2,J9,G1,C7,E9,L0,C4,I1,K8,K7,E7,P3,C8,B3,A0,L7,H8,E5,L6,H7,yz19,zz27,yz31,jz25,jz31,zz32,jz26,zz21,jz27,zz26,and_self,Nat.reduceLeDiff,jz18,exists_eq_left',yz24,jz21,Nat.reduceBEq,yz22,yz32,G8,A3,N0,Int.reduceLT,Int.reduceLE,Int.reduceEq,c50,c51,c54,c56,c57,c58,c59,tokD,List.getElem?_cons_zero,jz25,Int.zero_add,yz26, *]) | with_reducible (first | refine C2 (fun h => ?_) fun h => ?_ | refine F1 (fun h => ?_) fun h => ?_ | refine C1 (fun h => ?_) fun h => ?_ | refine F0 (fun h => ?_) fun h => ?_ | refine A2 (fun h => ?_) fun h => ?_ | refine A7 (fun h => ?_) fun h => ?_) | (refine D5 ?_ ?_ ?_; (focus decide +kernel); (focus decide +kernel)))
  all_goals exact absurd ⟨by assumption,by assumption⟩ hd
set_option maxHeartbeats 2000000 in
theorem p27_atsign (h1 : 0 < l.length) (h2 : l.length < 2 ^ 60) (hm : ¬ 0 < (W1 l).2) (hc : l.getD 0 0 = 64) (hd : W9 (l.drop 1) = false) : PE Tryd.prog cfgV 27 [strD l] (R0 l) := by
  refine PE.code rfl code27 ?_
  dsimp only [sf27]
  have k1 : 0 < (l.length : Int) := by omega
  have k2 : 1 ≤ (l.length : Int) := by omega
  have hg : W9 l = false := beg_not hc (by decide) (by decide) (by decide)
  have q0 : W2 64 = false := by decide
  have q47 : ¬ (64 : UInt8) = 47 := by decide
  have q39 : ¬ (64 : UInt8) = 39 := by decide
  have q34 : ¬ (64 : UInt8) = 34 := by decide
  have q35 : ¬ (64 : UInt8) = 35 := by decide
  have q40 : ¬ (64 : UInt8) = 40 := by decide
  have q91 : ¬ (64 : UInt8) = 91 := by decide
  have q123 : ¬ (64 : UInt8) = 123 := by decide
  have q41 : ¬ (64 : UInt8) = 41 := by decide
  have q93 : ¬ (64 : UInt8) = 93 := by decide
  have q125 : ¬ (64 : UInt8) = 125 := by decide
  have q92 : ¬ (64 : UInt8) = 92 := by decide
  have ht' : R0 l = tokD 12 (l.take 1) [] 0 := by
    unfold R0 zz7
    simp only [*,yz21,if_false,false_and,and_false,or_self,or_false,false_or]
  rw [ht']
  clear ht'
  repeat' (first | (simp (maxSteps := 10000000) -implicitDefEqProofs (disch := first | exact tStr | decide | omega | assumption | (simp only [zz20,yz25,yz20]; omega)) only [D3,G6,G4,A9,C9,G3,B4,A1,C6,B2,D4,G5,D6,C5,B1,G7,B7,B8,C0,D8,D9,A5,J8,H9,E0,E1,M2,M3,M5,M4,I3,I4,P2,E4,E6,I0,B5,M1,N8,M9,N2,N3,N4,N5,N6,N7,N1,J2,J3,J4,J5,J6,J1,I8,I7,I9,M0,K9,E3,L1,C3,O1,O2,G2,O9,N9,O0,B0,L8,D2,I2,zz28,yz28,jz28,zz29,yz23,zz23,jz22,yz27,jz19,yz29,zz20,yz25,Nat.reduceAdd,Nat.reduceSub,Nat.reduceLT,Nat.reduceEqDiff,zz22,jz23,if_true,if_false,yz21,decide_true,decide_false,zz25,jz24,reduceIte,List.getElem?_cons_succ,List.getElem?_cons_zero,UInt8.reduceOfNat,fin1,fin2,L2,O7,L3,O8,H3,H6,H4,L4,H5,L5,B6,A8,zz24,M7,H0,M6,G0,Option.some.injEq,DV.tup.injEq,jz29,zz30,Int.reduceToNat,yz30,and_true,true_and,beq_self_eq_true,jz30,zz31,not_true_eq_false,not_false_eq_true,M8,J7,J0,A6,L9,K6,A4,B9,D7,G9,O3,O4,K0,F2,F5,I5,I6,F7,F4,F3,F6,K1,K4,O5,O6,K3,K2,K5,F8,F9,E8,E2,J9,G1,C7,E9,L0,C4,I1,K8,K7,E7,P3,C8,B3,A0,L7,H8,E5,L6,H7,yz19,zz27,yz31,jz25,jz31,zz32,jz26,zz21,jz27,zz26,and_self,Nat.reduceLeDiff,jz18,exists_eq_left',yz24,jz21,Nat.reduceBEq,yz22,yz32,G8,A3,N0,Int.reduceLT,Int.reduceLE,Int.reduceEq,c50,c51,c54,c56,c57,c58,c59,tokD,List.getElem?_cons_zero,jz25,Int.zero_add,yz26, *]) | with_reducible (first | refine C2 (fun h => ?_) fun h => ?_ | refine F1 (fun h => ?_) fun h => ?_ | refine C1 (fun h => ?_) fun h => ?_ | refine F0 (fun h => ?_) fun h => ?_ | refine A2 (fun h => ?_) fun h => ?_ | refine A7 (fun h => ?_) fun h => ?_) | (refine D5 ?_ ?_ ?_; (focus decide +kernel); (focus decide +kernel)))
  all_goals exact absurd ⟨by assumption,by assumption⟩ hd
end Go.Dx
end
section
namespace Go.Dx
open Go Go.Proofs
variable {l : List UInt8} {H : Heap} {K : DV → Heap → Prop}
theorem p27 (h1 : 0 < l.length) (h2 : l.length < 2 ^ 60) : PE Tryd.prog cfgV 27 [strD l] (R0 l) := by
  by_cases hb : W2 (l.getD 0 0) = true
  · exact p27_blank h1 h2 hb
  have hb := zz33 _ ▸ hb
  by_cases hn : l.getD 0 0 = 47 ∧ l.getD 1 0 = 42
  · exact p27_note h1 h2 hn.1 hn.2
  by_cases ht : l.getD 0 0 = 39
  · exact p27_text h1 h2 (.inl ht)
  by_cases hu : l.getD 0 0 = 34
  · exact p27_text h1 h2 (.inr hu)
  by_cases hm : 0 < (W1 l).2
  · exact p27_num h1 h2 hb hn ht hu hm
  by_cases k47 : l.getD 0 0 = 47
  · exact p27_slash h1 h2 hm k47 (fun h => hn ⟨k47,h⟩)
  by_cases k35 : l.getD 0 0 = 35
  · by_cases hh : X6 (l.getD 1 0) = true ∧ 1 < (l.length : Int) ∨ Y3 (l.drop 1) = true
    · exact p27_hash h1 h2 hm k35 hh
    · exact p27_sharp h1 h2 hm k35 (fun h => hh (.inl h)) (zz33 _ ▸ fun h => hh (.inr h))
  by_cases k64 : l.getD 0 0 = 64
  · by_cases ha : W9 (l.drop 1) = true
    · exact p27_at h1 h2 hm k64 ha
    · exact p27_atsign h1 h2 hm k64 (zz33 _ ▸ ha)
  by_cases hg : W9 l = true
  · exact p27_name h1 h2 hb hn ht hu hm (fun h => k35 h.1) (fun h => k64 h.1) hg k47 k35 k64
  · exact p27_sign h1 h2 hb hn ht hu hm (fun h => k35 h.1) (fun h => k64 h.1) (zz33 _ ▸ hg) k47 k35 k64
end Go.Dx
end
section
namespace Go.Dx
open Go Go.Proofs
variable {l : List UInt8}
theorem tokOf_is (l : List UInt8) : ∃ k r v n,R0 l = .agg [intD k,strD r,strD v,intD n] := by
  unfold R0
  split; exact ⟨_,_,_,_,rfl⟩
  split; exact ⟨_,_,_,_,rfl⟩
  split; exact textTok_is l
  split; exact numTok_is l _ _
  split; exact ⟨_,_,_,_,rfl⟩
  split; exact ⟨_,_,_,_,rfl⟩
  split
  · split <;> exact ⟨_,_,_,_,rfl⟩
  · exact ⟨_,_,_,_,rfl⟩
def rawOf : DV → List UInt8
  | .agg [_, .sc (.string s),_,_] => s.data.toList
  | _ => []
theorem V8 {k n : Int} {r v : List UInt8} : rawOf (.agg [intD k,strD r,strD v,intD n]) = r := by
  simp [rawOf,strD]
theorem yz5 {l : List UInt8} {j : Nat} (h0 : 0 < l.length) (h : 1 ≤ j) : 1 ≤ (l.take j).length ∧ (l.take j).length ≤ l.length := by
  rw [List.length_take]; omega
theorem blk_pos (h0 : 0 < l.length) (h : W2 (l.getD 0 0) = true) : 1 ≤ T9 l := by
  match l with
  | a :: r => simp only [zz29] at h; rw [T9,if_pos h]; omega
theorem note_pos : ∀ (n : Nat) (l : List UInt8) (k : Nat),U6 n l = some k → n ≤ k := by
  intro n l
  induction l generalizing n with
  | nil => intro k h; simp [U6] at h
  | cons a r ih =>
    intro k h
    cases r with
    | nil => simp [U6] at h
    | cons b r =>
      rw [U6] at h
      split at h
      · simp only [Option.some.injEq] at h; omega
      · have := ih _ _ h; omega
theorem noteLen_pos (h0 : 0 < l.length) : 1 ≤ yz4 l := by
  unfold yz4
  cases h : U6 2 (l.drop 2) with
  | none => simp only [Option.getD_none]; omega
  | some k => have := note_pos _ _ _ h; simp only [Option.getD_some]; omega
end Go.Dx
end
section
namespace Go.Dx
open Go Go.Proofs
variable {l : List UInt8}
theorem textRun_pos (q : UInt8) : ∀ (m : Nat) (l : List UInt8) (n : Nat),l.length ≤ m → n ≤ (R8 q n l).2.1 := by
  intro m
  induction m with
  | zero => intro l n h; cases l with
    | nil => simp [R8]
    | cons a r => simp at h
  | succ m ih =>
    intro l n h
    match l,h with
    | [],_ => simp [R8]
    | [a],_ => rw [R8]; split <;> (try split) <;> simp
    | a :: b :: r,h =>
      simp only [zz20] at h
      have h1 := ih r (n + 2) (by omega)
      have h2 := ih (b :: r) (n + 1) (by simp only [zz20]; omega)
      rw [R8]
      split
      · simp
      · split
        · simp
        · split <;> simp only <;> omega
theorem textTok_raw (h0 : 0 < l.length) : 1 ≤ (rawOf (W5 l)).length ∧ (rawOf (W5 l)).length ≤ l.length := by
  have := textRun_pos (l.getD 0 0) (l.drop 1).length (l.drop 1) 1 (jz18 _)
  unfold W5
  split
  · rw [tokD,V8]; exact yz5 h0 (by omega)
  · rw [tokD,V8]; exact yz5 h0 this
theorem numTok_raw {n i : Int} (h0 : 0 < l.length) (hi : 0 < i) : 1 ≤ (rawOf (Y9 l n i)).length ∧ (rawOf (Y9 l n i)).length ≤ l.length := by
  unfold Y9
  split
  · rw [tokD,V8]; exact yz5 h0 (by omega)
  · split <;> (rw [tokD,V8]; exact yz5 h0 (by omega))
theorem name_pos (h : W9 l = true) : 1 ≤ (P7 l).2 := by
  match l with
  | [a] =>
    rw [P7]
    have : X6 a = true := by
      by_cases ha : a = 45
      · subst ha; decide
      · simp [W9,ha,Y3] at h
        simp [X6,h]
    rw [if_pos this]; simp
  | a :: b :: r =>
    rw [P7]
    by_cases he : Y3 (a :: b :: r) = true
    · rw [if_pos he]; simp
    · have : X6 a = true := by
        by_cases ha : a = 45
        · subst ha; decide
        · simp [W9,ha,he] at h
          simp [X6,h]
      rw [if_neg he,if_pos this]; simp
theorem Z3 (h0 : 0 < l.length) : 1 ≤ (rawOf (R0 l)).length ∧ (rawOf (R0 l)).length ≤ l.length := by
  unfold R0
  split
  · rename_i h; rw [tokD,V8]; exact yz5 h0 (blk_pos h0 h)
  split
  · rw [tokD,V8]; exact yz5 h0 (noteLen_pos h0)
  split
  · exact textTok_raw h0
  split
  · rename_i h; exact numTok_raw h0 h
  split
  · rw [tokD,V8]; exact yz5 h0 (by omega)
  split
  · rw [tokD,V8]; exact yz5 h0 (by omega)
  split
  · rename_i h
    have := name_pos h
    split <;> (rw [tokD,V8]; exact yz5 h0 (by omega))
  · rw [tokD,V8]; exact yz5 h0 (by omega)
end Go.Dx
end
section
namespace Go.Dx
open Go Go.Proofs
set_option maxRecDepth 8000
attribute [local congr] Q7 Q6 R2 P8 Q2 Q5 Q3
variable {l : List UInt8} {H : Heap} {K : DV → Heap → Prop}
def toks (l : List UInt8) : List (List DV) :=
  if 0 < l.length then (R0 l).cells :: toks (l.drop (max 1 (rawOf (R0 l)).length)) else []
termination_by l.length
decreasing_by simp only [jz32]; omega
theorem c27 (h1 : 0 < l.length) (h2 : l.length < 2 ^ 60) : R4 Tryd.prog cfgV 27 [strD l] H K = K (R0 l) H := by
  obtain ⟨k,r,v,n,h⟩ := tokOf_is l
  refine T7 rfl rfl (p27 h1 h2) H K
end Go.Dx
end
section
namespace Go.Dx
open Go Go.Proofs
set_option maxRecDepth 8000
attribute [local congr] Q7 Q6 R2 P8 Q2 Q5 Q3
variable {l : List UInt8} {H : Heap} {K : DV → Heap → Prop}
theorem toks_go (h : 0 < l.length) : toks l = (R0 l).cells :: toks (l.drop (rawOf (R0 l)).length) := by
  have := Z3 h
  rw [toks,if_pos h,Nat.max_eq_right this.1]
theorem toks_end (h : ¬ 0 < l.length) : toks l = [] := by rw [toks,if_neg h]
def sh14 (cur : List UInt8) (out : DV) (H : Heap) (x : Nat → DV) : DS := ⟨[strD cur,x 1,x 2,out,x 4,x 5,x 6,x 7,x 8,x 9,x 10,x 11,x 12,x 13,x 14,x 15,x 16,x 17,x 18,x 19],H⟩
def inv14 (l : List UInt8) (n : Nat) (s : DS) : Prop := ∃ (cur : List UInt8) (out : DV) (es : List (List DV)),s = sh14 cur out s.H (fun k => s.sl.getD k P9) ∧ Lst 4 37 s.H out es ∧ es.length + cur.length ≤ l.length ∧ Hid (toks l = es ++ toks cur) ∧ Hid (n = cur.length)
def post14 (l : List UInt8) (ex : Ex) (s : DS) : Prop := ex = .exit 0 ∧ ∃ out cur,s = sh14 cur out s.H (fun k => s.sl.getD k P9) ∧ Lst 4 37 s.H out (toks l)
theorem l14_0 (h2 : l.length < 2 ^ 40) {n : Nat} {s : DS} (hI : inv14 l n s) : runW Tryd.prog cfgV (.loop lp14_0) s (post14 l) := by
  refine V3 (inv14 l) ?_ hI
  rintro n s ⟨cur,out,es,hs,ho,e1,e2,e3⟩
  obtain ⟨x,H,rfl⟩ : ∃ x H,s = sh14 cur out H x := ⟨_,_,hs⟩
  clear hs
  dsimp only [lp14_0,sh14] at ho ⊢
  by_cases hc : 0 < (cur.length : Int)
  · obtain ⟨k,r,v,m,ht⟩ := tokOf_is cur
    have hr := Z3 (l := cur) (by omega)
    rw [ht,V8] at hr
    have hr2 : (r.length : Int) ≤ cur.length := by omega
    repeat' (first | (simp (maxSteps := 10000000) -implicitDefEqProofs (disch := first | exact tStr | decide | omega | assumption | (simp only [zz20,yz25,yz20]; omega)) only [D3,G6,G4,A9,C9,G3,B4,A1,C6,B2,D4,G5,D6,C5,B1,G7,B7,B8,C0,D8,D9,A5,J8,H9,E0,E1,M2,M3,M5,M4,I3,I4,P2,E4,E6,I0,B5,M1,N8,M9,N2,N3,N4,N5,N6,N7,N1,J2,J3,J4,J5,J6,J1,I8,I7,I9,M0,K9,E3,L1,C3,O1,O2,G2,O9,N9,O0,B0,L8,D2,I2,zz28,yz28,jz28,zz29,yz23,zz23,jz22,yz27,jz19,yz29,zz20,yz25,Nat.reduceAdd,Nat.reduceSub,Nat.reduceLT,Nat.reduceEqDiff,zz22,jz23,if_true,if_false,yz21,decide_true,decide_false,zz25,jz24,reduceIte,List.getElem?_cons_succ,List.getElem?_cons_zero,UInt8.reduceOfNat,fin1,fin2,L2,O7,L3,O8,H3,H6,H4,L4,H5,L5,B6,A8,zz24,M7,H0,M6,G0,Option.some.injEq,DV.tup.injEq,jz29,zz30,Int.reduceToNat,yz30,and_true,true_and,beq_self_eq_true,jz30,zz31,not_true_eq_false,not_false_eq_true,M8,J7,J0,A6,L9,K6,A4,B9,D7,G9,O3,O4,K0,F2,F5,I5,I6,F7,F4,F3,F6,K1,K4,O5,O6,K3,K2,K5,F8,F9,E8,E2,J9,G1,C7,E9,L0,C4,I1,K8,K7,E7,P3,C8,B3,A0,L7,H8,E5,L6,H7,yz19,zz27,yz31,jz25,jz31,zz32,jz26,zz21,jz27,zz26,and_self,Nat.reduceLeDiff,jz18,exists_eq_left',yz24,jz21,Nat.reduceBEq,yz22,yz32,G8,A3,N0,Int.reduceLT,Int.reduceLE,Int.reduceEq,c27,Y0,yz17,yz9,set_behind,jz17,bsl_agg,zz18,List.append_assoc,yz20,V9, *]) | with_reducible (first | refine C2 (fun h => ?_) fun h => ?_ | refine F1 (fun h => ?_) fun h => ?_ | refine C1 (fun h => ?_) fun h => ?_ | refine F0 (fun h => ?_) fun h => ?_ | refine A2 (fun h => ?_) fun h => ?_ | refine A7 (fun h => ?_) fun h => ?_) | (refine D5 ?_ ?_ ?_; (focus decide +kernel); (focus decide +kernel)))
    refine appW (ho.more) (elems_row row_end1 rfl rfl) (by omega) (by simp only [zz20,yz25]; omega) rfl ?_
    intro out' H' hl hk hn hle _
    have hrow := hk.at0 ho F8
    clear hk
    repeat' (first | (simp (maxSteps := 10000000) -implicitDefEqProofs (disch := first | exact tStr | decide | omega | assumption | (simp only [zz20,yz25,yz20]; omega)) only [D3,G6,G4,A9,C9,G3,B4,A1,C6,B2,D4,G5,D6,C5,B1,G7,B7,B8,C0,D8,D9,A5,J8,H9,E0,E1,M2,M3,M5,M4,I3,I4,P2,E4,E6,I0,B5,M1,N8,M9,N2,N3,N4,N5,N6,N7,N1,J2,J3,J4,J5,J6,J1,I8,I7,I9,M0,K9,E3,L1,C3,O1,O2,G2,O9,N9,O0,B0,L8,D2,I2,zz28,yz28,jz28,zz29,yz23,zz23,jz22,yz27,jz19,yz29,zz20,yz25,Nat.reduceAdd,Nat.reduceSub,Nat.reduceLT,Nat.reduceEqDiff,zz22,jz23,if_true,if_false,yz21,decide_true,decide_false,zz25,jz24,reduceIte,List.getElem?_cons_succ,List.getElem?_cons_zero,UInt8.reduceOfNat,fin1,fin2,L2,O7,L3,O8,H3,H6,H4,L4,H5,L5,B6,A8,zz24,M7,H0,M6,G0,Option.some.injEq,DV.tup.injEq,jz29,zz30,Int.reduceToNat,yz30,and_true,true_and,beq_self_eq_true,jz30,zz31,not_true_eq_false,not_false_eq_true,M8,J7,J0,A6,L9,K6,A4,B9,D7,G9,O3,O4,K0,F2,F5,I5,I6,F7,F4,F3,F6,K1,K4,O5,O6,K3,K2,K5,F8,F9,E8,E2,J9,G1,C7,E9,L0,C4,I1,K8,K7,E7,P3,C8,B3,A0,L7,H8,E5,L6,H7,yz19,zz27,yz31,jz25,jz31,zz32,jz26,zz21,jz27,zz26,and_self,Nat.reduceLeDiff,jz18,exists_eq_left',yz24,jz21,Nat.reduceBEq,yz22,yz32,G8,A3,N0,Int.reduceLT,Int.reduceLE,Int.reduceEq,c27,hrow, *]) | with_reducible (first | refine C2 (fun h => ?_) fun h => ?_ | refine F1 (fun h => ?_) fun h => ?_ | refine C1 (fun h => ?_) fun h => ?_ | refine F0 (fun h => ?_) fun h => ?_ | refine A2 (fun h => ?_) fun h => ?_ | refine A7 (fun h => ?_) fun h => ?_) | (refine D5 ?_ ?_ ?_; (focus decide +kernel); (focus decide +kernel)))
    refine ⟨(cur.drop r.length).length,?_,cur.drop r.length,out',es ++ [[intD k,strD r,strD v,intD m]],?_,hl,?_,?_,rfl⟩
    · unfold Hid at e3; rw [jz32]; omega
    · rw [yz26]; rfl
    · rw [yz20,jz32,zz20,yz25]; omega
    · unfold Hid at e2 ⊢
      rw [e2,toks_go (l := cur) (by omega),ht,V8,List.append_assoc]
      rfl
  · repeat' (first | (simp (maxSteps := 10000000) -implicitDefEqProofs (disch := first | exact tStr | decide | omega | assumption | (simp only [zz20,yz25,yz20]; omega)) only [D3,G6,G4,A9,C9,G3,B4,A1,C6,B2,D4,G5,D6,C5,B1,G7,B7,B8,C0,D8,D9,A5,J8,H9,E0,E1,M2,M3,M5,M4,I3,I4,P2,E4,E6,I0,B5,M1,N8,M9,N2,N3,N4,N5,N6,N7,N1,J2,J3,J4,J5,J6,J1,I8,I7,I9,M0,K9,E3,L1,C3,O1,O2,G2,O9,N9,O0,B0,L8,D2,I2,zz28,yz28,jz28,zz29,yz23,zz23,jz22,yz27,jz19,yz29,zz20,yz25,Nat.reduceAdd,Nat.reduceSub,Nat.reduceLT,Nat.reduceEqDiff,zz22,jz23,if_true,if_false,yz21,decide_true,decide_false,zz25,jz24,reduceIte,List.getElem?_cons_succ,List.getElem?_cons_zero,UInt8.reduceOfNat,fin1,fin2,L2,O7,L3,O8,H3,H6,H4,L4,H5,L5,B6,A8,zz24,M7,H0,M6,G0,Option.some.injEq,DV.tup.injEq,jz29,zz30,Int.reduceToNat,yz30,and_true,true_and,beq_self_eq_true,jz30,zz31,not_true_eq_false,not_false_eq_true,M8,J7,J0,A6,L9,K6,A4,B9,D7,G9,O3,O4,K0,F2,F5,I5,I6,F7,F4,F3,F6,K1,K4,O5,O6,K3,K2,K5,F8,F9,E8,E2,J9,G1,C7,E9,L0,C4,I1,K8,K7,E7,P3,C8,B3,A0,L7,H8,E5,L6,H7,yz19,zz27,yz31,jz25,jz31,zz32,jz26,zz21,jz27,zz26,and_self,Nat.reduceLeDiff,jz18,exists_eq_left',yz24,jz21,Nat.reduceBEq,yz22,yz32,G8,A3,N0,Int.reduceLT,Int.reduceLE,Int.reduceEq,c27, *]) | with_reducible (first | refine C2 (fun h => ?_) fun h => ?_ | refine F1 (fun h => ?_) fun h => ?_ | refine C1 (fun h => ?_) fun h => ?_ | refine F0 (fun h => ?_) fun h => ?_ | refine A2 (fun h => ?_) fun h => ?_ | refine A7 (fun h => ?_) fun h => ?_) | (refine D5 ?_ ?_ ?_; (focus decide +kernel); (focus decide +kernel)))
    unfold Hid at e2
    rw [toks_end (l := cur) (by omega),jz26] at e2
    exact ⟨rfl,out,cur,rfl,by rw [e2]; exact ho⟩
theorem toks_plain (l : List UInt8) : (toks l).all (fun e => e.all jz6) = true := by
  generalize hn : l.length = n
  induction n using Nat.strongRecOn generalizing l with
  | _ n ih =>
    by_cases h : 0 < l.length
    · have hr := Z3 h
      rw [toks_go h,zz21,ih _ (by rw [jz32]; omega) _ rfl,Bool.and_true]
      obtain ⟨k,r,v,m,ht⟩ := tokOf_is l
      rw [ht]; rfl
    · rw [toks_end h]; rfl
theorem p14 (h2 : l.length < 2 ^ 40) : PE Tryd.prog cfgV 14 [strD l] (.imm (toks l)) := by
  refine PE.code rfl code14 ?_
  dsimp only [sf14]
  repeat' (first | (simp (maxSteps := 10000000) -implicitDefEqProofs (disch := first | exact tStr | decide | omega | assumption | (simp only [zz20,yz25,yz20]; omega)) only [D3,G6,G4,A9,C9,G3,B4,A1,C6,B2,D4,G5,D6,C5,B1,G7,B7,B8,C0,D8,D9,A5,J8,H9,E0,E1,M2,M3,M5,M4,I3,I4,P2,E4,E6,I0,B5,M1,N8,M9,N2,N3,N4,N5,N6,N7,N1,J2,J3,J4,J5,J6,J1,I8,I7,I9,M0,K9,E3,L1,C3,O1,O2,G2,O9,N9,O0,B0,L8,D2,I2,zz28,yz28,jz28,zz29,yz23,zz23,jz22,yz27,jz19,yz29,zz20,yz25,Nat.reduceAdd,Nat.reduceSub,Nat.reduceLT,Nat.reduceEqDiff,zz22,jz23,if_true,if_false,yz21,decide_true,decide_false,zz25,jz24,reduceIte,List.getElem?_cons_succ,List.getElem?_cons_zero,UInt8.reduceOfNat,fin1,fin2,L2,O7,L3,O8,H3,H6,H4,L4,H5,L5,B6,A8,zz24,M7,H0,M6,G0,Option.some.injEq,DV.tup.injEq,jz29,zz30,Int.reduceToNat,yz30,and_true,true_and,beq_self_eq_true,jz30,zz31,not_true_eq_false,not_false_eq_true,M8,J7,J0,A6,L9,K6,A4,B9,D7,G9,O3,O4,K0,F2,F5,I5,I6,F7,F4,F3,F6,K1,K4,O5,O6,K3,K2,K5,F8,F9,E8,E2,J9,G1,C7,E9,L0,C4,I1,K8,K7,E7,P3,C8,B3,A0,L7,H8,E5,L6,H7,yz19,zz27,yz31,jz25,jz31,zz32,jz26,zz21,jz27,zz26,and_self,Nat.reduceLeDiff,jz18,exists_eq_left',yz24,jz21,Nat.reduceBEq,yz22,yz32,G8,A3,N0,Int.reduceLT,Int.reduceLE,Int.reduceEq,V9, *]) | with_reducible (first | refine C2 (fun h => ?_) fun h => ?_ | refine F1 (fun h => ?_) fun h => ?_ | refine C1 (fun h => ?_) fun h => ?_ | refine F0 (fun h => ?_) fun h => ?_ | refine A2 (fun h => ?_) fun h => ?_ | refine A7 (fun h => ?_) fun h => ?_) | (refine D5 ?_ ?_ ?_; (focus decide +kernel); (focus decide +kernel)))
  refine zz2 (l14_0 h2 (n := l.length) ⟨l, .nil, [],rfl,Lst.nil,by simp,rfl,rfl⟩) ?_
  rintro ex s ⟨rfl,out,cur,hs',ho⟩
  obtain ⟨x,H,rfl⟩ : ∃ x H,s = sh14 cur out H x := ⟨_,_,hs'⟩
  clear hs'
  dsimp only [sh14] at ho ⊢
  repeat' (first | (simp (maxSteps := 10000000) -implicitDefEqProofs (disch := first | exact tStr | decide | omega | assumption | (simp only [zz20,yz25,yz20]; omega)) only [D3,G6,G4,A9,C9,G3,B4,A1,C6,B2,D4,G5,D6,C5,B1,G7,B7,B8,C0,D8,D9,A5,J8,H9,E0,E1,M2,M3,M5,M4,I3,I4,P2,E4,E6,I0,B5,M1,N8,M9,N2,N3,N4,N5,N6,N7,N1,J2,J3,J4,J5,J6,J1,I8,I7,I9,M0,K9,E3,L1,C3,O1,O2,G2,O9,N9,O0,B0,L8,D2,I2,zz28,yz28,jz28,zz29,yz23,zz23,jz22,yz27,jz19,yz29,zz20,yz25,Nat.reduceAdd,Nat.reduceSub,Nat.reduceLT,Nat.reduceEqDiff,zz22,jz23,if_true,if_false,yz21,decide_true,decide_false,zz25,jz24,reduceIte,List.getElem?_cons_succ,List.getElem?_cons_zero,UInt8.reduceOfNat,fin1,fin2,L2,O7,L3,O8,H3,H6,H4,L4,H5,L5,B6,A8,zz24,M7,H0,M6,G0,Option.some.injEq,DV.tup.injEq,jz29,zz30,Int.reduceToNat,yz30,and_true,true_and,beq_self_eq_true,jz30,zz31,not_true_eq_false,not_false_eq_true,M8,J7,J0,A6,L9,K6,A4,B9,D7,G9,O3,O4,K0,F2,F5,I5,I6,F7,F4,F3,F6,K1,K4,O5,O6,K3,K2,K5,F8,F9,E8,E2,J9,G1,C7,E9,L0,C4,I1,K8,K7,E7,P3,C8,B3,A0,L7,H8,E5,L6,H7,yz19,zz27,yz31,jz25,jz31,zz32,jz26,zz21,jz27,zz26,and_self,Nat.reduceLeDiff,jz18,exists_eq_left',yz24,jz21,Nat.reduceBEq,yz22,yz32,G8,A3,N0,Int.reduceLT,Int.reduceLE,Int.reduceEq,V9, *]) | with_reducible (first | refine C2 (fun h => ?_) fun h => ?_ | refine F1 (fun h => ?_) fun h => ?_ | refine C1 (fun h => ?_) fun h => ?_ | refine F0 (fun h => ?_) fun h => ?_ | refine A2 (fun h => ?_) fun h => ?_ | refine A7 (fun h => ?_) fun h => ?_) | (refine D5 ?_ ?_ ?_; (focus decide +kernel); (focus decide +kernel)))
  exact frz_lst ho (frz_rows (m := 6) (toks_plain l))
theorem c14 (h2 : l.length < 2 ^ 40) : R4 Tryd.prog cfgV 14 [strD l] H K = K (.imm (toks l)) H := T7 rfl rfl (p14 h2) H K
end Go.Dx
end
section
namespace Go.Dx
open Go Go.Proofs
set_option maxRecDepth 8000
attribute [local congr] Q7 Q6 R2 P8 Q2 Q5 Q3 zz1 zz14
variable {l x : List UInt8} {H : Heap} {K : DV → Heap → Prop} {b : Nat} {v a : DV}
def Bld (H : Heap) (b : Nat) (v : DV) (l : List UInt8) : Prop := ∃ a,H.row b = some (Row.mk 2 [[a,v]] 34 0 true) ∧ (a = .sc (.pointer none) ∨ a = .ptr b 0 0) ∧ Lst 1 5 H v (bys l) ∧ (l = [] → v = .nil)
def KeepB (H H' : Heap) (b : Nat) (v : DV) : Prop := ∀ id r,H.row id = some r → id ≠ b → (∀ off n,v ≠ .osl id off n) → H'.row id = some r
theorem w22 (hb : H.row b = some (Row.mk 2 [[a,v]] 34 0 true)) (ha : a = .sc (.pointer none) ∨ a = .ptr b 0 0)
    (hK : ∀ H',H'.row b = some (Row.mk 2 [[.ptr b 0 0,v]] 34 0 true) → (∀ id r,H.row id = some r → id ≠ b → H'.row id = some r) → H.length ≤ H'.length → K (.tup []) H') : R4 Tryd.prog cfgV 22 [.ptr b 0 0] H K := by
  refine callH rfl rfl code22 ?_
  dsimp only [sf22]
  have hl := row_lt hb
  rcases ha with rfl | rfl
  · repeat' (first | (simp (maxSteps := 10000000) -implicitDefEqProofs (disch := first | exact tStr | decide | omega | assumption | (simp only [zz20,yz25,yz20]; omega)) only [D3,G6,G4,A9,C9,G3,B4,A1,C6,B2,D4,G5,D6,C5,B1,G7,B7,B8,C0,D8,D9,A5,J8,H9,E0,E1,M2,M3,M5,M4,I3,I4,P2,E4,E6,I0,B5,M1,N8,M9,N2,N3,N4,N5,N6,N7,N1,J2,J3,J4,J5,J6,J1,I8,I7,I9,M0,K9,E3,L1,C3,O1,O2,G2,O9,N9,O0,B0,L8,D2,I2,zz28,yz28,jz28,zz29,yz23,zz23,jz22,yz27,jz19,yz29,zz20,yz25,Nat.reduceAdd,Nat.reduceSub,Nat.reduceLT,Nat.reduceEqDiff,zz22,jz23,if_true,if_false,yz21,decide_true,decide_false,zz25,jz24,reduceIte,List.getElem?_cons_succ,List.getElem?_cons_zero,UInt8.reduceOfNat,fin1,fin2,L2,O7,L3,O8,H3,H6,H4,L4,H5,L5,B6,A8,zz24,M7,H0,M6,G0,Option.some.injEq,DV.tup.injEq,jz29,zz30,Int.reduceToNat,yz30,and_true,true_and,beq_self_eq_true,jz30,zz31,not_true_eq_false,not_false_eq_true,M8,J7,J0,A6,L9,K6,A4,B9,D7,G9,O3,O4,K0,F2,F5,I5,I6,F7,F4,F3,F6,K1,K4,O5,O6,K3,K2,K5,F8,F9,E8,E2,J9,G1,C7,E9,L0,C4,I1,K8,K7,E7,P3,C8,B3,A0,L7,H8,E5,L6,H7,yz19,zz27,yz31,jz25,jz31,zz32,jz26,zz21,jz27,zz26,and_self,Nat.reduceLeDiff,jz18,exists_eq_left',yz24,jz21,Nat.reduceBEq,yz22,yz32,G8,A3,N0,Int.reduceLT,Int.reduceLE,Int.reduceEq,V7,jz15,dop_eqNil,eqn_nil,dop_toUnsafe,tun_row hb,dop_fromUnsafe,fun_row hb,ret0, *]) | with_reducible (first | refine C2 (fun h => ?_) fun h => ?_ | refine F1 (fun h => ?_) fun h => ?_ | refine C1 (fun h => ?_) fun h => ?_ | refine F0 (fun h => ?_) fun h => ?_ | refine A2 (fun h => ?_) fun h => ?_ | refine A7 (fun h => ?_) fun h => ?_) | (refine D5 ?_ ?_ ?_; (focus decide +kernel); (focus decide +kernel)))
    exact hK _ (Z8 hl) (fun id r h hn => by rw [zz8 hn]; exact h) (by simp)
  · repeat' (first | (simp (maxSteps := 10000000) -implicitDefEqProofs (disch := first | exact tStr | decide | omega | assumption | (simp only [zz20,yz25,yz20]; omega)) only [D3,G6,G4,A9,C9,G3,B4,A1,C6,B2,D4,G5,D6,C5,B1,G7,B7,B8,C0,D8,D9,A5,J8,H9,E0,E1,M2,M3,M5,M4,I3,I4,P2,E4,E6,I0,B5,M1,N8,M9,N2,N3,N4,N5,N6,N7,N1,J2,J3,J4,J5,J6,J1,I8,I7,I9,M0,K9,E3,L1,C3,O1,O2,G2,O9,N9,O0,B0,L8,D2,I2,zz28,yz28,jz28,zz29,yz23,zz23,jz22,yz27,jz19,yz29,zz20,yz25,Nat.reduceAdd,Nat.reduceSub,Nat.reduceLT,Nat.reduceEqDiff,zz22,jz23,if_true,if_false,yz21,decide_true,decide_false,zz25,jz24,reduceIte,List.getElem?_cons_succ,List.getElem?_cons_zero,UInt8.reduceOfNat,fin1,fin2,L2,O7,L3,O8,H3,H6,H4,L4,H5,L5,B6,A8,zz24,M7,H0,M6,G0,Option.some.injEq,DV.tup.injEq,jz29,zz30,Int.reduceToNat,yz30,and_true,true_and,beq_self_eq_true,jz30,zz31,not_true_eq_false,not_false_eq_true,M8,J7,J0,A6,L9,K6,A4,B9,D7,G9,O3,O4,K0,F2,F5,I5,I6,F7,F4,F3,F6,K1,K4,O5,O6,K3,K2,K5,F8,F9,E8,E2,J9,G1,C7,E9,L0,C4,I1,K8,K7,E7,P3,C8,B3,A0,L7,H8,E5,L6,H7,yz19,zz27,yz31,jz25,jz31,zz32,jz26,zz21,jz27,zz26,and_self,Nat.reduceLeDiff,jz18,exists_eq_left',yz24,jz21,Nat.reduceBEq,yz22,yz32,G8,A3,N0,Int.reduceLT,Int.reduceLE,Int.reduceEq,V7,jz15,dop_eqNil,eqn_ptr,dop_eqPtr,eqp_same hb,ret0, *]) | with_reducible (first | refine C2 (fun h => ?_) fun h => ?_ | refine F1 (fun h => ?_) fun h => ?_ | refine C1 (fun h => ?_) fun h => ?_ | refine F0 (fun h => ?_) fun h => ?_ | refine A2 (fun h => ?_) fun h => ?_ | refine A7 (fun h => ?_) fun h => ?_) | (refine D5 ?_ ?_ ?_; (focus decide +kernel); (focus decide +kernel)))
    exact hK _ hb (fun id r h hn => h) (jz18 _)
theorem Lst.frame {k : Nat} {ty : TypeId} {H H' : Heap} {v : DV} {es : List (List DV)} (h : Lst k ty H v es) (hf : ∀ id r,v = .osl id 0 es.length → H.row id = some r → H'.row id = some r) : Lst k ty H' v es := by
  rcases h with ⟨rfl,rfl⟩ | ⟨j,rfl,hj⟩
  · exact .inl ⟨rfl,rfl⟩
  · exact .inr ⟨j,rfl,hf _ _ rfl hj⟩
theorem Bld.ne (hb : Bld H b v l) {id off n : Nat} (h : v = .osl id off n) : id ≠ b := by
  rintro rfl
  obtain ⟨a,h1,_,h3,_⟩ := hb
  rcases h3 with ⟨rfl,_⟩ | ⟨j,rfl,hj⟩
  · cases h
  · injection h with e1 e2 e3; subst e1; rw [h1] at hj; cases hj
theorem elems_str : Z6 H 1 (strD x) = some (bys x) := Eq.trans rfl rfl
theorem bys_append : bys l ++ bys x = bys (l ++ x) := by simp [bys]
theorem bys_one : (bys x).all (fun e => e.all DV.one) = true := by
  induction x with
  | nil => rfl
  | cons a r ih => simp only [bys,yz23,zz21] at ih ⊢; rw [ih]; rfl
theorem dev_nili {G : Nat → Option (List DV)} {sl : List DV} : dev G sl (.const .nilIface) = .sc .nilIface := Eq.trans rfl rfl
theorem cells_lst {k : Nat} {ty : TypeId} {es : List (List DV)} (h : Lst k ty H v es) : v.cells = [v] ∧ v.one = true := by
  rcases h with ⟨rfl,rfl⟩ | ⟨j,rfl,hj⟩ <;> exact ⟨rfl,rfl⟩
theorem w9 (hb : Bld H b v l) (hx : l.length + x.length ≤ 2 ^ 47) (hK : ∀ v' H',Bld H' b v' (l ++ x) → KeepB H H' b v → Next H v v' → H.length ≤ H'.length → K (.tup [intD x.length, .sc .nilIface]) H') :
    R4 Tryd.prog cfgV 9 [.ptr b 0 0,strD x] H K := by
  refine callH rfl rfl code9 ?_
  dsimp only [sf9]
  have hne := fun {id off n : Nat} (h : v = .osl id off n) => hb.ne h
  obtain ⟨a,h1,h2,h3,h4⟩ := hb
  repeat' (first | (simp (maxSteps := 10000000) -implicitDefEqProofs (disch := first | exact tStr | decide | omega | assumption | (simp only [zz20,yz25,yz20]; omega)) only [D3,G6,G4,A9,C9,G3,B4,A1,C6,B2,D4,G5,D6,C5,B1,G7,B7,B8,C0,D8,D9,A5,J8,H9,E0,E1,M2,M3,M5,M4,I3,I4,P2,E4,E6,I0,B5,M1,N8,M9,N2,N3,N4,N5,N6,N7,N1,J2,J3,J4,J5,J6,J1,I8,I7,I9,M0,K9,E3,L1,C3,O1,O2,G2,O9,N9,O0,B0,L8,D2,I2,zz28,yz28,jz28,zz29,yz23,zz23,jz22,yz27,jz19,yz29,zz20,yz25,Nat.reduceAdd,Nat.reduceSub,Nat.reduceLT,Nat.reduceEqDiff,zz22,jz23,if_true,if_false,yz21,decide_true,decide_false,zz25,jz24,reduceIte,List.getElem?_cons_succ,List.getElem?_cons_zero,UInt8.reduceOfNat,fin1,fin2,L2,O7,L3,O8,H3,H6,H4,L4,H5,L5,B6,A8,zz24,M7,H0,M6,G0,Option.some.injEq,DV.tup.injEq,jz29,zz30,Int.reduceToNat,yz30,and_true,true_and,beq_self_eq_true,jz30,zz31,not_true_eq_false,not_false_eq_true,M8,J7,J0,A6,L9,K6,A4,B9,D7,G9,O3,O4,K0,F2,F5,I5,I6,F7,F4,F3,F6,K1,K4,O5,O6,K3,K2,K5,F8,F9,E8,E2,J9,G1,C7,E9,L0,C4,I1,K8,K7,E7,P3,C8,B3,A0,L7,H8,E5,L6,H7,yz19,zz27,yz31,jz25,jz31,zz32,jz26,zz21,jz27,zz26,and_self,Nat.reduceLeDiff,jz18,exists_eq_left',yz24,jz21,Nat.reduceBEq,yz22,yz32,G8,A3,N0,Int.reduceLT,Int.reduceLE,Int.reduceEq,dev_nili, *]) | with_reducible (first | refine C2 (fun h => ?_) fun h => ?_ | refine F1 (fun h => ?_) fun h => ?_ | refine C1 (fun h => ?_) fun h => ?_ | refine F0 (fun h => ?_) fun h => ?_ | refine A2 (fun h => ?_) fun h => ?_ | refine A7 (fun h => ?_) fun h => ?_) | (refine D5 ?_ ?_ ?_; (focus decide +kernel); (focus decide +kernel)))
  refine w22 h1 h2 fun H1 g1 g2 g3 => ?_
  have h3' : Lst 1 5 H1 v (bys l) := h3.frame fun id r e hr => g2 id r hr (hne e)
  repeat' (first | (simp (maxSteps := 10000000) -implicitDefEqProofs (disch := first | exact tStr | decide | omega | assumption | (simp only [zz20,yz25,yz20]; omega)) only [D3,G6,G4,A9,C9,G3,B4,A1,C6,B2,D4,G5,D6,C5,B1,G7,B7,B8,C0,D8,D9,A5,J8,H9,E0,E1,M2,M3,M5,M4,I3,I4,P2,E4,E6,I0,B5,M1,N8,M9,N2,N3,N4,N5,N6,N7,N1,J2,J3,J4,J5,J6,J1,I8,I7,I9,M0,K9,E3,L1,C3,O1,O2,G2,O9,N9,O0,B0,L8,D2,I2,zz28,yz28,jz28,zz29,yz23,zz23,jz22,yz27,jz19,yz29,zz20,yz25,Nat.reduceAdd,Nat.reduceSub,Nat.reduceLT,Nat.reduceEqDiff,zz22,jz23,if_true,if_false,yz21,decide_true,decide_false,zz25,jz24,reduceIte,List.getElem?_cons_succ,List.getElem?_cons_zero,UInt8.reduceOfNat,fin1,fin2,L2,O7,L3,O8,H3,H6,H4,L4,H5,L5,B6,A8,zz24,M7,H0,M6,G0,Option.some.injEq,DV.tup.injEq,jz29,zz30,Int.reduceToNat,yz30,and_true,true_and,beq_self_eq_true,jz30,zz31,not_true_eq_false,not_false_eq_true,M8,J7,J0,A6,L9,K6,A4,B9,D7,G9,O3,O4,K0,F2,F5,I5,I6,F7,F4,F3,F6,K1,K4,O5,O6,K3,K2,K5,F8,F9,E8,E2,J9,G1,C7,E9,L0,C4,I1,K8,K7,E7,P3,C8,B3,A0,L7,H8,E5,L6,H7,yz19,zz27,yz31,jz25,jz31,zz32,jz26,zz21,jz27,zz26,and_self,Nat.reduceLeDiff,jz18,exists_eq_left',yz24,jz21,Nat.reduceBEq,yz22,yz32,G8,A3,N0,Int.reduceLT,Int.reduceLE,Int.reduceEq,V7,jz15,g1,zz18, *]) | with_reducible (first | refine C2 (fun h => ?_) fun h => ?_ | refine F1 (fun h => ?_) fun h => ?_ | refine C1 (fun h => ?_) fun h => ?_ | refine F0 (fun h => ?_) fun h => ?_ | refine A2 (fun h => ?_) fun h => ?_ | refine A7 (fun h => ?_) fun h => ?_) | (refine D5 ?_ ?_ ?_; (focus decide +kernel); (focus decide +kernel)))
  refine appW h3' elems_str (by omega) (by rw [U3,U3]; omega) bys_one ?_
  intro v' H2 k1 k2 k3 k4 k5
  rw [bys_append] at k1
  have g4 : H2.row b = some (Row.mk 2 [[.ptr b 0 0,v]] 34 0 true) := k2 _ _ g1 fun off n e => hne e rfl
  have hlt := row_lt g4
  obtain ⟨c1,c2⟩ := cells_lst k1
  have fr : ∀ id r,H.row id = some r → id ≠ b → (∀ off n,v ≠ .osl id off n) → H2.row id = some r := fun id r h hn hv => k2 id r (g2 id r h hn) hv
  have nx : Next H v v' := by
    rcases k3 with e | ⟨id,off,n,e,e2⟩
    · exact .inl e
    · exact .inr ⟨id,off,n,e,by omega⟩
  have hlen : H.length ≤ H2.length := by omega
  have hnew : v' ≠ .nil ∨ l ++ x = [] := by
    by_cases he : l ++ x = []
    · exact .inr he
    · refine .inl fun e => he ?_
      rcases k1 with ⟨_,e2⟩ | ⟨j,e2,_⟩
      · simpa [bys] using e2
      · rw [e2] at e; cases e
  have hnil : l ++ x = [] → v' = .nil := by
    intro he
    have hl := List.append_eq_nil_iff.mp he
    rw [k5 (by rw [hl.2]; rfl)]; exact h4 hl.1
  have hne' : ∀ {id off n : Nat},v' = .osl id off n → id ≠ b := by
    rintro id off n rfl rfl
    rcases k1 with ⟨e,_⟩ | ⟨j,e,hj⟩
    · cases e
    · injection e with e1 e2 e3; subst e1; rw [g4] at hj; cases hj
  clear g1 h1 h2 k2 k5 hnew
  repeat' (first | (simp (maxSteps := 10000000) -implicitDefEqProofs (disch := first | exact tStr | decide | omega | assumption | (simp only [zz20,yz25,yz20]; omega)) only [D3,G6,G4,A9,C9,G3,B4,A1,C6,B2,D4,G5,D6,C5,B1,G7,B7,B8,C0,D8,D9,A5,J8,H9,E0,E1,M2,M3,M5,M4,I3,I4,P2,E4,E6,I0,B5,M1,N8,M9,N2,N3,N4,N5,N6,N7,N1,J2,J3,J4,J5,J6,J1,I8,I7,I9,M0,K9,E3,L1,C3,O1,O2,G2,O9,N9,O0,B0,L8,D2,I2,zz28,yz28,jz28,zz29,yz23,zz23,jz22,yz27,jz19,yz29,zz20,yz25,Nat.reduceAdd,Nat.reduceSub,Nat.reduceLT,Nat.reduceEqDiff,zz22,jz23,if_true,if_false,yz21,decide_true,decide_false,zz25,jz24,reduceIte,List.getElem?_cons_succ,List.getElem?_cons_zero,UInt8.reduceOfNat,fin1,fin2,L2,O7,L3,O8,H3,H6,H4,L4,H5,L5,B6,A8,zz24,M7,H0,M6,G0,Option.some.injEq,DV.tup.injEq,jz29,zz30,Int.reduceToNat,yz30,and_true,true_and,beq_self_eq_true,jz30,zz31,not_true_eq_false,not_false_eq_true,M8,J7,J0,A6,L9,K6,A4,B9,D7,G9,O3,O4,K0,F2,F5,I5,I6,F7,F4,F3,F6,K1,K4,O5,O6,K3,K2,K5,F8,F9,E8,E2,J9,G1,C7,E9,L0,C4,I1,K8,K7,E7,P3,C8,B3,A0,L7,H8,E5,L6,H7,yz19,zz27,yz31,jz25,jz31,zz32,jz26,zz21,jz27,zz26,and_self,Nat.reduceLeDiff,jz18,exists_eq_left',yz24,jz21,Nat.reduceBEq,yz22,yz32,G8,A3,N0,Int.reduceLT,Int.reduceLE,Int.reduceEq,g4,c1,c2,V7,jz15,ret2,dev_nili, *]) | with_reducible (first | refine C2 (fun h => ?_) fun h => ?_ | refine F1 (fun h => ?_) fun h => ?_ | refine C1 (fun h => ?_) fun h => ?_ | refine F0 (fun h => ?_) fun h => ?_ | refine A2 (fun h => ?_) fun h => ?_ | refine A7 (fun h => ?_) fun h => ?_) | (refine D5 ?_ ?_ ?_; (focus decide +kernel); (focus decide +kernel)))
  exact hK v' _ ⟨_,Z8 hlt, .inr rfl,k1.frame (fun id r e hr => by rw [zz8 (hne' e)]; exact hr),hnil⟩ (fun id r h hn hv => by rw [zz8 hn]; exact fr id r h hn hv) nx (by simp; omega)
theorem bsl_by {ty : TypeId} {k : Nat} {zero : List DV} {c : UInt8} : bslD H ty k zero (byD c) = if 1 = k ∧ zero.length = k ∧ 1 ≤ k then .val (.osl H.length 0 1) (H ++ [some (Row.mk k [[byD c]] ty 0 true)]) else .fail := Eq.trans rfl rfl
theorem w49 (hb : Bld H b v l) {c : UInt8} (hx : l.length < 2 ^ 40) (hK : ∀ v' H',Bld H' b v' (l ++ [c]) → KeepB H H' b v → Next H v v' → H.length ≤ H'.length → K (.sc .nilIface) H') :
    R4 Tryd.prog cfgV 49 [.ptr b 0 0,byD c] H K := by
  refine callH rfl rfl code49 ?_
  dsimp only [sf49]
  have hne := fun {id off n : Nat} (h : v = .osl id off n) => hb.ne h
  obtain ⟨a,h1,h2,h3,h4⟩ := hb
  repeat' (first | (simp (maxSteps := 10000000) -implicitDefEqProofs (disch := first | exact tStr | decide | omega | assumption | (simp only [zz20,yz25,yz20]; omega)) only [D3,G6,G4,A9,C9,G3,B4,A1,C6,B2,D4,G5,D6,C5,B1,G7,B7,B8,C0,D8,D9,A5,J8,H9,E0,E1,M2,M3,M5,M4,I3,I4,P2,E4,E6,I0,B5,M1,N8,M9,N2,N3,N4,N5,N6,N7,N1,J2,J3,J4,J5,J6,J1,I8,I7,I9,M0,K9,E3,L1,C3,O1,O2,G2,O9,N9,O0,B0,L8,D2,I2,zz28,yz28,jz28,zz29,yz23,zz23,jz22,yz27,jz19,yz29,zz20,yz25,Nat.reduceAdd,Nat.reduceSub,Nat.reduceLT,Nat.reduceEqDiff,zz22,jz23,if_true,if_false,yz21,decide_true,decide_false,zz25,jz24,reduceIte,List.getElem?_cons_succ,List.getElem?_cons_zero,UInt8.reduceOfNat,fin1,fin2,L2,O7,L3,O8,H3,H6,H4,L4,H5,L5,B6,A8,zz24,M7,H0,M6,G0,Option.some.injEq,DV.tup.injEq,jz29,zz30,Int.reduceToNat,yz30,and_true,true_and,beq_self_eq_true,jz30,zz31,not_true_eq_false,not_false_eq_true,M8,J7,J0,A6,L9,K6,A4,B9,D7,G9,O3,O4,K0,F2,F5,I5,I6,F7,F4,F3,F6,K1,K4,O5,O6,K3,K2,K5,F8,F9,E8,E2,J9,G1,C7,E9,L0,C4,I1,K8,K7,E7,P3,C8,B3,A0,L7,H8,E5,L6,H7,yz19,zz27,yz31,jz25,jz31,zz32,jz26,zz21,jz27,zz26,and_self,Nat.reduceLeDiff,jz18,exists_eq_left',yz24,jz21,Nat.reduceBEq,yz22,yz32,G8,A3,N0,Int.reduceLT,Int.reduceLE,Int.reduceEq,dev_nili, *]) | with_reducible (first | refine C2 (fun h => ?_) fun h => ?_ | refine F1 (fun h => ?_) fun h => ?_ | refine C1 (fun h => ?_) fun h => ?_ | refine F0 (fun h => ?_) fun h => ?_ | refine A2 (fun h => ?_) fun h => ?_ | refine A7 (fun h => ?_) fun h => ?_) | (refine D5 ?_ ?_ ?_; (focus decide +kernel); (focus decide +kernel)))
  refine w22 h1 h2 fun H1 g1 g2 g3 => ?_
  have h3' : Lst 1 5 H1 v (bys l) := h3.frame fun id r e hr => g2 id r hr (hne e)
  repeat' (first | (simp (maxSteps := 10000000) -implicitDefEqProofs (disch := first | exact tStr | decide | omega | assumption | (simp only [zz20,yz25,yz20]; omega)) only [D3,G6,G4,A9,C9,G3,B4,A1,C6,B2,D4,G5,D6,C5,B1,G7,B7,B8,C0,D8,D9,A5,J8,H9,E0,E1,M2,M3,M5,M4,I3,I4,P2,E4,E6,I0,B5,M1,N8,M9,N2,N3,N4,N5,N6,N7,N1,J2,J3,J4,J5,J6,J1,I8,I7,I9,M0,K9,E3,L1,C3,O1,O2,G2,O9,N9,O0,B0,L8,D2,I2,zz28,yz28,jz28,zz29,yz23,zz23,jz22,yz27,jz19,yz29,zz20,yz25,Nat.reduceAdd,Nat.reduceSub,Nat.reduceLT,Nat.reduceEqDiff,zz22,jz23,if_true,if_false,yz21,decide_true,decide_false,zz25,jz24,reduceIte,List.getElem?_cons_succ,List.getElem?_cons_zero,UInt8.reduceOfNat,fin1,fin2,L2,O7,L3,O8,H3,H6,H4,L4,H5,L5,B6,A8,zz24,M7,H0,M6,G0,Option.some.injEq,DV.tup.injEq,jz29,zz30,Int.reduceToNat,yz30,and_true,true_and,beq_self_eq_true,jz30,zz31,not_true_eq_false,not_false_eq_true,M8,J7,J0,A6,L9,K6,A4,B9,D7,G9,O3,O4,K0,F2,F5,I5,I6,F7,F4,F3,F6,K1,K4,O5,O6,K3,K2,K5,F8,F9,E8,E2,J9,G1,C7,E9,L0,C4,I1,K8,K7,E7,P3,C8,B3,A0,L7,H8,E5,L6,H7,yz19,zz27,yz31,jz25,jz31,zz32,jz26,zz21,jz27,zz26,and_self,Nat.reduceLeDiff,jz18,exists_eq_left',yz24,jz21,Nat.reduceBEq,yz22,yz32,G8,A3,N0,Int.reduceLT,Int.reduceLE,Int.reduceEq,V7,jz15,g1,jz17,bsl_by,zz18, *]) | with_reducible (first | refine C2 (fun h => ?_) fun h => ?_ | refine F1 (fun h => ?_) fun h => ?_ | refine C1 (fun h => ?_) fun h => ?_ | refine F0 (fun h => ?_) fun h => ?_ | refine A2 (fun h => ?_) fun h => ?_ | refine A7 (fun h => ?_) fun h => ?_) | (refine D5 ?_ ?_ ?_; (focus decide +kernel); (focus decide +kernel)))
  refine appW (es := bys l) (new := bys [c]) h3'.more (elems_row Y0 rfl rfl) (by omega) (by rw [U3,U3]; simp only [zz20,yz25]; omega) bys_one ?_
  intro v' H2 k1 k2 k3 k4 k5
  rw [bys_append] at k1
  have g4 : H2.row b = some (Row.mk 2 [[.ptr b 0 0,v]] 34 0 true) := k2 _ _ (by rw [Y4 (row_lt g1)]; exact g1) fun off n e => hne e rfl
  have hlt := row_lt g4
  obtain ⟨c1,c2⟩ := cells_lst k1
  have fr : ∀ id r,H.row id = some r → id ≠ b → (∀ off n,v ≠ .osl id off n) → H2.row id = some r := fun id r h hn hv => k2 id r (by rw [Y4 (row_lt (g2 id r h hn))]; exact g2 id r h hn) hv
  have nx : Next H v v' := by
    rcases k3 with e | ⟨id,off,n,e,e2⟩
    · exact .inl e
    · exact .inr ⟨id,off,n,e,by rw [yz20] at e2; omega⟩
  have hlen : H.length ≤ H2.length := by rw [yz20] at k4; omega
  have hnew : v' ≠ .nil ∨ l ++ [c] = [] := by
    by_cases he : l ++ [c] = []
    · exact .inr he
    · refine .inl fun e => he ?_
      rcases k1 with ⟨_,e2⟩ | ⟨j,e2,_⟩
      · simpa [bys] using e2
      · rw [e2] at e; cases e
  have hnil : l ++ [c] = [] → v' = .nil := by
    intro he
    have hl := List.append_eq_nil_iff.mp he
    simp at hl
  have hne' : ∀ {id off n : Nat},v' = .osl id off n → id ≠ b := by
    rintro id off n rfl rfl
    rcases k1 with ⟨e,_⟩ | ⟨j,e,hj⟩
    · cases e
    · injection e with e1 e2 e3; subst e1; rw [g4] at hj; cases hj
  clear g1 h1 h2 k2 k5 hnew
  repeat' (first | (simp (maxSteps := 10000000) -implicitDefEqProofs (disch := first | exact tStr | decide | omega | assumption | (simp only [zz20,yz25,yz20]; omega)) only [D3,G6,G4,A9,C9,G3,B4,A1,C6,B2,D4,G5,D6,C5,B1,G7,B7,B8,C0,D8,D9,A5,J8,H9,E0,E1,M2,M3,M5,M4,I3,I4,P2,E4,E6,I0,B5,M1,N8,M9,N2,N3,N4,N5,N6,N7,N1,J2,J3,J4,J5,J6,J1,I8,I7,I9,M0,K9,E3,L1,C3,O1,O2,G2,O9,N9,O0,B0,L8,D2,I2,zz28,yz28,jz28,zz29,yz23,zz23,jz22,yz27,jz19,yz29,zz20,yz25,Nat.reduceAdd,Nat.reduceSub,Nat.reduceLT,Nat.reduceEqDiff,zz22,jz23,if_true,if_false,yz21,decide_true,decide_false,zz25,jz24,reduceIte,List.getElem?_cons_succ,List.getElem?_cons_zero,UInt8.reduceOfNat,fin1,fin2,L2,O7,L3,O8,H3,H6,H4,L4,H5,L5,B6,A8,zz24,M7,H0,M6,G0,Option.some.injEq,DV.tup.injEq,jz29,zz30,Int.reduceToNat,yz30,and_true,true_and,beq_self_eq_true,jz30,zz31,not_true_eq_false,not_false_eq_true,M8,J7,J0,A6,L9,K6,A4,B9,D7,G9,O3,O4,K0,F2,F5,I5,I6,F7,F4,F3,F6,K1,K4,O5,O6,K3,K2,K5,F8,F9,E8,E2,J9,G1,C7,E9,L0,C4,I1,K8,K7,E7,P3,C8,B3,A0,L7,H8,E5,L6,H7,yz19,zz27,yz31,jz25,jz31,zz32,jz26,zz21,jz27,zz26,and_self,Nat.reduceLeDiff,jz18,exists_eq_left',yz24,jz21,Nat.reduceBEq,yz22,yz32,G8,A3,N0,Int.reduceLT,Int.reduceLE,Int.reduceEq,g4,c1,c2,V7,jz15,ret1,dev_nili, *]) | with_reducible (first | refine C2 (fun h => ?_) fun h => ?_ | refine F1 (fun h => ?_) fun h => ?_ | refine C1 (fun h => ?_) fun h => ?_ | refine F0 (fun h => ?_) fun h => ?_ | refine A2 (fun h => ?_) fun h => ?_ | refine A7 (fun h => ?_) fun h => ?_) | (refine D5 ?_ ?_ ?_; (focus decide +kernel); (focus decide +kernel)))
  exact hK v' _ ⟨_,Z8 hlt, .inr rfl,k1.frame (fun id r e hr => by rw [zz8 (hne' e)]; exact hr),hnil⟩ (fun id r h hn hv => by rw [zz8 hn]; exact fr id r h hn hv) nx (by simp; omega)
theorem w12 (hb : Bld H b v l) (hK : K (intD l.length) H) : R4 Tryd.prog cfgV 12 [.ptr b 0 0] H K := by
  refine callH rfl rfl code12 ?_
  dsimp only [sf12]
  obtain ⟨a,h1,h2,h3,h4⟩ := hb
  repeat' (first | (simp (maxSteps := 10000000) -implicitDefEqProofs (disch := first | exact tStr | decide | omega | assumption | (simp only [zz20,yz25,yz20]; omega)) only [D3,G6,G4,A9,C9,G3,B4,A1,C6,B2,D4,G5,D6,C5,B1,G7,B7,B8,C0,D8,D9,A5,J8,H9,E0,E1,M2,M3,M5,M4,I3,I4,P2,E4,E6,I0,B5,M1,N8,M9,N2,N3,N4,N5,N6,N7,N1,J2,J3,J4,J5,J6,J1,I8,I7,I9,M0,K9,E3,L1,C3,O1,O2,G2,O9,N9,O0,B0,L8,D2,I2,zz28,yz28,jz28,zz29,yz23,zz23,jz22,yz27,jz19,yz29,zz20,yz25,Nat.reduceAdd,Nat.reduceSub,Nat.reduceLT,Nat.reduceEqDiff,zz22,jz23,if_true,if_false,yz21,decide_true,decide_false,zz25,jz24,reduceIte,List.getElem?_cons_succ,List.getElem?_cons_zero,UInt8.reduceOfNat,fin1,fin2,L2,O7,L3,O8,H3,H6,H4,L4,H5,L5,B6,A8,zz24,M7,H0,M6,G0,Option.some.injEq,DV.tup.injEq,jz29,zz30,Int.reduceToNat,yz30,and_true,true_and,beq_self_eq_true,jz30,zz31,not_true_eq_false,not_false_eq_true,M8,J7,J0,A6,L9,K6,A4,B9,D7,G9,O3,O4,K0,F2,F5,I5,I6,F7,F4,F3,F6,K1,K4,O5,O6,K3,K2,K5,F8,F9,E8,E2,J9,G1,C7,E9,L0,C4,I1,K8,K7,E7,P3,C8,B3,A0,L7,H8,E5,L6,H7,yz19,zz27,yz31,jz25,jz31,zz32,jz26,zz21,jz27,zz26,and_self,Nat.reduceLeDiff,jz18,exists_eq_left',yz24,jz21,Nat.reduceBEq,yz22,yz32,G8,A3,N0,Int.reduceLT,Int.reduceLE,Int.reduceEq,V7,jz15,P5,llen_lst h3,ret1,U3, *]) | with_reducible (first | refine C2 (fun h => ?_) fun h => ?_ | refine F1 (fun h => ?_) fun h => ?_ | refine C1 (fun h => ?_) fun h => ?_ | refine F0 (fun h => ?_) fun h => ?_ | refine A2 (fun h => ?_) fun h => ?_ | refine A7 (fun h => ?_) fun h => ?_) | (refine D5 ?_ ?_ ?_; (focus decide +kernel); (focus decide +kernel)))
def sdD (H : Heap) : DV → DR
  | .nil => .val (.sc (.pointer none)) H
  | .osl id off len => match H.row id with
      | some r => if 1 ≤ len ∧ off + len ≤ r.es.length then .val (.ptr id off 0) H else .fail
      | none => .fail
  | _ => .fail
theorem dop_sliceData {P : Program} {G : Nat → Option (List DV)} {x : Operand} {sl : List DV} : dop P G (.sliceData x) sl H = sdD H (dev G sl x) := by
  simp only [dop]; unfold sdD; cases dev G sl x <;> rfl
theorem sd_nil : sdD H .nil = .val (.sc (.pointer none)) H := Eq.trans rfl rfl
theorem sd_osl {j n k f : Nat} {es : List (List DV)} {ty : TypeId} {sf : Bool} (h : H.row j = some (Row.mk k es ty f sf)) (h1 : 1 ≤ n) (h2 : n ≤ es.length) : sdD H (.osl j 0 n) = .val (.ptr j 0 0) H := by
  simp only [sdD,h]; rw [if_pos ⟨h1,by omega⟩]
def byOf : List DV → Option UInt8 := fun e => match e with | [DV.sc (.int .u8 n)] => some (UInt8.ofNat n.toNat) | _ => none
theorem byOf_bys : Q8 byOf (bys l) = some l := bys_back l
theorem sd_bys {j f : Nat} {ty : TypeId} {sf : Bool} (h : H.row j = some (Row.mk 1 (bys l) ty f sf)) (h1 : 1 ≤ l.length) : sdD H (.osl j 0 l.length) = .val (.ptr j 0 0) H := sd_osl h h1 (by rw [U3]; omega)
def ustD (H : Heap) (ty : TypeId) (p n : DV) : DR := match dint n with
    | some m => match p with
      | .sc (.pointer none) => if m = 0 then .val (.sc (.string ⟨#[]⟩)) H else .fail
      | .ptr id i 0 => match H.row id with
        | some r => if 1 ≤ m ∧ m < 2 ^ 62 ∧ i + m.toNat ≤ r.es.length ∧ r.ty = ty ∧ r.k = 1 ∧ r.soft = true then
            (match Q8 byOf ((r.es.drop i).take m.toNat) with
            | some l => .val (.sc (.string ⟨l.toArray⟩)) (H.set id (some { r with frz := max r.frz (i + m.toNat) }))
            | none => .fail) else .fail
        | none => .fail
      | _ => .fail
    | none => .fail
theorem dop_ustring {P : Program} {G : Nat → Option (List DV)} {ty : TypeId} {p n : Operand} {sl : List DV} : dop P G (.ustring ty p n) sl H = ustD H ty (dev G sl p) (dev G sl n) := Eq.trans rfl rfl
theorem ust_nil {ty : TypeId} : ustD H ty (.sc (.pointer none)) (intD 0) = .val (strD []) H := Eq.trans rfl rfl
theorem ust_row {j f : Nat} {ty : TypeId} (h : H.row j = some (Row.mk 1 (bys l) ty f true)) (h1 : 1 ≤ l.length) (h2 : l.length < 2 ^ 62) :
    ustD H ty (.ptr j 0 0) (intD l.length) = .val (strD l) (H.set j (some (Row.mk 1 (bys l) ty (max f l.length) true))) := by
  have e1 : (((bys l).drop 0).take ((l.length : Int).toNat)) = bys l := by
    rw [jz25,yz26,List.take_of_length_le (by rw [U3]; omega)]
  have e2 : (0 + (l.length : Int).toNat) = l.length := by omega
  simp only [ustD,intD,dint,h,U3,e1,e2,byOf_bys]
  rw [if_pos ⟨by omega,by omega,jz18 _,True.intro,True.intro,True.intro⟩]
  rfl
theorem w13 (hb : Bld H b v l) (h5 : l.length < 2 ^ 62) (hK : ∀ H',(∀ id r,H.row id = some r → (∀ off n,v ≠ .osl id off n) → H'.row id = some r) → H.length ≤ H'.length → K (strD l) H') : R4 Tryd.prog cfgV 13 [.ptr b 0 0] H K := by
  refine callH rfl rfl code13 ?_
  dsimp only [sf13]
  have hne := fun {id off n : Nat} (h : v = .osl id off n) => hb.ne h
  obtain ⟨a,h1,h2,h3,h4⟩ := hb
  clear h2
  repeat' (first | (simp (maxSteps := 10000000) -implicitDefEqProofs (disch := first | exact tStr | decide | omega | assumption | (simp only [zz20,yz25,yz20]; omega)) only [D3,G6,G4,A9,C9,G3,B4,A1,C6,B2,D4,G5,D6,C5,B1,G7,B7,B8,C0,D8,D9,A5,J8,H9,E0,E1,M2,M3,M5,M4,I3,I4,P2,E4,E6,I0,B5,M1,N8,M9,N2,N3,N4,N5,N6,N7,N1,J2,J3,J4,J5,J6,J1,I8,I7,I9,M0,K9,E3,L1,C3,O1,O2,G2,O9,N9,O0,B0,L8,D2,I2,zz28,yz28,jz28,zz29,yz23,zz23,jz22,yz27,jz19,yz29,zz20,yz25,Nat.reduceAdd,Nat.reduceSub,Nat.reduceLT,Nat.reduceEqDiff,zz22,jz23,if_true,if_false,yz21,decide_true,decide_false,zz25,jz24,reduceIte,List.getElem?_cons_succ,List.getElem?_cons_zero,UInt8.reduceOfNat,fin1,fin2,L2,O7,L3,O8,H3,H6,H4,L4,H5,L5,B6,A8,zz24,M7,H0,M6,G0,Option.some.injEq,DV.tup.injEq,jz29,zz30,Int.reduceToNat,yz30,and_true,true_and,beq_self_eq_true,jz30,zz31,not_true_eq_false,not_false_eq_true,M8,J7,J0,A6,L9,K6,A4,B9,D7,G9,O3,O4,K0,F2,F5,I5,I6,F7,F4,F3,F6,K1,K4,O5,O6,K3,K2,K5,F8,F9,E8,E2,J9,G1,C7,E9,L0,C4,I1,K8,K7,E7,P3,C8,B3,A0,L7,H8,E5,L6,H7,yz19,zz27,yz31,jz25,jz31,zz32,jz26,zz21,jz27,zz26,and_self,Nat.reduceLeDiff,jz18,exists_eq_left',yz24,jz21,Nat.reduceBEq,yz22,yz32,G8,A3,N0,Int.reduceLT,Int.reduceLE,Int.reduceEq,V7,jz15,P5,llen_lst h3,ret1,U3, *]) | with_reducible (first | refine C2 (fun h => ?_) fun h => ?_ | refine F1 (fun h => ?_) fun h => ?_ | refine C1 (fun h => ?_) fun h => ?_ | refine F0 (fun h => ?_) fun h => ?_ | refine A2 (fun h => ?_) fun h => ?_ | refine A7 (fun h => ?_) fun h => ?_) | (refine D5 ?_ ?_ ?_; (focus decide +kernel); (focus decide +kernel)))
  refine S7 (List.replicate 12 none) rfl (by decide +kernel) (by decide +kernel) ?_
  simp only [yz23,zz23,jz19,yz29,List.zip_cons_cons,List.zip_nil_left]
  rcases h3 with ⟨rfl,e⟩ | ⟨j,rfl,hj⟩
  · obtain rfl : l = [] := by simpa [bys] using e
    repeat' (first | (simp (maxSteps := 10000000) -implicitDefEqProofs (disch := first | exact tStr | decide | omega | assumption | (simp only [zz20,yz25,yz20]; omega)) only [D3,G6,G4,A9,C9,G3,B4,A1,C6,B2,D4,G5,D6,C5,B1,G7,B7,B8,C0,D8,D9,A5,J8,H9,E0,E1,M2,M3,M5,M4,I3,I4,P2,E4,E6,I0,B5,M1,N8,M9,N2,N3,N4,N5,N6,N7,N1,J2,J3,J4,J5,J6,J1,I8,I7,I9,M0,K9,E3,L1,C3,O1,O2,G2,O9,N9,O0,B0,L8,D2,I2,zz28,yz28,jz28,zz29,yz23,zz23,jz22,yz27,jz19,yz29,zz20,yz25,Nat.reduceAdd,Nat.reduceSub,Nat.reduceLT,Nat.reduceEqDiff,zz22,jz23,if_true,if_false,yz21,decide_true,decide_false,zz25,jz24,reduceIte,List.getElem?_cons_succ,List.getElem?_cons_zero,UInt8.reduceOfNat,fin1,fin2,L2,O7,L3,O8,H3,H6,H4,L4,H5,L5,B6,A8,zz24,M7,H0,M6,G0,Option.some.injEq,DV.tup.injEq,jz29,zz30,Int.reduceToNat,yz30,and_true,true_and,beq_self_eq_true,jz30,zz31,not_true_eq_false,not_false_eq_true,M8,J7,J0,A6,L9,K6,A4,B9,D7,G9,O3,O4,K0,F2,F5,I5,I6,F7,F4,F3,F6,K1,K4,O5,O6,K3,K2,K5,F8,F9,E8,E2,J9,G1,C7,E9,L0,C4,I1,K8,K7,E7,P3,C8,B3,A0,L7,H8,E5,L6,H7,yz19,zz27,yz31,jz25,jz31,zz32,jz26,zz21,jz27,zz26,and_self,Nat.reduceLeDiff,jz18,exists_eq_left',yz24,jz21,Nat.reduceBEq,yz22,yz32,G8,A3,N0,Int.reduceLT,Int.reduceLE,Int.reduceEq,R3,W8,T3,S4,R5,SOp.turns,V7,jz15,P5,llen_nil,ret1,U3,dop_sliceData,sd_nil,dop_ustring,ust_nil, *]) | with_reducible (first | refine C2 (fun h => ?_) fun h => ?_ | refine F1 (fun h => ?_) fun h => ?_ | refine C1 (fun h => ?_) fun h => ?_ | refine F0 (fun h => ?_) fun h => ?_ | refine A2 (fun h => ?_) fun h => ?_ | refine A7 (fun h => ?_) fun h => ?_) | (refine D5 ?_ ?_ ?_; (focus decide +kernel); (focus decide +kernel)))
    exact hK _ (fun id r h _ => h) (jz18 _)
  · have hl : 1 ≤ l.length := by
      cases l with
      | nil => exact absurd (h4 rfl) (by simp)
      | cons x r => simp
    clear h4
    rw [U3] at *
    repeat' (first | (simp (maxSteps := 10000000) -implicitDefEqProofs (disch := first | exact tStr | decide | omega | assumption | (simp only [zz20,yz25,yz20]; omega)) only [D3,G6,G4,A9,C9,G3,B4,A1,C6,B2,D4,G5,D6,C5,B1,G7,B7,B8,C0,D8,D9,A5,J8,H9,E0,E1,M2,M3,M5,M4,I3,I4,P2,E4,E6,I0,B5,M1,N8,M9,N2,N3,N4,N5,N6,N7,N1,J2,J3,J4,J5,J6,J1,I8,I7,I9,M0,K9,E3,L1,C3,O1,O2,G2,O9,N9,O0,B0,L8,D2,I2,zz28,yz28,jz28,zz29,yz23,zz23,jz22,yz27,jz19,yz29,zz20,yz25,Nat.reduceAdd,Nat.reduceSub,Nat.reduceLT,Nat.reduceEqDiff,zz22,jz23,if_true,if_false,yz21,decide_true,decide_false,zz25,jz24,reduceIte,List.getElem?_cons_succ,List.getElem?_cons_zero,UInt8.reduceOfNat,fin1,fin2,L2,O7,L3,O8,H3,H6,H4,L4,H5,L5,B6,A8,zz24,M7,H0,M6,G0,Option.some.injEq,DV.tup.injEq,jz29,zz30,Int.reduceToNat,yz30,and_true,true_and,beq_self_eq_true,jz30,zz31,not_true_eq_false,not_false_eq_true,M8,J7,J0,A6,L9,K6,A4,B9,D7,G9,O3,O4,K0,F2,F5,I5,I6,F7,F4,F3,F6,K1,K4,O5,O6,K3,K2,K5,F8,F9,E8,E2,J9,G1,C7,E9,L0,C4,I1,K8,K7,E7,P3,C8,B3,A0,L7,H8,E5,L6,H7,yz19,zz27,yz31,jz25,jz31,zz32,jz26,zz21,jz27,zz26,and_self,Nat.reduceLeDiff,jz18,exists_eq_left',yz24,jz21,Nat.reduceBEq,yz22,yz32,G8,A3,N0,Int.reduceLT,Int.reduceLE,Int.reduceEq,R3,W8,T3,S4,R5,SOp.turns,V7,jz15,P5,Y1,ret1,U3,dop_sliceData,sd_bys hj hl,dop_ustring,ust_row hj hl h5, *]) | with_reducible (first | refine C2 (fun h => ?_) fun h => ?_ | refine F1 (fun h => ?_) fun h => ?_ | refine C1 (fun h => ?_) fun h => ?_ | refine F0 (fun h => ?_) fun h => ?_ | refine A2 (fun h => ?_) fun h => ?_ | refine A7 (fun h => ?_) fun h => ?_) | (refine D5 ?_ ?_ ?_; (focus decide +kernel); (focus decide +kernel)))
    refine hK _ (fun id r h hn => ?_) ?_
    · rw [zz8 (fun e => hn 0 l.length (by rw [e]))]; exact h
    · rw [List.length_set]; exact jz18 _
end Go.Dx
end
