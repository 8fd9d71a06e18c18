/- A part of the proof of VarFills: what functions of the program answer. -/
import Derived.Test.YtcclgnddbgaigaaDoorT16
open Nat renaming le_refl → jz18, add_zero → jz21, zero_add → yz24, le_zero_eq → yz32
open Bool renaming and_eq_true → zz19, false_eq_true → yz21, not_false → jz24, not_true → zz25, and_self → zz26, true_beq → jz30, false_beq → zz31
open List renaming take_succ_cons → yz19, replicate_succ → jz19, length_cons → zz20, length_append → yz20, all_cons → zz21, singleton_append → yz22, cons_append → jz22, map_nil → zz23, map_cons → yz23, length_nil → yz25, drop_zero → jz25, append_nil → jz26, take_zero → zz27, nil_append → yz27, all_nil → jz27, set_cons_succ → zz28, set_cons_zero → yz28, getD_cons_succ → jz28, getD_cons_zero → zz29, replicate_zero → yz29, drop_succ_cons → yz31, drop_nil → jz31, take_nil → zz32, length_drop → jz32
open Option renaming map_some → zz22, map_none → jz23, bind_some → zz24
open Int renaming toNat_natCast → yz26, toNat_zero → jz29, toNat_one → zz30, cast_ofNat_Int → yz30
set_option linter.all false
section
namespace Go.Dx
open Go Go.Proofs
set_option maxRecDepth 8000
attribute [local congr] Q7 Q6 R2 P8 Q2 Q5 Q3 zz1 zz14
variable {b c : UInt8} {l s p : List UInt8} {H : Heap} {K : DV → Heap → Prop} {i n : Int}
def f3 (n : Int) (frac : List UInt8) : Nat → Int
  | 0 => n
  | i + 1 => cap (10 * f3 n frac i + digV (frac.getD i 48))
theorem f3_le {n : Int} {frac : List UInt8} (h0 : 0 ≤ n) (h1 : n ≤ 1000000000) : ∀ i,0 ≤ f3 n frac i ∧ f3 n frac i ≤ 1000000000
  | 0 => ⟨h0,h1⟩
  | i + 1 => by
    have := f3_le (frac := frac) h0 h1 i
    exact cap_le (by have := digV_nn (b := frac.getD i 48); omega)
def sh40b (l : List UInt8) (e : Int) (frac : List UInt8) (m : Int) (L : Heap) (i : Int) (x : Nat → DV) : DS :=
  ⟨[strD l,x 1,x 2,x 3,x 4,x 5,x 6,x 7,DV.ptr 0 0 0,DV.fn 70 [DV.ptr 0 0 0],x 10,x 11,intD e,strD frac,x 14,x 15,x 16,x 17,x 18,x 19,x 20,x 21,x 22,x 23,x 24,x 25,x 26,x 27,x 28,x 29,x 30,x 31,x 32,x 33,x 34,x 35,x 36,x 37,x 38,x 39,x 40,x 41,x 42,x 43,x 44,x 45,x 46,x 47,x 48,x 49,x 50,x 51,x 52,x 53,x 54,x 55,x 56,x 57,x 58,x 59,x 60,x 61,x 62,x 63,x 64,x 65,x 66,x 67,x 68,x 69,x 70,x 71,x 72,x 73,x 74,x 75,x 76,x 77,x 78,intD i,x 80,x 81,x 82,x 83,x 84,x 85,x 86,x 87,x 88,x 89,x 90,x 91,x 92,x 93,x 94,x 95,x 96,x 97,x 98,x 99,x 100],some (Row.mk 1 [[intD (f3 m frac i.toNat)]] 3 0 true) :: L⟩
def inv40b (l : List UInt8) (e : Int) (frac : List UInt8) (m : Int) (L : Heap) (n : Nat) (s : DS) : Prop := ∃ i : Int,s = sh40b l e frac m L i (fun k => s.sl.getD k P9) ∧ 0 ≤ i ∧ i ≤ 3 ∧ Hid (n = (3 - i).toNat)
def post40b (l : List UInt8) (e : Int) (frac : List UInt8) (m : Int) (L : Heap) (ex : Ex) (s : DS) : Prop := ex = .exit 2 ∧ s = sh40b l e frac m L 3 (fun k => s.sl.getD k P9)
theorem l40_1 {l : List UInt8} {e : Int} {frac : List UInt8} {m : Int} {L : Heap} (h0 : 0 ≤ m) (h1 : m ≤ 1000000000) {n : Nat} {s : DS} (hI : inv40b l e frac m L n s) : runW Tryd.prog cfgV (.loop lp40_1) s (post40b l e frac m L) := by
  refine V3 (inv40b l e frac m L) ?_ hI
  rintro n s ⟨i,hs,e1,e2,e6⟩
  obtain ⟨x,rfl⟩ : ∃ x,s = sh40b l e frac m L i x := ⟨_,hs⟩
  clear hs
  dsimp only [lp40_1,sh40b]
  by_cases hi : i < 3
  · have ha := f3_le (frac := frac) h0 h1 i.toNat
    have he : f3 m frac (i + 1).toNat = cap (10 * f3 m frac i.toNat + digV (frac.getD i.toNat 48)) := by
      rw [show (i + 1).toNat = i.toNat + 1 by omega]; rfl
    generalize f3 m frac i.toNat = F at ha he ⊢
    by_cases hf : i < frac.length
    · have hg : frac.getD i.toNat 0 = frac.getD i.toNat 48 := by
        rw [List.getD_eq_getElem?_getD,List.getD_eq_getElem?_getD,List.getElem?_eq_getElem (by omega)]; rfl
      rw [← hg] at he
      clear hg
      repeat' (first | (simp (maxSteps := 10000000) -implicitDefEqProofs (disch := first | exact tStr | decide | omega | assumption | (simp only [zz20,yz25,yz20]; omega)) only [D3,G6,G4,A9,C9,G3,B4,A1,C6,B2,D4,G5,D6,C5,B1,G7,B7,B8,C0,D8,D9,A5,J8,H9,E0,E1,M2,M3,M5,M4,I3,I4,P2,E4,E6,I0,B5,M1,N8,M9,N2,N3,N4,N5,N6,N7,N1,J2,J3,J4,J5,J6,J1,I8,I7,I9,M0,K9,E3,L1,C3,O1,O2,G2,O9,N9,O0,B0,L8,D2,I2,zz28,yz28,jz28,zz29,yz23,zz23,jz22,yz27,jz19,yz29,zz20,yz25,Nat.reduceAdd,Nat.reduceSub,Nat.reduceLT,Nat.reduceEqDiff,zz22,jz23,if_true,if_false,yz21,decide_true,decide_false,zz25,jz24,reduceIte,List.getElem?_cons_succ,List.getElem?_cons_zero,UInt8.reduceOfNat,fin1,fin2,L2,O7,L3,O8,H3,H6,H4,L4,H5,L5,B6,A8,zz24,M7,H0,M6,G0,Option.some.injEq,DV.tup.injEq,jz29,zz30,Int.reduceToNat,yz30,and_true,true_and,beq_self_eq_true,jz30,zz31,not_true_eq_false,not_false_eq_true,M8,J7,J0,A6,L9,K6,A4,B9,D7,G9,O3,O4,K0,F2,F5,I5,I6,F7,F4,F3,F6,K1,K4,O5,O6,K3,K2,K5,F8,F9,E8,E2,J9,G1,C7,E9,L0,C4,I1,K8,K7,E7,P3,C8,B3,A0,L7,H8,E5,L6,H7,yz19,zz27,yz31,jz25,jz31,zz32,jz26,zz21,jz27,zz26,and_self,Nat.reduceLeDiff,jz18,exists_eq_left',yz24,jz21,Nat.reduceBEq,yz22,yz32,G8,A3,N0,Int.reduceLT,Int.reduceLE,Int.reduceEq,zz10,cv_fn,c70, *]) | with_reducible (first | refine C2 (fun h => ?_) fun h => ?_ | refine F1 (fun h => ?_) fun h => ?_ | refine C1 (fun h => ?_) fun h => ?_ | refine F0 (fun h => ?_) fun h => ?_ | refine A2 (fun h => ?_) fun h => ?_ | refine A7 (fun h => ?_) fun h => ?_) | (refine D5 ?_ ?_ ?_; (focus decide +kernel); (focus decide +kernel)))
      refine ⟨(3 - (i + 1) : Int).toNat,by unfold Hid at e6; omega,i + 1,?_,by omega,by omega,rfl⟩
      unfold sh40b
      rw [he]
      rfl
    · have hg : (48 : UInt8) = frac.getD i.toNat 48 := by
        rw [List.getD_eq_getElem?_getD,List.getElem?_eq_none (by omega)]; rfl
      rw [← hg] at he
      clear hg
      repeat' (first | (simp (maxSteps := 10000000) -implicitDefEqProofs (disch := first | exact tStr | decide | omega | assumption | (simp only [zz20,yz25,yz20]; omega)) only [D3,G6,G4,A9,C9,G3,B4,A1,C6,B2,D4,G5,D6,C5,B1,G7,B7,B8,C0,D8,D9,A5,J8,H9,E0,E1,M2,M3,M5,M4,I3,I4,P2,E4,E6,I0,B5,M1,N8,M9,N2,N3,N4,N5,N6,N7,N1,J2,J3,J4,J5,J6,J1,I8,I7,I9,M0,K9,E3,L1,C3,O1,O2,G2,O9,N9,O0,B0,L8,D2,I2,zz28,yz28,jz28,zz29,yz23,zz23,jz22,yz27,jz19,yz29,zz20,yz25,Nat.reduceAdd,Nat.reduceSub,Nat.reduceLT,Nat.reduceEqDiff,zz22,jz23,if_true,if_false,yz21,decide_true,decide_false,zz25,jz24,reduceIte,List.getElem?_cons_succ,List.getElem?_cons_zero,UInt8.reduceOfNat,fin1,fin2,L2,O7,L3,O8,H3,H6,H4,L4,H5,L5,B6,A8,zz24,M7,H0,M6,G0,Option.some.injEq,DV.tup.injEq,jz29,zz30,Int.reduceToNat,yz30,and_true,true_and,beq_self_eq_true,jz30,zz31,not_true_eq_false,not_false_eq_true,M8,J7,J0,A6,L9,K6,A4,B9,D7,G9,O3,O4,K0,F2,F5,I5,I6,F7,F4,F3,F6,K1,K4,O5,O6,K3,K2,K5,F8,F9,E8,E2,J9,G1,C7,E9,L0,C4,I1,K8,K7,E7,P3,C8,B3,A0,L7,H8,E5,L6,H7,yz19,zz27,yz31,jz25,jz31,zz32,jz26,zz21,jz27,zz26,and_self,Nat.reduceLeDiff,jz18,exists_eq_left',yz24,jz21,Nat.reduceBEq,yz22,yz32,G8,A3,N0,Int.reduceLT,Int.reduceLE,Int.reduceEq,zz10,cv_fn,c70, *]) | with_reducible (first | refine C2 (fun h => ?_) fun h => ?_ | refine F1 (fun h => ?_) fun h => ?_ | refine C1 (fun h => ?_) fun h => ?_ | refine F0 (fun h => ?_) fun h => ?_ | refine A2 (fun h => ?_) fun h => ?_ | refine A7 (fun h => ?_) fun h => ?_) | (refine D5 ?_ ?_ ?_; (focus decide +kernel); (focus decide +kernel)))
      refine ⟨(3 - (i + 1) : Int).toNat,by unfold Hid at e6; omega,i + 1,?_,by omega,by omega,rfl⟩
      unfold sh40b
      rw [he]
      rfl
  · repeat' (first | (simp (maxSteps := 10000000) -implicitDefEqProofs (disch := first | exact tStr | decide | omega | assumption | (simp only [zz20,yz25,yz20]; omega)) only [D3,G6,G4,A9,C9,G3,B4,A1,C6,B2,D4,G5,D6,C5,B1,G7,B7,B8,C0,D8,D9,A5,J8,H9,E0,E1,M2,M3,M5,M4,I3,I4,P2,E4,E6,I0,B5,M1,N8,M9,N2,N3,N4,N5,N6,N7,N1,J2,J3,J4,J5,J6,J1,I8,I7,I9,M0,K9,E3,L1,C3,O1,O2,G2,O9,N9,O0,B0,L8,D2,I2,zz28,yz28,jz28,zz29,yz23,zz23,jz22,yz27,jz19,yz29,zz20,yz25,Nat.reduceAdd,Nat.reduceSub,Nat.reduceLT,Nat.reduceEqDiff,zz22,jz23,if_true,if_false,yz21,decide_true,decide_false,zz25,jz24,reduceIte,List.getElem?_cons_succ,List.getElem?_cons_zero,UInt8.reduceOfNat,fin1,fin2,L2,O7,L3,O8,H3,H6,H4,L4,H5,L5,B6,A8,zz24,M7,H0,M6,G0,Option.some.injEq,DV.tup.injEq,jz29,zz30,Int.reduceToNat,yz30,and_true,true_and,beq_self_eq_true,jz30,zz31,not_true_eq_false,not_false_eq_true,M8,J7,J0,A6,L9,K6,A4,B9,D7,G9,O3,O4,K0,F2,F5,I5,I6,F7,F4,F3,F6,K1,K4,O5,O6,K3,K2,K5,F8,F9,E8,E2,J9,G1,C7,E9,L0,C4,I1,K8,K7,E7,P3,C8,B3,A0,L7,H8,E5,L6,H7,yz19,zz27,yz31,jz25,jz31,zz32,jz26,zz21,jz27,zz26,and_self,Nat.reduceLeDiff,jz18,exists_eq_left',yz24,jz21,Nat.reduceBEq,yz22,yz32,G8,A3,N0,Int.reduceLT,Int.reduceLE,Int.reduceEq,P5,Y1, *]) | with_reducible (first | refine C2 (fun h => ?_) fun h => ?_ | refine F1 (fun h => ?_) fun h => ?_ | refine C1 (fun h => ?_) fun h => ?_ | refine F0 (fun h => ?_) fun h => ?_ | refine A2 (fun h => ?_) fun h => ?_ | refine A7 (fun h => ?_) fun h => ?_) | (refine D5 ?_ ?_ ?_; (focus decide +kernel); (focus decide +kernel)))
    obtain rfl : i = 3 := by omega
    exact ⟨rfl,rfl⟩
def R1 (l : List UInt8) (p : Nat) : Nat := if (l.drop p).take 1 = [46] then U2 (l.drop (p + 1)) else 0
def Q0 (l : List UInt8) : Nat := (P6 l).toNat + U2 (l.drop (P6 l).toNat)
def Z2 (l : List UInt8) : List UInt8 := (l.drop (Q0 l + 1)).take (R1 l (Q0 l))
def endP (l : List UInt8) : Int := Q0 l + if 0 < R1 l (Q0 l) then 1 + R1 l (Q0 l) else 0
def valP (l : List UInt8) : Int := f3 (jz11 0 (U9 l)) (Z2 l) 3
def numP (l : List UInt8) : Int × Int :=
  if U2 (l.drop (P6 l).toNat) + R1 l (Q0 l) = 0 then (0,0) else (if l.getD 0 0 = 45 then -valP l else valP l,endP l)
def if40_3 : SCode :=
  SCode.seq (SCode.ops [⟨some 65,SOp.mv (Operand.tmp 6),none⟩,⟨some 66,SOp.bin BinOp.gtr 3 (Operand.tmp 65) (Operand.const (Value.int .i64 (Int.ofNat 0))),none⟩]) (SCode.cond (Operand.tmp 66) (SCode.seq (SCode.ops [⟨some 67,SOp.mv (Operand.tmp 0),none⟩,⟨some 68,SOp.mv (Operand.tmp 12),none⟩,⟨some 69,SOp.bin BinOp.add 3 (Operand.tmp 68) (Operand.const (Value.int .i64 (Int.ofNat 1))),none⟩,⟨some 70,SOp.mv (Operand.tmp 12),none⟩,⟨some 71,SOp.bin BinOp.add 3 (Operand.tmp 70) (Operand.const (Value.int .i64 (Int.ofNat 1))),none⟩,⟨some 72,SOp.mv (Operand.tmp 6),none⟩,⟨some 73,SOp.bin BinOp.add 3 (Operand.tmp 71) (Operand.tmp 72),none⟩,⟨some 74,SOp.sslice 9 (Operand.tmp 67) (some (Operand.tmp 69)) (some (Operand.tmp 73)),none⟩,⟨some 13,SOp.mv (Operand.tmp 74),none⟩]) (SCode.ops [⟨some 75,SOp.mv (Operand.tmp 12),none⟩,⟨some 76,SOp.mv (Operand.tmp 6),none⟩,⟨some 77,SOp.bin BinOp.add 3 (Operand.const (Value.int .i64 (Int.ofNat 1))) (Operand.tmp 76),none⟩,⟨some 78,SOp.bin BinOp.add 3 (Operand.tmp 75) (Operand.tmp 77),none⟩,⟨some 12,SOp.mv (Operand.tmp 78),none⟩])) SCode.skip)
def if40_1 : SCode :=
  SCode.seq (SCode.ops [⟨some 36,SOp.mv (Operand.tmp 7),none⟩,⟨some 37,SOp.call 42 [Operand.tmp 36,Operand.const (Value.string ⟨⟨[46]⟩⟩)],none⟩]) (SCode.cond (Operand.tmp 37) (SCode.ops [⟨some 38,SOp.mv (Operand.tmp 7),none⟩,⟨some 39,SOp.sslice 9 (Operand.tmp 38) (some (Operand.const (Value.int .i64 (Int.ofNat 1)))) none,none⟩,⟨some 40,SOp.call 69 [Operand.tmp 39],none⟩,⟨some 6,SOp.mv (Operand.tmp 40),none⟩]) SCode.skip)
def if40_0 : SCode :=
  SCode.seq (SCode.ops [⟨some 15,SOp.mv (Operand.tmp 0),none⟩,⟨some 16,SOp.bin BinOp.neq 9 (Operand.tmp 15) (Operand.const (Value.string ⟨⟨[]⟩⟩)),none⟩,⟨some 17,SOp.mv (Operand.tmp 16),none⟩,⟨some 18,SOp.mv (Operand.tmp 0),some (17,true)⟩,⟨some 19,SOp.index 9 (Operand.tmp 18) (Operand.const (Value.int .i64 (Int.ofNat 0))),some (17,true)⟩,⟨some 20,SOp.bin BinOp.eql 5 (Operand.tmp 19) (Operand.const (Value.int .u8 (Int.ofNat 43))),some (17,true)⟩,⟨some 21,SOp.mv (Operand.tmp 20),some (17,true)⟩,⟨some 22,SOp.mv (Operand.tmp 0),some (21,false)⟩,⟨some 23,SOp.index 9 (Operand.tmp 22) (Operand.const (Value.int .i64 (Int.ofNat 0))),some (21,false)⟩,⟨some 24,SOp.bin BinOp.eql 5 (Operand.tmp 23) (Operand.const (Value.int .u8 (Int.ofNat 45))),some (21,false)⟩,⟨some 25,SOp.pick (Operand.tmp 21) (Operand.const (Value.bool true)) (Operand.tmp 24),some (17,true)⟩,⟨some 26,SOp.pick (Operand.tmp 17) (Operand.tmp 25) (Operand.const (Value.bool false)),none⟩]) (SCode.cond (Operand.tmp 26) (SCode.ops [⟨some 4,SOp.mv (Operand.const (Value.int .i64 (Int.ofNat 1))),none⟩]) SCode.skip)
def sg40 : SFunc :=
  { ntmps := 101,res := [SRes.tmp 2,SRes.tmp 3],body := SCode.seq (SCode.ops [⟨some 2,SOp.mv (Operand.const (Value.int .i64 (Int.ofNat 0))),none⟩,⟨some 3,SOp.mv (Operand.const (Value.int .i64 (Int.ofNat 0))),none⟩]) (SCode.seq (SCode.ops [⟨some 4,SOp.mv (Operand.const (Value.int .i64 (Int.ofNat 0))),none⟩]) (SCode.seq if40_0 (SCode.seq (SCode.ops [⟨some 27,SOp.mv (Operand.tmp 0),none⟩,⟨some 28,SOp.mv (Operand.tmp 4),none⟩,⟨some 29,SOp.sslice 9 (Operand.tmp 27) (some (Operand.tmp 28)) none,none⟩,⟨some 30,SOp.call 69 [Operand.tmp 29],none⟩,⟨some 5,SOp.mv (Operand.tmp 30),none⟩]) (SCode.seq (SCode.ops [⟨some 6,SOp.mv (Operand.const (Value.int .i64 (Int.ofNat 0))),none⟩]) (SCode.seq (SCode.seq (SCode.ops [⟨some 31,SOp.mv (Operand.tmp 0),none⟩,⟨some 32,SOp.mv (Operand.tmp 4),none⟩,⟨some 33,SOp.mv (Operand.tmp 5),none⟩,⟨some 34,SOp.bin BinOp.add 3 (Operand.tmp 32) (Operand.tmp 33),none⟩,⟨some 35,SOp.sslice 9 (Operand.tmp 31) (some (Operand.tmp 34)) none,none⟩,⟨some 7,SOp.mv (Operand.tmp 35),none⟩]) if40_1) (SCode.seq (SCode.seq (SCode.ops [⟨some 41,SOp.mv (Operand.tmp 5),none⟩,⟨some 42,SOp.mv (Operand.tmp 6),none⟩,⟨some 43,SOp.bin BinOp.add 3 (Operand.tmp 41) (Operand.tmp 42),none⟩,⟨some 44,SOp.bin BinOp.eql 3 (Operand.tmp 43) (Operand.const (Value.int .i64 (Int.ofNat 0))),none⟩]) (SCode.cond (Operand.tmp 44) (SCode.seq (SCode.ops [⟨some 2,SOp.mv (Operand.const (Value.int .i64 (Int.ofNat 0))),none⟩,⟨some 3,SOp.mv (Operand.const (Value.int .i64 (Int.ofNat 0))),none⟩]) SCode.ret) SCode.skip)) (SCode.seq (SCode.ops [⟨some 8,SOp.alloc 3 [DV.sc (Value.int .i64 (Int.ofNat 0))],none⟩,⟨none,SOp.store 1 (Operand.tmp 8) (Operand.const (Value.int .i64 (Int.ofNat 0))),none⟩]) (SCode.seq (SCode.ops [⟨some 45,SOp.mkfn 70 [Operand.tmp 8],none⟩,⟨some 9,SOp.mv (Operand.tmp 45),none⟩]) (SCode.seq (SCode.seq (SCode.ops [⟨some 46,SOp.mv (Operand.tmp 0),none⟩,⟨some 47,SOp.mv (Operand.tmp 4),none⟩,⟨some 48,SOp.mv (Operand.tmp 4),none⟩,⟨some 49,SOp.mv (Operand.tmp 5),none⟩,⟨some 50,SOp.bin BinOp.add 3 (Operand.tmp 48) (Operand.tmp 49),none⟩,⟨some 51,SOp.sslice 9 (Operand.tmp 46) (some (Operand.tmp 47)) (some (Operand.tmp 50)),none⟩,⟨some 52,SOp.convSB 5 (Operand.tmp 51),none⟩,⟨some 53,SOp.len (Operand.tmp 52),none⟩,⟨some 54,SOp.mv (Operand.const (Value.int .i64 (Int.ofNat 0))),none⟩]) (SCode.block 0 (SCode.loop lp40_0))) (SCode.seq (SCode.ops [⟨some 62,SOp.mv (Operand.tmp 4),none⟩,⟨some 63,SOp.mv (Operand.tmp 5),none⟩,⟨some 64,SOp.bin BinOp.add 3 (Operand.tmp 62) (Operand.tmp 63),none⟩,⟨some 12,SOp.mv (Operand.tmp 64),none⟩]) (SCode.seq (SCode.ops [⟨some 13,SOp.mv (Operand.const (Value.string ⟨⟨[]⟩⟩)),none⟩]) (SCode.seq if40_3 (SCode.seq (SCode.seq (SCode.ops [⟨some 79,SOp.mv (Operand.const (Value.int .i64 (Int.ofNat 0))),none⟩]) (SCode.block 2 (SCode.loop lp40_1))) (SCode.seq (SCode.seq (SCode.ops [⟨some 94,SOp.mv (Operand.tmp 0),none⟩,⟨some 95,SOp.index 9 (Operand.tmp 94) (Operand.const (Value.int .i64 (Int.ofNat 0))),none⟩,⟨some 96,SOp.bin BinOp.eql 5 (Operand.tmp 95) (Operand.const (Value.int .u8 (Int.ofNat 45))),none⟩]) (SCode.cond (Operand.tmp 96) (SCode.ops [⟨some 97,SOp.load false 1 (Operand.tmp 8),none⟩,⟨some 98,SOp.un UnOp.neg (Operand.tmp 97),none⟩,⟨none,SOp.store 1 (Operand.tmp 8) (Operand.tmp 98),none⟩]) SCode.skip)) (SCode.seq (SCode.ops [⟨some 99,SOp.load false 1 (Operand.tmp 8),none⟩,⟨some 100,SOp.mv (Operand.tmp 12),none⟩,⟨some 2,SOp.mv (Operand.tmp 99),none⟩,⟨some 3,SOp.mv (Operand.tmp 100),none⟩]) SCode.ret))))))))))))))) }
theorem codg40 : cfgV.code 40 = some sg40 := code40
def sh40c (l : List UInt8) (f : Int) (H : Heap) (x : Nat → DV) : DS := ⟨[strD l,x 1,x 2,x 3,intD f,x 5,x 6,x 7,x 8,x 9,x 10,x 11,x 12,x 13,x 14,x 15,x 16,x 17,x 18,x 19,x 20,x 21,x 22,x 23,x 24,x 25,x 26,x 27,x 28,x 29,x 30,x 31,x 32,x 33,x 34,x 35,x 36,x 37,x 38,x 39,x 40,x 41,x 42,x 43,x 44,x 45,x 46,x 47,x 48,x 49,x 50,x 51,x 52,x 53,x 54,x 55,x 56,x 57,x 58,x 59,x 60,x 61,x 62,x 63,x 64,x 65,x 66,x 67,x 68,x 69,x 70,x 71,x 72,x 73,x 74,x 75,x 76,x 77,x 78,x 79,x 80,x 81,x 82,x 83,x 84,x 85,x 86,x 87,x 88,x 89,x 90,x 91,x 92,x 93,x 94,x 95,x 96,x 97,x 98,x 99,x 100],H⟩
theorem i40_0 {s : DS} (h0 : s = sh40c l 0 s.H (fun k => s.sl.getD k P9)) : runW Tryd.prog cfgV if40_0 s (fun ex s1 => ex = .normal ∧ s1 = sh40c l (P6 l) s.H (fun k => s1.sl.getD k P9)) := by
  obtain ⟨x,H,rfl⟩ : ∃ x H,s = sh40c l 0 H x := ⟨_,_,h0⟩
  clear h0
  dsimp only [if40_0,sh40c]
  have q1 : ¬ (45 : UInt8) = 43 := by decide
  by_cases h0 : l = []
  · subst h0
    have hz : P6 [] = 0 := rfl
    repeat' (first | (simp (maxSteps := 10000000) -implicitDefEqProofs (disch := first | exact tStr | decide | omega | assumption | (simp only [zz20,yz25,yz20]; omega)) only [D3,G6,G4,A9,C9,G3,B4,A1,C6,B2,D4,G5,D6,C5,B1,G7,B7,B8,C0,D8,D9,A5,J8,H9,E0,E1,M2,M3,M5,M4,I3,I4,P2,E4,E6,I0,B5,M1,N8,M9,N2,N3,N4,N5,N6,N7,N1,J2,J3,J4,J5,J6,J1,I8,I7,I9,M0,K9,E3,L1,C3,O1,O2,G2,O9,N9,O0,B0,L8,D2,I2,zz28,yz28,jz28,zz29,yz23,zz23,jz22,yz27,jz19,yz29,zz20,yz25,Nat.reduceAdd,Nat.reduceSub,Nat.reduceLT,Nat.reduceEqDiff,zz22,jz23,if_true,if_false,yz21,decide_true,decide_false,zz25,jz24,reduceIte,List.getElem?_cons_succ,List.getElem?_cons_zero,UInt8.reduceOfNat,fin1,fin2,L2,O7,L3,O8,H3,H6,H4,L4,H5,L5,B6,A8,zz24,M7,H0,M6,G0,Option.some.injEq,DV.tup.injEq,jz29,zz30,Int.reduceToNat,yz30,and_true,true_and,beq_self_eq_true,jz30,zz31,not_true_eq_false,not_false_eq_true,M8,J7,J0,A6,L9,K6,A4,B9,D7,G9,O3,O4,K0,F2,F5,I5,I6,F7,F4,F3,F6,K1,K4,O5,O6,K3,K2,K5,F8,F9,E8,E2,J9,G1,C7,E9,L0,C4,I1,K8,K7,E7,P3,C8,B3,A0,L7,H8,E5,L6,H7,yz19,zz27,yz31,jz25,jz31,zz32,jz26,zz21,jz27,zz26,and_self,Nat.reduceLeDiff,jz18,exists_eq_left',yz24,jz21,Nat.reduceBEq,yz22,yz32,G8,A3,N0,Int.reduceLT,Int.reduceLE,Int.reduceEq,c69, *]) | with_reducible (first | refine C2 (fun h => ?_) fun h => ?_ | refine F1 (fun h => ?_) fun h => ?_ | refine C1 (fun h => ?_) fun h => ?_ | refine F0 (fun h => ?_) fun h => ?_ | refine A2 (fun h => ?_) fun h => ?_ | refine A7 (fun h => ?_) fun h => ?_) | (refine D5 ?_ ?_ ?_; (focus decide +kernel); (focus decide +kernel)))
  · have hp := nil_len h0
    by_cases h1 : l.getD 0 0 = 43
    · have hz : P6 l = 1 := by unfold P6; rw [if_pos (.inl h1)]
      repeat' (first | (simp (maxSteps := 10000000) -implicitDefEqProofs (disch := first | exact tStr | decide | omega | assumption | (simp only [zz20,yz25,yz20]; omega)) only [D3,G6,G4,A9,C9,G3,B4,A1,C6,B2,D4,G5,D6,C5,B1,G7,B7,B8,C0,D8,D9,A5,J8,H9,E0,E1,M2,M3,M5,M4,I3,I4,P2,E4,E6,I0,B5,M1,N8,M9,N2,N3,N4,N5,N6,N7,N1,J2,J3,J4,J5,J6,J1,I8,I7,I9,M0,K9,E3,L1,C3,O1,O2,G2,O9,N9,O0,B0,L8,D2,I2,zz28,yz28,jz28,zz29,yz23,zz23,jz22,yz27,jz19,yz29,zz20,yz25,Nat.reduceAdd,Nat.reduceSub,Nat.reduceLT,Nat.reduceEqDiff,zz22,jz23,if_true,if_false,yz21,decide_true,decide_false,zz25,jz24,reduceIte,List.getElem?_cons_succ,List.getElem?_cons_zero,UInt8.reduceOfNat,fin1,fin2,L2,O7,L3,O8,H3,H6,H4,L4,H5,L5,B6,A8,zz24,M7,H0,M6,G0,Option.some.injEq,DV.tup.injEq,jz29,zz30,Int.reduceToNat,yz30,and_true,true_and,beq_self_eq_true,jz30,zz31,not_true_eq_false,not_false_eq_true,M8,J7,J0,A6,L9,K6,A4,B9,D7,G9,O3,O4,K0,F2,F5,I5,I6,F7,F4,F3,F6,K1,K4,O5,O6,K3,K2,K5,F8,F9,E8,E2,J9,G1,C7,E9,L0,C4,I1,K8,K7,E7,P3,C8,B3,A0,L7,H8,E5,L6,H7,yz19,zz27,yz31,jz25,jz31,zz32,jz26,zz21,jz27,zz26,and_self,Nat.reduceLeDiff,jz18,exists_eq_left',yz24,jz21,Nat.reduceBEq,yz22,yz32,G8,A3,N0,Int.reduceLT,Int.reduceLE,Int.reduceEq,c69, *]) | with_reducible (first | refine C2 (fun h => ?_) fun h => ?_ | refine F1 (fun h => ?_) fun h => ?_ | refine C1 (fun h => ?_) fun h => ?_ | refine F0 (fun h => ?_) fun h => ?_ | refine A2 (fun h => ?_) fun h => ?_ | refine A7 (fun h => ?_) fun h => ?_) | (refine D5 ?_ ?_ ?_; (focus decide +kernel); (focus decide +kernel)))
    · by_cases h2 : l.getD 0 0 = 45
      · have hz : P6 l = 1 := by unfold P6; rw [if_pos (.inr h2)]
        repeat' (first | (simp (maxSteps := 10000000) -implicitDefEqProofs (disch := first | exact tStr | decide | omega | assumption | (simp only [zz20,yz25,yz20]; omega)) only [D3,G6,G4,A9,C9,G3,B4,A1,C6,B2,D4,G5,D6,C5,B1,G7,B7,B8,C0,D8,D9,A5,J8,H9,E0,E1,M2,M3,M5,M4,I3,I4,P2,E4,E6,I0,B5,M1,N8,M9,N2,N3,N4,N5,N6,N7,N1,J2,J3,J4,J5,J6,J1,I8,I7,I9,M0,K9,E3,L1,C3,O1,O2,G2,O9,N9,O0,B0,L8,D2,I2,zz28,yz28,jz28,zz29,yz23,zz23,jz22,yz27,jz19,yz29,zz20,yz25,Nat.reduceAdd,Nat.reduceSub,Nat.reduceLT,Nat.reduceEqDiff,zz22,jz23,if_true,if_false,yz21,decide_true,decide_false,zz25,jz24,reduceIte,List.getElem?_cons_succ,List.getElem?_cons_zero,UInt8.reduceOfNat,fin1,fin2,L2,O7,L3,O8,H3,H6,H4,L4,H5,L5,B6,A8,zz24,M7,H0,M6,G0,Option.some.injEq,DV.tup.injEq,jz29,zz30,Int.reduceToNat,yz30,and_true,true_and,beq_self_eq_true,jz30,zz31,not_true_eq_false,not_false_eq_true,M8,J7,J0,A6,L9,K6,A4,B9,D7,G9,O3,O4,K0,F2,F5,I5,I6,F7,F4,F3,F6,K1,K4,O5,O6,K3,K2,K5,F8,F9,E8,E2,J9,G1,C7,E9,L0,C4,I1,K8,K7,E7,P3,C8,B3,A0,L7,H8,E5,L6,H7,yz19,zz27,yz31,jz25,jz31,zz32,jz26,zz21,jz27,zz26,and_self,Nat.reduceLeDiff,jz18,exists_eq_left',yz24,jz21,Nat.reduceBEq,yz22,yz32,G8,A3,N0,Int.reduceLT,Int.reduceLE,Int.reduceEq,c69, *]) | with_reducible (first | refine C2 (fun h => ?_) fun h => ?_ | refine F1 (fun h => ?_) fun h => ?_ | refine C1 (fun h => ?_) fun h => ?_ | refine F0 (fun h => ?_) fun h => ?_ | refine A2 (fun h => ?_) fun h => ?_ | refine A7 (fun h => ?_) fun h => ?_) | (refine D5 ?_ ?_ ?_; (focus decide +kernel); (focus decide +kernel)))
      · have hz : P6 l = 0 := by unfold P6; rw [if_neg (fun h => h.elim h1 h2)]
        repeat' (first | (simp (maxSteps := 10000000) -implicitDefEqProofs (disch := first | exact tStr | decide | omega | assumption | (simp only [zz20,yz25,yz20]; omega)) only [D3,G6,G4,A9,C9,G3,B4,A1,C6,B2,D4,G5,D6,C5,B1,G7,B7,B8,C0,D8,D9,A5,J8,H9,E0,E1,M2,M3,M5,M4,I3,I4,P2,E4,E6,I0,B5,M1,N8,M9,N2,N3,N4,N5,N6,N7,N1,J2,J3,J4,J5,J6,J1,I8,I7,I9,M0,K9,E3,L1,C3,O1,O2,G2,O9,N9,O0,B0,L8,D2,I2,zz28,yz28,jz28,zz29,yz23,zz23,jz22,yz27,jz19,yz29,zz20,yz25,Nat.reduceAdd,Nat.reduceSub,Nat.reduceLT,Nat.reduceEqDiff,zz22,jz23,if_true,if_false,yz21,decide_true,decide_false,zz25,jz24,reduceIte,List.getElem?_cons_succ,List.getElem?_cons_zero,UInt8.reduceOfNat,fin1,fin2,L2,O7,L3,O8,H3,H6,H4,L4,H5,L5,B6,A8,zz24,M7,H0,M6,G0,Option.some.injEq,DV.tup.injEq,jz29,zz30,Int.reduceToNat,yz30,and_true,true_and,beq_self_eq_true,jz30,zz31,not_true_eq_false,not_false_eq_true,M8,J7,J0,A6,L9,K6,A4,B9,D7,G9,O3,O4,K0,F2,F5,I5,I6,F7,F4,F3,F6,K1,K4,O5,O6,K3,K2,K5,F8,F9,E8,E2,J9,G1,C7,E9,L0,C4,I1,K8,K7,E7,P3,C8,B3,A0,L7,H8,E5,L6,H7,yz19,zz27,yz31,jz25,jz31,zz32,jz26,zz21,jz27,zz26,and_self,Nat.reduceLeDiff,jz18,exists_eq_left',yz24,jz21,Nat.reduceBEq,yz22,yz32,G8,A3,N0,Int.reduceLT,Int.reduceLE,Int.reduceEq,c69, *]) | with_reducible (first | refine C2 (fun h => ?_) fun h => ?_ | refine F1 (fun h => ?_) fun h => ?_ | refine C1 (fun h => ?_) fun h => ?_ | refine F0 (fun h => ?_) fun h => ?_ | refine A2 (fun h => ?_) fun h => ?_ | refine A7 (fun h => ?_) fun h => ?_) | (refine D5 ?_ ?_ ?_; (focus decide +kernel); (focus decide +kernel)))
def sh40d (l : List UInt8) (b : Int) (H : Heap) (x : Nat → DV) : DS := ⟨[strD l,x 1,x 2,x 3,intD (P6 l),intD (U2 (l.drop (P6 l).toNat)),intD b,strD (l.drop (Q0 l)),x 8,x 9,x 10,x 11,x 12,x 13,x 14,x 15,x 16,x 17,x 18,x 19,x 20,x 21,x 22,x 23,x 24,x 25,x 26,x 27,x 28,x 29,x 30,x 31,x 32,x 33,x 34,x 35,x 36,x 37,x 38,x 39,x 40,x 41,x 42,x 43,x 44,x 45,x 46,x 47,x 48,x 49,x 50,x 51,x 52,x 53,x 54,x 55,x 56,x 57,x 58,x 59,x 60,x 61,x 62,x 63,x 64,x 65,x 66,x 67,x 68,x 69,x 70,x 71,x 72,x 73,x 74,x 75,x 76,x 77,x 78,x 79,x 80,x 81,x 82,x 83,x 84,x 85,x 86,x 87,x 88,x 89,x 90,x 91,x 92,x 93,x 94,x 95,x 96,x 97,x 98,x 99,x 100],H⟩
theorem i40_1 (h2 : l.length < 2 ^ 60) {s : DS} (h0 : s = sh40d l 0 s.H (fun k => s.sl.getD k P9)) : runW Tryd.prog cfgV if40_1 s (fun ex s1 => ex = .normal ∧ s1 = sh40d l (R1 l (Q0 l)) s.H (fun k => s1.sl.getD k P9)) := by
  obtain ⟨x,H,rfl⟩ : ∃ x H,s = sh40d l 0 H x := ⟨_,_,h0⟩
  clear h0
  dsimp only [if40_1,sh40d]
  have e1 : R1 l (Q0 l) = if (l.drop (Q0 l)).take 1 = [46] then U2 ((l.drop (Q0 l)).drop 1) else 0 := by unfold R1; rw [List.drop_drop]
  rw [e1]
  have k2 : (l.drop (Q0 l)).length < 2 ^ 60 := by rw [jz32]; omega
  generalize l.drop (Q0 l) = r at *
  by_cases h : r.take 1 = [46]
  · have k1 : 1 ≤ (r.length : Int) := by
      cases r with
      | nil => simp at h
      | cons a r => simp only [zz20]; omega
    have k3 : (r.drop 1).length < 2 ^ 60 := by rw [jz32]; omega
    repeat' (first | (simp (maxSteps := 10000000) -implicitDefEqProofs (disch := first | exact tStr | decide | omega | assumption | (simp only [zz20,yz25,yz20]; omega)) only [D3,G6,G4,A9,C9,G3,B4,A1,C6,B2,D4,G5,D6,C5,B1,G7,B7,B8,C0,D8,D9,A5,J8,H9,E0,E1,M2,M3,M5,M4,I3,I4,P2,E4,E6,I0,B5,M1,N8,M9,N2,N3,N4,N5,N6,N7,N1,J2,J3,J4,J5,J6,J1,I8,I7,I9,M0,K9,E3,L1,C3,O1,O2,G2,O9,N9,O0,B0,L8,D2,I2,zz28,yz28,jz28,zz29,yz23,zz23,jz22,yz27,jz19,yz29,zz20,yz25,Nat.reduceAdd,Nat.reduceSub,Nat.reduceLT,Nat.reduceEqDiff,zz22,jz23,if_true,if_false,yz21,decide_true,decide_false,zz25,jz24,reduceIte,List.getElem?_cons_succ,List.getElem?_cons_zero,UInt8.reduceOfNat,fin1,fin2,L2,O7,L3,O8,H3,H6,H4,L4,H5,L5,B6,A8,zz24,M7,H0,M6,G0,Option.some.injEq,DV.tup.injEq,jz29,zz30,Int.reduceToNat,yz30,and_true,true_and,beq_self_eq_true,jz30,zz31,not_true_eq_false,not_false_eq_true,M8,J7,J0,A6,L9,K6,A4,B9,D7,G9,O3,O4,K0,F2,F5,I5,I6,F7,F4,F3,F6,K1,K4,O5,O6,K3,K2,K5,F8,F9,E8,E2,J9,G1,C7,E9,L0,C4,I1,K8,K7,E7,P3,C8,B3,A0,L7,H8,E5,L6,H7,yz19,zz27,yz31,jz25,jz31,zz32,jz26,zz21,jz27,zz26,and_self,Nat.reduceLeDiff,jz18,exists_eq_left',yz24,jz21,Nat.reduceBEq,yz22,yz32,G8,A3,N0,Int.reduceLT,Int.reduceLE,Int.reduceEq,c42,c69, *]) | with_reducible (first | refine C2 (fun h => ?_) fun h => ?_ | refine F1 (fun h => ?_) fun h => ?_ | refine C1 (fun h => ?_) fun h => ?_ | refine F0 (fun h => ?_) fun h => ?_ | refine A2 (fun h => ?_) fun h => ?_ | refine A7 (fun h => ?_) fun h => ?_) | (refine D5 ?_ ?_ ?_; (focus decide +kernel); (focus decide +kernel)))
  · repeat' (first | (simp (maxSteps := 10000000) -implicitDefEqProofs (disch := first | exact tStr | decide | omega | assumption | (simp only [zz20,yz25,yz20]; omega)) only [D3,G6,G4,A9,C9,G3,B4,A1,C6,B2,D4,G5,D6,C5,B1,G7,B7,B8,C0,D8,D9,A5,J8,H9,E0,E1,M2,M3,M5,M4,I3,I4,P2,E4,E6,I0,B5,M1,N8,M9,N2,N3,N4,N5,N6,N7,N1,J2,J3,J4,J5,J6,J1,I8,I7,I9,M0,K9,E3,L1,C3,O1,O2,G2,O9,N9,O0,B0,L8,D2,I2,zz28,yz28,jz28,zz29,yz23,zz23,jz22,yz27,jz19,yz29,zz20,yz25,Nat.reduceAdd,Nat.reduceSub,Nat.reduceLT,Nat.reduceEqDiff,zz22,jz23,if_true,if_false,yz21,decide_true,decide_false,zz25,jz24,reduceIte,List.getElem?_cons_succ,List.getElem?_cons_zero,UInt8.reduceOfNat,fin1,fin2,L2,O7,L3,O8,H3,H6,H4,L4,H5,L5,B6,A8,zz24,M7,H0,M6,G0,Option.some.injEq,DV.tup.injEq,jz29,zz30,Int.reduceToNat,yz30,and_true,true_and,beq_self_eq_true,jz30,zz31,not_true_eq_false,not_false_eq_true,M8,J7,J0,A6,L9,K6,A4,B9,D7,G9,O3,O4,K0,F2,F5,I5,I6,F7,F4,F3,F6,K1,K4,O5,O6,K3,K2,K5,F8,F9,E8,E2,J9,G1,C7,E9,L0,C4,I1,K8,K7,E7,P3,C8,B3,A0,L7,H8,E5,L6,H7,yz19,zz27,yz31,jz25,jz31,zz32,jz26,zz21,jz27,zz26,and_self,Nat.reduceLeDiff,jz18,exists_eq_left',yz24,jz21,Nat.reduceBEq,yz22,yz32,G8,A3,N0,Int.reduceLT,Int.reduceLE,Int.reduceEq,c42,c69, *]) | with_reducible (first | refine C2 (fun h => ?_) fun h => ?_ | refine F1 (fun h => ?_) fun h => ?_ | refine C1 (fun h => ?_) fun h => ?_ | refine F0 (fun h => ?_) fun h => ?_ | refine A2 (fun h => ?_) fun h => ?_ | refine A7 (fun h => ?_) fun h => ?_) | (refine D5 ?_ ?_ ?_; (focus decide +kernel); (focus decide +kernel)))
def sh40e (l : List UInt8) (e : Int) (f : List UInt8) (H : Heap) (x : Nat → DV) : DS := ⟨[strD l,x 1,x 2,x 3,x 4,x 5,intD (R1 l (Q0 l)),x 7,DV.ptr 0 0 0,DV.fn 70 [DV.ptr 0 0 0],x 10,x 11,intD e,strD f,x 14,x 15,x 16,x 17,x 18,x 19,x 20,x 21,x 22,x 23,x 24,x 25,x 26,x 27,x 28,x 29,x 30,x 31,x 32,x 33,x 34,x 35,x 36,x 37,x 38,x 39,x 40,x 41,x 42,x 43,x 44,x 45,x 46,x 47,x 48,x 49,x 50,x 51,x 52,x 53,x 54,x 55,x 56,x 57,x 58,x 59,x 60,x 61,x 62,x 63,x 64,x 65,x 66,x 67,x 68,x 69,x 70,x 71,x 72,x 73,x 74,x 75,x 76,x 77,x 78,x 79,x 80,x 81,x 82,x 83,x 84,x 85,x 86,x 87,x 88,x 89,x 90,x 91,x 92,x 93,x 94,x 95,x 96,x 97,x 98,x 99,x 100],H⟩
theorem behind_le (l : List UInt8) : (Q0 l : Int) ≤ l.length → (Q0 l : Int) + 1 + R1 l (Q0 l) ≤ l.length ∨ R1 l (Q0 l) = 0 := by
  intro h
  unfold R1
  split
  · rename_i h1
    have := digLen_le (l := l.drop (Q0 l + 1))
    have h3 := congrArg List.length h1
    rw [List.length_take,jz32] at h3
    simp only [zz20,yz25] at h3
    rw [jz32] at this
    exact .inl (by omega)
  · exact .inr rfl
theorem i40_3 (h1 : (Q0 l : Int) ≤ l.length) (h2 : l.length < 2 ^ 60) {s : DS} (h0 : s = sh40e l (Q0 l) [] s.H (fun k => s.sl.getD k P9)) : runW Tryd.prog cfgV if40_3 s (fun ex s1 => ex = .normal ∧ s1 = sh40e l (endP l) (Z2 l) s.H (fun k => s1.sl.getD k P9)) := by
  obtain ⟨x,H,rfl⟩ : ∃ x H,s = sh40e l (Q0 l) [] H x := ⟨_,_,h0⟩
  clear h0
  dsimp only [if40_3,sh40e]
  have hb := behind_le l h1
  by_cases hp : (0 : Int) < R1 l (Q0 l)
  · have k1 : (Q0 l : Int) + 1 + R1 l (Q0 l) ≤ l.length := by omega
    have e1 : endP l = Q0 l + (1 + R1 l (Q0 l)) := by unfold endP; rw [if_pos (by omega)]; omega
    have e2 : Z2 l = ((l.take ((Q0 l : Int) + 1 + R1 l (Q0 l)).toNat).drop ((Q0 l : Int) + 1).toNat) := by
      unfold Z2
      rw [List.drop_take,show ((Q0 l : Int) + 1).toNat = Q0 l + 1 by omega]
      congr 1; omega
    rw [e1,e2]
    repeat' (first | (simp (maxSteps := 10000000) -implicitDefEqProofs (disch := first | exact tStr | decide | omega | assumption | (simp only [zz20,yz25,yz20]; omega)) only [D3,G6,G4,A9,C9,G3,B4,A1,C6,B2,D4,G5,D6,C5,B1,G7,B7,B8,C0,D8,D9,A5,J8,H9,E0,E1,M2,M3,M5,M4,I3,I4,P2,E4,E6,I0,B5,M1,N8,M9,N2,N3,N4,N5,N6,N7,N1,J2,J3,J4,J5,J6,J1,I8,I7,I9,M0,K9,E3,L1,C3,O1,O2,G2,O9,N9,O0,B0,L8,D2,I2,zz28,yz28,jz28,zz29,yz23,zz23,jz22,yz27,jz19,yz29,zz20,yz25,Nat.reduceAdd,Nat.reduceSub,Nat.reduceLT,Nat.reduceEqDiff,zz22,jz23,if_true,if_false,yz21,decide_true,decide_false,zz25,jz24,reduceIte,List.getElem?_cons_succ,List.getElem?_cons_zero,UInt8.reduceOfNat,fin1,fin2,L2,O7,L3,O8,H3,H6,H4,L4,H5,L5,B6,A8,zz24,M7,H0,M6,G0,Option.some.injEq,DV.tup.injEq,jz29,zz30,Int.reduceToNat,yz30,and_true,true_and,beq_self_eq_true,jz30,zz31,not_true_eq_false,not_false_eq_true,M8,J7,J0,A6,L9,K6,A4,B9,D7,G9,O3,O4,K0,F2,F5,I5,I6,F7,F4,F3,F6,K1,K4,O5,O6,K3,K2,K5,F8,F9,E8,E2,J9,G1,C7,E9,L0,C4,I1,K8,K7,E7,P3,C8,B3,A0,L7,H8,E5,L6,H7,yz19,zz27,yz31,jz25,jz31,zz32,jz26,zz21,jz27,zz26,and_self,Nat.reduceLeDiff,jz18,exists_eq_left',yz24,jz21,Nat.reduceBEq,yz22,yz32,G8,A3,N0,Int.reduceLT,Int.reduceLE,Int.reduceEq,c42, *]) | with_reducible (first | refine C2 (fun h => ?_) fun h => ?_ | refine F1 (fun h => ?_) fun h => ?_ | refine C1 (fun h => ?_) fun h => ?_ | refine F0 (fun h => ?_) fun h => ?_ | refine A2 (fun h => ?_) fun h => ?_ | refine A7 (fun h => ?_) fun h => ?_) | (refine D5 ?_ ?_ ?_; (focus decide +kernel); (focus decide +kernel)))
  · have e0 : R1 l (Q0 l) = 0 := by omega
    have e1 : endP l = Q0 l := by unfold endP; rw [if_neg (by omega)]; omega
    have e2 : Z2 l = [] := by unfold Z2; rw [e0]; rfl
    rw [e1,e2]
    clear e0 e1 e2
    repeat' (first | (simp (maxSteps := 10000000) -implicitDefEqProofs (disch := first | exact tStr | decide | omega | assumption | (simp only [zz20,yz25,yz20]; omega)) only [D3,G6,G4,A9,C9,G3,B4,A1,C6,B2,D4,G5,D6,C5,B1,G7,B7,B8,C0,D8,D9,A5,J8,H9,E0,E1,M2,M3,M5,M4,I3,I4,P2,E4,E6,I0,B5,M1,N8,M9,N2,N3,N4,N5,N6,N7,N1,J2,J3,J4,J5,J6,J1,I8,I7,I9,M0,K9,E3,L1,C3,O1,O2,G2,O9,N9,O0,B0,L8,D2,I2,zz28,yz28,jz28,zz29,yz23,zz23,jz22,yz27,jz19,yz29,zz20,yz25,Nat.reduceAdd,Nat.reduceSub,Nat.reduceLT,Nat.reduceEqDiff,zz22,jz23,if_true,if_false,yz21,decide_true,decide_false,zz25,jz24,reduceIte,List.getElem?_cons_succ,List.getElem?_cons_zero,UInt8.reduceOfNat,fin1,fin2,L2,O7,L3,O8,H3,H6,H4,L4,H5,L5,B6,A8,zz24,M7,H0,M6,G0,Option.some.injEq,DV.tup.injEq,jz29,zz30,Int.reduceToNat,yz30,and_true,true_and,beq_self_eq_true,jz30,zz31,not_true_eq_false,not_false_eq_true,M8,J7,J0,A6,L9,K6,A4,B9,D7,G9,O3,O4,K0,F2,F5,I5,I6,F7,F4,F3,F6,K1,K4,O5,O6,K3,K2,K5,F8,F9,E8,E2,J9,G1,C7,E9,L0,C4,I1,K8,K7,E7,P3,C8,B3,A0,L7,H8,E5,L6,H7,yz19,zz27,yz31,jz25,jz31,zz32,jz26,zz21,jz27,zz26,and_self,Nat.reduceLeDiff,jz18,exists_eq_left',yz24,jz21,Nat.reduceBEq,yz22,yz32,G8,A3,N0,Int.reduceLT,Int.reduceLE,Int.reduceEq,c42, *]) | with_reducible (first | refine C2 (fun h => ?_) fun h => ?_ | refine F1 (fun h => ?_) fun h => ?_ | refine C1 (fun h => ?_) fun h => ?_ | refine F0 (fun h => ?_) fun h => ?_ | refine A2 (fun h => ?_) fun h => ?_ | refine A7 (fun h => ?_) fun h => ?_) | (refine D5 ?_ ?_ ?_; (focus decide +kernel); (focus decide +kernel)))
set_option maxHeartbeats 2000000 in
theorem p40 (h2 : l.length < 2 ^ 60) : PE Tryd.prog cfgV 40 [strD l] (.tup [intD (numP l).1,intD (numP l).2]) := by
  refine PE.code rfl codg40 ?_
  dsimp only [sg40]
  have hs : 0 ≤ P6 l ∧ P6 l ≤ 1 ∧ P6 l ≤ l.length := by
    unfold P6
    cases l with
    | nil => simp
    | cons a r => simp only [zz20]; split <;> omega
  have hdl := digLen_le (l := l.drop (P6 l).toNat)
  have k1 : P6 l + U2 (l.drop (P6 l).toNat) ≤ l.length := by
    rw [jz32] at hdl; omega
  have hpt : (P6 l + (U2 (l.drop (P6 l).toNat) : Int)).toNat = Q0 l := by unfold Q0; omega
  have k5 : (l.drop (P6 l).toNat).length < 2 ^ 60 := by rw [jz32]; omega
  repeat' (first | (simp (maxSteps := 10000000) -implicitDefEqProofs (disch := first | exact tStr | decide | omega | assumption | (simp only [zz20,yz25,yz20]; omega)) only [D3,G6,G4,A9,C9,G3,B4,A1,C6,B2,D4,G5,D6,C5,B1,G7,B7,B8,C0,D8,D9,A5,J8,H9,E0,E1,M2,M3,M5,M4,I3,I4,P2,E4,E6,I0,B5,M1,N8,M9,N2,N3,N4,N5,N6,N7,N1,J2,J3,J4,J5,J6,J1,I8,I7,I9,M0,K9,E3,L1,C3,O1,O2,G2,O9,N9,O0,B0,L8,D2,I2,zz28,yz28,jz28,zz29,yz23,zz23,jz22,yz27,jz19,yz29,zz20,yz25,Nat.reduceAdd,Nat.reduceSub,Nat.reduceLT,Nat.reduceEqDiff,zz22,jz23,if_true,if_false,yz21,decide_true,decide_false,zz25,jz24,reduceIte,List.getElem?_cons_succ,List.getElem?_cons_zero,UInt8.reduceOfNat,fin1,fin2,L2,O7,L3,O8,H3,H6,H4,L4,H5,L5,B6,A8,zz24,M7,H0,M6,G0,Option.some.injEq,DV.tup.injEq,jz29,zz30,Int.reduceToNat,yz30,and_true,true_and,beq_self_eq_true,jz30,zz31,not_true_eq_false,not_false_eq_true,M8,J7,J0,A6,L9,K6,A4,B9,D7,G9,O3,O4,K0,F2,F5,I5,I6,F7,F4,F3,F6,K1,K4,O5,O6,K3,K2,K5,F8,F9,E8,E2,J9,G1,C7,E9,L0,C4,I1,K8,K7,E7,P3,C8,B3,A0,L7,H8,E5,L6,H7,yz19,zz27,yz31,jz25,jz31,zz32,jz26,zz21,jz27,zz26,and_self,Nat.reduceLeDiff,jz18,exists_eq_left',yz24,jz21,Nat.reduceBEq,yz22,yz32,G8,A3,N0,Int.reduceLT,Int.reduceLE,Int.reduceEq,c69,c42, *]) | with_reducible (first | refine C2 (fun h => ?_) fun h => ?_ | refine F1 (fun h => ?_) fun h => ?_ | refine C1 (fun h => ?_) fun h => ?_ | refine F0 (fun h => ?_) fun h => ?_ | refine A2 (fun h => ?_) fun h => ?_ | refine A7 (fun h => ?_) fun h => ?_) | (refine D5 ?_ ?_ ?_; (focus decide +kernel); (focus decide +kernel)))
  refine runW_wk (i40_0 (l := l) rfl) ?_
  rintro ex s ⟨rfl,hs'⟩
  obtain ⟨x,rfl⟩ : ∃ x,s = sh40c l (P6 l) [] x := ⟨_,hs'⟩
  clear hs'
  dsimp only [sh40c]
  repeat' (first | (simp (maxSteps := 10000000) -implicitDefEqProofs (disch := first | exact tStr | decide | omega | assumption | (simp only [zz20,yz25,yz20]; omega)) only [D3,G6,G4,A9,C9,G3,B4,A1,C6,B2,D4,G5,D6,C5,B1,G7,B7,B8,C0,D8,D9,A5,J8,H9,E0,E1,M2,M3,M5,M4,I3,I4,P2,E4,E6,I0,B5,M1,N8,M9,N2,N3,N4,N5,N6,N7,N1,J2,J3,J4,J5,J6,J1,I8,I7,I9,M0,K9,E3,L1,C3,O1,O2,G2,O9,N9,O0,B0,L8,D2,I2,zz28,yz28,jz28,zz29,yz23,zz23,jz22,yz27,jz19,yz29,zz20,yz25,Nat.reduceAdd,Nat.reduceSub,Nat.reduceLT,Nat.reduceEqDiff,zz22,jz23,if_true,if_false,yz21,decide_true,decide_false,zz25,jz24,reduceIte,List.getElem?_cons_succ,List.getElem?_cons_zero,UInt8.reduceOfNat,fin1,fin2,L2,O7,L3,O8,H3,H6,H4,L4,H5,L5,B6,A8,zz24,M7,H0,M6,G0,Option.some.injEq,DV.tup.injEq,jz29,zz30,Int.reduceToNat,yz30,and_true,true_and,beq_self_eq_true,jz30,zz31,not_true_eq_false,not_false_eq_true,M8,J7,J0,A6,L9,K6,A4,B9,D7,G9,O3,O4,K0,F2,F5,I5,I6,F7,F4,F3,F6,K1,K4,O5,O6,K3,K2,K5,F8,F9,E8,E2,J9,G1,C7,E9,L0,C4,I1,K8,K7,E7,P3,C8,B3,A0,L7,H8,E5,L6,H7,yz19,zz27,yz31,jz25,jz31,zz32,jz26,zz21,jz27,zz26,and_self,Nat.reduceLeDiff,jz18,exists_eq_left',yz24,jz21,Nat.reduceBEq,yz22,yz32,G8,A3,N0,Int.reduceLT,Int.reduceLE,Int.reduceEq,c69,c42, *]) | with_reducible (first | refine C2 (fun h => ?_) fun h => ?_ | refine F1 (fun h => ?_) fun h => ?_ | refine C1 (fun h => ?_) fun h => ?_ | refine F0 (fun h => ?_) fun h => ?_ | refine A2 (fun h => ?_) fun h => ?_ | refine A7 (fun h => ?_) fun h => ?_) | (refine D5 ?_ ?_ ?_; (focus decide +kernel); (focus decide +kernel)))
  refine runW_wk (i40_1 h2 (l := l) rfl) ?_
  rintro ex s ⟨rfl,hs'⟩
  obtain ⟨x,rfl⟩ : ∃ x,s = sh40d l (R1 l (Q0 l)) [] x := ⟨_,hs'⟩
  clear hs'
  dsimp only [sh40d]
  have hbl := behind_le l (by unfold Q0; omega)
  by_cases hz : U2 (l.drop (P6 l).toNat) + R1 l (Q0 l) = 0
  · have hz' : (U2 (l.drop (P6 l).toNat) : Int) + R1 l (Q0 l) = 0 := by omega
    have hn : numP l = (0,0) := by unfold numP; rw [if_pos hz]
    rw [hn]
    clear hz hn
    repeat' (first | (simp (maxSteps := 10000000) -implicitDefEqProofs (disch := first | exact tStr | decide | omega | assumption | (simp only [zz20,yz25,yz20]; omega)) only [D3,G6,G4,A9,C9,G3,B4,A1,C6,B2,D4,G5,D6,C5,B1,G7,B7,B8,C0,D8,D9,A5,J8,H9,E0,E1,M2,M3,M5,M4,I3,I4,P2,E4,E6,I0,B5,M1,N8,M9,N2,N3,N4,N5,N6,N7,N1,J2,J3,J4,J5,J6,J1,I8,I7,I9,M0,K9,E3,L1,C3,O1,O2,G2,O9,N9,O0,B0,L8,D2,I2,zz28,yz28,jz28,zz29,yz23,zz23,jz22,yz27,jz19,yz29,zz20,yz25,Nat.reduceAdd,Nat.reduceSub,Nat.reduceLT,Nat.reduceEqDiff,zz22,jz23,if_true,if_false,yz21,decide_true,decide_false,zz25,jz24,reduceIte,List.getElem?_cons_succ,List.getElem?_cons_zero,UInt8.reduceOfNat,fin1,fin2,L2,O7,L3,O8,H3,H6,H4,L4,H5,L5,B6,A8,zz24,M7,H0,M6,G0,Option.some.injEq,DV.tup.injEq,jz29,zz30,Int.reduceToNat,yz30,and_true,true_and,beq_self_eq_true,jz30,zz31,not_true_eq_false,not_false_eq_true,M8,J7,J0,A6,L9,K6,A4,B9,D7,G9,O3,O4,K0,F2,F5,I5,I6,F7,F4,F3,F6,K1,K4,O5,O6,K3,K2,K5,F8,F9,E8,E2,J9,G1,C7,E9,L0,C4,I1,K8,K7,E7,P3,C8,B3,A0,L7,H8,E5,L6,H7,yz19,zz27,yz31,jz25,jz31,zz32,jz26,zz21,jz27,zz26,and_self,Nat.reduceLeDiff,jz18,exists_eq_left',yz24,jz21,Nat.reduceBEq,yz22,yz32,G8,A3,N0,Int.reduceLT,Int.reduceLE,Int.reduceEq,c69,c42, *]) | with_reducible (first | refine C2 (fun h => ?_) fun h => ?_ | refine F1 (fun h => ?_) fun h => ?_ | refine C1 (fun h => ?_) fun h => ?_ | refine F0 (fun h => ?_) fun h => ?_ | refine A2 (fun h => ?_) fun h => ?_ | refine A7 (fun h => ?_) fun h => ?_) | (refine D5 ?_ ?_ ?_; (focus decide +kernel); (focus decide +kernel)))
  · have hz' : ¬ (U2 (l.drop (P6 l).toNat) : Int) + R1 l (Q0 l) = 0 := by omega
    have hn : numP l = (if l.getD 0 0 = 45 then -valP l else valP l,endP l) := by unfold numP; rw [if_neg hz]
    rw [hn]
    have hp : 0 < (l.length : Int) := by
      rcases hbl with h | h <;> omega
    have hpi : P6 l + (U2 (l.drop (P6 l).toNat) : Int) = Q0 l := by unfold Q0; omega
    have hw : (l.take (Q0 l : Int).toNat).drop (P6 l).toNat = U9 l := by unfold U9; rw [hpi]
    have hwl : (U9 l).length < 2 ^ 60 := by
      rw [← hw,jz32,List.length_take]; omega
    have hpl : (Q0 l : Int) ≤ l.length := by omega
    have hm := addRun_le (U9 l) 0 (by omega) (by omega)
    have hv := f3_le (frac := Z2 l) hm.1 hm.2 3
    clear hn hz
    repeat' (first | (simp (maxSteps := 10000000) -implicitDefEqProofs (disch := first | exact tStr | decide | omega | assumption | (simp only [zz20,yz25,yz20]; omega)) only [D3,G6,G4,A9,C9,G3,B4,A1,C6,B2,D4,G5,D6,C5,B1,G7,B7,B8,C0,D8,D9,A5,J8,H9,E0,E1,M2,M3,M5,M4,I3,I4,P2,E4,E6,I0,B5,M1,N8,M9,N2,N3,N4,N5,N6,N7,N1,J2,J3,J4,J5,J6,J1,I8,I7,I9,M0,K9,E3,L1,C3,O1,O2,G2,O9,N9,O0,B0,L8,D2,I2,zz28,yz28,jz28,zz29,yz23,zz23,jz22,yz27,jz19,yz29,zz20,yz25,Nat.reduceAdd,Nat.reduceSub,Nat.reduceLT,Nat.reduceEqDiff,zz22,jz23,if_true,if_false,yz21,decide_true,decide_false,zz25,jz24,reduceIte,List.getElem?_cons_succ,List.getElem?_cons_zero,UInt8.reduceOfNat,fin1,fin2,L2,O7,L3,O8,H3,H6,H4,L4,H5,L5,B6,A8,zz24,M7,H0,M6,G0,Option.some.injEq,DV.tup.injEq,jz29,zz30,Int.reduceToNat,yz30,and_true,true_and,beq_self_eq_true,jz30,zz31,not_true_eq_false,not_false_eq_true,M8,J7,J0,A6,L9,K6,A4,B9,D7,G9,O3,O4,K0,F2,F5,I5,I6,F7,F4,F3,F6,K1,K4,O5,O6,K3,K2,K5,F8,F9,E8,E2,J9,G1,C7,E9,L0,C4,I1,K8,K7,E7,P3,C8,B3,A0,L7,H8,E5,L6,H7,yz19,zz27,yz31,jz25,jz31,zz32,jz26,zz21,jz27,zz26,and_self,Nat.reduceLeDiff,jz18,exists_eq_left',yz24,jz21,Nat.reduceBEq,yz22,yz32,G8,A3,N0,Int.reduceLT,Int.reduceLE,Int.reduceEq,c69,c42,X2,dop_convSB,csb_str,P5,Y1, *]) | with_reducible (first | refine C2 (fun h => ?_) fun h => ?_ | refine F1 (fun h => ?_) fun h => ?_ | refine C1 (fun h => ?_) fun h => ?_ | refine F0 (fun h => ?_) fun h => ?_ | refine A2 (fun h => ?_) fun h => ?_ | refine A7 (fun h => ?_) fun h => ?_) | (refine D5 ?_ ?_ ?_; (focus decide +kernel); (focus decide +kernel)))
    refine zz2 (l40_0 (l := l) (b := R1 l (Q0 l)) (rest := l.drop (Q0 l)) (w := U9 l) hwl (n := ((U9 l).length - 0 : Int).toNat) ⟨0,rfl,by omega,by omega,rfl⟩) ?_
    rintro ex s ⟨rfl,hs'⟩
    obtain ⟨x,rfl⟩ : ∃ x,s = sh40 l (R1 l (Q0 l)) (l.drop (Q0 l)) (U9 l) (U9 l).length x := ⟨_,hs'⟩
    clear hs'
    dsimp only [sh40]
    repeat' (first | (simp (maxSteps := 10000000) -implicitDefEqProofs (disch := first | exact tStr | decide | omega | assumption | (simp only [zz20,yz25,yz20]; omega)) only [D3,G6,G4,A9,C9,G3,B4,A1,C6,B2,D4,G5,D6,C5,B1,G7,B7,B8,C0,D8,D9,A5,J8,H9,E0,E1,M2,M3,M5,M4,I3,I4,P2,E4,E6,I0,B5,M1,N8,M9,N2,N3,N4,N5,N6,N7,N1,J2,J3,J4,J5,J6,J1,I8,I7,I9,M0,K9,E3,L1,C3,O1,O2,G2,O9,N9,O0,B0,L8,D2,I2,zz28,yz28,jz28,zz29,yz23,zz23,jz22,yz27,jz19,yz29,zz20,yz25,Nat.reduceAdd,Nat.reduceSub,Nat.reduceLT,Nat.reduceEqDiff,zz22,jz23,if_true,if_false,yz21,decide_true,decide_false,zz25,jz24,reduceIte,List.getElem?_cons_succ,List.getElem?_cons_zero,UInt8.reduceOfNat,fin1,fin2,L2,O7,L3,O8,H3,H6,H4,L4,H5,L5,B6,A8,zz24,M7,H0,M6,G0,Option.some.injEq,DV.tup.injEq,jz29,zz30,Int.reduceToNat,yz30,and_true,true_and,beq_self_eq_true,jz30,zz31,not_true_eq_false,not_false_eq_true,M8,J7,J0,A6,L9,K6,A4,B9,D7,G9,O3,O4,K0,F2,F5,I5,I6,F7,F4,F3,F6,K1,K4,O5,O6,K3,K2,K5,F8,F9,E8,E2,J9,G1,C7,E9,L0,C4,I1,K8,K7,E7,P3,C8,B3,A0,L7,H8,E5,L6,H7,yz19,zz27,yz31,jz25,jz31,zz32,jz26,zz21,jz27,zz26,and_self,Nat.reduceLeDiff,jz18,exists_eq_left',yz24,jz21,Nat.reduceBEq,yz22,yz32,G8,A3,N0,Int.reduceLT,Int.reduceLE,Int.reduceEq,c69,c42,List.take_length,yz26, *]) | with_reducible (first | refine C2 (fun h => ?_) fun h => ?_ | refine F1 (fun h => ?_) fun h => ?_ | refine C1 (fun h => ?_) fun h => ?_ | refine F0 (fun h => ?_) fun h => ?_ | refine A2 (fun h => ?_) fun h => ?_ | refine A7 (fun h => ?_) fun h => ?_) | (refine D5 ?_ ?_ ?_; (focus decide +kernel); (focus decide +kernel)))
    refine runW_wk (i40_3 hpl h2 (l := l) rfl) ?_
    rintro ex s ⟨rfl,hs'⟩
    obtain ⟨x,rfl⟩ : ∃ x,s = sh40e l (endP l) (Z2 l) _ x := ⟨_,hs'⟩
    clear hs'
    dsimp only [sh40e]
    repeat' (first | (simp (maxSteps := 10000000) -implicitDefEqProofs (disch := first | exact tStr | decide | omega | assumption | (simp only [zz20,yz25,yz20]; omega)) only [D3,G6,G4,A9,C9,G3,B4,A1,C6,B2,D4,G5,D6,C5,B1,G7,B7,B8,C0,D8,D9,A5,J8,H9,E0,E1,M2,M3,M5,M4,I3,I4,P2,E4,E6,I0,B5,M1,N8,M9,N2,N3,N4,N5,N6,N7,N1,J2,J3,J4,J5,J6,J1,I8,I7,I9,M0,K9,E3,L1,C3,O1,O2,G2,O9,N9,O0,B0,L8,D2,I2,zz28,yz28,jz28,zz29,yz23,zz23,jz22,yz27,jz19,yz29,zz20,yz25,Nat.reduceAdd,Nat.reduceSub,Nat.reduceLT,Nat.reduceEqDiff,zz22,jz23,if_true,if_false,yz21,decide_true,decide_false,zz25,jz24,reduceIte,List.getElem?_cons_succ,List.getElem?_cons_zero,UInt8.reduceOfNat,fin1,fin2,L2,O7,L3,O8,H3,H6,H4,L4,H5,L5,B6,A8,zz24,M7,H0,M6,G0,Option.some.injEq,DV.tup.injEq,jz29,zz30,Int.reduceToNat,yz30,and_true,true_and,beq_self_eq_true,jz30,zz31,not_true_eq_false,not_false_eq_true,M8,J7,J0,A6,L9,K6,A4,B9,D7,G9,O3,O4,K0,F2,F5,I5,I6,F7,F4,F3,F6,K1,K4,O5,O6,K3,K2,K5,F8,F9,E8,E2,J9,G1,C7,E9,L0,C4,I1,K8,K7,E7,P3,C8,B3,A0,L7,H8,E5,L6,H7,yz19,zz27,yz31,jz25,jz31,zz32,jz26,zz21,jz27,zz26,and_self,Nat.reduceLeDiff,jz18,exists_eq_left',yz24,jz21,Nat.reduceBEq,yz22,yz32,G8,A3,N0,Int.reduceLT,Int.reduceLE,Int.reduceEq,c69,c42,List.take_length,yz26, *]) | with_reducible (first | refine C2 (fun h => ?_) fun h => ?_ | refine F1 (fun h => ?_) fun h => ?_ | refine C1 (fun h => ?_) fun h => ?_ | refine F0 (fun h => ?_) fun h => ?_ | refine A2 (fun h => ?_) fun h => ?_ | refine A7 (fun h => ?_) fun h => ?_) | (refine D5 ?_ ?_ ?_; (focus decide +kernel); (focus decide +kernel)))
    refine zz2 (l40_1 (l := l) (e := endP l) (frac := Z2 l) (m := jz11 0 (U9 l)) hm.1 hm.2 (n := (3 - 0 : Int).toNat) ⟨0,rfl,by omega,by omega,rfl⟩) ?_
    rintro ex s ⟨rfl,hs'⟩
    obtain ⟨x,rfl⟩ : ∃ x,s = sh40b l (endP l) (Z2 l) (jz11 0 (U9 l)) _ 3 x := ⟨_,hs'⟩
    clear hs'
    dsimp only [sh40b]
    have hv3 : f3 (jz11 0 (U9 l)) (Z2 l) (Int.toNat 3) = valP l := rfl
    unfold valP at hv3
    by_cases hc : l.getD 0 0 = 45
    · repeat' (first | (simp (maxSteps := 10000000) -implicitDefEqProofs (disch := first | exact tStr | decide | omega | assumption | (simp only [zz20,yz25,yz20]; omega)) only [D3,G6,G4,A9,C9,G3,B4,A1,C6,B2,D4,G5,D6,C5,B1,G7,B7,B8,C0,D8,D9,A5,J8,H9,E0,E1,M2,M3,M5,M4,I3,I4,P2,E4,E6,I0,B5,M1,N8,M9,N2,N3,N4,N5,N6,N7,N1,J2,J3,J4,J5,J6,J1,I8,I7,I9,M0,K9,E3,L1,C3,O1,O2,G2,O9,N9,O0,B0,L8,D2,I2,zz28,yz28,jz28,zz29,yz23,zz23,jz22,yz27,jz19,yz29,zz20,yz25,Nat.reduceAdd,Nat.reduceSub,Nat.reduceLT,Nat.reduceEqDiff,zz22,jz23,if_true,if_false,yz21,decide_true,decide_false,zz25,jz24,reduceIte,List.getElem?_cons_succ,List.getElem?_cons_zero,UInt8.reduceOfNat,fin1,fin2,L2,O7,L3,O8,H3,H6,H4,L4,H5,L5,B6,A8,zz24,M7,H0,M6,G0,Option.some.injEq,DV.tup.injEq,jz29,zz30,Int.reduceToNat,yz30,and_true,true_and,beq_self_eq_true,jz30,zz31,not_true_eq_false,not_false_eq_true,M8,J7,J0,A6,L9,K6,A4,B9,D7,G9,O3,O4,K0,F2,F5,I5,I6,F7,F4,F3,F6,K1,K4,O5,O6,K3,K2,K5,F8,F9,E8,E2,J9,G1,C7,E9,L0,C4,I1,K8,K7,E7,P3,C8,B3,A0,L7,H8,E5,L6,H7,yz19,zz27,yz31,jz25,jz31,zz32,jz26,zz21,jz27,zz26,and_self,Nat.reduceLeDiff,jz18,exists_eq_left',yz24,jz21,Nat.reduceBEq,yz22,yz32,G8,A3,N0,Int.reduceLT,Int.reduceLE,Int.reduceEq,c69,c42, *]) | with_reducible (first | refine C2 (fun h => ?_) fun h => ?_ | refine F1 (fun h => ?_) fun h => ?_ | refine C1 (fun h => ?_) fun h => ?_ | refine F0 (fun h => ?_) fun h => ?_ | refine A2 (fun h => ?_) fun h => ?_ | refine A7 (fun h => ?_) fun h => ?_) | (refine D5 ?_ ?_ ?_; (focus decide +kernel); (focus decide +kernel)))
      rfl
    · repeat' (first | (simp (maxSteps := 10000000) -implicitDefEqProofs (disch := first | exact tStr | decide | omega | assumption | (simp only [zz20,yz25,yz20]; omega)) only [D3,G6,G4,A9,C9,G3,B4,A1,C6,B2,D4,G5,D6,C5,B1,G7,B7,B8,C0,D8,D9,A5,J8,H9,E0,E1,M2,M3,M5,M4,I3,I4,P2,E4,E6,I0,B5,M1,N8,M9,N2,N3,N4,N5,N6,N7,N1,J2,J3,J4,J5,J6,J1,I8,I7,I9,M0,K9,E3,L1,C3,O1,O2,G2,O9,N9,O0,B0,L8,D2,I2,zz28,yz28,jz28,zz29,yz23,zz23,jz22,yz27,jz19,yz29,zz20,yz25,Nat.reduceAdd,Nat.reduceSub,Nat.reduceLT,Nat.reduceEqDiff,zz22,jz23,if_true,if_false,yz21,decide_true,decide_false,zz25,jz24,reduceIte,List.getElem?_cons_succ,List.getElem?_cons_zero,UInt8.reduceOfNat,fin1,fin2,L2,O7,L3,O8,H3,H6,H4,L4,H5,L5,B6,A8,zz24,M7,H0,M6,G0,Option.some.injEq,DV.tup.injEq,jz29,zz30,Int.reduceToNat,yz30,and_true,true_and,beq_self_eq_true,jz30,zz31,not_true_eq_false,not_false_eq_true,M8,J7,J0,A6,L9,K6,A4,B9,D7,G9,O3,O4,K0,F2,F5,I5,I6,F7,F4,F3,F6,K1,K4,O5,O6,K3,K2,K5,F8,F9,E8,E2,J9,G1,C7,E9,L0,C4,I1,K8,K7,E7,P3,C8,B3,A0,L7,H8,E5,L6,H7,yz19,zz27,yz31,jz25,jz31,zz32,jz26,zz21,jz27,zz26,and_self,Nat.reduceLeDiff,jz18,exists_eq_left',yz24,jz21,Nat.reduceBEq,yz22,yz32,G8,A3,N0,Int.reduceLT,Int.reduceLE,Int.reduceEq,c69,c42, *]) | with_reducible (first | refine C2 (fun h => ?_) fun h => ?_ | refine F1 (fun h => ?_) fun h => ?_ | refine C1 (fun h => ?_) fun h => ?_ | refine F0 (fun h => ?_) fun h => ?_ | refine A2 (fun h => ?_) fun h => ?_ | refine A7 (fun h => ?_) fun h => ?_) | (refine D5 ?_ ?_ ?_; (focus decide +kernel); (focus decide +kernel)))
      rfl
end Go.Dx
end
section
namespace Go.Dx
open Go Go.Proofs
variable {l t : List UInt8} {n u w : Int}
theorem cap_min (n : Int) : cap n = min n 1000000000 := by
  unfold cap; split <;> omega
theorem digRun_eq : ∀ (l : List UInt8) (n : Int),zz6 n l = (jz11 n (l.takeWhile Y5),U2 l)
  | [],n => rfl
  | a :: r,n => by
    rw [zz6]
    by_cases h : Y5 a = true
    · rw [if_pos h,digRun_eq r]
      simp only [U2,List.takeWhile_cons,h,if_true,zz20]
      rfl
    · rw [if_neg h]
      simp only [U2,List.takeWhile_cons,h,if_false,yz21]
      rfl
theorem fracRun_snd : ∀ (l : List UInt8) (n u : Int),(T5 n u l).2 = U2 l
  | [],n,u => rfl
  | a :: r,n,u => by
    rw [T5]
    by_cases h : Y5 a = true
    · rw [if_pos h]
      simp only [fracRun_snd r,U2,List.takeWhile_cons,h,if_true,zz20]
    · rw [if_neg h]
      simp only [U2,List.takeWhile_cons,h,if_false,yz21,yz25]
theorem fracRun_zero : ∀ (l : List UInt8) (n : Int),n ≤ 1000000000 → (T5 n 0 l).1 = n
  | [],n,_ => rfl
  | a :: r,n,h => by
    rw [T5]
    split
    · have e : cap (n + 0 * digV a) = n := by rw [cap_min]; omega
      rw [e]
      exact fracRun_zero r n h
    · rfl
theorem zz15 {α : Type} (p : α → Bool) : ∀ l : List α,l.take (l.takeWhile p).length = l.takeWhile p
  | [] => rfl
  | a :: r => by
    by_cases h : p a = true
    · simp only [List.takeWhile_cons,h,if_true,zz20,yz19,zz15 p r]
    · simp [List.takeWhile_cons,h]
theorem wholeTxt_eq (hs : 0 ≤ P6 l) : U9 l = (l.drop (P6 l).toNat).takeWhile Y5 := by
  unfold U9
  rw [List.drop_take,show (P6 l + (U2 (l.drop (P6 l).toNat) : Int)).toNat - (P6 l).toNat = U2 (l.drop (P6 l).toNat) by omega]
  exact zz15 _ _
theorem sign_nn (l : List UInt8) : 0 ≤ P6 l := by unfold P6; split <;> omega
theorem whole_eq (l : List UInt8) : T4 l = (jz11 0 (U9 l),U2 (l.drop (P6 l).toNat)) := by
  unfold T4
  rw [digRun_eq,wholeTxt_eq (sign_nn l)]
theorem point_eq (l : List UInt8) : R9 l = Q0 l := by
  have := sign_nn l
  unfold R9 Q0
  rw [whole_eq]; simp only; omega
theorem digV_zero : digV 48 = 0 := rfl
theorem getD_take {r : List UInt8} {k i : Nat} (h : i < k) (d : UInt8) : (r.take k).getD i d = r.getD i d := by
  simp [List.getD_eq_getElem?_getD,List.getElem?_take,h]
theorem fracRun_tw : ∀ (r : List UInt8) (n u : Int),(T5 n u r).1 = (T5 n u (r.takeWhile Y5)).1
  | [],n,u => rfl
  | a :: r,n,u => by
    by_cases h : Y5 a = true
    · simp only [List.takeWhile_cons,h,if_true,T5]
      exact fracRun_tw r _ _
    · simp only [List.takeWhile_cons,h,if_false,yz21,T5]
theorem all_takeWhile {α : Type} (p : α → Bool) : ∀ l : List α,(l.takeWhile p).all p = true
  | [] => rfl
  | a :: r => by
    by_cases h : p a = true
    · simp only [List.takeWhile_cons,h,if_true,zz21,all_takeWhile p r,zz26]
    · simp [List.takeWhile_cons,h]
theorem cap_id {n : Int} (h : n ≤ 1000000000) : cap n = n := by rw [cap_min]; omega
theorem cap3 {a b c : Int} (h0 : 0 ≤ w) (ha : 0 ≤ a) (hb : 0 ≤ b) (hc : 0 ≤ c) : cap (cap (cap (cap (1000 * w) + 100 * a) + 10 * b) + 1 * c) = cap (10 * cap (10 * cap (10 * w + a) + b) + c) := by
  simp only [cap_min]; omega
theorem frac_same (h0 : 0 ≤ w) (r : List UInt8) : (T5 (cap (1000 * w)) 100 r).1 = f3 w (r.takeWhile Y5) 3 := by
  rw [fracRun_tw]
  have ht := all_takeWhile Y5 r
  generalize r.takeWhile Y5 = t at ht
  have e1 : (100 : Int) / 10 = 10 := rfl
  have e2 : (10 : Int) / 10 = 1 := rfl
  have e3 : (1 : Int) / 10 = 0 := rfl
  match t,ht with
  | [],_ =>
    have := cap3 (w := w) (a := 0) (b := 0) (c := 0) h0 (by omega) (by omega) (by omega)
    simp only [T5,f3,List.getD_nil,digV_zero]
    rw [← this]; simp only [cap_min]; omega
  | [a],ht =>
    simp only [zz21,jz27,Bool.and_true] at ht
    have ha := digV_nn (b := a)
    have := cap3 (w := w) (a := digV a) (b := 0) (c := 0) h0 ha (by omega) (by omega)
    simp only [T5,ht,if_true,f3,zz29,jz28,List.getD_nil,digV_zero]
    rw [← this]; simp only [cap_min]; omega
  | [a,b],ht =>
    simp only [zz21,jz27,Bool.and_true,zz19] at ht
    have ha := digV_nn (b := a)
    have hb := digV_nn (b := b)
    have := cap3 (w := w) (a := digV a) (b := digV b) (c := 0) h0 ha hb (by omega)
    simp only [T5,ht,if_true,f3,zz29,jz28,List.getD_nil,digV_zero,e1]
    rw [← this]; simp only [cap_min]; omega
  | a :: b :: c :: t,ht =>
    simp only [zz21,zz19] at ht
    have ha := digV_nn (b := a)
    have hb := digV_nn (b := b)
    have hc := digV_nn (b := c)
    have := cap3 (w := w) (a := digV a) (b := digV b) (c := digV c) h0 ha hb hc
    simp only [T5,ht,if_true,f3,zz29,jz28,e1,e2,e3]
    rw [← this]
    exact fracRun_zero t _ (by simp only [cap_min]; omega)
theorem hasFrac_eq (l : List UInt8) : hasFrac l = decide (0 < R1 l (Q0 l)) := by
  unfold hasFrac R1
  rw [point_eq,show ((Q0 l : Int) + 1).toNat = Q0 l + 1 by omega,yz26]
  by_cases h : Q0 l < l.length
  · have e : l.drop (Q0 l) = l.getD (Q0 l) 0 :: l.drop (Q0 l + 1) := by
      rw [List.drop_eq_getElem_cons h,List.getD_eq_getElem?_getD,List.getElem?_eq_getElem h]; rfl
    rw [e,yz19,zz27]
    by_cases h1 : l.getD (Q0 l) 0 = 46
    · rw [if_pos (by rw [h1]),h1]
      by_cases h2 : Q0 l + 1 < l.length
      · have e2 : l.drop (Q0 l + 1) = l.getD (Q0 l + 1) 0 :: l.drop (Q0 l + 1 + 1) := by
          rw [List.drop_eq_getElem_cons h2,List.getD_eq_getElem?_getD,List.getElem?_eq_getElem h2]; rfl
        rw [e2]
        have e3 : decide ((Q0 l : Int) + 1 < l.length) = true := by simp; omega
        rw [e3]
        simp only [U2,List.takeWhile_cons]
        cases hd : Y5 (l.getD (Q0 l + 1) 0) <;> simp
      · rw [List.drop_eq_nil_of_le (by omega)]
        have e3 : decide ((Q0 l : Int) + 1 < l.length) = false := by simp; omega
        rw [e3]; rfl
    · rw [if_neg (by simpa using h1)]
      rw [decide_eq_false h1]; rfl
  · rw [List.drop_eq_nil_of_le (by omega),List.getD_eq_getElem?_getD,List.getElem?_eq_none (by omega)]
    rfl
theorem fracTxt_eq (l : List UInt8) (h : 0 < R1 l (Q0 l)) : Z2 l = (l.drop (Q0 l + 1)).takeWhile Y5 ∧ R1 l (Q0 l) = U2 (l.drop (Q0 l + 1)) := by
  have e : R1 l (Q0 l) = U2 (l.drop (Q0 l + 1)) := by
    unfold R1 at h ⊢
    split at h
    · rename_i h1; rw [if_pos h1]
    · omega
  refine ⟨?_,e⟩
  unfold Z2
  rw [e]; exact zz15 _ _
theorem num_eq (l : List UInt8) : numP l = W1 l := by
  have hm := addRun_le (U9 l) 0 (by omega) (by omega)
  unfold numP W1 valP endP
  rw [hasFrac_eq]
  by_cases hb : 0 < R1 l (Q0 l)
  · obtain ⟨h1,h2⟩ := fracTxt_eq l hb
    have h3 : (X7 l).1 = f3 (jz11 0 (U9 l)) (Z2 l) 3 := by
      unfold X7
      rw [whole_eq,point_eq,show ((Q0 l : Int) + 1).toNat = Q0 l + 1 by omega,h1]
      exact frac_same hm.1 _
    have h4 : (X7 l).2 = R1 l (Q0 l) := by
      unfold X7
      rw [fracRun_snd,point_eq,show ((Q0 l : Int) + 1).toNat = Q0 l + 1 by omega,h2]
    rw [decide_eq_true hb]
    simp only [if_true]
    rw [h3,h4,whole_eq,point_eq]
    simp only
    have q1 : ¬ U2 (l.drop (P6 l).toNat) + R1 l (Q0 l) = 0 := by omega
    have q2 : ¬ (U2 (l.drop (P6 l).toNat) : Int) + R1 l (Q0 l) = 0 := by omega
    rw [if_neg q1,if_neg q2,if_pos hb]
    have e5 : (Q0 l : Int) + ((1 + R1 l (Q0 l) : Nat) : Int) = Q0 l + 1 + R1 l (Q0 l) := by omega
    rw [e5]
    split
    · rw [Int.zero_sub]
    · rfl
  · have e0 : R1 l (Q0 l) = 0 := by omega
    have ef : Z2 l = [] := by unfold Z2; rw [e0]; rfl
    rw [decide_eq_false hb,ef]
    simp only [yz21,if_false]
    rw [whole_eq,point_eq,e0]
    simp only [Nat.lt_irrefl,if_false,jz21]
    have hv : f3 (jz11 0 (U9 l)) [] 3 = cap (1000 * jz11 0 (U9 l)) := by
      have := frac_same hm.1 []
      simp only [T5,List.takeWhile_nil] at this
      exact this.symm
    rw [hv]
    by_cases hz : U2 (l.drop (P6 l).toNat) = 0
    · rw [if_pos (by omega),if_pos (by omega)]
    · have q2 : ¬ (U2 (l.drop (P6 l).toNat) : Int) = 0 := by omega
      rw [if_neg hz,if_neg q2]
      have e5 : (Q0 l : Int) + ((0 : Nat) : Int) = Q0 l := by omega
      rw [e5]
      split
      · rw [Int.zero_sub]
      · rfl
theorem c40 {H : Heap} {K : DV → Heap → Prop} (h2 : l.length < 2 ^ 60) : R4 Tryd.prog cfgV 40 [strD l] H K = K (.tup [intD (W1 l).1,intD (W1 l).2]) H := by
  have := p40 (l := l) h2
  rw [num_eq] at this
  exact T7 rfl rfl this H K
end Go.Dx
end
