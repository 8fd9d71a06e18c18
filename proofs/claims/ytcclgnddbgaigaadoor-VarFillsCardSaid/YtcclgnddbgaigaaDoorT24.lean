/- A part of the proof of VarFills: what functions of the program answer. -/
import Derived.Test.YtcclgnddbgaigaaDoorT23
open Nat renaming le_refl → jz18, add_zero → jz21, zero_add → yz24, le_zero_eq → yz32
open List renaming take_succ_cons → yz19, replicate_succ → jz19, length_cons → zz20, length_append → yz20, all_cons → zz21, singleton_append → yz22, cons_append → jz22, map_nil → zz23, map_cons → yz23, length_nil → yz25, drop_zero → jz25, append_nil → jz26, take_zero → zz27, nil_append → yz27, all_nil → jz27, set_cons_succ → zz28, set_cons_zero → yz28, getD_cons_succ → jz28, getD_cons_zero → zz29, replicate_zero → yz29, drop_succ_cons → yz31, drop_nil → jz31, take_nil → zz32, length_drop → jz32
open Bool renaming false_eq_true → yz21, not_false → jz24, not_true → zz25, and_self → zz26, true_beq → jz30, false_beq → zz31, not_eq_true → zz33
open Option renaming map_some → zz22, map_none → jz23, bind_some → zz24
open Int renaming toNat_natCast → yz26, toNat_zero → jz29, toNat_one → zz30, cast_ofNat_Int → yz30
set_option linter.all false
section
namespace Go.Dx
open Go Go.Proofs
set_option maxRecDepth 8000
attribute [local congr] Q7 Q6 R2 P8 Q2 Q5 Q3
variable {l s : List UInt8} {H L : Heap} {K : DV → Heap → Prop} {i j k : Int} {r v : List UInt8} {ts : List Tok} {t : Tok} {vs : List (List UInt8 × List UInt8)}
def yz6 (fill : List UInt8 → Option (List UInt8)) (vs : List (List UInt8 × List UInt8)) : Nat → List Tok → List UInt8 → List UInt8 × Bool
  | 0,_,_ => ([],false)
  | _ + 1, [],acc => (acc,decide ((acc.length : Int) ≤ 400))
  | m + 1,t :: r,acc => if yz3 t.kind t.value = true then (match S6 [] (t :: r) 0 with
      | none => ([],false)
      | some n => match putT fill vs (r.take (n - 2)) with
        | none => ([],false)
        | some s => if 400 < (acc ++ s).length then ([],false) else yz6 fill vs m ((t :: r).drop n) (acc ++ s)) else yz6 fill vs m r (acc ++ t.raw)
def resF (n : Nat) (vs : List (List UInt8 × List UInt8)) (value : List UInt8) : List UInt8 × Bool := if 400 < value.length then ([],false) else yz6 (yz12 (n - 1) vs) vs ((U0 value).length + 1) (U0 value) []
def Same (o : Option (List UInt8)) (p : List UInt8 × Bool) : Prop := match o with | some q => p = (q,true) | none => p.2 = false
theorem res_same {fill : List UInt8 → Option (List UInt8)} : ∀ (m : Nat) (ts : List Tok) (acc : List UInt8),Same (X3 fill vs m ts acc) (yz6 fill vs m ts acc)
  | 0,_,_ => rfl
  | m + 1, [],acc => by
    simp only [X3,yz6]
    by_cases h : 400 < acc.length
    · rw [if_pos h]
      show decide ((acc.length : Int) ≤ 400) = false
      exact decide_eq_false (by omega)
    · rw [if_neg h]
      show (acc,decide ((acc.length : Int) ≤ 400)) = (acc,true)
      rw [decide_eq_true (by omega)]
  | m + 1,t :: r,acc => by
    simp only [X3,yz6]
    split
    · cases S6 [] (t :: r) 0 with
      | none => rfl
      | some n =>
        simp only
        cases putT fill vs (r.take (n - 2)) with
        | none => rfl
        | some s =>
          simp only
          split
          · rfl
          · exact res_same m _ _
    · exact res_same m _ _
theorem resF_same (n : Nat) (value : List UInt8) : Same (yz12 (n + 1) vs value) (resF (n + 1) vs value) := by
  rw [yz12,resF]
  split
  · rfl
  · exact res_same _ _ _
theorem res_var {fill : List UInt8 → Option (List UInt8)} {m : Nat} {acc : List UInt8} {ts : List Tok} (h : yz3 t.kind t.value = true) : yz6 fill vs (m + 1) (t :: ts) acc = (match S6 [] (t :: ts) 0 with
      | none => ([],false)
      | some n => match putT fill vs (ts.take (n - 2)) with
        | none => ([],false)
        | some s => if 400 < (acc ++ s).length then ([],false) else yz6 fill vs m ((t :: ts).drop n) (acc ++ s)) := by
  simp only [yz6,h,if_true]
theorem res_not {fill : List UInt8 → Option (List UInt8)} {m : Nat} {acc : List UInt8} {ts : List Tok} (h : yz3 t.kind t.value = false) : yz6 fill vs (m + 1) (t :: ts) acc = yz6 fill vs m ts (acc ++ t.raw) := by
  simp only [yz6,h,yz21,if_false]
theorem drop_get {a : Nat} {r : List Tok} (h : ts.drop a = t :: r) : a < ts.length ∧ ts.getD a tok0 = t ∧ ts.drop (a + 1) = r := by
  have hl := congrArg List.length h
  rw [jz32,zz20] at hl
  have hlt : a < ts.length := by omega
  rw [List.drop_eq_getElem_cons hlt] at h
  simp only [List.cons.injEq] at h
  refine ⟨hlt,?_,h.2⟩
  rw [List.getD_eq_getElem?_getD,List.getElem?_eq_getElem hlt]; exact h.1
theorem drop_nil_len {a : Nat} (h : ts.drop a = []) (h2 : a ≤ ts.length) : a = ts.length := by
  have := congrArg List.length h
  rw [jz32,yz25] at this; omega
def sh6 (ts : List Tok) (vs : List (List UInt8 × List UInt8)) (acc : List UInt8) (i : Int) (x : Nat → DV) : DS := ⟨[x 0,DV.imm (svs vs),x 2,x 3,x 4,x 5,DV.imm (S5 ts),strD acc,intD i,x 9,x 10,x 11,x 12,x 13,x 14,x 15,x 16,x 17,x 18,x 19,x 20,x 21,x 22,x 23,x 24,x 25,x 26,x 27,x 28,x 29,x 30,x 31,x 32,x 33,x 34,x 35,x 36,x 37,x 38,x 39,x 40,x 41,x 42,x 43,x 44,x 45,x 46,x 47,x 48,x 49,x 50,x 51,x 52,x 53,x 54,x 55,x 56,x 57,x 58,x 59,x 60,x 61,x 62,x 63,x 64,x 65,x 66,x 67,x 68,x 69,x 70,x 71,x 72,x 73,x 74,x 75,x 76,x 77,x 78,x 79,x 80,x 81,x 82,x 83,x 84,x 85,x 86,x 87,x 88,x 89,x 90,x 91,x 92,x 93,x 94,x 95,x 96,x 97,x 98,x 99,x 100,x 101,x 102,x 103,x 104,x 105,x 106,x 107,x 108,x 109,x 110,x 111,x 112,x 113,x 114,x 115,x 116,x 117,x 118,x 119,x 120,x 121,x 122,x 123,x 124,x 125,x 126,x 127], []⟩
def inv6 (fill : List UInt8 → Option (List UInt8)) (R : List UInt8 × Bool) (ts : List Tok) (vs : List (List UInt8 × List UInt8)) (n : Nat) (d : DS) : Prop := ∃ (i : Int) (acc : List UInt8) (m : Nat),d = sh6 ts vs acc i (fun k => d.sl.getD k P9) ∧ 0 ≤ i ∧ i ≤ ts.length ∧
  acc.length + R7 (ts.drop i.toNat) ≤ 400 + R7 ts ∧ (ts.length : Int) - i < m ∧ Hid (R = yz6 fill vs m (ts.drop i.toNat) acc) ∧ Hid (n = (ts.length - i).toNat)
set_option maxHeartbeats 4000000 in
theorem l6_0 {fill : List UInt8 → Option (List UInt8)} {R : List UInt8 × Bool} (T : Toks ts) (hsm : R7 ts ≤ 1000) (hvl : vs.length < 2 ^ 61) (hfl : ∀ ts q,putT fill vs ts = some q → q.length ≤ 140737488351232)
    (hp : ∀ (i n : Nat) name o,i < ts.length → askT ((ts.drop (i + 1)).take n) = some (name,some o) → ∃ p,Same (fill (S9 [] false o)) p ∧ PE Tryd.prog cfgV 6 [strD (S9 [] false o), .imm (svs vs)] (.tup [strD p.1,boD p.2]))
    {Q : Ex → DS → Prop} (hQ1 : ∀ d,(∃ acc,d = sh6 ts vs acc ts.length (fun k => d.sl.getD k P9) ∧ acc.length ≤ 1400 ∧ R = (acc,decide ((acc.length : Int) ≤ 400))) → Q (.exit 0) d)
    (hQ2 : R = ([],false) → ∀ d,d.sl.getD 4 P9 = strD [] → d.sl.getD 5 P9 = boD false → Q .ret d)
    {n : Nat} {d : DS} (hI : inv6 fill R ts vs n d) : runW Tryd.prog cfgV (.loop lp6_0) d Q := by
  refine V3 (inv6 fill R ts vs) ?_ hI
  rintro n d ⟨i,acc,m,hs,e1,e2,e3,e4,e5,e6⟩
  obtain ⟨x,rfl⟩ : ∃ x,d = sh6 ts vs acc i x := ⟨_,hs⟩
  clear hs
  dsimp only [lp6_0,sh6]
  have hlen := rawSum_length ts
  replace hQ1 := hid hQ1
  replace hQ2 := hid hQ2
  by_cases hi : i < ts.length
  · have hd := dropT e1 hi
    have iaT := fun (H : Heap) => ia_T (ts := ts) (H := H) e1 hi
    have hm := getD_mem (ts := ts) (i := i.toNat) (by omega)
    have hval := T.val _ hm
    have hraw := mem_raw ts _ hm
    obtain ⟨m,rfl⟩ : ∃ m',m = m' + 1 := ⟨m - 1,by omega⟩
    unfold Hid at e5
    have hdr : ts.drop i.toNat = ts.getD i.toNat tok0 :: ts.drop (i.toNat + 1) := by rw [hd,show (i + 1).toNat = i.toNat + 1 by omega]
    by_cases hv : yz3 (ts.getD i.toNat tok0).kind (ts.getD i.toNat tok0).value = true
    · have hop := var_open hv
      have call16 : ∀ (H : Heap) (K : DV → Heap → Prop),R4 Tryd.prog cfgV 16 [.imm (S5 ts),intD i] H K = K (intD (jz14 ts i.toNat : Int)) H := fun H K =>
        c16 T.ok (fun t ht => by have := mem_raw ts t ht; omega) (by omega) e1 hi
      have hbe := blk_stk (i := i.toNat) (by omega) hop
      have e5' := e5
      rw [hdr,res_var hv, ← hdr] at e5'
      clear e5
      cases hN : S6 [] (ts.drop i.toNat) 0 with
      | none =>
        rw [hN] at e5' hbe
        simp only at e5' hbe
        have hb0 : (jz14 ts i.toNat : Int) = 0 := by omega
        rw [hb0] at call16
        replace e5' := hid e5'
        clear hd hdr hop hm hp hfl hN hbe hb0
        repeat' (first | (simp (maxSteps := 10000000) -implicitDefEqProofs (disch := first | exact tStr | decide | omega | assumption | (simp only [zz20,yz25,yz20]; omega)) only [D3,G6,G4,A9,C9,G3,B4,A1,C6,B2,D4,G5,D6,C5,B1,G7,B7,B8,C0,D8,D9,A5,J8,H9,E0,E1,M2,M3,M5,M4,I3,I4,P2,E4,E6,I0,B5,M1,N8,M9,N2,N3,N4,N5,N6,N7,N1,J2,J3,J4,J5,J6,J1,I8,I7,I9,M0,K9,E3,L1,C3,O1,O2,G2,O9,N9,O0,B0,L8,D2,I2,zz28,yz28,jz28,zz29,yz23,zz23,jz22,yz27,jz19,yz29,zz20,yz25,Nat.reduceAdd,Nat.reduceSub,Nat.reduceLT,Nat.reduceEqDiff,zz22,jz23,if_true,if_false,yz21,decide_true,decide_false,zz25,jz24,reduceIte,List.getElem?_cons_succ,List.getElem?_cons_zero,UInt8.reduceOfNat,fin1,fin2,L2,O7,L3,O8,H3,H6,H4,L4,H5,L5,B6,A8,zz24,M7,H0,M6,G0,Option.some.injEq,DV.tup.injEq,jz29,zz30,Int.reduceToNat,yz30,and_true,true_and,beq_self_eq_true,jz30,zz31,not_true_eq_false,not_false_eq_true,M8,J7,J0,A6,L9,K6,A4,B9,D7,G9,O3,O4,K0,F2,F5,I5,I6,F7,F4,F3,F6,K1,K4,O5,O6,K3,K2,K5,F8,F9,E8,E2,J9,G1,C7,E9,L0,C4,I1,K8,K7,E7,P3,C8,B3,A0,L7,H8,E5,L6,H7,yz19,zz27,yz31,jz25,jz31,zz32,jz26,zz21,jz27,zz26,and_self,Nat.reduceLeDiff,jz18,exists_eq_left',yz24,jz21,Nat.reduceBEq,yz22,yz32,G8,A3,N0,Int.reduceLT,Int.reduceLE,Int.reduceEq,c15,P5,R6,P4,iaT,call16, *]) | with_reducible (first | refine C2 (fun h => ?_) fun h => ?_ | refine F1 (fun h => ?_) fun h => ?_ | refine C1 (fun h => ?_) fun h => ?_ | refine F0 (fun h => ?_) fun h => ?_ | refine A2 (fun h => ?_) fun h => ?_ | refine A7 (fun h => ?_) fun h => ?_) | (refine D5 ?_ ?_ ?_; (focus decide +kernel); (focus decide +kernel)))
        unfold Hid at hQ2 e5'
        exact hQ2 e5' _ rfl rfl
      | some n0 =>
        rw [hN] at e5' hbe
        simp only at e5' hbe
        have hn2 := stk_two (t := ts.getD i.toNat tok0) (r := ts.drop (i.toNat + 1)) hop (by rw [← hdr]; exact hN)
        rw [jz32] at hn2
        have hb0 : (jz14 ts i.toNat : Int) = i + n0 := by omega
        rw [hb0] at call16
        have hz : ¬ i + (n0 : Int) = 0 := by omega
        have hls : ∀ H : Heap,lslD H 4 (.imm (S5 ts)) (some (intD (i + 1))) (some (intD (i + (n0 : Int) - 1))) = .val (.imm (S5 ((ts.drop (i.toNat + 1)).take (n0 - 2)))) H := fun H => by
          rw [lsl_both (by omega) (by omega) (by omega),show (i + 1).toNat = i.toNat + 1 by omega,show (i + (n0 : Int) - 1 - (i + 1)).toNat = n0 - 2 by omega]
        have hfl' := fun q => hfl ((ts.drop (i.toNat + 1)).take (n0 - 2)) q
        have hp' := fun name o => hp i.toNat (n0 - 2) name o (by omega)
        have hdd : (ts.drop i.toNat).drop n0 = ts.drop (i + (n0 : Int)).toNat := by rw [List.drop_drop]; congr 1; omega
        have hinl : ((ts.drop (i.toNat + 1)).take (n0 - 2)).length ≤ ts.length := by rw [List.length_take,jz32]; omega
        have hins : R7 ((ts.drop (i.toNat + 1)).take (n0 - 2)) ≤ 1000 := by have := rawSum_take (n0 - 2) (ts.drop (i.toNat + 1)); have := U5 (i.toNat + 1) ts; omega
        have hino : ∀ t ∈ (ts.drop (i.toNat + 1)).take (n0 - 2),t.ok := fun t ht => T.ok t (List.mem_of_mem_drop (List.mem_of_mem_take ht))
        clear hfl hp hN hop hm hb0 hbe hd hdr
        generalize (ts.drop (i.toNat + 1)).take (n0 - 2) = inn at *
        have hal := silRun_le inn
        have call17a : ∀ (H : Heap) (K : DV → Heap → Prop),R4 Tryd.prog cfgV 17 [.imm (S5 inn),intD 0] H K = K (intD (Q4 inn : Int)) H := fun H K => by
          rw [c17 (by omega) (by omega) (by omega),jz29,jz25,Int.zero_add]
        have hask : askT inn = (match inn.drop (Q4 inn) with
          | [] => none
          | t :: r => if t.kind = 1 then (match r.drop (Q4 r) with
              | [] => some (t.value,none)
              | u :: q => if u.kind = 12 ∧ u.raw = [44] then some (t.value,some q) else none) else none) := rfl
        cases h1 : inn.drop (Q4 inn) with
        | nil =>
          rw [h1] at hask
          simp only at hask
          rw [put_none hask] at e5'
          simp only at e5'
          have hae : (Q4 inn : Int) = inn.length := by have := drop_nil_len h1 hal; omega
          clear hask hp' hfl' hdd hino h1 hal
          replace e5' := hid e5'
          repeat' (first | (simp (maxSteps := 10000000) -implicitDefEqProofs (disch := first | exact tStr | decide | omega | assumption | (simp only [zz20,yz25,yz20]; omega)) only [D3,G6,G4,A9,C9,G3,B4,A1,C6,B2,D4,G5,D6,C5,B1,G7,B7,B8,C0,D8,D9,A5,J8,H9,E0,E1,M2,M3,M5,M4,I3,I4,P2,E4,E6,I0,B5,M1,N8,M9,N2,N3,N4,N5,N6,N7,N1,J2,J3,J4,J5,J6,J1,I8,I7,I9,M0,K9,E3,L1,C3,O1,O2,G2,O9,N9,O0,B0,L8,D2,I2,zz28,yz28,jz28,zz29,yz23,zz23,jz22,yz27,jz19,yz29,zz20,yz25,Nat.reduceAdd,Nat.reduceSub,Nat.reduceLT,Nat.reduceEqDiff,zz22,jz23,if_true,if_false,yz21,decide_true,decide_false,zz25,jz24,reduceIte,List.getElem?_cons_succ,List.getElem?_cons_zero,UInt8.reduceOfNat,fin1,fin2,L2,O7,L3,O8,H3,H6,H4,L4,H5,L5,B6,A8,zz24,M7,H0,M6,G0,Option.some.injEq,DV.tup.injEq,jz29,zz30,Int.reduceToNat,yz30,and_true,true_and,beq_self_eq_true,jz30,zz31,not_true_eq_false,not_false_eq_true,M8,J7,J0,A6,L9,K6,A4,B9,D7,G9,O3,O4,K0,F2,F5,I5,I6,F7,F4,F3,F6,K1,K4,O5,O6,K3,K2,K5,F8,F9,E8,E2,J9,G1,C7,E9,L0,C4,I1,K8,K7,E7,P3,C8,B3,A0,L7,H8,E5,L6,H7,yz19,zz27,yz31,jz25,jz31,zz32,jz26,zz21,jz27,zz26,and_self,Nat.reduceLeDiff,jz18,exists_eq_left',yz24,jz21,Nat.reduceBEq,yz22,yz32,G8,A3,N0,Int.reduceLT,Int.reduceLE,Int.reduceEq,c15,P5,R6,P4,iaT,Q9,hls,call16,call17a, *]) | with_reducible (first | refine C2 (fun h => ?_) fun h => ?_ | refine F1 (fun h => ?_) fun h => ?_ | refine C1 (fun h => ?_) fun h => ?_ | refine F0 (fun h => ?_) fun h => ?_ | refine A2 (fun h => ?_) fun h => ?_ | refine A7 (fun h => ?_) fun h => ?_) | (refine D5 ?_ ?_ ?_; (focus decide +kernel); (focus decide +kernel)))
          unfold Hid at hQ2 e5'
          exact hQ2 e5' _ rfl rfl
        | cons t r =>
          obtain ⟨g1,g2,g3⟩ := drop_get h1
          rw [h1] at hask
          simp only at hask
          have hae : ¬ (Q4 inn : Int) = inn.length := by omega
          have iaA : ∀ H : Heap,iaD H 4 (.imm (S5 inn)) (intD (Q4 inn : Int)) = .val (.iptr [intD t.kind,strD t.raw,strD t.value,intD t.num]) H := fun H => by
            rw [ia_T (by omega) (by omega),yz26,g2]
          by_cases hk : t.kind = 1
          · rw [if_pos hk] at hask
            have hrl : r.length + Q4 inn + 1 = inn.length := by rw [← g3,jz32]; omega
            have hsr := silRun_le r
            have call17b : ∀ (H : Heap) (K : DV → Heap → Prop),R4 Tryd.prog cfgV 17 [.imm (S5 inn),intD ((Q4 inn : Int) + 1)] H K = K (intD ((Q4 inn + 1 + Q4 r : Nat) : Int)) H := fun H K => by
              rw [c17 (by omega) (by omega) (by omega),show ((Q4 inn : Int) + 1).toNat = Q4 inn + 1 by omega,g3]
              congr 2
            have hrd : inn.drop (Q4 inn + 1 + Q4 r) = r.drop (Q4 r) := by rw [← List.drop_drop,g3]
            have call18 : ∀ (H : Heap) (K : DV → Heap → Prop),R4 Tryd.prog cfgV 18 [.imm (svs vs),strD t.value] H K = K (lastD (Z1 vs t.value)) H := fun H K => c18 hvl
            cases h2 : r.drop (Q4 r) with
            | nil =>
              rw [h2] at hask hrd
              simp only at hask
              have hbe : ((Q4 inn + 1 + Q4 r : Nat) : Int) = inn.length := by have := drop_nil_len hrd (by omega); omega
              have hblt : ¬ ((Q4 inn + 1 + Q4 r : Nat) : Int) < inn.length := by omega
              clear h1 h2 hrd hp' hino g1 g2 g3
              generalize Q4 inn + 1 + Q4 r = bb at *
              cases hv2 : Z1 vs t.value with
              | none =>
                rw [put_no hask hv2] at e5'
                simp only at e5'
                rw [hv2] at call18
                simp only [lastD] at call18
                clear hask hfl' hdd hv2 hblt
                replace e5' := hid e5'
                repeat' (first | (simp (maxSteps := 10000000) -implicitDefEqProofs (disch := first | exact tStr | decide | omega | assumption | (simp only [zz20,yz25,yz20]; omega)) only [D3,G6,G4,A9,C9,G3,B4,A1,C6,B2,D4,G5,D6,C5,B1,G7,B7,B8,C0,D8,D9,A5,J8,H9,E0,E1,M2,M3,M5,M4,I3,I4,P2,E4,E6,I0,B5,M1,N8,M9,N2,N3,N4,N5,N6,N7,N1,J2,J3,J4,J5,J6,J1,I8,I7,I9,M0,K9,E3,L1,C3,O1,O2,G2,O9,N9,O0,B0,L8,D2,I2,zz28,yz28,jz28,zz29,yz23,zz23,jz22,yz27,jz19,yz29,zz20,yz25,Nat.reduceAdd,Nat.reduceSub,Nat.reduceLT,Nat.reduceEqDiff,zz22,jz23,if_true,if_false,yz21,decide_true,decide_false,zz25,jz24,reduceIte,List.getElem?_cons_succ,List.getElem?_cons_zero,UInt8.reduceOfNat,fin1,fin2,L2,O7,L3,O8,H3,H6,H4,L4,H5,L5,B6,A8,zz24,M7,H0,M6,G0,Option.some.injEq,DV.tup.injEq,jz29,zz30,Int.reduceToNat,yz30,and_true,true_and,beq_self_eq_true,jz30,zz31,not_true_eq_false,not_false_eq_true,M8,J7,J0,A6,L9,K6,A4,B9,D7,G9,O3,O4,K0,F2,F5,I5,I6,F7,F4,F3,F6,K1,K4,O5,O6,K3,K2,K5,F8,F9,E8,E2,J9,G1,C7,E9,L0,C4,I1,K8,K7,E7,P3,C8,B3,A0,L7,H8,E5,L6,H7,yz19,zz27,yz31,jz25,jz31,zz32,jz26,zz21,jz27,zz26,and_self,Nat.reduceLeDiff,jz18,exists_eq_left',yz24,jz21,Nat.reduceBEq,yz22,yz32,G8,A3,N0,Int.reduceLT,Int.reduceLE,Int.reduceEq,c15,P5,R6,P4,iaT,Q9,hls,call16,call17a,iaA,call17b,call18,List.getElem?_cons_zero,Int.lt_irrefl, *]) | with_reducible (first | refine C2 (fun h => ?_) fun h => ?_ | refine F1 (fun h => ?_) fun h => ?_ | refine C1 (fun h => ?_) fun h => ?_ | refine F0 (fun h => ?_) fun h => ?_ | refine A2 (fun h => ?_) fun h => ?_ | refine A7 (fun h => ?_) fun h => ?_) | (refine D5 ?_ ?_ ?_; (focus decide +kernel); (focus decide +kernel)))
                unfold Hid at hQ2 e5'
                exact hQ2 e5' _ rfl rfl
              | some w =>
                have hP := put_some (fill := fill) hask hv2
                rw [hv2] at call18
                simp only [lastD] at call18
                clear hask hv2 hbe
                have hql : w.length ≤ 140737488351232 := hfl' w hP
                have hrs := U5 i.toNat ts
                have hr2 : R7 (ts.drop (i + (n0 : Int)).toNat) ≤ R7 ts := U5 _ _
                rw [hP] at e5'
                simp only at e5'
                rw [hdd] at e5'
                clear hfl' hP hdd
                by_cases hg : 400 < (acc ++ w).length
                · rw [if_pos hg] at e5'
                  have hg' : (400 : Int) < ((acc ++ w).length : Int) := by omega
                  have hgs : acc.length + w.length < 2 ^ 63 := by omega
                  replace e5' := hid e5'
                  repeat' (first | (simp (maxSteps := 10000000) -implicitDefEqProofs (disch := first | exact tStr | decide | omega | assumption | (simp only [zz20,yz25,yz20]; omega)) only [D3,G6,G4,A9,C9,G3,B4,A1,C6,B2,D4,G5,D6,C5,B1,G7,B7,B8,C0,D8,D9,A5,J8,H9,E0,E1,M2,M3,M5,M4,I3,I4,P2,E4,E6,I0,B5,M1,N8,M9,N2,N3,N4,N5,N6,N7,N1,J2,J3,J4,J5,J6,J1,I8,I7,I9,M0,K9,E3,L1,C3,O1,O2,G2,O9,N9,O0,B0,L8,D2,I2,zz28,yz28,jz28,zz29,yz23,zz23,jz22,yz27,jz19,yz29,zz20,yz25,Nat.reduceAdd,Nat.reduceSub,Nat.reduceLT,Nat.reduceEqDiff,zz22,jz23,if_true,if_false,yz21,decide_true,decide_false,zz25,jz24,reduceIte,List.getElem?_cons_succ,List.getElem?_cons_zero,UInt8.reduceOfNat,fin1,fin2,L2,O7,L3,O8,H3,H6,H4,L4,H5,L5,B6,A8,zz24,M7,H0,M6,G0,Option.some.injEq,DV.tup.injEq,jz29,zz30,Int.reduceToNat,yz30,and_true,true_and,beq_self_eq_true,jz30,zz31,not_true_eq_false,not_false_eq_true,M8,J7,J0,A6,L9,K6,A4,B9,D7,G9,O3,O4,K0,F2,F5,I5,I6,F7,F4,F3,F6,K1,K4,O5,O6,K3,K2,K5,F8,F9,E8,E2,J9,G1,C7,E9,L0,C4,I1,K8,K7,E7,P3,C8,B3,A0,L7,H8,E5,L6,H7,yz19,zz27,yz31,jz25,jz31,zz32,jz26,zz21,jz27,zz26,and_self,Nat.reduceLeDiff,jz18,exists_eq_left',yz24,jz21,Nat.reduceBEq,yz22,yz32,G8,A3,N0,Int.reduceLT,Int.reduceLE,Int.reduceEq,c15,P5,R6,P4,iaT,Q9,hls,call16,call17a,iaA,call17b,call18,List.getElem?_cons_zero, *]) | with_reducible (first | refine C2 (fun h => ?_) fun h => ?_ | refine F1 (fun h => ?_) fun h => ?_ | refine C1 (fun h => ?_) fun h => ?_ | refine F0 (fun h => ?_) fun h => ?_ | refine A2 (fun h => ?_) fun h => ?_ | refine A7 (fun h => ?_) fun h => ?_) | (refine D5 ?_ ?_ ?_; (focus decide +kernel); (focus decide +kernel)))
                  unfold Hid at hQ2 e5'
                  exact hQ2 e5' _ rfl rfl
                · rw [if_neg hg] at e5'
                  have hg' : ¬ (400 : Int) < ((acc ++ w).length : Int) := by omega
                  have hgs : acc.length + w.length < 2 ^ 63 := by omega
                  replace e5' := hid e5'
                  repeat' (first | (simp (maxSteps := 10000000) -implicitDefEqProofs (disch := first | exact tStr | decide | omega | assumption | (simp only [zz20,yz25,yz20]; omega)) only [D3,G6,G4,A9,C9,G3,B4,A1,C6,B2,D4,G5,D6,C5,B1,G7,B7,B8,C0,D8,D9,A5,J8,H9,E0,E1,M2,M3,M5,M4,I3,I4,P2,E4,E6,I0,B5,M1,N8,M9,N2,N3,N4,N5,N6,N7,N1,J2,J3,J4,J5,J6,J1,I8,I7,I9,M0,K9,E3,L1,C3,O1,O2,G2,O9,N9,O0,B0,L8,D2,I2,zz28,yz28,jz28,zz29,yz23,zz23,jz22,yz27,jz19,yz29,zz20,yz25,Nat.reduceAdd,Nat.reduceSub,Nat.reduceLT,Nat.reduceEqDiff,zz22,jz23,if_true,if_false,yz21,decide_true,decide_false,zz25,jz24,reduceIte,List.getElem?_cons_succ,List.getElem?_cons_zero,UInt8.reduceOfNat,fin1,fin2,L2,O7,L3,O8,H3,H6,H4,L4,H5,L5,B6,A8,zz24,M7,H0,M6,G0,Option.some.injEq,DV.tup.injEq,jz29,zz30,Int.reduceToNat,yz30,and_true,true_and,beq_self_eq_true,jz30,zz31,not_true_eq_false,not_false_eq_true,M8,J7,J0,A6,L9,K6,A4,B9,D7,G9,O3,O4,K0,F2,F5,I5,I6,F7,F4,F3,F6,K1,K4,O5,O6,K3,K2,K5,F8,F9,E8,E2,J9,G1,C7,E9,L0,C4,I1,K8,K7,E7,P3,C8,B3,A0,L7,H8,E5,L6,H7,yz19,zz27,yz31,jz25,jz31,zz32,jz26,zz21,jz27,zz26,and_self,Nat.reduceLeDiff,jz18,exists_eq_left',yz24,jz21,Nat.reduceBEq,yz22,yz32,G8,A3,N0,Int.reduceLT,Int.reduceLE,Int.reduceEq,c15,P5,R6,P4,iaT,Q9,hls,call16,call17a,iaA,call17b,call18,List.getElem?_cons_zero, *]) | with_reducible (first | refine C2 (fun h => ?_) fun h => ?_ | refine F1 (fun h => ?_) fun h => ?_ | refine C1 (fun h => ?_) fun h => ?_ | refine F0 (fun h => ?_) fun h => ?_ | refine A2 (fun h => ?_) fun h => ?_ | refine A7 (fun h => ?_) fun h => ?_) | (refine D5 ?_ ?_ ?_; (focus decide +kernel); (focus decide +kernel)))
                  exact ⟨(ts.length - (i + (n0 : Int)) : Int).toNat,by unfold Hid at e6; omega,i + (n0 : Int),_,m,by rw [show i + (n0 : Int) - 1 + 1 = i + n0 by omega]; rfl,by omega,by omega,by omega,by omega,e5',rfl⟩
            | cons u q =>
              rw [h2] at hask hrd
              simp only at hask
              obtain ⟨f1,f2,f3⟩ := drop_get hrd
              have hun : u ∈ inn := by rw [← f2]; exact getD_mem f1
              have huc := (hino u hun).comma
              have hbe : ¬ ((Q4 inn + 1 + Q4 r : Nat) : Int) = inn.length := by omega
              have hblt : ((Q4 inn + 1 + Q4 r : Nat) : Int) < inn.length := by omega
              have iaB : ∀ H : Heap,iaD H 4 (.imm (S5 inn)) (intD ((Q4 inn + 1 + Q4 r : Nat) : Int)) = .val (.iptr [intD u.kind,strD u.raw,strD u.value,intD u.num]) H := fun H => by
                rw [ia_T (by omega) (by omega),yz26,f2]
              have hlsq : ∀ H : Heap,lslD H 4 (.imm (S5 inn)) (some (intD (((Q4 inn + 1 + Q4 r : Nat) : Int) + 1))) none = .val (.imm (S5 q)) H := fun H => by
                rw [lsl_lo (by omega) (by omega),show (((Q4 inn + 1 + Q4 r : Nat) : Int) + 1).toNat = Q4 inn + 1 + Q4 r + 1 by omega,f3]
              have hqs : R7 q < 2 ^ 39 := by rw [← f3]; have := U5 (Q4 inn + 1 + Q4 r + 1) inn; omega
              have hql : q.length < 2 ^ 31 := by rw [← f3,jz32]; omega
              clear h1 h2 hrd hino g1 g2 g3 f1 f2 f3 hun
              generalize Q4 inn + 1 + Q4 r = bb at *
              by_cases hu : u.raw = [44]
              · rw [if_pos ⟨huc hu,hu⟩] at hask
                have hp'' := hp' _ _ hask
                clear hp' huc
                cases hv2 : Z1 vs t.value with
                | some w =>
                  have hP := put_some (fill := fill) hask hv2
                  rw [hv2] at call18
                  simp only [lastD] at call18
                  clear hask hv2 hp'' hbe
                  have hql : w.length ≤ 140737488351232 := hfl' w hP
                  have hrs := U5 i.toNat ts
                  have hr2 : R7 (ts.drop (i + (n0 : Int)).toNat) ≤ R7 ts := U5 _ _
                  rw [hP] at e5'
                  simp only at e5'
                  rw [hdd] at e5'
                  clear hfl' hP hdd
                  by_cases hg : 400 < (acc ++ w).length
                  · rw [if_pos hg] at e5'
                    have hg' : (400 : Int) < ((acc ++ w).length : Int) := by omega
                    have hgs : acc.length + w.length < 2 ^ 63 := by omega
                    replace e5' := hid e5'
                    repeat' (first | (simp (maxSteps := 10000000) -implicitDefEqProofs (disch := first | exact tStr | decide | omega | assumption | (simp only [zz20,yz25,yz20]; omega)) only [D3,G6,G4,A9,C9,G3,B4,A1,C6,B2,D4,G5,D6,C5,B1,G7,B7,B8,C0,D8,D9,A5,J8,H9,E0,E1,M2,M3,M5,M4,I3,I4,P2,E4,E6,I0,B5,M1,N8,M9,N2,N3,N4,N5,N6,N7,N1,J2,J3,J4,J5,J6,J1,I8,I7,I9,M0,K9,E3,L1,C3,O1,O2,G2,O9,N9,O0,B0,L8,D2,I2,zz28,yz28,jz28,zz29,yz23,zz23,jz22,yz27,jz19,yz29,zz20,yz25,Nat.reduceAdd,Nat.reduceSub,Nat.reduceLT,Nat.reduceEqDiff,zz22,jz23,if_true,if_false,yz21,decide_true,decide_false,zz25,jz24,reduceIte,List.getElem?_cons_succ,List.getElem?_cons_zero,UInt8.reduceOfNat,fin1,fin2,L2,O7,L3,O8,H3,H6,H4,L4,H5,L5,B6,A8,zz24,M7,H0,M6,G0,Option.some.injEq,DV.tup.injEq,jz29,zz30,Int.reduceToNat,yz30,and_true,true_and,beq_self_eq_true,jz30,zz31,not_true_eq_false,not_false_eq_true,M8,J7,J0,A6,L9,K6,A4,B9,D7,G9,O3,O4,K0,F2,F5,I5,I6,F7,F4,F3,F6,K1,K4,O5,O6,K3,K2,K5,F8,F9,E8,E2,J9,G1,C7,E9,L0,C4,I1,K8,K7,E7,P3,C8,B3,A0,L7,H8,E5,L6,H7,yz19,zz27,yz31,jz25,jz31,zz32,jz26,zz21,jz27,zz26,and_self,Nat.reduceLeDiff,jz18,exists_eq_left',yz24,jz21,Nat.reduceBEq,yz22,yz32,G8,A3,N0,Int.reduceLT,Int.reduceLE,Int.reduceEq,c15,P5,R6,P4,iaT,Q9,hls,call16,call17a,iaA,call17b,call18,List.getElem?_cons_zero,iaB, *]) | with_reducible (first | refine C2 (fun h => ?_) fun h => ?_ | refine F1 (fun h => ?_) fun h => ?_ | refine C1 (fun h => ?_) fun h => ?_ | refine F0 (fun h => ?_) fun h => ?_ | refine A2 (fun h => ?_) fun h => ?_ | refine A7 (fun h => ?_) fun h => ?_) | (refine D5 ?_ ?_ ?_; (focus decide +kernel); (focus decide +kernel)))
                    unfold Hid at hQ2 e5'
                    exact hQ2 e5' _ rfl rfl
                  · rw [if_neg hg] at e5'
                    have hg' : ¬ (400 : Int) < ((acc ++ w).length : Int) := by omega
                    have hgs : acc.length + w.length < 2 ^ 63 := by omega
                    replace e5' := hid e5'
                    repeat' (first | (simp (maxSteps := 10000000) -implicitDefEqProofs (disch := first | exact tStr | decide | omega | assumption | (simp only [zz20,yz25,yz20]; omega)) only [D3,G6,G4,A9,C9,G3,B4,A1,C6,B2,D4,G5,D6,C5,B1,G7,B7,B8,C0,D8,D9,A5,J8,H9,E0,E1,M2,M3,M5,M4,I3,I4,P2,E4,E6,I0,B5,M1,N8,M9,N2,N3,N4,N5,N6,N7,N1,J2,J3,J4,J5,J6,J1,I8,I7,I9,M0,K9,E3,L1,C3,O1,O2,G2,O9,N9,O0,B0,L8,D2,I2,zz28,yz28,jz28,zz29,yz23,zz23,jz22,yz27,jz19,yz29,zz20,yz25,Nat.reduceAdd,Nat.reduceSub,Nat.reduceLT,Nat.reduceEqDiff,zz22,jz23,if_true,if_false,yz21,decide_true,decide_false,zz25,jz24,reduceIte,List.getElem?_cons_succ,List.getElem?_cons_zero,UInt8.reduceOfNat,fin1,fin2,L2,O7,L3,O8,H3,H6,H4,L4,H5,L5,B6,A8,zz24,M7,H0,M6,G0,Option.some.injEq,DV.tup.injEq,jz29,zz30,Int.reduceToNat,yz30,and_true,true_and,beq_self_eq_true,jz30,zz31,not_true_eq_false,not_false_eq_true,M8,J7,J0,A6,L9,K6,A4,B9,D7,G9,O3,O4,K0,F2,F5,I5,I6,F7,F4,F3,F6,K1,K4,O5,O6,K3,K2,K5,F8,F9,E8,E2,J9,G1,C7,E9,L0,C4,I1,K8,K7,E7,P3,C8,B3,A0,L7,H8,E5,L6,H7,yz19,zz27,yz31,jz25,jz31,zz32,jz26,zz21,jz27,zz26,and_self,Nat.reduceLeDiff,jz18,exists_eq_left',yz24,jz21,Nat.reduceBEq,yz22,yz32,G8,A3,N0,Int.reduceLT,Int.reduceLE,Int.reduceEq,c15,P5,R6,P4,iaT,Q9,hls,call16,call17a,iaA,call17b,call18,List.getElem?_cons_zero,iaB, *]) | with_reducible (first | refine C2 (fun h => ?_) fun h => ?_ | refine F1 (fun h => ?_) fun h => ?_ | refine C1 (fun h => ?_) fun h => ?_ | refine F0 (fun h => ?_) fun h => ?_ | refine A2 (fun h => ?_) fun h => ?_ | refine A7 (fun h => ?_) fun h => ?_) | (refine D5 ?_ ?_ ?_; (focus decide +kernel); (focus decide +kernel)))
                    exact ⟨(ts.length - (i + (n0 : Int)) : Int).toNat,by unfold Hid at e6; omega,i + (n0 : Int),_,m,by rw [show i + (n0 : Int) - 1 + 1 = i + n0 by omega]; rfl,by omega,by omega,by omega,by omega,e5',rfl⟩
                | none =>
                  rw [hv2] at call18
                  simp only [lastD] at call18
                  obtain ⟨p,hsame,hpe⟩ := hp''
                  have call6 : ∀ (H : Heap) (K : DV → Heap → Prop),R4 Tryd.prog cfgV 6 [strD (S9 [] false q), .imm (svs vs)] H K = K (.tup [strD p.1,boD p.2]) H := fun H K =>
                    T7 rfl (by simp only [zz21,jz27,plain_S,Bool.and_true]; rfl) hpe H K
                  have call19 : ∀ (H : Heap) (K : DV → Heap → Prop),R4 Tryd.prog cfgV 19 [.imm (S5 q)] H K = K (strD (S9 [] false q)) H := fun H K => c19 hql hqs
                  have hP0 := put_fill (fill := fill) hask hv2
                  clear hask hv2 hpe
                  cases hf : fill (S9 [] false q) with
                  | none =>
                    rw [hf] at hsame hP0
                    have hs2 : p.2 = false := hsame
                    rw [hP0] at e5'
                    simp only at e5'
                    rw [hs2] at call6
                    clear hsame hP0 hf hs2 hfl' hdd
                    replace e5' := hid e5'
                    repeat' (first | (simp (maxSteps := 10000000) -implicitDefEqProofs (disch := first | exact tStr | decide | omega | assumption | (simp only [zz20,yz25,yz20]; omega)) only [D3,G6,G4,A9,C9,G3,B4,A1,C6,B2,D4,G5,D6,C5,B1,G7,B7,B8,C0,D8,D9,A5,J8,H9,E0,E1,M2,M3,M5,M4,I3,I4,P2,E4,E6,I0,B5,M1,N8,M9,N2,N3,N4,N5,N6,N7,N1,J2,J3,J4,J5,J6,J1,I8,I7,I9,M0,K9,E3,L1,C3,O1,O2,G2,O9,N9,O0,B0,L8,D2,I2,zz28,yz28,jz28,zz29,yz23,zz23,jz22,yz27,jz19,yz29,zz20,yz25,Nat.reduceAdd,Nat.reduceSub,Nat.reduceLT,Nat.reduceEqDiff,zz22,jz23,if_true,if_false,yz21,decide_true,decide_false,zz25,jz24,reduceIte,List.getElem?_cons_succ,List.getElem?_cons_zero,UInt8.reduceOfNat,fin1,fin2,L2,O7,L3,O8,H3,H6,H4,L4,H5,L5,B6,A8,zz24,M7,H0,M6,G0,Option.some.injEq,DV.tup.injEq,jz29,zz30,Int.reduceToNat,yz30,and_true,true_and,beq_self_eq_true,jz30,zz31,not_true_eq_false,not_false_eq_true,M8,J7,J0,A6,L9,K6,A4,B9,D7,G9,O3,O4,K0,F2,F5,I5,I6,F7,F4,F3,F6,K1,K4,O5,O6,K3,K2,K5,F8,F9,E8,E2,J9,G1,C7,E9,L0,C4,I1,K8,K7,E7,P3,C8,B3,A0,L7,H8,E5,L6,H7,yz19,zz27,yz31,jz25,jz31,zz32,jz26,zz21,jz27,zz26,and_self,Nat.reduceLeDiff,jz18,exists_eq_left',yz24,jz21,Nat.reduceBEq,yz22,yz32,G8,A3,N0,Int.reduceLT,Int.reduceLE,Int.reduceEq,c15,P5,R6,P4,iaT,Q9,hls,call16,call17a,iaA,call17b,call18,List.getElem?_cons_zero,iaB,hlsq,call6,call19, *]) | with_reducible (first | refine C2 (fun h => ?_) fun h => ?_ | refine F1 (fun h => ?_) fun h => ?_ | refine C1 (fun h => ?_) fun h => ?_ | refine F0 (fun h => ?_) fun h => ?_ | refine A2 (fun h => ?_) fun h => ?_ | refine A7 (fun h => ?_) fun h => ?_) | (refine D5 ?_ ?_ ?_; (focus decide +kernel); (focus decide +kernel)))
                    unfold Hid at hQ2 e5'
                    exact hQ2 e5' _ rfl rfl
                  | some w =>
                    rw [hf] at hsame hP0
                    have hs2 : p = (w,true) := hsame
                    subst hs2
                    have hP := hP0
                    simp only at call6
                    clear hsame hP0 hf
                    have hql : w.length ≤ 140737488351232 := hfl' w hP
                    have hrs := U5 i.toNat ts
                    have hr2 : R7 (ts.drop (i + (n0 : Int)).toNat) ≤ R7 ts := U5 _ _
                    rw [hP] at e5'
                    simp only at e5'
                    rw [hdd] at e5'
                    clear hfl' hP hdd
                    by_cases hg : 400 < (acc ++ w).length
                    · rw [if_pos hg] at e5'
                      have hg' : (400 : Int) < ((acc ++ w).length : Int) := by omega
                      have hgs : acc.length + w.length < 2 ^ 63 := by omega
                      replace e5' := hid e5'
                      repeat' (first | (simp (maxSteps := 10000000) -implicitDefEqProofs (disch := first | exact tStr | decide | omega | assumption | (simp only [zz20,yz25,yz20]; omega)) only [D3,G6,G4,A9,C9,G3,B4,A1,C6,B2,D4,G5,D6,C5,B1,G7,B7,B8,C0,D8,D9,A5,J8,H9,E0,E1,M2,M3,M5,M4,I3,I4,P2,E4,E6,I0,B5,M1,N8,M9,N2,N3,N4,N5,N6,N7,N1,J2,J3,J4,J5,J6,J1,I8,I7,I9,M0,K9,E3,L1,C3,O1,O2,G2,O9,N9,O0,B0,L8,D2,I2,zz28,yz28,jz28,zz29,yz23,zz23,jz22,yz27,jz19,yz29,zz20,yz25,Nat.reduceAdd,Nat.reduceSub,Nat.reduceLT,Nat.reduceEqDiff,zz22,jz23,if_true,if_false,yz21,decide_true,decide_false,zz25,jz24,reduceIte,List.getElem?_cons_succ,List.getElem?_cons_zero,UInt8.reduceOfNat,fin1,fin2,L2,O7,L3,O8,H3,H6,H4,L4,H5,L5,B6,A8,zz24,M7,H0,M6,G0,Option.some.injEq,DV.tup.injEq,jz29,zz30,Int.reduceToNat,yz30,and_true,true_and,beq_self_eq_true,jz30,zz31,not_true_eq_false,not_false_eq_true,M8,J7,J0,A6,L9,K6,A4,B9,D7,G9,O3,O4,K0,F2,F5,I5,I6,F7,F4,F3,F6,K1,K4,O5,O6,K3,K2,K5,F8,F9,E8,E2,J9,G1,C7,E9,L0,C4,I1,K8,K7,E7,P3,C8,B3,A0,L7,H8,E5,L6,H7,yz19,zz27,yz31,jz25,jz31,zz32,jz26,zz21,jz27,zz26,and_self,Nat.reduceLeDiff,jz18,exists_eq_left',yz24,jz21,Nat.reduceBEq,yz22,yz32,G8,A3,N0,Int.reduceLT,Int.reduceLE,Int.reduceEq,c15,P5,R6,P4,iaT,Q9,hls,call16,call17a,iaA,call17b,call18,List.getElem?_cons_zero,iaB,hlsq,call6,call19, *]) | with_reducible (first | refine C2 (fun h => ?_) fun h => ?_ | refine F1 (fun h => ?_) fun h => ?_ | refine C1 (fun h => ?_) fun h => ?_ | refine F0 (fun h => ?_) fun h => ?_ | refine A2 (fun h => ?_) fun h => ?_ | refine A7 (fun h => ?_) fun h => ?_) | (refine D5 ?_ ?_ ?_; (focus decide +kernel); (focus decide +kernel)))
                      unfold Hid at hQ2 e5'
                      exact hQ2 e5' _ rfl rfl
                    · rw [if_neg hg] at e5'
                      have hg' : ¬ (400 : Int) < ((acc ++ w).length : Int) := by omega
                      have hgs : acc.length + w.length < 2 ^ 63 := by omega
                      replace e5' := hid e5'
                      repeat' (first | (simp (maxSteps := 10000000) -implicitDefEqProofs (disch := first | exact tStr | decide | omega | assumption | (simp only [zz20,yz25,yz20]; omega)) only [D3,G6,G4,A9,C9,G3,B4,A1,C6,B2,D4,G5,D6,C5,B1,G7,B7,B8,C0,D8,D9,A5,J8,H9,E0,E1,M2,M3,M5,M4,I3,I4,P2,E4,E6,I0,B5,M1,N8,M9,N2,N3,N4,N5,N6,N7,N1,J2,J3,J4,J5,J6,J1,I8,I7,I9,M0,K9,E3,L1,C3,O1,O2,G2,O9,N9,O0,B0,L8,D2,I2,zz28,yz28,jz28,zz29,yz23,zz23,jz22,yz27,jz19,yz29,zz20,yz25,Nat.reduceAdd,Nat.reduceSub,Nat.reduceLT,Nat.reduceEqDiff,zz22,jz23,if_true,if_false,yz21,decide_true,decide_false,zz25,jz24,reduceIte,List.getElem?_cons_succ,List.getElem?_cons_zero,UInt8.reduceOfNat,fin1,fin2,L2,O7,L3,O8,H3,H6,H4,L4,H5,L5,B6,A8,zz24,M7,H0,M6,G0,Option.some.injEq,DV.tup.injEq,jz29,zz30,Int.reduceToNat,yz30,and_true,true_and,beq_self_eq_true,jz30,zz31,not_true_eq_false,not_false_eq_true,M8,J7,J0,A6,L9,K6,A4,B9,D7,G9,O3,O4,K0,F2,F5,I5,I6,F7,F4,F3,F6,K1,K4,O5,O6,K3,K2,K5,F8,F9,E8,E2,J9,G1,C7,E9,L0,C4,I1,K8,K7,E7,P3,C8,B3,A0,L7,H8,E5,L6,H7,yz19,zz27,yz31,jz25,jz31,zz32,jz26,zz21,jz27,zz26,and_self,Nat.reduceLeDiff,jz18,exists_eq_left',yz24,jz21,Nat.reduceBEq,yz22,yz32,G8,A3,N0,Int.reduceLT,Int.reduceLE,Int.reduceEq,c15,P5,R6,P4,iaT,Q9,hls,call16,call17a,iaA,call17b,call18,List.getElem?_cons_zero,iaB,hlsq,call6,call19, *]) | with_reducible (first | refine C2 (fun h => ?_) fun h => ?_ | refine F1 (fun h => ?_) fun h => ?_ | refine C1 (fun h => ?_) fun h => ?_ | refine F0 (fun h => ?_) fun h => ?_ | refine A2 (fun h => ?_) fun h => ?_ | refine A7 (fun h => ?_) fun h => ?_) | (refine D5 ?_ ?_ ?_; (focus decide +kernel); (focus decide +kernel)))
                      exact ⟨(ts.length - (i + (n0 : Int)) : Int).toNat,by unfold Hid at e6; omega,i + (n0 : Int),_,m,by rw [show i + (n0 : Int) - 1 + 1 = i + n0 by omega]; rfl,by omega,by omega,by omega,by omega,e5',rfl⟩
              · rw [if_neg (fun e => hu e.2)] at hask
                rw [put_none hask] at e5'
                simp only at e5'
                clear hask hp' hfl' hdd huc hbe
                replace e5' := hid e5'
                repeat' (first | (simp (maxSteps := 10000000) -implicitDefEqProofs (disch := first | exact tStr | decide | omega | assumption | (simp only [zz20,yz25,yz20]; omega)) only [D3,G6,G4,A9,C9,G3,B4,A1,C6,B2,D4,G5,D6,C5,B1,G7,B7,B8,C0,D8,D9,A5,J8,H9,E0,E1,M2,M3,M5,M4,I3,I4,P2,E4,E6,I0,B5,M1,N8,M9,N2,N3,N4,N5,N6,N7,N1,J2,J3,J4,J5,J6,J1,I8,I7,I9,M0,K9,E3,L1,C3,O1,O2,G2,O9,N9,O0,B0,L8,D2,I2,zz28,yz28,jz28,zz29,yz23,zz23,jz22,yz27,jz19,yz29,zz20,yz25,Nat.reduceAdd,Nat.reduceSub,Nat.reduceLT,Nat.reduceEqDiff,zz22,jz23,if_true,if_false,yz21,decide_true,decide_false,zz25,jz24,reduceIte,List.getElem?_cons_succ,List.getElem?_cons_zero,UInt8.reduceOfNat,fin1,fin2,L2,O7,L3,O8,H3,H6,H4,L4,H5,L5,B6,A8,zz24,M7,H0,M6,G0,Option.some.injEq,DV.tup.injEq,jz29,zz30,Int.reduceToNat,yz30,and_true,true_and,beq_self_eq_true,jz30,zz31,not_true_eq_false,not_false_eq_true,M8,J7,J0,A6,L9,K6,A4,B9,D7,G9,O3,O4,K0,F2,F5,I5,I6,F7,F4,F3,F6,K1,K4,O5,O6,K3,K2,K5,F8,F9,E8,E2,J9,G1,C7,E9,L0,C4,I1,K8,K7,E7,P3,C8,B3,A0,L7,H8,E5,L6,H7,yz19,zz27,yz31,jz25,jz31,zz32,jz26,zz21,jz27,zz26,and_self,Nat.reduceLeDiff,jz18,exists_eq_left',yz24,jz21,Nat.reduceBEq,yz22,yz32,G8,A3,N0,Int.reduceLT,Int.reduceLE,Int.reduceEq,c15,P5,R6,P4,iaT,Q9,hls,call16,call17a,iaA,call17b,call18,List.getElem?_cons_zero,iaB, *]) | with_reducible (first | refine C2 (fun h => ?_) fun h => ?_ | refine F1 (fun h => ?_) fun h => ?_ | refine C1 (fun h => ?_) fun h => ?_ | refine F0 (fun h => ?_) fun h => ?_ | refine A2 (fun h => ?_) fun h => ?_ | refine A7 (fun h => ?_) fun h => ?_) | (refine D5 ?_ ?_ ?_; (focus decide +kernel); (focus decide +kernel)))
                unfold Hid at hQ2 e5'
                exact hQ2 e5' _ rfl rfl
          · rw [if_neg hk] at hask
            rw [put_none hask] at e5'
            simp only at e5'
            clear hask hp' hfl' hdd hino h1 g1 g2 g3 hal
            replace e5' := hid e5'
            repeat' (first | (simp (maxSteps := 10000000) -implicitDefEqProofs (disch := first | exact tStr | decide | omega | assumption | (simp only [zz20,yz25,yz20]; omega)) only [D3,G6,G4,A9,C9,G3,B4,A1,C6,B2,D4,G5,D6,C5,B1,G7,B7,B8,C0,D8,D9,A5,J8,H9,E0,E1,M2,M3,M5,M4,I3,I4,P2,E4,E6,I0,B5,M1,N8,M9,N2,N3,N4,N5,N6,N7,N1,J2,J3,J4,J5,J6,J1,I8,I7,I9,M0,K9,E3,L1,C3,O1,O2,G2,O9,N9,O0,B0,L8,D2,I2,zz28,yz28,jz28,zz29,yz23,zz23,jz22,yz27,jz19,yz29,zz20,yz25,Nat.reduceAdd,Nat.reduceSub,Nat.reduceLT,Nat.reduceEqDiff,zz22,jz23,if_true,if_false,yz21,decide_true,decide_false,zz25,jz24,reduceIte,List.getElem?_cons_succ,List.getElem?_cons_zero,UInt8.reduceOfNat,fin1,fin2,L2,O7,L3,O8,H3,H6,H4,L4,H5,L5,B6,A8,zz24,M7,H0,M6,G0,Option.some.injEq,DV.tup.injEq,jz29,zz30,Int.reduceToNat,yz30,and_true,true_and,beq_self_eq_true,jz30,zz31,not_true_eq_false,not_false_eq_true,M8,J7,J0,A6,L9,K6,A4,B9,D7,G9,O3,O4,K0,F2,F5,I5,I6,F7,F4,F3,F6,K1,K4,O5,O6,K3,K2,K5,F8,F9,E8,E2,J9,G1,C7,E9,L0,C4,I1,K8,K7,E7,P3,C8,B3,A0,L7,H8,E5,L6,H7,yz19,zz27,yz31,jz25,jz31,zz32,jz26,zz21,jz27,zz26,and_self,Nat.reduceLeDiff,jz18,exists_eq_left',yz24,jz21,Nat.reduceBEq,yz22,yz32,G8,A3,N0,Int.reduceLT,Int.reduceLE,Int.reduceEq,c15,P5,R6,P4,iaT,Q9,hls,call16,call17a,iaA, *]) | with_reducible (first | refine C2 (fun h => ?_) fun h => ?_ | refine F1 (fun h => ?_) fun h => ?_ | refine C1 (fun h => ?_) fun h => ?_ | refine F0 (fun h => ?_) fun h => ?_ | refine A2 (fun h => ?_) fun h => ?_ | refine A7 (fun h => ?_) fun h => ?_) | (refine D5 ?_ ?_ ?_; (focus decide +kernel); (focus decide +kernel)))
            unfold Hid at hQ2 e5'
            exact hQ2 e5' _ rfl rfl
    · have hv' := zz33 _ ▸ hv
      rw [hd,res_not hv'] at e5
      rw [hd,R7] at e3
      replace e5 := hid e5
      clear hd hdr hv hm hp hfl
      repeat' (first | (simp (maxSteps := 10000000) -implicitDefEqProofs (disch := first | exact tStr | decide | omega | assumption | (simp only [zz20,yz25,yz20]; omega)) only [D3,G6,G4,A9,C9,G3,B4,A1,C6,B2,D4,G5,D6,C5,B1,G7,B7,B8,C0,D8,D9,A5,J8,H9,E0,E1,M2,M3,M5,M4,I3,I4,P2,E4,E6,I0,B5,M1,N8,M9,N2,N3,N4,N5,N6,N7,N1,J2,J3,J4,J5,J6,J1,I8,I7,I9,M0,K9,E3,L1,C3,O1,O2,G2,O9,N9,O0,B0,L8,D2,I2,zz28,yz28,jz28,zz29,yz23,zz23,jz22,yz27,jz19,yz29,zz20,yz25,Nat.reduceAdd,Nat.reduceSub,Nat.reduceLT,Nat.reduceEqDiff,zz22,jz23,if_true,if_false,yz21,decide_true,decide_false,zz25,jz24,reduceIte,List.getElem?_cons_succ,List.getElem?_cons_zero,UInt8.reduceOfNat,fin1,fin2,L2,O7,L3,O8,H3,H6,H4,L4,H5,L5,B6,A8,zz24,M7,H0,M6,G0,Option.some.injEq,DV.tup.injEq,jz29,zz30,Int.reduceToNat,yz30,and_true,true_and,beq_self_eq_true,jz30,zz31,not_true_eq_false,not_false_eq_true,M8,J7,J0,A6,L9,K6,A4,B9,D7,G9,O3,O4,K0,F2,F5,I5,I6,F7,F4,F3,F6,K1,K4,O5,O6,K3,K2,K5,F8,F9,E8,E2,J9,G1,C7,E9,L0,C4,I1,K8,K7,E7,P3,C8,B3,A0,L7,H8,E5,L6,H7,yz19,zz27,yz31,jz25,jz31,zz32,jz26,zz21,jz27,zz26,and_self,Nat.reduceLeDiff,jz18,exists_eq_left',yz24,jz21,Nat.reduceBEq,yz22,yz32,G8,A3,N0,Int.reduceLT,Int.reduceLE,Int.reduceEq,c15,P5,R6,P4,iaT, *]) | with_reducible (first | refine C2 (fun h => ?_) fun h => ?_ | refine F1 (fun h => ?_) fun h => ?_ | refine C1 (fun h => ?_) fun h => ?_ | refine F0 (fun h => ?_) fun h => ?_ | refine A2 (fun h => ?_) fun h => ?_ | refine A7 (fun h => ?_) fun h => ?_) | (refine D5 ?_ ?_ ?_; (focus decide +kernel); (focus decide +kernel)))
      exact ⟨(ts.length - (i + 1) : Int).toNat,by unfold Hid at e6; omega,i + 1,_,m,rfl,by omega,by omega,by simp only [yz20]; omega,by omega,e5,rfl⟩
  · obtain ⟨m,rfl⟩ : ∃ m',m = m' + 1 := ⟨m - 1,by omega⟩
    unfold Hid at e5
    rw [jz9 hi e1] at e3 e5
    simp only [R7,yz6] at e3 e5
    replace e5 := hid e5
    clear hp hfl
    repeat' (first | (simp (maxSteps := 10000000) -implicitDefEqProofs (disch := first | exact tStr | decide | omega | assumption | (simp only [zz20,yz25,yz20]; omega)) only [D3,G6,G4,A9,C9,G3,B4,A1,C6,B2,D4,G5,D6,C5,B1,G7,B7,B8,C0,D8,D9,A5,J8,H9,E0,E1,M2,M3,M5,M4,I3,I4,P2,E4,E6,I0,B5,M1,N8,M9,N2,N3,N4,N5,N6,N7,N1,J2,J3,J4,J5,J6,J1,I8,I7,I9,M0,K9,E3,L1,C3,O1,O2,G2,O9,N9,O0,B0,L8,D2,I2,zz28,yz28,jz28,zz29,yz23,zz23,jz22,yz27,jz19,yz29,zz20,yz25,Nat.reduceAdd,Nat.reduceSub,Nat.reduceLT,Nat.reduceEqDiff,zz22,jz23,if_true,if_false,yz21,decide_true,decide_false,zz25,jz24,reduceIte,List.getElem?_cons_succ,List.getElem?_cons_zero,UInt8.reduceOfNat,fin1,fin2,L2,O7,L3,O8,H3,H6,H4,L4,H5,L5,B6,A8,zz24,M7,H0,M6,G0,Option.some.injEq,DV.tup.injEq,jz29,zz30,Int.reduceToNat,yz30,and_true,true_and,beq_self_eq_true,jz30,zz31,not_true_eq_false,not_false_eq_true,M8,J7,J0,A6,L9,K6,A4,B9,D7,G9,O3,O4,K0,F2,F5,I5,I6,F7,F4,F3,F6,K1,K4,O5,O6,K3,K2,K5,F8,F9,E8,E2,J9,G1,C7,E9,L0,C4,I1,K8,K7,E7,P3,C8,B3,A0,L7,H8,E5,L6,H7,yz19,zz27,yz31,jz25,jz31,zz32,jz26,zz21,jz27,zz26,and_self,Nat.reduceLeDiff,jz18,exists_eq_left',yz24,jz21,Nat.reduceBEq,yz22,yz32,G8,A3,N0,Int.reduceLT,Int.reduceLE,Int.reduceEq,P5,R6, *]) | with_reducible (first | refine C2 (fun h => ?_) fun h => ?_ | refine F1 (fun h => ?_) fun h => ?_ | refine C1 (fun h => ?_) fun h => ?_ | refine F0 (fun h => ?_) fun h => ?_ | refine A2 (fun h => ?_) fun h => ?_ | refine A7 (fun h => ?_) fun h => ?_) | (refine D5 ?_ ?_ ?_; (focus decide +kernel); (focus decide +kernel)))
    unfold Hid at hQ1 e5
    obtain rfl : i = ts.length := by omega
    refine hQ1 _ ?_
    exact ⟨acc,rfl,by omega,e5⟩
end Go.Dx
end
section
namespace Go.Dx
open Go Go.Proofs
set_option maxRecDepth 8000
attribute [local congr] Q7 Q6 R2 P8 Q2 Q5 Q3
variable {l s : List UInt8} {H L : Heap} {K : DV → Heap → Prop} {i j k : Int} {r v : List UInt8} {ts : List Tok} {t : Tok} {vs : List (List UInt8 × List UInt8)}
theorem p6 (hvs : ∀ p ∈ vs,p.2.length ≤ 140737488351232) (hv : vs.length < 2 ^ 61) : ∀ (n : Nat) (value : List UInt8),value.length < n → PE Tryd.prog cfgV 6 [strD value, .imm (svs vs)] (.tup [strD (resF n vs value).1,boD (resF n vs value).2]) := by
  intro n
  induction n with
  | zero => intro value h; omega
  | succ n ih =>
    intro value hn
    refine PE.code rfl code6 ?_
    dsimp only [sf6]
    rw [resF]
    by_cases hl : 400 < value.length
    · rw [if_pos hl]
      have hl' : (400 : Int) < value.length := by omega
      repeat' (first | (simp (maxSteps := 10000000) -implicitDefEqProofs (disch := first | exact tStr | decide | omega | assumption | (simp only [zz20,yz25,yz20]; omega)) only [D3,G6,G4,A9,C9,G3,B4,A1,C6,B2,D4,G5,D6,C5,B1,G7,B7,B8,C0,D8,D9,A5,J8,H9,E0,E1,M2,M3,M5,M4,I3,I4,P2,E4,E6,I0,B5,M1,N8,M9,N2,N3,N4,N5,N6,N7,N1,J2,J3,J4,J5,J6,J1,I8,I7,I9,M0,K9,E3,L1,C3,O1,O2,G2,O9,N9,O0,B0,L8,D2,I2,zz28,yz28,jz28,zz29,yz23,zz23,jz22,yz27,jz19,yz29,zz20,yz25,Nat.reduceAdd,Nat.reduceSub,Nat.reduceLT,Nat.reduceEqDiff,zz22,jz23,if_true,if_false,yz21,decide_true,decide_false,zz25,jz24,reduceIte,List.getElem?_cons_succ,List.getElem?_cons_zero,UInt8.reduceOfNat,fin1,fin2,L2,O7,L3,O8,H3,H6,H4,L4,H5,L5,B6,A8,zz24,M7,H0,M6,G0,Option.some.injEq,DV.tup.injEq,jz29,zz30,Int.reduceToNat,yz30,and_true,true_and,beq_self_eq_true,jz30,zz31,not_true_eq_false,not_false_eq_true,M8,J7,J0,A6,L9,K6,A4,B9,D7,G9,O3,O4,K0,F2,F5,I5,I6,F7,F4,F3,F6,K1,K4,O5,O6,K3,K2,K5,F8,F9,E8,E2,J9,G1,C7,E9,L0,C4,I1,K8,K7,E7,P3,C8,B3,A0,L7,H8,E5,L6,H7,yz19,zz27,yz31,jz25,jz31,zz32,jz26,zz21,jz27,zz26,and_self,Nat.reduceLeDiff,jz18,exists_eq_left',yz24,jz21,Nat.reduceBEq,yz22,yz32,G8,A3,N0,Int.reduceLT,Int.reduceLE,Int.reduceEq,resD, *]) | with_reducible (first | refine C2 (fun h => ?_) fun h => ?_ | refine F1 (fun h => ?_) fun h => ?_ | refine C1 (fun h => ?_) fun h => ?_ | refine F0 (fun h => ?_) fun h => ?_ | refine A2 (fun h => ?_) fun h => ?_ | refine A7 (fun h => ?_) fun h => ?_) | (refine D5 ?_ ?_ ?_; (focus decide +kernel); (focus decide +kernel)))
    · rw [if_neg hl]
      have hl' : ¬ (400 : Int) < value.length := by omega
      have h31 : value.length < 2 ^ 40 := by omega
      obtain ⟨T,hsm⟩ := toks_facts (l := value) (by omega)
      have call14 : ∀ (H : Heap) (K : DV → Heap → Prop),R4 Tryd.prog cfgV 14 [strD value] H K = K (.imm (S5 (U0 value))) H := fun H K => by
        rw [← toks_rows]; exact c14 h31
      have hp : ∀ (i k : Nat) name o,i < (U0 value).length → askT (((U0 value).drop (i + 1)).take k) = some (name,some o) → ∃ p,Same (yz12 n vs (S9 [] false o)) p ∧ PE Tryd.prog cfgV 6 [strD (S9 [] false o), .imm (svs vs)] (.tup [strD p.1,boD p.2]) := fun i k name o hi ha => by
        have hsh := inner_short hi ha
        obtain ⟨n,rfl⟩ : ∃ n',n = n' + 1 := ⟨n - 1,by omega⟩
        exact ⟨_,resF_same n _,ih _ (by omega)⟩
      repeat' (first | (simp (maxSteps := 10000000) -implicitDefEqProofs (disch := first | exact tStr | decide | omega | assumption | (simp only [zz20,yz25,yz20]; omega)) only [D3,G6,G4,A9,C9,G3,B4,A1,C6,B2,D4,G5,D6,C5,B1,G7,B7,B8,C0,D8,D9,A5,J8,H9,E0,E1,M2,M3,M5,M4,I3,I4,P2,E4,E6,I0,B5,M1,N8,M9,N2,N3,N4,N5,N6,N7,N1,J2,J3,J4,J5,J6,J1,I8,I7,I9,M0,K9,E3,L1,C3,O1,O2,G2,O9,N9,O0,B0,L8,D2,I2,zz28,yz28,jz28,zz29,yz23,zz23,jz22,yz27,jz19,yz29,zz20,yz25,Nat.reduceAdd,Nat.reduceSub,Nat.reduceLT,Nat.reduceEqDiff,zz22,jz23,if_true,if_false,yz21,decide_true,decide_false,zz25,jz24,reduceIte,List.getElem?_cons_succ,List.getElem?_cons_zero,UInt8.reduceOfNat,fin1,fin2,L2,O7,L3,O8,H3,H6,H4,L4,H5,L5,B6,A8,zz24,M7,H0,M6,G0,Option.some.injEq,DV.tup.injEq,jz29,zz30,Int.reduceToNat,yz30,and_true,true_and,beq_self_eq_true,jz30,zz31,not_true_eq_false,not_false_eq_true,M8,J7,J0,A6,L9,K6,A4,B9,D7,G9,O3,O4,K0,F2,F5,I5,I6,F7,F4,F3,F6,K1,K4,O5,O6,K3,K2,K5,F8,F9,E8,E2,J9,G1,C7,E9,L0,C4,I1,K8,K7,E7,P3,C8,B3,A0,L7,H8,E5,L6,H7,yz19,zz27,yz31,jz25,jz31,zz32,jz26,zz21,jz27,zz26,and_self,Nat.reduceLeDiff,jz18,exists_eq_left',yz24,jz21,Nat.reduceBEq,yz22,yz32,G8,A3,N0,Int.reduceLT,Int.reduceLE,Int.reduceEq,call14, *]) | with_reducible (first | refine C2 (fun h => ?_) fun h => ?_ | refine F1 (fun h => ?_) fun h => ?_ | refine C1 (fun h => ?_) fun h => ?_ | refine F0 (fun h => ?_) fun h => ?_ | refine A2 (fun h => ?_) fun h => ?_ | refine A7 (fun h => ?_) fun h => ?_) | (refine D5 ?_ ?_ ?_; (focus decide +kernel); (focus decide +kernel)))
      rw [show n + 1 - 1 = n by omega]
      refine l6_0 (fill := yz12 n vs) (R := yz6 (yz12 n vs) vs ((U0 value).length + 1) (U0 value) []) T hsm hv (fun ts q => put_le hvs) hp ?_ ?_ (n := ((U0 value).length - 0 : Int).toNat) ⟨0, [],(U0 value).length + 1,rfl,by omega,by omega,by simp,by omega,rfl,rfl⟩
      · clear hp
        generalize yz6 (yz12 n vs) vs ((U0 value).length + 1) (U0 value) [] = R
        rintro d ⟨acc,hs,hal,hR⟩
        obtain ⟨x,rfl⟩ : ∃ x,d = sh6 (U0 value) vs acc (U0 value).length x := ⟨_,hs⟩
        clear hs
        dsimp only [sh6]
        subst hR
        simp only
        repeat' (first | (simp (maxSteps := 10000000) -implicitDefEqProofs (disch := first | exact tStr | decide | omega | assumption | (simp only [zz20,yz25,yz20]; omega)) only [D3,G6,G4,A9,C9,G3,B4,A1,C6,B2,D4,G5,D6,C5,B1,G7,B7,B8,C0,D8,D9,A5,J8,H9,E0,E1,M2,M3,M5,M4,I3,I4,P2,E4,E6,I0,B5,M1,N8,M9,N2,N3,N4,N5,N6,N7,N1,J2,J3,J4,J5,J6,J1,I8,I7,I9,M0,K9,E3,L1,C3,O1,O2,G2,O9,N9,O0,B0,L8,D2,I2,zz28,yz28,jz28,zz29,yz23,zz23,jz22,yz27,jz19,yz29,zz20,yz25,Nat.reduceAdd,Nat.reduceSub,Nat.reduceLT,Nat.reduceEqDiff,zz22,jz23,if_true,if_false,yz21,decide_true,decide_false,zz25,jz24,reduceIte,List.getElem?_cons_succ,List.getElem?_cons_zero,UInt8.reduceOfNat,fin1,fin2,L2,O7,L3,O8,H3,H6,H4,L4,H5,L5,B6,A8,zz24,M7,H0,M6,G0,Option.some.injEq,DV.tup.injEq,jz29,zz30,Int.reduceToNat,yz30,and_true,true_and,beq_self_eq_true,jz30,zz31,not_true_eq_false,not_false_eq_true,M8,J7,J0,A6,L9,K6,A4,B9,D7,G9,O3,O4,K0,F2,F5,I5,I6,F7,F4,F3,F6,K1,K4,O5,O6,K3,K2,K5,F8,F9,E8,E2,J9,G1,C7,E9,L0,C4,I1,K8,K7,E7,P3,C8,B3,A0,L7,H8,E5,L6,H7,yz19,zz27,yz31,jz25,jz31,zz32,jz26,zz21,jz27,zz26,and_self,Nat.reduceLeDiff,jz18,exists_eq_left',yz24,jz21,Nat.reduceBEq,yz22,yz32,G8,A3,N0,Int.reduceLT,Int.reduceLE,Int.reduceEq,call14, *]) | with_reducible (first | refine C2 (fun h => ?_) fun h => ?_ | refine F1 (fun h => ?_) fun h => ?_ | refine C1 (fun h => ?_) fun h => ?_ | refine F0 (fun h => ?_) fun h => ?_ | refine A2 (fun h => ?_) fun h => ?_ | refine A7 (fun h => ?_) fun h => ?_) | (refine D5 ?_ ?_ ?_; (focus decide +kernel); (focus decide +kernel)))
      · intro hR d h4 h5
        rw [hR]
        clear hR hp
        obtain ⟨sl,H⟩ := d
        simp only at h4 h5 ⊢
        repeat' (first | (simp (maxSteps := 10000000) -implicitDefEqProofs (disch := first | exact tStr | decide | omega | assumption | (simp only [zz20,yz25,yz20]; omega)) only [D3,G6,G4,A9,C9,G3,B4,A1,C6,B2,D4,G5,D6,C5,B1,G7,B7,B8,C0,D8,D9,A5,J8,H9,E0,E1,M2,M3,M5,M4,I3,I4,P2,E4,E6,I0,B5,M1,N8,M9,N2,N3,N4,N5,N6,N7,N1,J2,J3,J4,J5,J6,J1,I8,I7,I9,M0,K9,E3,L1,C3,O1,O2,G2,O9,N9,O0,B0,L8,D2,I2,zz28,yz28,jz28,zz29,yz23,zz23,jz22,yz27,jz19,yz29,zz20,yz25,Nat.reduceAdd,Nat.reduceSub,Nat.reduceLT,Nat.reduceEqDiff,zz22,jz23,if_true,if_false,yz21,decide_true,decide_false,zz25,jz24,reduceIte,List.getElem?_cons_succ,List.getElem?_cons_zero,UInt8.reduceOfNat,fin1,fin2,L2,O7,L3,O8,H3,H6,H4,L4,H5,L5,B6,A8,zz24,M7,H0,M6,G0,Option.some.injEq,DV.tup.injEq,jz29,zz30,Int.reduceToNat,yz30,and_true,true_and,beq_self_eq_true,jz30,zz31,not_true_eq_false,not_false_eq_true,M8,J7,J0,A6,L9,K6,A4,B9,D7,G9,O3,O4,K0,F2,F5,I5,I6,F7,F4,F3,F6,K1,K4,O5,O6,K3,K2,K5,F8,F9,E8,E2,J9,G1,C7,E9,L0,C4,I1,K8,K7,E7,P3,C8,B3,A0,L7,H8,E5,L6,H7,yz19,zz27,yz31,jz25,jz31,zz32,jz26,zz21,jz27,zz26,and_self,Nat.reduceLeDiff,jz18,exists_eq_left',yz24,jz21,Nat.reduceBEq,yz22,yz32,G8,A3,N0,Int.reduceLT,Int.reduceLE,Int.reduceEq,h4,h5, *]) | with_reducible (first | refine C2 (fun h => ?_) fun h => ?_ | refine F1 (fun h => ?_) fun h => ?_ | refine C1 (fun h => ?_) fun h => ?_ | refine F0 (fun h => ?_) fun h => ?_ | refine A2 (fun h => ?_) fun h => ?_ | refine A7 (fun h => ?_) fun h => ?_) | (refine D5 ?_ ?_ ?_; (focus decide +kernel); (focus decide +kernel)))
theorem zz13 {l r v rest : List UInt8} {k n : Int} (h : 0 < l.length) (ht : R0 l = tokD k r v n) (hd : l.drop r.length = rest) : U0 l = ⟨k,r,v,n⟩ :: U0 rest := by
  rw [toksT_go h,W7 ht,hd]
def begunTxt : List UInt8 := [97,32,118,97,114,40,45,45,120,44,32,98,41]
def begunToks : List Tok := [⟨1, [97], [97],0⟩,⟨8, [32], [],0⟩,⟨2, [118,97,114,40], [118,97,114],0⟩,⟨1, [45,45,120], [45,45,120],0⟩,⟨12, [44], [],0⟩,⟨8, [32], [],0⟩,⟨1, [98], [98],0⟩,⟨11, [41], [],0⟩]
theorem begun_toks : U0 begunTxt = begunToks := by
  unfold begunTxt begunToks
  rw [zz13 (r := [97]) (v := [97]) (k := 1) (n := 0) (by decide) (by kernel_rfl) rfl]
  rw [zz13 (r := [32]) (v := []) (k := 8) (n := 0) (by decide) (by kernel_rfl) rfl]
  rw [zz13 (r := [118,97,114,40]) (v := [118,97,114]) (k := 2) (n := 0) (by decide) (by kernel_rfl) rfl]
  rw [zz13 (r := [45,45,120]) (v := [45,45,120]) (k := 1) (n := 0) (by decide) (by kernel_rfl) rfl]
  rw [zz13 (r := [44]) (v := []) (k := 12) (n := 0) (by decide) (by kernel_rfl) rfl]
  rw [zz13 (r := [32]) (v := []) (k := 8) (n := 0) (by decide) (by kernel_rfl) rfl]
  rw [zz13 (r := [98]) (v := [98]) (k := 1) (n := 0) (by decide) (by kernel_rfl) rfl]
  rw [zz13 (r := [41]) (v := []) (k := 11) (n := 0) (by decide) (by kernel_rfl) rfl]
  rw [yz16 (by decide)]
theorem begun_fill : yz12 14 [([45,45,120], [99])] begunTxt = some [97,32,99] := by
  rw [yz12,begun_toks]
  kernel_rfl
theorem c5b {H : Heap} {id : Nat} (hr : H.row id = some (Row.mk 2 [[strD [45,45,120],strD [99]]] 28 0 true)) : R4 Tryd.prog cfgV 5 [strD [97,32,118,97,114,40,45,45,120,44,32,98,41], .osl id 0 1] H K = K (.tup [strD [97,32,99],boD true]) H := by
  have hp := p5 (vs := [([45,45,120], [99])]) (by intro p hp; simp only [List.mem_singleton] at hp; subst hp; simp) (by simp) 14 begunTxt (by decide)
  rw [begun_fill] at hp
  refine CallE.told (CallE.pure rfl ?_ hp rfl) K
  have : frz H W4 (.osl id 0 1) = some (.imm (svs [([45,45,120], [99])])) := by
    show (match H.row id with | some r => _ | none => none) = _
    rw [hr]; rfl
  simp only [Q8,this]; rfl
theorem p4 : PE Tryd.prog cfgV 4 [] (boD true) := by
  refine PE.code rfl code4 ?_
  dsimp only [sf4]
  repeat' (first | (simp (maxSteps := 10000000) -implicitDefEqProofs (disch := first | exact tStr | decide | omega | assumption | (simp only [zz20,yz25,yz20]; omega)) only [D3,G6,G4,A9,C9,G3,B4,A1,C6,B2,D4,G5,D6,C5,B1,G7,B7,B8,C0,D8,D9,A5,J8,H9,E0,E1,M2,M3,M5,M4,I3,I4,P2,E4,E6,I0,B5,M1,N8,M9,N2,N3,N4,N5,N6,N7,N1,J2,J3,J4,J5,J6,J1,I8,I7,I9,M0,K9,E3,L1,C3,O1,O2,G2,O9,N9,O0,B0,L8,D2,I2,zz28,yz28,jz28,zz29,yz23,zz23,jz22,yz27,jz19,yz29,zz20,yz25,Nat.reduceAdd,Nat.reduceSub,Nat.reduceLT,Nat.reduceEqDiff,zz22,jz23,if_true,if_false,yz21,decide_true,decide_false,zz25,jz24,reduceIte,List.getElem?_cons_succ,List.getElem?_cons_zero,UInt8.reduceOfNat,fin1,fin2,L2,O7,L3,O8,H3,H6,H4,L4,H5,L5,B6,A8,zz24,M7,H0,M6,G0,Option.some.injEq,DV.tup.injEq,jz29,zz30,Int.reduceToNat,yz30,and_true,true_and,beq_self_eq_true,jz30,zz31,not_true_eq_false,not_false_eq_true,M8,J7,J0,A6,L9,K6,A4,B9,D7,G9,O3,O4,K0,F2,F5,I5,I6,F7,F4,F3,F6,K1,K4,O5,O6,K3,K2,K5,F8,F9,E8,E2,J9,G1,C7,E9,L0,C4,I1,K8,K7,E7,P3,C8,B3,A0,L7,H8,E5,L6,H7,yz19,zz27,yz31,jz25,jz31,zz32,jz26,zz21,jz27,zz26,and_self,Nat.reduceLeDiff,jz18,exists_eq_left',yz24,jz21,Nat.reduceBEq,yz22,yz32,G8,A3,N0,Int.reduceLT,Int.reduceLE,Int.reduceEq,jz17,bsl_agg,c5b F8, *]) | with_reducible (first | refine C2 (fun h => ?_) fun h => ?_ | refine F1 (fun h => ?_) fun h => ?_ | refine C1 (fun h => ?_) fun h => ?_ | refine F0 (fun h => ?_) fun h => ?_ | refine A2 (fun h => ?_) fun h => ?_ | refine A7 (fun h => ?_) fun h => ?_) | (refine D5 ?_ ?_ ?_; (focus decide +kernel); (focus decide +kernel)))
theorem c4 : R4 Tryd.prog cfgV 4 [] H K = K (boD true) H := T7 rfl rfl p4 H K
theorem p3 (hvs : ∀ p ∈ vs,p.2.length ≤ 140737488351232) (hv : vs.length < 2 ^ 61) : PE Tryd.prog cfgV 3 [strD s, .imm (svs vs)] (boD true) := by
  refine PE.code rfl code3 ?_
  dsimp only [sf3]
  have call5 : ∀ (H : Heap) (K : DV → Heap → Prop),R4 Tryd.prog cfgV 5 [strD s, .imm (svs vs)] H K = K (resD (yz12 (s.length + 1) vs s)) H := fun H K =>
    T7 rfl (by simp only [zz21,jz27,plain_S,Bool.and_true]; rfl) (p5 hvs hv _ s (by omega)) H K
  have call6 : ∀ (H : Heap) (K : DV → Heap → Prop),R4 Tryd.prog cfgV 6 [strD s, .imm (svs vs)] H K = K (.tup [strD (resF (s.length + 1) vs s).1,boD (resF (s.length + 1) vs s).2]) H := fun H K =>
    T7 rfl (by simp only [zz21,jz27,plain_S,Bool.and_true]; rfl) (p6 hvs hv _ s (by omega)) H K
  have hs := resF_same (vs := vs) s.length s
  generalize resF (s.length + 1) vs s = p at *
  cases hf : yz12 (s.length + 1) vs s with
  | none =>
    rw [hf] at hs call5
    have hs2 : p.2 = false := hs
    rw [hs2] at call6
    simp only [resD] at call5
    clear hs hf hs2
    repeat' (first | (simp (maxSteps := 10000000) -implicitDefEqProofs (disch := first | exact tStr | decide | omega | assumption | (simp only [zz20,yz25,yz20]; omega)) only [D3,G6,G4,A9,C9,G3,B4,A1,C6,B2,D4,G5,D6,C5,B1,G7,B7,B8,C0,D8,D9,A5,J8,H9,E0,E1,M2,M3,M5,M4,I3,I4,P2,E4,E6,I0,B5,M1,N8,M9,N2,N3,N4,N5,N6,N7,N1,J2,J3,J4,J5,J6,J1,I8,I7,I9,M0,K9,E3,L1,C3,O1,O2,G2,O9,N9,O0,B0,L8,D2,I2,zz28,yz28,jz28,zz29,yz23,zz23,jz22,yz27,jz19,yz29,zz20,yz25,Nat.reduceAdd,Nat.reduceSub,Nat.reduceLT,Nat.reduceEqDiff,zz22,jz23,if_true,if_false,yz21,decide_true,decide_false,zz25,jz24,reduceIte,List.getElem?_cons_succ,List.getElem?_cons_zero,UInt8.reduceOfNat,fin1,fin2,L2,O7,L3,O8,H3,H6,H4,L4,H5,L5,B6,A8,zz24,M7,H0,M6,G0,Option.some.injEq,DV.tup.injEq,jz29,zz30,Int.reduceToNat,yz30,and_true,true_and,beq_self_eq_true,jz30,zz31,not_true_eq_false,not_false_eq_true,M8,J7,J0,A6,L9,K6,A4,B9,D7,G9,O3,O4,K0,F2,F5,I5,I6,F7,F4,F3,F6,K1,K4,O5,O6,K3,K2,K5,F8,F9,E8,E2,J9,G1,C7,E9,L0,C4,I1,K8,K7,E7,P3,C8,B3,A0,L7,H8,E5,L6,H7,yz19,zz27,yz31,jz25,jz31,zz32,jz26,zz21,jz27,zz26,and_self,Nat.reduceLeDiff,jz18,exists_eq_left',yz24,jz21,Nat.reduceBEq,yz22,yz32,G8,A3,N0,Int.reduceLT,Int.reduceLE,Int.reduceEq,c4,call5,call6, *]) | with_reducible (first | refine C2 (fun h => ?_) fun h => ?_ | refine F1 (fun h => ?_) fun h => ?_ | refine C1 (fun h => ?_) fun h => ?_ | refine F0 (fun h => ?_) fun h => ?_ | refine A2 (fun h => ?_) fun h => ?_ | refine A7 (fun h => ?_) fun h => ?_) | (refine D5 ?_ ?_ ?_; (focus decide +kernel); (focus decide +kernel)))
  | some q =>
    rw [hf] at hs call5
    have hs2 : p = (q,true) := hs
    subst hs2
    simp only [resD] at call5 call6
    clear hs hf
    repeat' (first | (simp (maxSteps := 10000000) -implicitDefEqProofs (disch := first | exact tStr | decide | omega | assumption | (simp only [zz20,yz25,yz20]; omega)) only [D3,G6,G4,A9,C9,G3,B4,A1,C6,B2,D4,G5,D6,C5,B1,G7,B7,B8,C0,D8,D9,A5,J8,H9,E0,E1,M2,M3,M5,M4,I3,I4,P2,E4,E6,I0,B5,M1,N8,M9,N2,N3,N4,N5,N6,N7,N1,J2,J3,J4,J5,J6,J1,I8,I7,I9,M0,K9,E3,L1,C3,O1,O2,G2,O9,N9,O0,B0,L8,D2,I2,zz28,yz28,jz28,zz29,yz23,zz23,jz22,yz27,jz19,yz29,zz20,yz25,Nat.reduceAdd,Nat.reduceSub,Nat.reduceLT,Nat.reduceEqDiff,zz22,jz23,if_true,if_false,yz21,decide_true,decide_false,zz25,jz24,reduceIte,List.getElem?_cons_succ,List.getElem?_cons_zero,UInt8.reduceOfNat,fin1,fin2,L2,O7,L3,O8,H3,H6,H4,L4,H5,L5,B6,A8,zz24,M7,H0,M6,G0,Option.some.injEq,DV.tup.injEq,jz29,zz30,Int.reduceToNat,yz30,and_true,true_and,beq_self_eq_true,jz30,zz31,not_true_eq_false,not_false_eq_true,M8,J7,J0,A6,L9,K6,A4,B9,D7,G9,O3,O4,K0,F2,F5,I5,I6,F7,F4,F3,F6,K1,K4,O5,O6,K3,K2,K5,F8,F9,E8,E2,J9,G1,C7,E9,L0,C4,I1,K8,K7,E7,P3,C8,B3,A0,L7,H8,E5,L6,H7,yz19,zz27,yz31,jz25,jz31,zz32,jz26,zz21,jz27,zz26,and_self,Nat.reduceLeDiff,jz18,exists_eq_left',yz24,jz21,Nat.reduceBEq,yz22,yz32,G8,A3,N0,Int.reduceLT,Int.reduceLE,Int.reduceEq,c4,call5,call6, *]) | with_reducible (first | refine C2 (fun h => ?_) fun h => ?_ | refine F1 (fun h => ?_) fun h => ?_ | refine C1 (fun h => ?_) fun h => ?_ | refine F0 (fun h => ?_) fun h => ?_ | refine A2 (fun h => ?_) fun h => ?_ | refine A7 (fun h => ?_) fun h => ?_) | (refine D5 ?_ ?_ ?_; (focus decide +kernel); (focus decide +kernel)))
end Go.Dx
end
