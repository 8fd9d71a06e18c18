/- A part of the proof of VarFills: what functions of the program answer. -/
import Derived.Test.YtcclgnddbgaigaaDoorT22
open Nat renaming le_refl → jz18, add_zero → jz21, zero_add → yz24, le_zero_eq → yz32
open List renaming take_succ_cons → yz19, replicate_succ → jz19, length_cons → zz20, length_append → yz20, all_cons → zz21, singleton_append → yz22, cons_append → jz22, map_nil → zz23, map_cons → yz23, length_nil → yz25, drop_zero → jz25, append_nil → jz26, take_zero → zz27, nil_append → yz27, all_nil → jz27, set_cons_succ → zz28, set_cons_zero → yz28, getD_cons_succ → jz28, getD_cons_zero → zz29, replicate_zero → yz29, drop_succ_cons → yz31, drop_nil → jz31, take_nil → zz32, length_drop → jz32
open Bool renaming false_eq_true → yz21, not_false → jz24, not_true → zz25, and_self → zz26, true_beq → jz30, false_beq → zz31, not_eq_true → zz33
open Option renaming map_some → zz22, map_none → jz23, bind_some → zz24
open Int renaming toNat_zero → jz29, toNat_one → zz30, cast_ofNat_Int → yz30
set_option linter.all false
section
namespace Go.Dx
open Go Go.Proofs
set_option maxRecDepth 8000
attribute [local congr] Q7 Q6 R2 P8 Q2 Q5 Q3
variable {l s : List UInt8} {H L : Heap} {K : DV → Heap → Prop} {i j k : Int} {r v : List UInt8} {ts : List Tok} {t : Tok} {vs : List (List UInt8 × List UInt8)}
theorem run_le {fill : List UInt8 → Option (List UInt8)} : ∀ (m : Nat) (ts : List Tok) (acc q : List UInt8),X3 fill vs m ts acc = some q → q.length ≤ 400
  | 0,_,_,_,h => by simp [X3] at h
  | m + 1, [],acc,q,h => by
    simp only [X3] at h
    split at h
    · cases h
    · simp only [Option.some.injEq] at h; subst h; omega
  | m + 1,t :: r,acc,q,h => by
    simp only [X3] at h
    split at h
    · split at h
      · cases h
      · split at h
        · cases h
        · split at h
          · cases h
          · exact run_le m _ _ q h
    · exact run_le m _ _ q h
theorem fill_le {n : Nat} {value q : List UInt8} (h : yz12 n vs value = some q) : q.length ≤ 400 := by
  cases n with
  | zero => simp [yz12] at h
  | succ n =>
    rw [yz12] at h
    split at h
    · cases h
    · exact run_le _ _ _ _ h
theorem lastP_mem {m q : List UInt8} : ∀ vs : List (List UInt8 × List UInt8),Z1 vs m = some q → ∃ a,(a,q) ∈ vs
  | [],h => by simp [Z1] at h
  | (a,b) :: r,h => by
    rw [Z1] at h
    split at h
    · rename_i w hw
      simp only [Option.some.injEq] at h; subst h
      obtain ⟨a,ha⟩ := lastP_mem r hw
      exact ⟨a,List.mem_cons_of_mem _ ha⟩
    · split at h
      · simp only [Option.some.injEq] at h; subst h; exact ⟨a,List.mem_cons_self ..⟩
      · cases h
theorem put_le {n : Nat} {q : List UInt8} (hvs : ∀ p ∈ vs,p.2.length ≤ 140737488351232) (h : putT (yz12 n vs) vs ts = some q) : q.length ≤ 140737488351232 := by
  unfold putT at h
  split at h
  · cases h
  · split at h
    · rename_i w hw
      simp only [Option.some.injEq] at h; subst h
      obtain ⟨a,ha⟩ := lastP_mem _ hw
      exact hvs _ ha
    · split at h
      · cases h
      · have := fill_le h; omega
theorem run_var {fill : List UInt8 → Option (List UInt8)} {m : Nat} {acc : List UInt8} {ts : List Tok} (h : yz3 t.kind t.value = true) : X3 fill vs (m + 1) (t :: ts) acc = (match S6 [] (t :: ts) 0 with
      | none => none
      | some n => match putT fill vs (ts.take (n - 2)) with
        | none => none
        | some s => if 400 < (acc ++ s).length then none else X3 fill vs m ((t :: ts).drop n) (acc ++ s)) := by
  simp only [X3,h,if_true]
  rfl
theorem run_not {fill : List UInt8 → Option (List UInt8)} {m : Nat} {acc : List UInt8} {ts : List Tok} (h : yz3 t.kind t.value = false) : X3 fill vs (m + 1) (t :: ts) acc = X3 fill vs m ts (acc ++ t.raw) := by
  simp only [X3,h,yz21,if_false]
theorem textRun_len1 (q : UInt8) : ∀ (m : Nat) (l : List UInt8) (n : Nat),l.length ≤ m → (R8 q n l).1.length ≤ l.length := by
  intro m
  induction m with
  | zero => intro l n h; cases l with
    | nil => simp [R8]
    | cons a r => simp at h
  | succ m ih =>
    intro l n h
    match l,h with
    | [],_ => simp [R8]
    | [a],_ => rw [R8]; split <;> (try split) <;> simp
    | a :: b :: r,h =>
      simp only [zz20] at h
      have h1 := ih r (n + 2) (by omega)
      have h2 := ih (b :: r) (n + 1) (by simp only [zz20]; omega)
      simp only [zz20] at h2
      rw [R8]
      split
      · simp
      · split
        · simp
        · split <;> simp only [zz20] <;> omega
theorem tokT_val (h : 0 < l.length) : (tokT l).value.length ≤ l.length := by
  have q : R0 l = R0 l := rfl
  conv at q => rhs; unfold R0
  have hd : ∀ k,(l.drop k).length ≤ l.length := fun k => by rw [jz32]; omega
  have hn : ∀ k,(P7 (l.drop k)).1.length ≤ l.length := fun k => Nat.le_trans (jz4 _) (hd k)
  split at q
  · rw [W7 q]; simp
  split at q
  · rw [W7 q]; simp
  split at q
  · unfold W5 at q
    split at q
    · rw [W7 q]
      exact Nat.le_trans (textRun_len1 _ _ _ _ (jz18 _)) (hd 1)
    · rw [W7 q]; simp
  split at q
  · unfold Y9 at q
    split at q
    · rw [W7 q]; simp; omega
    · split at q
      · rw [W7 q]
        simp only [List.length_map]
        exact hn _
      · rw [W7 q]; simp
  split at q
  · rw [W7 q]; exact hn _
  split at q
  · rw [W7 q]; exact hn _
  split at q
  · split at q <;> (rw [W7 q]; exact jz4 l)
  · rw [W7 q]; simp
theorem toksT_val (l : List UInt8) : ∀ t ∈ U0 l,t.value.length ≤ l.length := by
  generalize hn : l.length = n
  induction n using Nat.strongRecOn generalizing l with
  | _ n ih =>
    by_cases h : 0 < l.length
    · have hr := Z3 h
      rw [yz13] at hr
      rw [toksT_go h]
      intro t ht
      rcases List.mem_cons.mp ht with rfl | ht
      · rw [← hn]; exact tokT_val h
      · have := ih _ (by rw [jz32]; omega) _ rfl t ht
        rw [jz32] at this; omega
    · rw [yz16 h]; intro t ht; cases ht
theorem getD_mem {i : Nat} (h : i < ts.length) : ts.getD i tok0 ∈ ts := by
  rw [List.getD_eq_getElem?_getD,List.getElem?_eq_getElem h]; exact List.getElem_mem _
theorem getD_drop_tok {i : Nat} : (ts.drop i).getD 0 tok0 = ts.getD i tok0 := by
  simp [List.getD_eq_getElem?_getD,List.getElem?_drop]
def sh5 (ts : List Tok) (vs : List (List UInt8 × List UInt8)) (i : Int) (H : Heap) (x : Nat → DV) : DS := ⟨[x 0,DV.imm (svs vs),x 2,x 3,x 4,x 5,DV.imm (S5 ts),DV.ptr 0 0 0,intD i,x 9,x 10,x 11,x 12,x 13,x 14,x 15,x 16,x 17,x 18,x 19,x 20,x 21,x 22,x 23,x 24,x 25,x 26,x 27,x 28,x 29,x 30,x 31,x 32,x 33,x 34,x 35,x 36,x 37,x 38,x 39,x 40,x 41,x 42,x 43,x 44,x 45,x 46,x 47,x 48,x 49,x 50,x 51,x 52,x 53,x 54,x 55,x 56,x 57,x 58,x 59,x 60,x 61,x 62,x 63,x 64,x 65],H⟩
def inv5 (fill : List UInt8 → Option (List UInt8)) (R : Option (List UInt8)) (ts : List Tok) (vs : List (List UInt8 × List UInt8)) (n : Nat) (d : DS) : Prop := ∃ (i : Int) (acc : List UInt8) (v : DV) (m : Nat),d = sh5 ts vs i d.H (fun k => d.sl.getD k P9) ∧ Bld d.H 0 v acc ∧ 0 ≤ i ∧ i ≤ ts.length ∧
  acc.length + R7 (ts.drop i.toNat) ≤ 400 + R7 ts ∧ (ts.length : Int) - i < m ∧ Hid (R = X3 fill vs m (ts.drop i.toNat) acc) ∧ Hid (n = (ts.length - i).toNat)
structure Toks (ts : List Tok) : Prop where
  ok : ∀ t ∈ ts,t.ok
  val : ∀ t ∈ ts,t.value.length < 2 ^ 31
  sum : R7 ts < 2 ^ 30
theorem l5_0 {fill : List UInt8 → Option (List UInt8)} {R : Option (List UInt8)} (T : Toks ts) (hsm : R7 ts ≤ 1000) (hfl : ∀ ts q,putT fill vs ts = some q → q.length ≤ 140737488351232)
    (hp : ∀ i n : Nat,i < ts.length → yz3 (ts.getD i tok0).kind (ts.getD i tok0).value = true → PE Tryd.prog cfgV 11 [.imm (S5 ((ts.drop (i + 1)).take n)), .imm (svs vs)] (resD (putT fill vs ((ts.drop (i + 1)).take n))))
    {Q : Ex → DS → Prop} (hQ1 : ∀ d,(∃ acc v,d = sh5 ts vs ts.length d.H (fun k => d.sl.getD k P9) ∧ Bld d.H 0 v acc ∧ acc.length ≤ 1400 ∧ R = if 400 < acc.length then none else some acc) → Q (.exit 0) d)
    (hQ2 : R = none → ∀ d,d.sl.getD 4 P9 = strD [] → d.sl.getD 5 P9 = boD false → Q .ret d)
    {n : Nat} {d : DS} (hI : inv5 fill R ts vs n d) : runW Tryd.prog cfgV (.loop lp5_0) d Q := by
  refine V3 (inv5 fill R ts vs) ?_ hI
  rintro n d ⟨i,acc,v,m,hs,hb,e1,e2,e3,e4,e5,e6⟩
  obtain ⟨x,H,rfl⟩ : ∃ x H,d = sh5 ts vs i H x := ⟨_,_,hs⟩
  clear hs
  dsimp only [lp5_0,sh5] at hb ⊢
  have hlen := rawSum_length ts
  replace hQ1 := hid hQ1
  replace hQ2 := hid hQ2
  by_cases hi : i < ts.length
  · have hd := dropT e1 hi
    have iaT := ia_T (ts := ts) (H := H) e1 hi
    have hm := getD_mem (ts := ts) (i := i.toNat) (by omega)
    have hval := T.val _ hm
    have hraw := mem_raw ts _ hm
    obtain ⟨m,rfl⟩ : ∃ m',m = m' + 1 := ⟨m - 1,by omega⟩
    unfold Hid at e5
    have hdr : ts.drop i.toNat = ts.getD i.toNat tok0 :: ts.drop (i.toNat + 1) := by rw [hd,show (i + 1).toNat = i.toNat + 1 by omega]
    by_cases hv : yz3 (ts.getD i.toNat tok0).kind (ts.getD i.toNat tok0).value = true
    · have hop := var_open hv
      have h0 : zz12 ((ts.drop i.toNat).getD 0 tok0).kind = true := by rw [getD_drop_tok]; exact hop
      have call10 : ∀ (H : Heap) (K : DV → Heap → Prop),R4 Tryd.prog cfgV 10 [.imm (S5 (ts.drop i.toNat))] H K = K (intD (((S6 [] (ts.drop i.toNat) 0).getD 0 : Nat) : Int)) H := fun H K =>
        c10 h0 (fun t ht => T.ok t (List.mem_of_mem_drop ht)) (fun t ht => by have := mem_raw ts t (List.mem_of_mem_drop ht); omega) (by rw [jz32]; omega)
      have hl1 : ∀ H : Heap,lslD H 4 (.imm (S5 ts)) (some (intD i)) none = .val (.imm (S5 (ts.drop i.toNat))) H := fun H => lsl_lo e1 e2
      have e5' := e5
      rw [hdr,run_var hv, ← hdr] at e5'
      clear e5 h0
      cases hN : S6 [] (ts.drop i.toNat) 0 with
      | none =>
        rw [hN] at e5' call10
        simp only [Option.getD_none] at e5' call10
        replace e5' := hid e5'
        clear hd hdr hop hm hp hfl hN
        repeat' (first | (simp (maxSteps := 10000000) -implicitDefEqProofs (disch := first | exact tStr | decide | omega | assumption | (simp only [zz20,yz25,yz20]; omega)) only [D3,G6,G4,A9,C9,G3,B4,A1,C6,B2,D4,G5,D6,C5,B1,G7,B7,B8,C0,D8,D9,A5,J8,H9,E0,E1,M2,M3,M5,M4,I3,I4,P2,E4,E6,I0,B5,M1,N8,M9,N2,N3,N4,N5,N6,N7,N1,J2,J3,J4,J5,J6,J1,I8,I7,I9,M0,K9,E3,L1,C3,O1,O2,G2,O9,N9,O0,B0,L8,D2,I2,zz28,yz28,jz28,zz29,yz23,zz23,jz22,yz27,jz19,yz29,zz20,yz25,Nat.reduceAdd,Nat.reduceSub,Nat.reduceLT,Nat.reduceEqDiff,zz22,jz23,if_true,if_false,yz21,decide_true,decide_false,zz25,jz24,reduceIte,List.getElem?_cons_succ,List.getElem?_cons_zero,UInt8.reduceOfNat,fin1,fin2,L2,O7,L3,O8,H3,H6,H4,L4,H5,L5,B6,A8,zz24,M7,H0,M6,G0,Option.some.injEq,DV.tup.injEq,jz29,zz30,Int.reduceToNat,yz30,and_true,true_and,beq_self_eq_true,jz30,zz31,not_true_eq_false,not_false_eq_true,M8,J7,J0,A6,L9,K6,A4,B9,D7,G9,O3,O4,K0,F2,F5,I5,I6,F7,F4,F3,F6,K1,K4,O5,O6,K3,K2,K5,F8,F9,E8,E2,J9,G1,C7,E9,L0,C4,I1,K8,K7,E7,P3,C8,B3,A0,L7,H8,E5,L6,H7,yz19,zz27,yz31,jz25,jz31,zz32,jz26,zz21,jz27,zz26,and_self,Nat.reduceLeDiff,jz18,exists_eq_left',yz24,jz21,Nat.reduceBEq,yz22,yz32,G8,A3,N0,Int.reduceLT,Int.reduceLE,Int.reduceEq,c8,P5,R6,P4,iaT,Q9,hl1,call10, *]) | with_reducible (first | refine C2 (fun h => ?_) fun h => ?_ | refine F1 (fun h => ?_) fun h => ?_ | refine C1 (fun h => ?_) fun h => ?_ | refine F0 (fun h => ?_) fun h => ?_ | refine A2 (fun h => ?_) fun h => ?_ | refine A7 (fun h => ?_) fun h => ?_) | (refine D5 ?_ ?_ ?_; (focus decide +kernel); (focus decide +kernel)))
        unfold Hid at hQ2 e5'
        exact hQ2 e5' _ rfl rfl
      | some n0 =>
        rw [hN] at e5' call10
        simp only [Option.getD_some] at e5' call10
        have hn2 := stk_two (t := ts.getD i.toNat tok0) (r := ts.drop (i.toNat + 1)) hop (by rw [← hdr]; exact hN)
        rw [jz32] at hn2
        have hz : ¬ (n0 : Int) = 0 := by omega
        have hls : ∀ H : Heap,lslD H 4 (.imm (S5 ts)) (some (intD (i + 1))) (some (intD (i + (n0 : Int) - 1))) = .val (.imm (S5 ((ts.drop (i.toNat + 1)).take (n0 - 2)))) H := fun H => by
          rw [lsl_both (by omega) (by omega) (by omega),show (i + 1).toNat = i.toNat + 1 by omega,show (i + (n0 : Int) - 1 - (i + 1)).toNat = n0 - 2 by omega]
        have call11 : ∀ (H : Heap) (K : DV → Heap → Prop),R4 Tryd.prog cfgV 11 [.imm (S5 ((ts.drop (i.toNat + 1)).take (n0 - 2))), .imm (svs vs)] H K = K (resD (putT fill vs ((ts.drop (i.toNat + 1)).take (n0 - 2)))) H := fun H K =>
          T7 rfl (by simp only [zz21,jz27,plain_T.2,plain_S,zz26]) (hp i.toNat (n0 - 2) (by omega) hv) H K
        have hfl' := fun q => hfl ((ts.drop (i.toNat + 1)).take (n0 - 2)) q
        clear hfl hp hN hop hm
        generalize (ts.drop (i.toNat + 1)).take (n0 - 2) = inn at *
        cases hP : putT fill vs inn with
        | none =>
          rw [hP] at e5' call11
          simp only [resD] at e5' call11
          replace e5' := hid e5'
          clear hd hdr hfl' hP
          repeat' (first | (simp (maxSteps := 10000000) -implicitDefEqProofs (disch := first | exact tStr | decide | omega | assumption | (simp only [zz20,yz25,yz20]; omega)) only [D3,G6,G4,A9,C9,G3,B4,A1,C6,B2,D4,G5,D6,C5,B1,G7,B7,B8,C0,D8,D9,A5,J8,H9,E0,E1,M2,M3,M5,M4,I3,I4,P2,E4,E6,I0,B5,M1,N8,M9,N2,N3,N4,N5,N6,N7,N1,J2,J3,J4,J5,J6,J1,I8,I7,I9,M0,K9,E3,L1,C3,O1,O2,G2,O9,N9,O0,B0,L8,D2,I2,zz28,yz28,jz28,zz29,yz23,zz23,jz22,yz27,jz19,yz29,zz20,yz25,Nat.reduceAdd,Nat.reduceSub,Nat.reduceLT,Nat.reduceEqDiff,zz22,jz23,if_true,if_false,yz21,decide_true,decide_false,zz25,jz24,reduceIte,List.getElem?_cons_succ,List.getElem?_cons_zero,UInt8.reduceOfNat,fin1,fin2,L2,O7,L3,O8,H3,H6,H4,L4,H5,L5,B6,A8,zz24,M7,H0,M6,G0,Option.some.injEq,DV.tup.injEq,jz29,zz30,Int.reduceToNat,yz30,and_true,true_and,beq_self_eq_true,jz30,zz31,not_true_eq_false,not_false_eq_true,M8,J7,J0,A6,L9,K6,A4,B9,D7,G9,O3,O4,K0,F2,F5,I5,I6,F7,F4,F3,F6,K1,K4,O5,O6,K3,K2,K5,F8,F9,E8,E2,J9,G1,C7,E9,L0,C4,I1,K8,K7,E7,P3,C8,B3,A0,L7,H8,E5,L6,H7,yz19,zz27,yz31,jz25,jz31,zz32,jz26,zz21,jz27,zz26,and_self,Nat.reduceLeDiff,jz18,exists_eq_left',yz24,jz21,Nat.reduceBEq,yz22,yz32,G8,A3,N0,Int.reduceLT,Int.reduceLE,Int.reduceEq,c8,P5,R6,P4,iaT,Q9,hl1,hls,call10,call11, *]) | with_reducible (first | refine C2 (fun h => ?_) fun h => ?_ | refine F1 (fun h => ?_) fun h => ?_ | refine C1 (fun h => ?_) fun h => ?_ | refine F0 (fun h => ?_) fun h => ?_ | refine A2 (fun h => ?_) fun h => ?_ | refine A7 (fun h => ?_) fun h => ?_) | (refine D5 ?_ ?_ ?_; (focus decide +kernel); (focus decide +kernel)))
          unfold Hid at hQ2 e5'
          exact hQ2 e5' _ rfl rfl
        | some q =>
          have hql := hfl' q hP
          rw [hP] at e5' call11
          simp only [resD] at e5' call11
          have hrs := U5 i.toNat ts
          have hdd : (ts.drop i.toNat).drop n0 = ts.drop (i + (n0 : Int)).toNat := by rw [List.drop_drop]; congr 1; omega
          rw [hdd] at e5'
          have hr2 : R7 (ts.drop (i + (n0 : Int)).toNat) ≤ R7 ts := U5 _ _
          clear hd hdr hfl' hP hdd
          by_cases hg : 400 < (acc ++ q).length
          · rw [if_pos hg] at e5'
            have hg' : (400 : Int) < ((acc ++ q).length : Int) := by omega
            replace e5' := hid e5'
            repeat' (first | (simp (maxSteps := 10000000) -implicitDefEqProofs (disch := first | exact tStr | decide | omega | assumption | (simp only [zz20,yz25,yz20]; omega)) only [D3,G6,G4,A9,C9,G3,B4,A1,C6,B2,D4,G5,D6,C5,B1,G7,B7,B8,C0,D8,D9,A5,J8,H9,E0,E1,M2,M3,M5,M4,I3,I4,P2,E4,E6,I0,B5,M1,N8,M9,N2,N3,N4,N5,N6,N7,N1,J2,J3,J4,J5,J6,J1,I8,I7,I9,M0,K9,E3,L1,C3,O1,O2,G2,O9,N9,O0,B0,L8,D2,I2,zz28,yz28,jz28,zz29,yz23,zz23,jz22,yz27,jz19,yz29,zz20,yz25,Nat.reduceAdd,Nat.reduceSub,Nat.reduceLT,Nat.reduceEqDiff,zz22,jz23,if_true,if_false,yz21,decide_true,decide_false,zz25,jz24,reduceIte,List.getElem?_cons_succ,List.getElem?_cons_zero,UInt8.reduceOfNat,fin1,fin2,L2,O7,L3,O8,H3,H6,H4,L4,H5,L5,B6,A8,zz24,M7,H0,M6,G0,Option.some.injEq,DV.tup.injEq,jz29,zz30,Int.reduceToNat,yz30,and_true,true_and,beq_self_eq_true,jz30,zz31,not_true_eq_false,not_false_eq_true,M8,J7,J0,A6,L9,K6,A4,B9,D7,G9,O3,O4,K0,F2,F5,I5,I6,F7,F4,F3,F6,K1,K4,O5,O6,K3,K2,K5,F8,F9,E8,E2,J9,G1,C7,E9,L0,C4,I1,K8,K7,E7,P3,C8,B3,A0,L7,H8,E5,L6,H7,yz19,zz27,yz31,jz25,jz31,zz32,jz26,zz21,jz27,zz26,and_self,Nat.reduceLeDiff,jz18,exists_eq_left',yz24,jz21,Nat.reduceBEq,yz22,yz32,G8,A3,N0,Int.reduceLT,Int.reduceLE,Int.reduceEq,c8,P5,R6,P4,iaT,Q9,hl1,hls,call10,call11, *]) | with_reducible (first | refine C2 (fun h => ?_) fun h => ?_ | refine F1 (fun h => ?_) fun h => ?_ | refine C1 (fun h => ?_) fun h => ?_ | refine F0 (fun h => ?_) fun h => ?_ | refine A2 (fun h => ?_) fun h => ?_ | refine A7 (fun h => ?_) fun h => ?_) | (refine D5 ?_ ?_ ?_; (focus decide +kernel); (focus decide +kernel)))
            refine w9 hb (by omega) fun v2 H2 b2 _ _ _ => ?_
            repeat' (first | (simp (maxSteps := 10000000) -implicitDefEqProofs (disch := first | exact tStr | decide | omega | assumption | (simp only [zz20,yz25,yz20]; omega)) only [D3,G6,G4,A9,C9,G3,B4,A1,C6,B2,D4,G5,D6,C5,B1,G7,B7,B8,C0,D8,D9,A5,J8,H9,E0,E1,M2,M3,M5,M4,I3,I4,P2,E4,E6,I0,B5,M1,N8,M9,N2,N3,N4,N5,N6,N7,N1,J2,J3,J4,J5,J6,J1,I8,I7,I9,M0,K9,E3,L1,C3,O1,O2,G2,O9,N9,O0,B0,L8,D2,I2,zz28,yz28,jz28,zz29,yz23,zz23,jz22,yz27,jz19,yz29,zz20,yz25,Nat.reduceAdd,Nat.reduceSub,Nat.reduceLT,Nat.reduceEqDiff,zz22,jz23,if_true,if_false,yz21,decide_true,decide_false,zz25,jz24,reduceIte,List.getElem?_cons_succ,List.getElem?_cons_zero,UInt8.reduceOfNat,fin1,fin2,L2,O7,L3,O8,H3,H6,H4,L4,H5,L5,B6,A8,zz24,M7,H0,M6,G0,Option.some.injEq,DV.tup.injEq,jz29,zz30,Int.reduceToNat,yz30,and_true,true_and,beq_self_eq_true,jz30,zz31,not_true_eq_false,not_false_eq_true,M8,J7,J0,A6,L9,K6,A4,B9,D7,G9,O3,O4,K0,F2,F5,I5,I6,F7,F4,F3,F6,K1,K4,O5,O6,K3,K2,K5,F8,F9,E8,E2,J9,G1,C7,E9,L0,C4,I1,K8,K7,E7,P3,C8,B3,A0,L7,H8,E5,L6,H7,yz19,zz27,yz31,jz25,jz31,zz32,jz26,zz21,jz27,zz26,and_self,Nat.reduceLeDiff,jz18,exists_eq_left',yz24,jz21,Nat.reduceBEq,yz22,yz32,G8,A3,N0,Int.reduceLT,Int.reduceLE,Int.reduceEq,c12 b2, *]) | with_reducible (first | refine C2 (fun h => ?_) fun h => ?_ | refine F1 (fun h => ?_) fun h => ?_ | refine C1 (fun h => ?_) fun h => ?_ | refine F0 (fun h => ?_) fun h => ?_ | refine A2 (fun h => ?_) fun h => ?_ | refine A7 (fun h => ?_) fun h => ?_) | (refine D5 ?_ ?_ ?_; (focus decide +kernel); (focus decide +kernel)))
            unfold Hid at hQ2 e5'
            exact hQ2 e5' _ rfl rfl
          · rw [if_neg hg] at e5'
            have hg' : ¬ (400 : Int) < ((acc ++ q).length : Int) := by omega
            replace e5' := hid e5'
            repeat' (first | (simp (maxSteps := 10000000) -implicitDefEqProofs (disch := first | exact tStr | decide | omega | assumption | (simp only [zz20,yz25,yz20]; omega)) only [D3,G6,G4,A9,C9,G3,B4,A1,C6,B2,D4,G5,D6,C5,B1,G7,B7,B8,C0,D8,D9,A5,J8,H9,E0,E1,M2,M3,M5,M4,I3,I4,P2,E4,E6,I0,B5,M1,N8,M9,N2,N3,N4,N5,N6,N7,N1,J2,J3,J4,J5,J6,J1,I8,I7,I9,M0,K9,E3,L1,C3,O1,O2,G2,O9,N9,O0,B0,L8,D2,I2,zz28,yz28,jz28,zz29,yz23,zz23,jz22,yz27,jz19,yz29,zz20,yz25,Nat.reduceAdd,Nat.reduceSub,Nat.reduceLT,Nat.reduceEqDiff,zz22,jz23,if_true,if_false,yz21,decide_true,decide_false,zz25,jz24,reduceIte,List.getElem?_cons_succ,List.getElem?_cons_zero,UInt8.reduceOfNat,fin1,fin2,L2,O7,L3,O8,H3,H6,H4,L4,H5,L5,B6,A8,zz24,M7,H0,M6,G0,Option.some.injEq,DV.tup.injEq,jz29,zz30,Int.reduceToNat,yz30,and_true,true_and,beq_self_eq_true,jz30,zz31,not_true_eq_false,not_false_eq_true,M8,J7,J0,A6,L9,K6,A4,B9,D7,G9,O3,O4,K0,F2,F5,I5,I6,F7,F4,F3,F6,K1,K4,O5,O6,K3,K2,K5,F8,F9,E8,E2,J9,G1,C7,E9,L0,C4,I1,K8,K7,E7,P3,C8,B3,A0,L7,H8,E5,L6,H7,yz19,zz27,yz31,jz25,jz31,zz32,jz26,zz21,jz27,zz26,and_self,Nat.reduceLeDiff,jz18,exists_eq_left',yz24,jz21,Nat.reduceBEq,yz22,yz32,G8,A3,N0,Int.reduceLT,Int.reduceLE,Int.reduceEq,c8,P5,R6,P4,iaT,Q9,hl1,hls,call10,call11, *]) | with_reducible (first | refine C2 (fun h => ?_) fun h => ?_ | refine F1 (fun h => ?_) fun h => ?_ | refine C1 (fun h => ?_) fun h => ?_ | refine F0 (fun h => ?_) fun h => ?_ | refine A2 (fun h => ?_) fun h => ?_ | refine A7 (fun h => ?_) fun h => ?_) | (refine D5 ?_ ?_ ?_; (focus decide +kernel); (focus decide +kernel)))
            refine w9 hb (by omega) fun v2 H2 b2 _ _ _ => ?_
            repeat' (first | (simp (maxSteps := 10000000) -implicitDefEqProofs (disch := first | exact tStr | decide | omega | assumption | (simp only [zz20,yz25,yz20]; omega)) only [D3,G6,G4,A9,C9,G3,B4,A1,C6,B2,D4,G5,D6,C5,B1,G7,B7,B8,C0,D8,D9,A5,J8,H9,E0,E1,M2,M3,M5,M4,I3,I4,P2,E4,E6,I0,B5,M1,N8,M9,N2,N3,N4,N5,N6,N7,N1,J2,J3,J4,J5,J6,J1,I8,I7,I9,M0,K9,E3,L1,C3,O1,O2,G2,O9,N9,O0,B0,L8,D2,I2,zz28,yz28,jz28,zz29,yz23,zz23,jz22,yz27,jz19,yz29,zz20,yz25,Nat.reduceAdd,Nat.reduceSub,Nat.reduceLT,Nat.reduceEqDiff,zz22,jz23,if_true,if_false,yz21,decide_true,decide_false,zz25,jz24,reduceIte,List.getElem?_cons_succ,List.getElem?_cons_zero,UInt8.reduceOfNat,fin1,fin2,L2,O7,L3,O8,H3,H6,H4,L4,H5,L5,B6,A8,zz24,M7,H0,M6,G0,Option.some.injEq,DV.tup.injEq,jz29,zz30,Int.reduceToNat,yz30,and_true,true_and,beq_self_eq_true,jz30,zz31,not_true_eq_false,not_false_eq_true,M8,J7,J0,A6,L9,K6,A4,B9,D7,G9,O3,O4,K0,F2,F5,I5,I6,F7,F4,F3,F6,K1,K4,O5,O6,K3,K2,K5,F8,F9,E8,E2,J9,G1,C7,E9,L0,C4,I1,K8,K7,E7,P3,C8,B3,A0,L7,H8,E5,L6,H7,yz19,zz27,yz31,jz25,jz31,zz32,jz26,zz21,jz27,zz26,and_self,Nat.reduceLeDiff,jz18,exists_eq_left',yz24,jz21,Nat.reduceBEq,yz22,yz32,G8,A3,N0,Int.reduceLT,Int.reduceLE,Int.reduceEq,c12 b2, *]) | with_reducible (first | refine C2 (fun h => ?_) fun h => ?_ | refine F1 (fun h => ?_) fun h => ?_ | refine C1 (fun h => ?_) fun h => ?_ | refine F0 (fun h => ?_) fun h => ?_ | refine A2 (fun h => ?_) fun h => ?_ | refine A7 (fun h => ?_) fun h => ?_) | (refine D5 ?_ ?_ ?_; (focus decide +kernel); (focus decide +kernel)))
            exact ⟨(ts.length - (i + (n0 : Int)) : Int).toNat,by unfold Hid at e6; omega,i + (n0 : Int),_,v2,m,rfl,b2,by omega,by omega,by omega,by omega,e5',rfl⟩
    · have hv' := zz33 _ ▸ hv
      rw [hd,run_not hv'] at e5
      rw [hd,R7] at e3
      replace e5 := hid e5
      clear hd hdr hv hm hp hfl
      repeat' (first | (simp (maxSteps := 10000000) -implicitDefEqProofs (disch := first | exact tStr | decide | omega | assumption | (simp only [zz20,yz25,yz20]; omega)) only [D3,G6,G4,A9,C9,G3,B4,A1,C6,B2,D4,G5,D6,C5,B1,G7,B7,B8,C0,D8,D9,A5,J8,H9,E0,E1,M2,M3,M5,M4,I3,I4,P2,E4,E6,I0,B5,M1,N8,M9,N2,N3,N4,N5,N6,N7,N1,J2,J3,J4,J5,J6,J1,I8,I7,I9,M0,K9,E3,L1,C3,O1,O2,G2,O9,N9,O0,B0,L8,D2,I2,zz28,yz28,jz28,zz29,yz23,zz23,jz22,yz27,jz19,yz29,zz20,yz25,Nat.reduceAdd,Nat.reduceSub,Nat.reduceLT,Nat.reduceEqDiff,zz22,jz23,if_true,if_false,yz21,decide_true,decide_false,zz25,jz24,reduceIte,List.getElem?_cons_succ,List.getElem?_cons_zero,UInt8.reduceOfNat,fin1,fin2,L2,O7,L3,O8,H3,H6,H4,L4,H5,L5,B6,A8,zz24,M7,H0,M6,G0,Option.some.injEq,DV.tup.injEq,jz29,zz30,Int.reduceToNat,yz30,and_true,true_and,beq_self_eq_true,jz30,zz31,not_true_eq_false,not_false_eq_true,M8,J7,J0,A6,L9,K6,A4,B9,D7,G9,O3,O4,K0,F2,F5,I5,I6,F7,F4,F3,F6,K1,K4,O5,O6,K3,K2,K5,F8,F9,E8,E2,J9,G1,C7,E9,L0,C4,I1,K8,K7,E7,P3,C8,B3,A0,L7,H8,E5,L6,H7,yz19,zz27,yz31,jz25,jz31,zz32,jz26,zz21,jz27,zz26,and_self,Nat.reduceLeDiff,jz18,exists_eq_left',yz24,jz21,Nat.reduceBEq,yz22,yz32,G8,A3,N0,Int.reduceLT,Int.reduceLE,Int.reduceEq,c8,P5,R6,P4,iaT, *]) | with_reducible (first | refine C2 (fun h => ?_) fun h => ?_ | refine F1 (fun h => ?_) fun h => ?_ | refine C1 (fun h => ?_) fun h => ?_ | refine F0 (fun h => ?_) fun h => ?_ | refine A2 (fun h => ?_) fun h => ?_ | refine A7 (fun h => ?_) fun h => ?_) | (refine D5 ?_ ?_ ?_; (focus decide +kernel); (focus decide +kernel)))
      refine w9 hb (by omega) fun v2 H2 b2 _ _ _ => ?_
      repeat' (first | (simp (maxSteps := 10000000) -implicitDefEqProofs (disch := first | exact tStr | decide | omega | assumption | (simp only [zz20,yz25,yz20]; omega)) only [D3,G6,G4,A9,C9,G3,B4,A1,C6,B2,D4,G5,D6,C5,B1,G7,B7,B8,C0,D8,D9,A5,J8,H9,E0,E1,M2,M3,M5,M4,I3,I4,P2,E4,E6,I0,B5,M1,N8,M9,N2,N3,N4,N5,N6,N7,N1,J2,J3,J4,J5,J6,J1,I8,I7,I9,M0,K9,E3,L1,C3,O1,O2,G2,O9,N9,O0,B0,L8,D2,I2,zz28,yz28,jz28,zz29,yz23,zz23,jz22,yz27,jz19,yz29,zz20,yz25,Nat.reduceAdd,Nat.reduceSub,Nat.reduceLT,Nat.reduceEqDiff,zz22,jz23,if_true,if_false,yz21,decide_true,decide_false,zz25,jz24,reduceIte,List.getElem?_cons_succ,List.getElem?_cons_zero,UInt8.reduceOfNat,fin1,fin2,L2,O7,L3,O8,H3,H6,H4,L4,H5,L5,B6,A8,zz24,M7,H0,M6,G0,Option.some.injEq,DV.tup.injEq,jz29,zz30,Int.reduceToNat,yz30,and_true,true_and,beq_self_eq_true,jz30,zz31,not_true_eq_false,not_false_eq_true,M8,J7,J0,A6,L9,K6,A4,B9,D7,G9,O3,O4,K0,F2,F5,I5,I6,F7,F4,F3,F6,K1,K4,O5,O6,K3,K2,K5,F8,F9,E8,E2,J9,G1,C7,E9,L0,C4,I1,K8,K7,E7,P3,C8,B3,A0,L7,H8,E5,L6,H7,yz19,zz27,yz31,jz25,jz31,zz32,jz26,zz21,jz27,zz26,and_self,Nat.reduceLeDiff,jz18,exists_eq_left',yz24,jz21,Nat.reduceBEq,yz22,yz32,G8,A3,N0,Int.reduceLT,Int.reduceLE,Int.reduceEq,c8, *]) | with_reducible (first | refine C2 (fun h => ?_) fun h => ?_ | refine F1 (fun h => ?_) fun h => ?_ | refine C1 (fun h => ?_) fun h => ?_ | refine F0 (fun h => ?_) fun h => ?_ | refine A2 (fun h => ?_) fun h => ?_ | refine A7 (fun h => ?_) fun h => ?_) | (refine D5 ?_ ?_ ?_; (focus decide +kernel); (focus decide +kernel)))
      exact ⟨(ts.length - (i + 1) : Int).toNat,by unfold Hid at e6; omega,i + 1,_,v2,m,rfl,b2,by omega,by omega,by simp only [yz20]; omega,by omega,e5,rfl⟩
  · obtain ⟨m,rfl⟩ : ∃ m',m = m' + 1 := ⟨m - 1,by omega⟩
    unfold Hid at e5
    rw [jz9 hi e1] at e3 e5
    simp only [R7,X3] at e3 e5
    replace e5 := hid e5
    clear hp hfl
    repeat' (first | (simp (maxSteps := 10000000) -implicitDefEqProofs (disch := first | exact tStr | decide | omega | assumption | (simp only [zz20,yz25,yz20]; omega)) only [D3,G6,G4,A9,C9,G3,B4,A1,C6,B2,D4,G5,D6,C5,B1,G7,B7,B8,C0,D8,D9,A5,J8,H9,E0,E1,M2,M3,M5,M4,I3,I4,P2,E4,E6,I0,B5,M1,N8,M9,N2,N3,N4,N5,N6,N7,N1,J2,J3,J4,J5,J6,J1,I8,I7,I9,M0,K9,E3,L1,C3,O1,O2,G2,O9,N9,O0,B0,L8,D2,I2,zz28,yz28,jz28,zz29,yz23,zz23,jz22,yz27,jz19,yz29,zz20,yz25,Nat.reduceAdd,Nat.reduceSub,Nat.reduceLT,Nat.reduceEqDiff,zz22,jz23,if_true,if_false,yz21,decide_true,decide_false,zz25,jz24,reduceIte,List.getElem?_cons_succ,List.getElem?_cons_zero,UInt8.reduceOfNat,fin1,fin2,L2,O7,L3,O8,H3,H6,H4,L4,H5,L5,B6,A8,zz24,M7,H0,M6,G0,Option.some.injEq,DV.tup.injEq,jz29,zz30,Int.reduceToNat,yz30,and_true,true_and,beq_self_eq_true,jz30,zz31,not_true_eq_false,not_false_eq_true,M8,J7,J0,A6,L9,K6,A4,B9,D7,G9,O3,O4,K0,F2,F5,I5,I6,F7,F4,F3,F6,K1,K4,O5,O6,K3,K2,K5,F8,F9,E8,E2,J9,G1,C7,E9,L0,C4,I1,K8,K7,E7,P3,C8,B3,A0,L7,H8,E5,L6,H7,yz19,zz27,yz31,jz25,jz31,zz32,jz26,zz21,jz27,zz26,and_self,Nat.reduceLeDiff,jz18,exists_eq_left',yz24,jz21,Nat.reduceBEq,yz22,yz32,G8,A3,N0,Int.reduceLT,Int.reduceLE,Int.reduceEq,P5,R6, *]) | with_reducible (first | refine C2 (fun h => ?_) fun h => ?_ | refine F1 (fun h => ?_) fun h => ?_ | refine C1 (fun h => ?_) fun h => ?_ | refine F0 (fun h => ?_) fun h => ?_ | refine A2 (fun h => ?_) fun h => ?_ | refine A7 (fun h => ?_) fun h => ?_) | (refine D5 ?_ ?_ ?_; (focus decide +kernel); (focus decide +kernel)))
    unfold Hid at hQ1 e5
    obtain rfl : i = ts.length := by omega
    refine hQ1 _ ?_
    exact ⟨acc,v,rfl,hb,by omega,e5⟩
end Go.Dx
end
section
namespace Go.Dx
open Go Go.Proofs
set_option maxRecDepth 8000
attribute [local congr] Q7 Q6 R2 P8 Q2 Q5 Q3
variable {l s : List UInt8} {H L : Heap} {K : DV → Heap → Prop} {i j k : Int} {r v : List UInt8} {ts : List Tok} {t : Tok} {vs : List (List UInt8 × List UInt8)}
theorem toks_rows (l : List UInt8) : toks l = S5 (U0 l) := toks_T l
theorem toks_facts (h : l.length ≤ 400) : Toks (U0 l) ∧ R7 (U0 l) ≤ 1000 := by
  have hs := toks_sum l
  exact ⟨⟨toksT_ok l,fun t ht => by have := toksT_val l t ht; omega,by omega⟩,by omega⟩
theorem inner_short {l : List UInt8} {i k : Nat} (hi : i < (U0 l).length) {name : List UInt8} {o : List Tok} (h : askT (((U0 l).drop (i + 1)).take k) = some (name,some o)) : (S9 [] false o).length < l.length := by
  obtain ⟨a,ha,_⟩ := askT_sub h
  have hok : ∀ t ∈ o,t.ok := fun t ht => by
    rw [← ha] at ht
    exact toksT_ok l t (List.mem_of_mem_drop (List.mem_of_mem_take (List.mem_of_mem_drop ht)))
  have h1 := head_short o [] false hok
  simp only [yz25,yz21,if_false,yz24] at h1
  have h2 : (o.flatMap Tok.raw).length ≤ (((U0 l).drop (i + 1)).flatMap Tok.raw).length := by
    rw [← ha]
    exact Nat.le_trans (flat_drop _ _) (flat_take _ _)
  have h3 : (((U0 l).drop i).flatMap Tok.raw).length ≤ l.length := by
    have := flat_drop i (U0 l)
    rw [toksT_text] at this; exact this
  have hd : (U0 l).drop i = (U0 l).getD i tok0 :: (U0 l).drop (i + 1) := by
    have := dropT (ts := U0 l) (i := (i : Int)) (by omega) (by omega)
    simpa [show ((i : Int) + 1).toNat = i + 1 by omega] using this
  rw [hd,List.flatMap_cons,yz20] at h3
  have h4 := List.length_pos_iff.mpr (toksT_ok l _ (getD_mem hi)).raw
  omega
theorem p5 (hvs : ∀ p ∈ vs,p.2.length ≤ 140737488351232) (hv : vs.length < 2 ^ 61) : ∀ (n : Nat) (value : List UInt8),value.length < n → PE Tryd.prog cfgV 5 [strD value, .imm (svs vs)] (resD (yz12 n vs value)) := by
  intro n
  induction n with
  | zero => intro value h; omega
  | succ n ih =>
    intro value hn
    refine PE.code rfl code5 ?_
    dsimp only [sf5]
    rw [yz12]
    by_cases hl : 400 < value.length
    · rw [if_pos hl]
      have hl' : (400 : Int) < value.length := by omega
      repeat' (first | (simp (maxSteps := 10000000) -implicitDefEqProofs (disch := first | exact tStr | decide | omega | assumption | (simp only [zz20,yz25,yz20]; omega)) only [D3,G6,G4,A9,C9,G3,B4,A1,C6,B2,D4,G5,D6,C5,B1,G7,B7,B8,C0,D8,D9,A5,J8,H9,E0,E1,M2,M3,M5,M4,I3,I4,P2,E4,E6,I0,B5,M1,N8,M9,N2,N3,N4,N5,N6,N7,N1,J2,J3,J4,J5,J6,J1,I8,I7,I9,M0,K9,E3,L1,C3,O1,O2,G2,O9,N9,O0,B0,L8,D2,I2,zz28,yz28,jz28,zz29,yz23,zz23,jz22,yz27,jz19,yz29,zz20,yz25,Nat.reduceAdd,Nat.reduceSub,Nat.reduceLT,Nat.reduceEqDiff,zz22,jz23,if_true,if_false,yz21,decide_true,decide_false,zz25,jz24,reduceIte,List.getElem?_cons_succ,List.getElem?_cons_zero,UInt8.reduceOfNat,fin1,fin2,L2,O7,L3,O8,H3,H6,H4,L4,H5,L5,B6,A8,zz24,M7,H0,M6,G0,Option.some.injEq,DV.tup.injEq,jz29,zz30,Int.reduceToNat,yz30,and_true,true_and,beq_self_eq_true,jz30,zz31,not_true_eq_false,not_false_eq_true,M8,J7,J0,A6,L9,K6,A4,B9,D7,G9,O3,O4,K0,F2,F5,I5,I6,F7,F4,F3,F6,K1,K4,O5,O6,K3,K2,K5,F8,F9,E8,E2,J9,G1,C7,E9,L0,C4,I1,K8,K7,E7,P3,C8,B3,A0,L7,H8,E5,L6,H7,yz19,zz27,yz31,jz25,jz31,zz32,jz26,zz21,jz27,zz26,and_self,Nat.reduceLeDiff,jz18,exists_eq_left',yz24,jz21,Nat.reduceBEq,yz22,yz32,G8,A3,N0,Int.reduceLT,Int.reduceLE,Int.reduceEq,resD, *]) | with_reducible (first | refine C2 (fun h => ?_) fun h => ?_ | refine F1 (fun h => ?_) fun h => ?_ | refine C1 (fun h => ?_) fun h => ?_ | refine F0 (fun h => ?_) fun h => ?_ | refine A2 (fun h => ?_) fun h => ?_ | refine A7 (fun h => ?_) fun h => ?_) | (refine D5 ?_ ?_ ?_; (focus decide +kernel); (focus decide +kernel)))
    · rw [if_neg hl]
      have hl' : ¬ (400 : Int) < value.length := by omega
      have h31 : value.length < 2 ^ 31 := by omega
      obtain ⟨T,hsm⟩ := toks_facts (l := value) (by omega)
      have call7 : ∀ (H : Heap) (K : DV → Heap → Prop),R4 Tryd.prog cfgV 7 [strD value] H K = K (.imm (S5 (U0 value))) H := fun H K => by
        rw [← toks_rows]; exact c7 h31
      have hp : ∀ i k : Nat,i < (U0 value).length → yz3 ((U0 value).getD i tok0).kind ((U0 value).getD i tok0).value = true → PE Tryd.prog cfgV 11 [.imm (S5 (((U0 value).drop (i + 1)).take k)), .imm (svs vs)] (resD (putT (yz12 n vs) vs (((U0 value).drop (i + 1)).take k))) := fun i k hi _ =>
        p11 (by have := rawSum_take k ((U0 value).drop (i + 1)); have := U5 (i + 1) (U0 value); omega) hv fun name o ha _ => ih _ (by have := inner_short hi ha; omega)
      repeat' (first | (simp (maxSteps := 10000000) -implicitDefEqProofs (disch := first | exact tStr | decide | omega | assumption | (simp only [zz20,yz25,yz20]; omega)) only [D3,G6,G4,A9,C9,G3,B4,A1,C6,B2,D4,G5,D6,C5,B1,G7,B7,B8,C0,D8,D9,A5,J8,H9,E0,E1,M2,M3,M5,M4,I3,I4,P2,E4,E6,I0,B5,M1,N8,M9,N2,N3,N4,N5,N6,N7,N1,J2,J3,J4,J5,J6,J1,I8,I7,I9,M0,K9,E3,L1,C3,O1,O2,G2,O9,N9,O0,B0,L8,D2,I2,zz28,yz28,jz28,zz29,yz23,zz23,jz22,yz27,jz19,yz29,zz20,yz25,Nat.reduceAdd,Nat.reduceSub,Nat.reduceLT,Nat.reduceEqDiff,zz22,jz23,if_true,if_false,yz21,decide_true,decide_false,zz25,jz24,reduceIte,List.getElem?_cons_succ,List.getElem?_cons_zero,UInt8.reduceOfNat,fin1,fin2,L2,O7,L3,O8,H3,H6,H4,L4,H5,L5,B6,A8,zz24,M7,H0,M6,G0,Option.some.injEq,DV.tup.injEq,jz29,zz30,Int.reduceToNat,yz30,and_true,true_and,beq_self_eq_true,jz30,zz31,not_true_eq_false,not_false_eq_true,M8,J7,J0,A6,L9,K6,A4,B9,D7,G9,O3,O4,K0,F2,F5,I5,I6,F7,F4,F3,F6,K1,K4,O5,O6,K3,K2,K5,F8,F9,E8,E2,J9,G1,C7,E9,L0,C4,I1,K8,K7,E7,P3,C8,B3,A0,L7,H8,E5,L6,H7,yz19,zz27,yz31,jz25,jz31,zz32,jz26,zz21,jz27,zz26,and_self,Nat.reduceLeDiff,jz18,exists_eq_left',yz24,jz21,Nat.reduceBEq,yz22,yz32,G8,A3,N0,Int.reduceLT,Int.reduceLE,Int.reduceEq,call7, *]) | with_reducible (first | refine C2 (fun h => ?_) fun h => ?_ | refine F1 (fun h => ?_) fun h => ?_ | refine C1 (fun h => ?_) fun h => ?_ | refine F0 (fun h => ?_) fun h => ?_ | refine A2 (fun h => ?_) fun h => ?_ | refine A7 (fun h => ?_) fun h => ?_) | (refine D5 ?_ ?_ ?_; (focus decide +kernel); (focus decide +kernel)))
      refine l5_0 (fill := yz12 n vs) (R := X3 (yz12 n vs) vs ((U0 value).length + 1) (U0 value) []) T hsm (fun ts q => put_le hvs) hp ?_ ?_ (n := ((U0 value).length - 0 : Int).toNat) ⟨0, [], .nil,(U0 value).length + 1,rfl,⟨_,F8, .inl rfl,Lst.nil,fun _ => rfl⟩,by omega,by omega,by simp,by omega,rfl,rfl⟩
      · clear hp
        generalize X3 (yz12 n vs) vs ((U0 value).length + 1) (U0 value) [] = R
        rintro d ⟨acc,v,hs,hb,hal,hR⟩
        obtain ⟨x,H,rfl⟩ : ∃ x H,d = sh5 (U0 value) vs (U0 value).length H x := ⟨_,_,hs⟩
        clear hs
        dsimp only [sh5] at hb ⊢
        by_cases hg : 400 < acc.length
        · rw [if_pos hg] at hR
          have hg' : (400 : Int) < acc.length := by omega
          rw [hR]
          clear hR
          repeat' (first | (simp (maxSteps := 10000000) -implicitDefEqProofs (disch := first | exact tStr | decide | omega | assumption | (simp only [zz20,yz25,yz20]; omega)) only [D3,G6,G4,A9,C9,G3,B4,A1,C6,B2,D4,G5,D6,C5,B1,G7,B7,B8,C0,D8,D9,A5,J8,H9,E0,E1,M2,M3,M5,M4,I3,I4,P2,E4,E6,I0,B5,M1,N8,M9,N2,N3,N4,N5,N6,N7,N1,J2,J3,J4,J5,J6,J1,I8,I7,I9,M0,K9,E3,L1,C3,O1,O2,G2,O9,N9,O0,B0,L8,D2,I2,zz28,yz28,jz28,zz29,yz23,zz23,jz22,yz27,jz19,yz29,zz20,yz25,Nat.reduceAdd,Nat.reduceSub,Nat.reduceLT,Nat.reduceEqDiff,zz22,jz23,if_true,if_false,yz21,decide_true,decide_false,zz25,jz24,reduceIte,List.getElem?_cons_succ,List.getElem?_cons_zero,UInt8.reduceOfNat,fin1,fin2,L2,O7,L3,O8,H3,H6,H4,L4,H5,L5,B6,A8,zz24,M7,H0,M6,G0,Option.some.injEq,DV.tup.injEq,jz29,zz30,Int.reduceToNat,yz30,and_true,true_and,beq_self_eq_true,jz30,zz31,not_true_eq_false,not_false_eq_true,M8,J7,J0,A6,L9,K6,A4,B9,D7,G9,O3,O4,K0,F2,F5,I5,I6,F7,F4,F3,F6,K1,K4,O5,O6,K3,K2,K5,F8,F9,E8,E2,J9,G1,C7,E9,L0,C4,I1,K8,K7,E7,P3,C8,B3,A0,L7,H8,E5,L6,H7,yz19,zz27,yz31,jz25,jz31,zz32,jz26,zz21,jz27,zz26,and_self,Nat.reduceLeDiff,jz18,exists_eq_left',yz24,jz21,Nat.reduceBEq,yz22,yz32,G8,A3,N0,Int.reduceLT,Int.reduceLE,Int.reduceEq,c12 hb,resD, *]) | with_reducible (first | refine C2 (fun h => ?_) fun h => ?_ | refine F1 (fun h => ?_) fun h => ?_ | refine C1 (fun h => ?_) fun h => ?_ | refine F0 (fun h => ?_) fun h => ?_ | refine A2 (fun h => ?_) fun h => ?_ | refine A7 (fun h => ?_) fun h => ?_) | (refine D5 ?_ ?_ ?_; (focus decide +kernel); (focus decide +kernel)))
        · rw [if_neg hg] at hR
          have hg' : ¬ (400 : Int) < acc.length := by omega
          rw [hR]
          clear hR
          repeat' (first | (simp (maxSteps := 10000000) -implicitDefEqProofs (disch := first | exact tStr | decide | omega | assumption | (simp only [zz20,yz25,yz20]; omega)) only [D3,G6,G4,A9,C9,G3,B4,A1,C6,B2,D4,G5,D6,C5,B1,G7,B7,B8,C0,D8,D9,A5,J8,H9,E0,E1,M2,M3,M5,M4,I3,I4,P2,E4,E6,I0,B5,M1,N8,M9,N2,N3,N4,N5,N6,N7,N1,J2,J3,J4,J5,J6,J1,I8,I7,I9,M0,K9,E3,L1,C3,O1,O2,G2,O9,N9,O0,B0,L8,D2,I2,zz28,yz28,jz28,zz29,yz23,zz23,jz22,yz27,jz19,yz29,zz20,yz25,Nat.reduceAdd,Nat.reduceSub,Nat.reduceLT,Nat.reduceEqDiff,zz22,jz23,if_true,if_false,yz21,decide_true,decide_false,zz25,jz24,reduceIte,List.getElem?_cons_succ,List.getElem?_cons_zero,UInt8.reduceOfNat,fin1,fin2,L2,O7,L3,O8,H3,H6,H4,L4,H5,L5,B6,A8,zz24,M7,H0,M6,G0,Option.some.injEq,DV.tup.injEq,jz29,zz30,Int.reduceToNat,yz30,and_true,true_and,beq_self_eq_true,jz30,zz31,not_true_eq_false,not_false_eq_true,M8,J7,J0,A6,L9,K6,A4,B9,D7,G9,O3,O4,K0,F2,F5,I5,I6,F7,F4,F3,F6,K1,K4,O5,O6,K3,K2,K5,F8,F9,E8,E2,J9,G1,C7,E9,L0,C4,I1,K8,K7,E7,P3,C8,B3,A0,L7,H8,E5,L6,H7,yz19,zz27,yz31,jz25,jz31,zz32,jz26,zz21,jz27,zz26,and_self,Nat.reduceLeDiff,jz18,exists_eq_left',yz24,jz21,Nat.reduceBEq,yz22,yz32,G8,A3,N0,Int.reduceLT,Int.reduceLE,Int.reduceEq,c12 hb,resD, *]) | with_reducible (first | refine C2 (fun h => ?_) fun h => ?_ | refine F1 (fun h => ?_) fun h => ?_ | refine C1 (fun h => ?_) fun h => ?_ | refine F0 (fun h => ?_) fun h => ?_ | refine A2 (fun h => ?_) fun h => ?_ | refine A7 (fun h => ?_) fun h => ?_) | (refine D5 ?_ ?_ ?_; (focus decide +kernel); (focus decide +kernel)))
          refine w13 hb (by omega) fun H' _ _ => ?_
          repeat' (first | (simp (maxSteps := 10000000) -implicitDefEqProofs (disch := first | exact tStr | decide | omega | assumption | (simp only [zz20,yz25,yz20]; omega)) only [D3,G6,G4,A9,C9,G3,B4,A1,C6,B2,D4,G5,D6,C5,B1,G7,B7,B8,C0,D8,D9,A5,J8,H9,E0,E1,M2,M3,M5,M4,I3,I4,P2,E4,E6,I0,B5,M1,N8,M9,N2,N3,N4,N5,N6,N7,N1,J2,J3,J4,J5,J6,J1,I8,I7,I9,M0,K9,E3,L1,C3,O1,O2,G2,O9,N9,O0,B0,L8,D2,I2,zz28,yz28,jz28,zz29,yz23,zz23,jz22,yz27,jz19,yz29,zz20,yz25,Nat.reduceAdd,Nat.reduceSub,Nat.reduceLT,Nat.reduceEqDiff,zz22,jz23,if_true,if_false,yz21,decide_true,decide_false,zz25,jz24,reduceIte,List.getElem?_cons_succ,List.getElem?_cons_zero,UInt8.reduceOfNat,fin1,fin2,L2,O7,L3,O8,H3,H6,H4,L4,H5,L5,B6,A8,zz24,M7,H0,M6,G0,Option.some.injEq,DV.tup.injEq,jz29,zz30,Int.reduceToNat,yz30,and_true,true_and,beq_self_eq_true,jz30,zz31,not_true_eq_false,not_false_eq_true,M8,J7,J0,A6,L9,K6,A4,B9,D7,G9,O3,O4,K0,F2,F5,I5,I6,F7,F4,F3,F6,K1,K4,O5,O6,K3,K2,K5,F8,F9,E8,E2,J9,G1,C7,E9,L0,C4,I1,K8,K7,E7,P3,C8,B3,A0,L7,H8,E5,L6,H7,yz19,zz27,yz31,jz25,jz31,zz32,jz26,zz21,jz27,zz26,and_self,Nat.reduceLeDiff,jz18,exists_eq_left',yz24,jz21,Nat.reduceBEq,yz22,yz32,G8,A3,N0,Int.reduceLT,Int.reduceLE,Int.reduceEq,resD, *]) | with_reducible (first | refine C2 (fun h => ?_) fun h => ?_ | refine F1 (fun h => ?_) fun h => ?_ | refine C1 (fun h => ?_) fun h => ?_ | refine F0 (fun h => ?_) fun h => ?_ | refine A2 (fun h => ?_) fun h => ?_ | refine A7 (fun h => ?_) fun h => ?_) | (refine D5 ?_ ?_ ?_; (focus decide +kernel); (focus decide +kernel)))
      · intro hR d h4 h5
        rw [hR]
        clear hR hp
        obtain ⟨sl,H⟩ := d
        simp only at h4 h5
        repeat' (first | (simp (maxSteps := 10000000) -implicitDefEqProofs (disch := first | exact tStr | decide | omega | assumption | (simp only [zz20,yz25,yz20]; omega)) only [D3,G6,G4,A9,C9,G3,B4,A1,C6,B2,D4,G5,D6,C5,B1,G7,B7,B8,C0,D8,D9,A5,J8,H9,E0,E1,M2,M3,M5,M4,I3,I4,P2,E4,E6,I0,B5,M1,N8,M9,N2,N3,N4,N5,N6,N7,N1,J2,J3,J4,J5,J6,J1,I8,I7,I9,M0,K9,E3,L1,C3,O1,O2,G2,O9,N9,O0,B0,L8,D2,I2,zz28,yz28,jz28,zz29,yz23,zz23,jz22,yz27,jz19,yz29,zz20,yz25,Nat.reduceAdd,Nat.reduceSub,Nat.reduceLT,Nat.reduceEqDiff,zz22,jz23,if_true,if_false,yz21,decide_true,decide_false,zz25,jz24,reduceIte,List.getElem?_cons_succ,List.getElem?_cons_zero,UInt8.reduceOfNat,fin1,fin2,L2,O7,L3,O8,H3,H6,H4,L4,H5,L5,B6,A8,zz24,M7,H0,M6,G0,Option.some.injEq,DV.tup.injEq,jz29,zz30,Int.reduceToNat,yz30,and_true,true_and,beq_self_eq_true,jz30,zz31,not_true_eq_false,not_false_eq_true,M8,J7,J0,A6,L9,K6,A4,B9,D7,G9,O3,O4,K0,F2,F5,I5,I6,F7,F4,F3,F6,K1,K4,O5,O6,K3,K2,K5,F8,F9,E8,E2,J9,G1,C7,E9,L0,C4,I1,K8,K7,E7,P3,C8,B3,A0,L7,H8,E5,L6,H7,yz19,zz27,yz31,jz25,jz31,zz32,jz26,zz21,jz27,zz26,and_self,Nat.reduceLeDiff,jz18,exists_eq_left',yz24,jz21,Nat.reduceBEq,yz22,yz32,G8,A3,N0,Int.reduceLT,Int.reduceLE,Int.reduceEq,resD,h4,h5, *]) | with_reducible (first | refine C2 (fun h => ?_) fun h => ?_ | refine F1 (fun h => ?_) fun h => ?_ | refine C1 (fun h => ?_) fun h => ?_ | refine F0 (fun h => ?_) fun h => ?_ | refine A2 (fun h => ?_) fun h => ?_ | refine A7 (fun h => ?_) fun h => ?_) | (refine D5 ?_ ?_ ?_; (focus decide +kernel); (focus decide +kernel)))
end Go.Dx
end
