/- A part of the proof of VarFills: rules of an interpreter of the program's code, shown to answer as the model does. -/
import Derived.Test.YtcclgnddbgaigaaDoorT05
open Nat renaming le_refl → jz18, add_zero → jz21
open Bool renaming and_eq_true → zz19, false_eq_true → yz21
open Option renaming map_eq_some_iff → jz20, map_some → zz22
set_option linter.all false
section
namespace Go.Dx
open Go
section
variable {P : Program}
mutual
theorem VR.free {A B : Sit} (hw : A.w = B.w) (hf : ∀ b,A.fz b → B.fz b) : ∀ (v : DV) (c : Value),yz7 v = true → VR A v c → VR B v c
  | .sc _,_,_,x => x
  | .nil,_,_,x => x
  | .imm es,_,_,⟨hi,a,n,e,l,x⟩ => ⟨hi,a,n,e,l,x.imp id fun ⟨b,o,k,ha,hb,hr⟩ => ⟨b,o,k,ha,hf b hb,VRrows.free hw hf k b o es hi hr⟩⟩
  | .osl _ _ _,_,h,_ => by simp [yz7] at h
  | .ptr _ _ _,_,h,_ => by simp [yz7] at h
  | .iptr cs,_,_,⟨hi,b,o,e,hb,x⟩ => ⟨hi,b,o,e,hf b hb,VRcells.free hw hf b o cs hi x⟩
  | .agg cs,_,h,⟨a,e,x⟩ => ⟨a,e,VRs.free hw hf cs a.toList (by simpa [yz7] using h) x⟩
  | .tup cs,_,h,⟨a,e,x⟩ => ⟨a,e,VRs.free hw hf cs a.toList (by simpa [yz7] using h) x⟩
  | .fn _ cs,_,h,⟨a,e,x⟩ => ⟨a,e,VRs.free hw hf cs a.toList (by simpa [yz7] using h) x⟩
theorem VRcells.free {A B : Sit} (hw : A.w = B.w) (hf : ∀ b,A.fz b → B.fz b) (b : Nat) : ∀ (o : Nat) (cs : List DV),T8 cs = true → VRcells A b o cs → VRcells B b o cs
  | _,[],_,x => x
  | o,v :: r,h,⟨⟨c,hc,hv⟩,x⟩ => by
    simp only [T8,zz19] at h
    exact ⟨⟨c,hw ▸ hc,VR.free hw hf v c h.1 hv⟩,VRcells.free hw hf b (o + 1) r h.2 x⟩
theorem VRrows.free {A B : Sit} (hw : A.w = B.w) (hf : ∀ b,A.fz b → B.fz b) (k b : Nat) : ∀ (o : Nat) (es : List (List DV)),X4 es = true → VRrows A k b o es → VRrows B k b o es
  | _,[],_,x => x
  | o,e :: r,h,⟨hk,hc,x⟩ => by
    simp only [X4,zz19] at h
    exact ⟨hk,VRcells.free hw hf b o e h.1 hc,VRrows.free hw hf k b (o + k) r h.2 x⟩
theorem VRs.free {A B : Sit} (hw : A.w = B.w) (hf : ∀ b,A.fz b → B.fz b) : ∀ (vs : List DV) (cs : List Value),T8 vs = true → VRs A vs cs → VRs B vs cs
  | [],[],_,x => x
  | v :: r,c :: s,h,⟨hv,x⟩ => by
    simp only [T8,zz19] at h
    exact ⟨VR.free hw hf v c h.1 hv,VRs.free hw hf r s h.2 x⟩
  | [],_ :: _,_,x => x.elim
  | _ :: _,[],_,x => x.elim
end
mutual
theorem VR.flat {A B : Sit} : ∀ (v : DV) (c : Value),flat v = true → VR A v c → VR B v c
  | .sc _,_,_,x => x
  | .nil,_,_,x => x
  | .imm es,_,h,⟨hi,a,n,e,l,_⟩ => ⟨hi,a,n,e,l,.inl (by simpa [Dx.flat] using h)⟩
  | .osl _ _ _,_,h,_ => by simp [Dx.flat] at h
  | .ptr _ _ _,_,h,_ => by simp [Dx.flat] at h
  | .iptr _,_,h,_ => by simp [Dx.flat] at h
  | .agg cs,_,h,⟨a,e,x⟩ => ⟨a,e,VRs.flat cs a.toList (by simpa [Dx.flat] using h) x⟩
  | .tup cs,_,h,⟨a,e,x⟩ => ⟨a,e,VRs.flat cs a.toList (by simpa [Dx.flat] using h) x⟩
  | .fn _ cs,_,h,⟨a,e,x⟩ => ⟨a,e,VRs.flat cs a.toList (by simpa [Dx.flat] using h) x⟩
theorem VRs.flat {A B : Sit} : ∀ (vs : List DV) (cs : List Value),flatL vs = true → VRs A vs cs → VRs B vs cs
  | [],[],_,x => x
  | v :: r,c :: s,h,⟨hv,x⟩ => by
    simp only [flatL,zz19] at h
    exact ⟨VR.flat v c h.1 hv,VRs.flat r s h.2 x⟩
  | [],_ :: _,_,x => x.elim
  | _ :: _,[],_,x => x.elim
end
def Sit.froze (S : Sit) : Sit := { S with H := [],fz := fun b => S.fz b ∨ S.owned b }
theorem nil_row (id : Nat) : Heap.row [] id = none := by simp [Heap.row]
theorem Sit.froze_ok {S : Sit} (ok : S.ok) : S.froze.ok where
  rows id r h := by simp [Sit.froze,nil_row] at h
  free id r h := by simp [Sit.froze,nil_row] at h
  apart i j r s h := by simp [Sit.froze,nil_row] at h
  fzlt b h := by
    rcases h with h | ⟨id,r,hr,rfl⟩
    · exact ok.fzlt b h
    · exact ok.blk_lt hr
theorem VRcells.list {S S' : Sit} {b : Nat} (hw : S.w = S'.w) {f : DV → Option DV} (hf : ∀ v v' c,f v = some v' → VR S v c → VR S' v' c ∧ yz7 v' = true) :
    ∀ (o : Nat) (cs cs' : List DV),Q8 f cs = some cs' → VRcells S b o cs → VRcells S' b o cs' ∧ T8 cs' = true ∧ cs'.length = cs.length
  | _,[],_,h,_ => by simp only [Q8,Option.some.injEq] at h; subst h; exact ⟨trivial,rfl,rfl⟩
  | o,v :: r,cs',h,⟨⟨c,hc,hv⟩,x⟩ => by
    simp only [Q8] at h
    split at h
    · rename_i v' r' h1 h2
      obtain rfl := Option.some.inj h
      obtain ⟨a1,a2,a3⟩ := VRcells.list hw hf (o + 1) r r' h2 x
      obtain ⟨b1,b2⟩ := hf v v' c h1 hv
      exact ⟨⟨⟨c,hw ▸ hc,b1⟩,a1⟩,by simp [T8,a2,b2],by simp [a3]⟩
    · simp at h
theorem VRrows.list {S S' : Sit} {k b : Nat} (hw : S.w = S'.w) {f : DV → Option DV} (hf : ∀ v v' c,f v = some v' → VR S v c → VR S' v' c ∧ yz7 v' = true) :
    ∀ (o : Nat) (es es' : List (List DV)),Q8 (Q8 f) es = some es' → VRrows S k b o es → VRrows S' k b o es' ∧ X4 es' = true ∧ es'.length = es.length
  | _,[],_,h,_ => by simp only [Q8,Option.some.injEq] at h; subst h; exact ⟨trivial,rfl,rfl⟩
  | o,e :: r,es',h,⟨hk,hc,x⟩ => by
    simp only [Q8] at h
    split at h
    · rename_i e' r' h1 h2
      obtain rfl := Option.some.inj h
      obtain ⟨a1,a2,a3⟩ := VRrows.list hw hf (o + k) r r' h2 x
      obtain ⟨b1,b2,b3⟩ := VRcells.list hw hf o e e' h1 hc
      exact ⟨⟨by rw [b3]; exact hk,b1,a1⟩,by simp [X4,a2,b2],by simp [a3]⟩
    · simp at h
theorem VRs.list {S S' : Sit} {f : DV → Option DV} (hf : ∀ v v' c,f v = some v' → VR S v c → VR S' v' c ∧ yz7 v' = true) :
    ∀ (vs vs' : List DV) (cs : List Value),Q8 f vs = some vs' → VRs S vs cs → VRs S' vs' cs ∧ T8 vs' = true
  | [],_,[],h,_ => by simp only [Q8,Option.some.injEq] at h; subst h; exact ⟨trivial,rfl⟩
  | v :: r,vs',c :: s,h,⟨hv,x⟩ => by
    simp only [Q8] at h
    split at h
    · rename_i v' r' h1 h2
      obtain rfl := Option.some.inj h
      obtain ⟨a1,a2⟩ := VRs.list hf r r' s h2 x
      obtain ⟨b1,b2⟩ := hf v v' c h1 hv
      exact ⟨⟨b1,a1⟩,by simp [T8,a2,b2]⟩
    · simp at h
  | [],_,_ :: _,_,x => x.elim
  | _ :: _,_,[],_,x => x.elim
theorem frz_ok {S : Sit} (ok : S.ok) : ∀ (n : Nat) (v v' : DV) (c : Value),frz S.H n v = some v' → VR S v c → VR S.froze v' c ∧ yz7 v' = true
  | 0,_,_,_,h,_ => by simp [frz] at h
  | n + 1,v,v',c,h,hv => by
    have ih := frz_ok ok n
    cases v
    · simp only [frz,Option.some.injEq] at h; subst h; exact ⟨hv,rfl⟩
    · simp only [frz,Option.some.injEq] at h; subst h
      obtain rfl : c = _ := hv
      exact ⟨⟨rfl,none,0,rfl,jz18 _,.inl rfl⟩,rfl⟩
    · simp only [frz,Option.some.injEq] at h; subst h
      have hi := hv.1
      exact ⟨VR.free (A := S) (B := S.froze) rfl (fun b hb => .inl hb) _ _ (by simpa [yz7] using hi) hv,by simpa [yz7] using hi⟩
    · rename_i id off len
      simp only [frz] at h
      split at h
      · rename_i r hr
        split at h
        · rename_i hle
          simp only [jz20] at h
          obtain ⟨es',he,rfl⟩ := h
          obtain ⟨⟨b0,k0,hsh⟩,hlt,hq⟩ := hv
          have hR := ok.rows id r hr
          have hV := (hR.vals.drop off).take len
          have hlen : ((r.es.drop off).take len).length = len := by simp; omega
          obtain ⟨a1,a2,a3⟩ := VRrows.list (S := S) (S' := S.froze) rfl (fun v v' c h1 h2 => ih v v' c h1 h2) _ _ _ he hV
          refine ⟨?_,by simpa [yz7] using a2⟩
          rcases hq r hr with ⟨m,rfl,hm⟩ | ⟨rfl,b,rfl⟩
          · refine ⟨a2,_,m,by rw [a3,hlen],by rw [a3,hlen]; have := hR.room; omega,.inr ⟨_,_,r.k,rfl,.inr ⟨id,r,hr,rfl⟩,a1⟩⟩
          · have : es' = [] := by
              rw [hlen] at a3; exact List.length_eq_zero_iff.1 a3
            subst this
            exact ⟨rfl,some b,0,rfl,jz18 _,.inl rfl⟩
        · simp at h
      · simp at h
    · simp [frz] at h
    · simp [frz] at h
    · simp only [frz,jz20] at h
      obtain ⟨l,hl,rfl⟩ := h
      obtain ⟨a,rfl,hs⟩ := hv
      obtain ⟨b1,b2⟩ := VRs.list (fun v v' c h1 h2 => ih v v' c h1 h2) _ _ _ hl hs
      exact ⟨⟨a,rfl,b1⟩,by simpa [yz7] using b2⟩
    · simp only [frz,jz20] at h
      obtain ⟨l,hl,rfl⟩ := h
      obtain ⟨a,rfl,hs⟩ := hv
      obtain ⟨b1,b2⟩ := VRs.list (fun v v' c h1 h2 => ih v v' c h1 h2) _ _ _ hl hs
      exact ⟨⟨a,rfl,b1⟩,by simpa [yz7] using b2⟩
    · simp only [frz,jz20] at h
      obtain ⟨l,hl,rfl⟩ := h
      obtain ⟨a,rfl,hs⟩ := hv
      obtain ⟨b1,b2⟩ := VRs.list (fun v v' c h1 h2 => ih v v' c h1 h2) _ _ _ hl hs
      exact ⟨⟨a,rfl,b1⟩,by simpa [yz7] using b2⟩
theorem optMap_congr {α β : Type} {f g : α → Option β} : ∀ l : List α,(∀ x ∈ l,f x = g x) → Q8 f l = Q8 g l
  | [],_ => rfl
  | x :: r,h => by simp only [Q8]; rw [h x (by simp),optMap_congr r (fun y hy => h y (by simp [hy]))]
theorem noIdsL_mem : ∀ {l : List DV},T8 l = true → ∀ x ∈ l,yz7 x = true
  | [],_,_,h => by simp at h
  | v :: r,h,x,hx => by
    simp only [T8,zz19] at h
    rcases List.mem_cons.1 hx with rfl | hx
    · exact h.1
    · exact noIdsL_mem h.2 x hx
theorem frz_noIds (H : Heap) : ∀ (n : Nat) (v : DV),yz7 v = true → frz H n v = frz [] n v
  | 0,_,_ => rfl
  | n + 1,v,h => by
    have ih := frz_noIds H n
    cases v <;> simp only [frz] <;> simp only [yz7] at h
    · simp at h
    all_goals rw [optMap_congr _ fun x hx => ih x (noIdsL_mem h x hx)]
theorem glob_froze {G : Nat → Option (List DV)} {S B : Sit} (hw : S.w = B.w) (hf : ∀ b,S.fz b → B.fz b) (hg : Glob G S) : Glob G B := fun g cs e => by
  have := hg g cs e
  exact ⟨VR.free hw hf _ _ (by have := this.1.1; simpa [yz7] using this) this.1,fun h => by rw [← hw]; exact this.2 h⟩
theorem enters_of {call : U8} {G : Nat → Option (List DV)} (h : CallOk P G call) {f : FuncId} {args : List DV} {H : Heap} {r : DV × Heap} (e : call f args H = some r) : Enters P f := (h f args H r.1 r.2 e).1
theorem pcall_ok {G : Nat → Option (List DV)} {d : U8} (hd : CallOk P G d) : CallOk P G (pcall d) := by
  intro f args H v H' h
  simp only [pcall] at h
  split at h
  · simp at h
  · rename_i args' ha
    split at h
    · simp at h
    · rename_i v1 H1 hc
      obtain ⟨hE,hA⟩ := hd f args' [] v1 H1 hc
      refine ⟨hE,?_⟩
      split at h
      · simp at h
      · rename_i v2 hv2
        split at h
        · rename_i hcond
          obtain ⟨rfl,rfl⟩ := Prod.mk.inj (Option.some.inj h)
          intro S cargs ok hg hH hvs
          subst hH
          by_cases hn : T8 args = true
          ·
            let S0 : Sit := { S with H := [] }
            have ok0 : S0.ok := ⟨fun id r h => by simp [S0,nil_row] at h,fun id r h => by simp [S0,nil_row] at h,fun i j r s h => by simp [S0,nil_row] at h,ok.fzlt⟩
            have hown0 : ∀ b,¬ S0.owned b := fun b ⟨id,r,h,_⟩ => by simp [S0,nil_row] at h
            have hvs0 : VRs S0 args cargs.toList := VRs.free (A := S) (B := S0) rfl (fun _ h => h) _ _ hn hvs
            rw [optMap_congr _ fun x hx => frz_noIds S.H W4 x (noIdsL_mem hn x hx)] at ha
            have hvs1 := (VRs.list (S := S0) (S' := S0.froze) (fun v v' c h1 h2 => frz_ok ok0 W4 v v' c h1 h2) _ _ _ ha hvs0)
            have hvs2 : VRs S0 args' cargs.toList := VRs.free (A := S0.froze) (B := S0) rfl (fun b h => h.elim id fun h => absurd h (hown0 b)) _ _ hvs1.2 hvs1.1
            refine (hA S0 cargs ok0 (glob_froze (S := S) (B := S0) rfl (fun _ h => h) hg) rfl hvs2).mono fun e w' hp => ?_
            obtain ⟨c,S1,rfl,rfl,hH1,ok1,st1,hv1⟩ := hp
            obtain ⟨r1,r2⟩ := frz_ok ok1 W4 v1 v2 c (by rw [hH1]; exact hv2) hv1
            let S' : Sit := { S with w := S1.w,fz := S1.froze.fz }
            have hfz : ∀ b,S1.froze.fz b → S.fz b ∨ S.w.heap.size ≤ b := fun b h => by
              rcases h with h | h
              · rcases st1.fzof b h with h | h | h
                · exact .inl h
                · exact absurd h (hown0 b)
                · exact .inr h
              · rcases st1.own b h with h | h
                · exact absurd h (hown0 b)
                · exact .inr h
            have hheap : ∀ b,b < S.w.heap.size → S1.w.heap[b]? = S.w.heap[b]? := fun b hb => st1.frame b hb (hown0 b)
            have st : Step S S' := ⟨st1.os,st1.tape,st1.output,st1.size,fun b hb _ => hheap b hb,fun b hb => .inl (st1.fz b hb),fun b hb => (hfz b hb).imp id .inr,fun b hb => .inl hb,jz18 _,
              fun id r _ hr => ⟨r,hr,rfl,rfl,rfl,rfl⟩⟩
            have ok' : S'.ok := ⟨fun id r hr => (ok.rows id r hr).mono st ok (hheap _ (ok.blk_lt hr)) rfl rfl rfl,
              fun id r hr hb => (hfz _ hb).elim (fun h => ok.free id r hr h) (fun h => absurd (ok.blk_lt hr) (Nat.not_lt.2 h)),ok.apart,
              (Sit.froze_ok ok1).fzlt⟩
            exact ⟨c,S',rfl,rfl,rfl,ok',st,VR.free (A := S1.froze) (B := S') rfl (fun _ h => h) _ _ r2 r1⟩
          ·
            have hfl : flat v2 = true := by simpa [hn] using hcond
            have ok0 := Sit.froze_ok ok
            have hown0 : ∀ b,¬ S.froze.owned b := fun b ⟨id,r,h,_⟩ => by simp [Sit.froze,nil_row] at h
            have hvs1 := (VRs.list (S := S) (S' := S.froze) (fun v v' c h1 h2 => frz_ok ok W4 v v' c h1 h2) _ _ _ ha hvs)
            refine (hA S.froze cargs ok0 (glob_froze (S := S) (B := S.froze) rfl (fun _ h => .inl h) hg) rfl hvs1.1).mono fun e w' hp => ?_
            obtain ⟨c,S1,rfl,rfl,hH1,ok1,st1,hv1⟩ := hp
            obtain ⟨r1,r2⟩ := frz_ok ok1 W4 v1 v2 c (by rw [hH1]; exact hv2) hv1
            let S' : Sit := { S with w := S1.w }
            have hheap : ∀ b,b < S.w.heap.size → S1.w.heap[b]? = S.w.heap[b]? := fun b hb => st1.frame b hb (hown0 b)
            have st : Step S S' := ⟨st1.os,st1.tape,st1.output,st1.size,fun b hb _ => hheap b hb,fun b hb => hb,fun b hb => .inl hb,fun b hb => .inl hb,jz18 _,
              fun id r _ hr => ⟨r,hr,rfl,rfl,rfl,rfl⟩⟩
            have ok' : S'.ok := ⟨fun id r hr => (ok.rows id r hr).mono st ok (hheap _ (ok.blk_lt hr)) rfl rfl rfl,ok.free,ok.apart,
              fun b hb => Nat.lt_of_lt_of_le (ok.fzlt b hb) st1.size⟩
            exact ⟨c,S',rfl,rfl,rfl,ok',st,VR.flat _ _ hfl r1⟩
        · simp at h
theorem caller_ok {cfg : Cfg} {d : U8} (hd : CallOk P cfg.G d) : CallOk P cfg.G (caller cfg d) := by
  intro f args H v H' h
  simp only [caller] at h
  split at h
  · exact pcall_ok hd f args H v H' h
  · exact hd f args H v H' h
def PrimOk (P : Program) (cfg : Cfg) : Prop := ∀ f g,cfg.prim f = some g → Enters P f ∧ ∀ args v,g args = some v → ∀ H,Answers P cfg.G f args H v H
theorem res_ok {G : Nat → Option (List DV)} {S : Sit} {s : DS} {a : Act} (hr : Rel G S s a) {r : ResultVar} {sr : SRes} (hc : cres P r = some sr) {v : DV} (h : dres s sr = some v) :
    ∃ c,(match r with | .tmp t => Pure.pure (a.tmps.getD t undef) | .cell x t => do loadVar t (← asAddr (a.tmps.getD x undef)) : Sem Value).run P S.w = .ok c S.w ∧ VR S v c := by
  have hgd : ∀ t,VR S (s.sl.getD t P9) (a.tmps.getD t undef) := fun t => by
    have := hr.vals.getD t
    rwa [show a.tmps.getD t undef = a.tmps.toList.getD t undef by simp [Array.getD_eq_getD_getElem?,List.getD_eq_getElem?_getD]]
  cases r with
  | tmp t =>
    simp only [cres,Option.some.injEq] at hc; subst hc
    simp only [dres,Option.some.injEq] at h; subst h
    exact ⟨_,rfl,hgd t⟩
  | cell x t =>
    simp only [cres] at hc
    split at hc
    · rename_i g n hg hn
      obtain rfl := Option.some.inj hc
      simp only [dres] at h
      split at h
      · rename_i cs hcs
        rw [← hr.heap] at hcs
        obtain ⟨b,o,vs,hx,hv,hl,hcell⟩ := dload_ok hr.ok (hgd x) hcs
        have hload := run_loadCells_list (P := P) S.w ⟨b,o,none⟩ vs hcell
        rw [hl] at hload
        cases g with
        | true =>
          simp only [if_true,Option.some.injEq] at h; subst h
          refine ⟨.agg vs.toArray,?_,_,rfl,by simpa using hv⟩
          simp [hx,asAddr,loadVar,cAgg_run hg,X9 hn,hload]
        | false =>
          simp only [yz21,if_false] at h
          split at h
          · rename_i d
            obtain rfl := Option.some.inj h
            match vs,hv with
            | [u],⟨hu,_⟩ =>
              have h0 := hcell 0 u rfl
              rw [Addr.add_mk] at h0
              simp only [jz21] at h0
              exact ⟨u,by simp [hx,asAddr,loadVar,cAgg_run hg,h0],hu⟩
          · simp at h
      · simp at h
    · simp at hc
theorem results_list {G : Nat → Option (List DV)} {S : Sit} {s : DS} {a : Act} (hr : Rel G S s a) : ∀ (rs : List ResultVar) (srs : List SRes) (vs : List DV),Q8 (cres P) rs = some srs → U1 s srs = some vs →
    ∃ cs,(rs.mapM (fun r => (match r with | .tmp t => Pure.pure (a.tmps.getD t undef) | .cell x t => do loadVar t (← asAddr (a.tmps.getD x undef)) : Sem Value))).run P S.w = .ok cs S.w ∧ VRs S vs cs
  | [],srs,vs,h,hd => by
    simp only [Q8,Option.some.injEq] at h; subst h
    simp only [U1,Option.some.injEq] at hd; subst hd
    exact ⟨[],by simp,by simp [VRs]⟩
  | r :: rest,srs,vs,h,hd => by
    simp only [Q8] at h
    split at h
    · rename_i sr srest h1 h2
      obtain rfl := Option.some.inj h
      simp only [U1] at hd
      split at hd
      · rename_i v vs' e1 e2
        obtain rfl := Option.some.inj hd
        obtain ⟨c,c1,c2⟩ := res_ok (P := P) hr h1 e1
        obtain ⟨cs,d1,d2⟩ := results_list hr rest srest vs' h2 e2
        refine ⟨c :: cs,?_,c2,d2⟩
        rw [List.mapM_cons]
        simp only [Sem.run_bind]
        rw [c1]
        simp only [Result.andThen_ok,d1,Sem.run_pure]
      · simp at hd
    · simp at h
def pack : List DV → DV
  | [v] => v
  | l => .tup l
theorem results_ok {G : Nat → Option (List DV)} {S : Sit} {s : DS} {a : Act} (hr : Rel G S s a) {fn : Func} {srs : List SRes} {vs : List DV} (h : Q8 (cres P) fn.results.toList = some srs) (hd : U1 s srs = some vs) :
    ∃ c,(results fn a.tmps).run P S.w = .ok c S.w ∧ VR S (pack vs) c := by
  obtain ⟨cs,h1,h2⟩ := results_list (P := P) hr _ _ _ h hd
  have hrun : (fn.results.mapM (fun r => (match r with | .tmp t => Pure.pure (a.tmps.getD t undef) | .cell x t => do loadVar t (← asAddr (a.tmps.getD x undef)) : Sem Value))).run P S.w = .ok cs.toArray S.w := by
    rw [Array.mapM_eq_mapM_toList]
    simp only [Sem.run_map,h1,Result.andThen_ok]
  have hres : (results fn a.tmps).run P S.w = .ok (if h : cs.toArray.size = 1 then cs.toArray[0] else .tuple cs.toArray) S.w := by
    unfold results; simp only [Sem.run_bind]; erw [hrun]; rfl
  clear hrun h1 h hd
  match vs,cs,h2,hres with
  | [],[],_,hres => exact ⟨.tuple #[],hres,#[],rfl,trivial⟩
  | [v],[c],⟨hv,_⟩,hres => exact ⟨c,hres,hv⟩
  | v :: v2 :: r,c :: c2 :: r2,hv,hres => exact ⟨.tuple (c :: c2 :: r2).toArray,by rw [hres]; simp,_,rfl,by simpa using hv⟩
theorem D_ok {cfg : Cfg} (hcode : ∀ f sf,cfg.code f = some sf → cfunc P f = some sf) (hp : PrimOk P cfg) : ∀ n,CallOk P cfg.G (D P cfg n)
  | 0 => by intro f args H v H' h; simp [D] at h
  | n + 1 => by
    intro f args H v H' h
    simp only [D] at h
    split at h
    · rename_i g hg
      simp only [jz20,Prod.mk.injEq] at h
      obtain ⟨v',h1,rfl,rfl⟩ := h
      exact ⟨(hp f g hg).1,(hp f g hg).2 args v' h1 H⟩
    · split at h
      · simp at h
      · rename_i sf hsf
        have hc := hcode f sf hsf
        unfold cfunc at hc
        split at hc
        · simp at hc
        · rename_i fn hfn
          split at hc
          · simp at hc
          · rename_i hname
            split at hc
            · simp at hc
            · rename_i c hbody
              split at hc
              · rename_i b r hb hr
                obtain rfl := Option.some.inj hc
                refine ⟨⟨fn,hfn,by rw [hbody]; rfl,hname⟩,?_⟩
                intro S cargs ok hg hH hvs
                split at h
                · simp at h
                · rename_i ex s hrun
                  split at h
                  · rename_i hdone
                    refine calls_of_wp hfn hbody ?_
                    have hrel : Rel cfg.G S ⟨args ++ List.replicate (fn.ntmps - args.length) P9,H⟩ { tmps := cargs ++ Array.replicate (fn.ntmps - cargs.size) undef,defers := [] } := by
                      refine ⟨ok,hg,hH,?_,rfl⟩
                      have hl := hvs.length
                      simp only [Array.length_toList] at hl
                      rw [hl]
                      simpa using hvs.append (VRs.replicate (v := P9) (c := undef) ⟨#[],rfl,trivial⟩ (fn.ntmps - cargs.size))
                    refine wp_mono (run_ok (caller_ok (D_ok hcode hp n)) n c b hb _ ex s hrun S _ hrel) ?_
                    rintro e a w ⟨rfl,S1,rfl,st,hr1⟩
                    split at h
                    · rename_i x hx
                      obtain ⟨rfl,rfl⟩ := Prod.mk.inj (Option.some.inj h)
                      obtain ⟨cv,hcv,hvv⟩ := results_ok (P := P) hr1 hr hx
                      cases ex with
                      | exit id => simp [done?] at hdone
                      | normal => exact ⟨hr1.defers,cv,hcv,cv,S1,rfl,rfl,hr1.heap,hr1.ok,st,hvv⟩
                      | ret => exact ⟨hr1.defers,cv,hcv,cv,S1,rfl,rfl,hr1.heap,hr1.ok,st,hvv⟩
                    · rename_i vs hne hx
                      obtain ⟨rfl,rfl⟩ := Prod.mk.inj (Option.some.inj h)
                      obtain ⟨cv,hcv,hvv⟩ := results_ok (P := P) hr1 hr hx
                      have hvv' : VR S1 (.tup vs) cv := by
                        match vs,hvv,hne with
                        | [],hvv,_ => exact hvv
                        | [v],_,hne => exact absurd rfl (hne v)
                        | _ :: _ :: _,hvv,_ => exact hvv
                      cases ex with
                      | exit id => simp [done?] at hdone
                      | normal => exact ⟨hr1.defers,cv,hcv,cv,S1,rfl,rfl,hr1.heap,hr1.ok,st,hvv'⟩
                      | ret => exact ⟨hr1.defers,cv,hcv,cv,S1,rfl,rfl,hr1.heap,hr1.ok,st,hvv'⟩
                    · simp at h
                  · simp at h
              · simp at hc
end
end Go.Dx
end
section
namespace Go.Dx
open Go
def Ev {α : Type} (g : Nat → Option α) (r : α) : Prop := ∃ N,∀ n,N ≤ n → g n = some r
theorem Ev.of {α : Type} {g : Nat → Option α} {r : α} (h : ∀ n,g n = some r) : Ev g r := ⟨0,fun n _ => h n⟩
theorem Ev.two {α β γ : Type} {g : Nat → Option α} {a : α} {k : Nat → Option β} {b : β} {m : Nat → Option γ} {c : γ} (h : Ev g a) (h2 : Ev k b) (e : ∀ n,g n = some a → k n = some b → m n = some c) : Ev m c := by
  obtain ⟨N,hN⟩ := h
  obtain ⟨M,hM⟩ := h2
  exact ⟨max N M,fun n hn => e n (hN n (by omega)) (hM n (by omega))⟩
theorem Ev.one {α γ : Type} {g : Nat → Option α} {a : α} {m : Nat → Option γ} {c : γ} (h : Ev g a) (e : ∀ n,g n = some a → m n = some c) : Ev m c := by
  obtain ⟨N,hN⟩ := h
  exact ⟨N,fun n hn => e n (hN n hn)⟩
theorem Ev.succ {α : Type} {g : Nat → Option α} {a : α} (h : Ev (fun n => g (n + 1)) a) : Ev g a := by
  obtain ⟨N,hN⟩ := h
  refine ⟨N + 1,fun n hn => ?_⟩
  obtain ⟨m,rfl⟩ : ∃ m,n = m + 1 := ⟨n - 1,by omega⟩
  exact hN m (by omega)
theorem Ev.det {α : Type} {g : Nat → Option α} {a b : α} (h : Ev g a) (k : Ev g b) : a = b := by
  obtain ⟨N,hN⟩ := h
  obtain ⟨M,hM⟩ := k
  exact Option.some.inj ((hN (max N M) (by omega)).symm.trans (hM (max N M) (by omega)))
section
variable (P : Program) (cfg : Cfg)
abbrev clr (n : Nat) : U8 := caller cfg (D P cfg n)
def CallE (f : FuncId) (args : List DV) (H : Heap) (v : DV) (H' : Heap) : Prop := Ev (fun n => clr P cfg n f args H) (v,H')
def PE (f : FuncId) (args : List DV) (v : DV) : Prop := Ev (fun n => DP P cfg n f args) v
def DE (f : FuncId) (args : List DV) (H : Heap) (v : DV) (H' : Heap) : Prop := Ev (fun n => D P cfg n f args H) (v,H')
def RunE (c : SCode) (s : DS) (ex : Ex) (s' : DS) : Prop := Ev (fun n => run P cfg.G (clr P cfg n) n c s) (ex,s')
def LoopE (a : SCode) (s : DS) (ex : Ex) (s' : DS) : Prop := ∃ k N,∀ n,N ≤ n → loopN (run P cfg.G (clr P cfg n) n a) k s = some (ex,s')
def stepW (o : SOper) (sl : List DV) (H : Heap) (Q : DV → Heap → Prop) : Prop :=
  if jz3 sl o.guard = true then (if Y7 sl o.guard = true then
      (match dop P cfg.G o.op sl H with
      | .val v H => Q v H
      | .call f args => ∃ v H',CallE P cfg f args H v H' ∧ Q v H'
      | .fail => False)
    else Q P9 H) else False
def traceW : List SOper → List DV → Heap → (List (List DV × DV × Heap) → Prop) → Prop
  | [],_,_,Q => Q []
  | o :: r,sl,H,Q => stepW P cfg o sl H fun v H' => traceW r (dput sl o.dst v) H' fun l => Q ((sl,v,H') :: l)
def opsW : List SOper → DS → (DS → Prop) → Prop
  | [],s,Q => Q s
  | o :: r,s,Q => if jz3 s.sl o.guard = true then (if Y7 s.sl o.guard = true then
      (match dop P cfg.G o.op s.sl s.H with
      | .val v H => opsW r ⟨dput s.sl o.dst v,H⟩ Q
      | .call f args => ∃ v H',CallE P cfg f args s.H v H' ∧ opsW r ⟨dput s.sl o.dst v,H'⟩ Q
      | .fail => False)
    else opsW r ⟨dput s.sl o.dst P9,s.H⟩ Q) else False
def runW : SCode → DS → (Ex → DS → Prop) → Prop
  | .skip,s,Q => Q .normal s
  | .ops l,s,Q => opsW P cfg l s fun s' => Q .normal s'
  | .seq a b,s,Q => runW a s fun ex s' => match ex with | .normal => runW b s' Q | .exit id => Q (.exit id) s' | .ret => Q .ret s'
  | .cond c a b,s,Q => match dev cfg.G s.sl c with
    | .sc (.bool t) => if t = true then runW a s Q else runW b s Q
    | _ => False
  | .block id a,s,Q => runW a s fun ex s' => match ex with | .exit j => if j = id then Q .normal s' else Q (.exit j) s' | .normal => Q .normal s' | .ret => Q .ret s'
  | .loop a,s,Q => ∃ ex s',RunE P cfg (.loop a) s ex s' ∧ Q ex s'
  | .exit id,s,Q => Q (.exit id) s
  | .ret,s,Q => Q .ret s
  | .draw l,s,Q => ∃ s',Ev (fun n => ddraw P cfg.G (clr P cfg n) l s) s' ∧ Q .normal s'
  | .fail,_,_ => False
variable {P cfg}
theorem opsW_ok : ∀ {l : List SOper} {s : DS} {Q : DS → Prop},opsW P cfg l s Q → ∃ s',Ev (fun n => dops P cfg.G (clr P cfg n) l s) s' ∧ Q s'
  | [],s,Q,h => ⟨s,Ev.of fun _ => rfl,h⟩
  | o :: r,s,Q,h => by
    simp only [opsW] at h
    split at h
    · rename_i hk
      split at h
      · rename_i hw
        split at h
        · rename_i v H hd
          obtain ⟨s',h1,h2⟩ := opsW_ok h
          refine ⟨s',h1.one fun n hn => ?_,h2⟩
          simp only [dops,if_pos hk,if_pos hw,hd]; exact hn
        · rename_i f args hd
          obtain ⟨v,H',hc,h⟩ := h
          obtain ⟨s',h1,h2⟩ := opsW_ok h
          refine ⟨s',Ev.two hc h1 fun n hn hm => ?_,h2⟩
          simp only [dops,if_pos hk,if_pos hw,hd]
          rw [hn]; exact hm
        · exact h.elim
      · rename_i hw
        obtain ⟨s',h1,h2⟩ := opsW_ok h
        refine ⟨s',h1.one fun n hn => ?_,h2⟩
        simp only [dops,if_pos hk,if_neg hw]; exact hn
    · exact h.elim
theorem zz4 : ∀ {c : SCode} {s : DS} {Q : Ex → DS → Prop},runW P cfg c s Q → ∃ ex s',RunE P cfg c s ex s' ∧ Q ex s'
  | .skip,s,Q,h => ⟨_,_,Ev.of fun _ => rfl,h⟩
  | .ops l,s,Q,h => by
    obtain ⟨s',h1,h2⟩ := opsW_ok h
    exact ⟨.normal,s',h1.one fun n hn => by simp only [run,hn]; rfl,h2⟩
  | .seq a b,s,Q,h => by
    obtain ⟨ex,s1,h1,h2⟩ := zz4 (c := a) h
    cases ex with
    | normal =>
      obtain ⟨ex,s2,h3,h4⟩ := zz4 (c := b) h2
      exact ⟨ex,s2,Ev.two h1 h3 fun n e1 e2 => by simp only [run,e1]; exact e2,h4⟩
    | exit id => exact ⟨_,_,h1.one fun n e1 => by simp only [run,e1],h2⟩
    | ret => exact ⟨_,_,h1.one fun n e1 => by simp only [run,e1],h2⟩
  | .cond c a b,s,Q,h => by
    simp only [runW] at h
    split at h
    · rename_i t ht
      split at h
      · rename_i hb
        obtain ⟨ex,s1,h1,h2⟩ := zz4 (c := a) h
        exact ⟨ex,s1,h1.one fun n e1 => by simp only [run,ht,if_pos hb]; exact e1,h2⟩
      · rename_i hb
        obtain ⟨ex,s1,h1,h2⟩ := zz4 (c := b) h
        exact ⟨ex,s1,h1.one fun n e1 => by simp only [run,ht,if_neg hb]; exact e1,h2⟩
    · exact h.elim
  | .block id a,s,Q,h => by
    obtain ⟨ex,s1,h1,h2⟩ := zz4 (c := a) h
    cases ex with
    | normal => exact ⟨_,_,h1.one fun n e1 => by simp only [run,e1],h2⟩
    | exit j =>
      simp only at h2
      split at h2
      · rename_i hj
        exact ⟨.normal,s1,h1.one fun n e1 => by simp only [run,e1,if_pos hj],h2⟩
      · rename_i hj
        exact ⟨.exit j,s1,h1.one fun n e1 => by simp only [run,e1,if_neg hj],h2⟩
    | ret => exact ⟨_,_,h1.one fun n e1 => by simp only [run,e1],h2⟩
  | .loop a,s,Q,h => h
  | .exit id,s,Q,h => ⟨_,_,Ev.of fun _ => rfl,h⟩
  | .ret,s,Q,h => ⟨_,_,Ev.of fun _ => rfl,h⟩
  | .draw l,s,Q,h => by
    obtain ⟨s',h1,h2⟩ := h
    exact ⟨.normal,s',h1.one fun n hn => by simp only [run,hn]; rfl,h2⟩
  | .fail,_,_,h => h.elim
theorem runW_mono {Q R : Ex → DS → Prop} (hq : ∀ ex s,Q ex s → R ex s) {c : SCode} {s : DS} (h : runW P cfg c s Q) : ∃ ex s',RunE P cfg c s ex s' ∧ R ex s' := by
  obtain ⟨ex,s',h1,h2⟩ := zz4 h
  exact ⟨ex,s',h1,hq _ _ h2⟩
theorem loopN_succ {f : DS → Option (Ex × DS)} : ∀ {k : Nat} {s : DS} {r : Ex × DS},loopN f k s = some r → loopN f (k + 1) s = some r
  | 0,_,_,h => by simp [loopN] at h
  | k + 1,s,r,h => by
    simp only [loopN] at h ⊢
    cases hfs : f s with
    | none => rw [hfs] at h; exact h
    | some x =>
      obtain ⟨ex,s1⟩ := x
      rw [hfs] at h
      cases ex with
      | normal => exact loopN_succ (k := k) h
      | exit id => exact h
      | ret => exact h
theorem loopN_le {f : DS → Option (Ex × DS)} {k m : Nat} {s : DS} {r : Ex × DS} (h : loopN f k s = some r) (hm : k ≤ m) : loopN f m s = some r := by
  induction hm with
  | refl => exact h
  | step _ ih => exact loopN_succ ih
theorem LoopE.more {a : SCode} {s s1 s' : DS} {ex : Ex} (h : RunE P cfg a s .normal s1) (h2 : LoopE P cfg a s1 ex s') : LoopE P cfg a s ex s' := by
  obtain ⟨k,N,hN⟩ := h2
  obtain ⟨M,hM⟩ := h
  exact ⟨k + 1,max N M,fun n hn => by simp only [loopN,hM n (by omega)]; exact hN n (by omega)⟩
theorem LoopE.out {a : SCode} {s s' : DS} {ex : Ex} (h : RunE P cfg a s ex s') (hne : ex ≠ .normal) : LoopE P cfg a s ex s' := by
  obtain ⟨M,hM⟩ := h
  refine ⟨1,M,fun n hn => ?_⟩
  simp only [loopN,hM n hn]
  cases ex <;> first | rfl | exact absurd rfl hne
theorem LoopE.run {a : SCode} {s s' : DS} {ex : Ex} (h : LoopE P cfg a s ex s') : RunE P cfg (.loop a) s ex s' := by
  obtain ⟨k,N,hN⟩ := h
  exact ⟨max N k,fun n hn => by simp only [Dx.run]; exact loopN_le (hN n (by omega)) (by omega)⟩
def loopW (P : Program) (cfg : Cfg) (a : SCode) (s : DS) (Q : Ex → DS → Prop) : Prop := ∃ ex s',LoopE P cfg a s ex s' ∧ Q ex s'
theorem loopW_step {a : SCode} {s : DS} {Q : Ex → DS → Prop} (h : runW P cfg a s fun ex s1 => match ex with | .normal => loopW P cfg a s1 Q | .exit id => Q (.exit id) s1 | .ret => Q .ret s1) : loopW P cfg a s Q := by
  obtain ⟨ex,s1,h1,h2⟩ := zz4 h
  cases ex with
  | normal =>
    obtain ⟨ex,s',h3,h4⟩ := h2
    exact ⟨ex,s',LoopE.more h1 h3,h4⟩
  | exit id => exact ⟨_,_,LoopE.out h1 (by simp),h2⟩
  | ret => exact ⟨_,_,LoopE.out h1 (by simp),h2⟩
theorem runW_loop {a : SCode} {s : DS} {Q : Ex → DS → Prop} (h : loopW P cfg a s Q) : runW P cfg (.loop a) s Q := by
  obtain ⟨ex,s',h1,h2⟩ := h
  exact ⟨ex,s',h1.run,h2⟩
theorem loopW_mono {a : SCode} {s : DS} {Q R : Ex → DS → Prop} (h : loopW P cfg a s Q) (hq : ∀ ex s,Q ex s → R ex s) : loopW P cfg a s R := by
  obtain ⟨ex,s',h1,h2⟩ := h
  exact ⟨ex,s',h1,hq _ _ h2⟩
theorem loopW_inv {a : SCode} {Q : Ex → DS → Prop} (I : DS → Prop) (μ : DS → Nat) (round : ∀ s,I s → runW P cfg a s fun ex s1 => match ex with | .normal => I s1 ∧ μ s1 < μ s | .exit id => Q (.exit id) s1 | .ret => Q .ret s1) :
    ∀ s,I s → loopW P cfg a s Q := by
  have key : ∀ n s,μ s = n → I s → loopW P cfg a s Q := by
    intro n
    induction n using Nat.strongRecOn with
    | _ n ih =>
      intro s hs hI
      obtain ⟨ex,s1,h1,h2⟩ := zz4 (round s hI)
      cases ex with
      | normal =>
        obtain ⟨ex,s',h3,h4⟩ := ih (μ s1) (hs ▸ h2.2) s1 rfl h2.1
        exact ⟨ex,s',LoopE.more h1 h3,h4⟩
      | exit id => exact ⟨_,_,LoopE.out h1 (by simp),h2⟩
      | ret => exact ⟨_,_,LoopE.out h1 (by simp),h2⟩
  exact fun s hI => key _ s rfl hI
theorem zz16 {op : SOp} {sl : List DV} {H : Heap} {f : FuncId} {args : List DV} (h : dop P cfg.G op sl H = .call f args) : op.turns = true := by
  cases op <;> first | rfl | (exfalso; revert h; simp only [dop]; first | done | (repeat' split) <;> simp [rval,Z7] <;> (repeat' split) <;> simp)
theorem estep_still {c1 c2 : U8} {o : SOper} (ht : o.op.turns = false) (sl : List DV) (H : Heap) : Y8 P cfg.G c1 o sl H = Y8 P cfg.G c2 o sl H := by
  unfold Y8
  split
  · split
    · split
      · rfl
      · rename_i f args hd
        rw [zz16 hd] at ht; cases ht
      · rfl
    · rfl
  · rfl
theorem steady_still {c1 c2 : U8} {l : List SOper} {es : List (List Nat)} {tr : List (List DV × DV × Heap)} {hs : List Heap} : steady P cfg.G c1 l es tr hs = steady P cfg.G c2 l es tr hs := by
  unfold steady
  congr 1
  funext j
  cases l[j]? with
  | none => rfl
  | some o =>
    cases tr[j]? with
    | none => rfl
    | some x =>
      simp only
      cases ht : o.op.turns with
      | true => rfl
      | false => simp only [estep_still (c1 := c1) (c2 := c2) ht]
theorem stepW_ok {o : SOper} {sl : List DV} {H : Heap} {Q : DV → Heap → Prop} (h : stepW P cfg o sl H Q) : ∃ v H',Ev (fun n => Y8 P cfg.G (clr P cfg n) o sl H) (v,H') ∧ Q v H' := by
  unfold stepW at h
  split at h
  · rename_i hk
    split at h
    · rename_i hw
      split at h
      · rename_i v H' hd
        exact ⟨v,H',Ev.of fun n => by simp only [Y8,if_pos hk,if_pos hw,hd],h⟩
      · rename_i f args hd
        obtain ⟨v,H',hc,h⟩ := h
        exact ⟨v,H',hc.one fun n hn => by simp only [Y8,if_pos hk,if_pos hw,hd]; exact hn,h⟩
      · exact h.elim
    · rename_i hw
      exact ⟨P9,H,Ev.of fun n => by simp only [Y8,if_pos hk,if_neg hw],h⟩
  · exact h.elim
theorem traceW_ok : ∀ {l : List SOper} {sl : List DV} {H : Heap} {Q : List (List DV × DV × Heap) → Prop},traceW P cfg l sl H Q → ∃ tr,Ev (fun n => trace P cfg.G (clr P cfg n) l sl H) tr ∧ Q tr
  | [],sl,H,Q,h => ⟨[],Ev.of fun _ => rfl,h⟩
  | o :: r,sl,H,Q,h => by
    obtain ⟨v,H',h1,h2⟩ := stepW_ok h
    obtain ⟨tr,h3,h4⟩ := traceW_ok h2
    exact ⟨_,Ev.two h1 h3 fun n e1 e2 => by simp only [trace,e1,e2,zz22],h4⟩
def noCaller : U8 := fun _ _ _ => none
theorem draw_ok_W {l : List (SOper × List Nat)} {s : DS} {Q : DS → Prop}
    (h : traceW P cfg (l.map (·.1)) s.sl s.H fun tr => ((drawn? (l.map (·.1)) (l.map (·.2)) = true ∧ steady P cfg.G noCaller (l.map (·.1)) (l.map (·.2)) tr (Z4 (l.map (·.1)) tr s.H) = true) ∧ opsW P cfg (l.map (·.1)) s Q)) :
    ∃ s',Ev (fun n => ddraw P cfg.G (clr P cfg n) l s) s' ∧ Q s' := by
  obtain ⟨tr,h1,⟨h2,h3⟩,h4⟩ := traceW_ok h
  obtain ⟨s',h5,h6⟩ := opsW_ok h4
  refine ⟨s',Ev.two h1 h5 fun n e1 e2 => ?_,h6⟩
  unfold ddraw
  simp only [e1]
  rw [if_pos (by rw [h2,Bool.true_and,steady_still (c2 := noCaller)]; exact h3)]
  exact e2
theorem CallE.pure {f : FuncId} {args args' : List DV} {H : Heap} {v : DV} (hp : cfg.pu f = true) (ha : Q8 (frz H W4) args = some args') (h : PE P cfg f args' v) (hc : (T8 args || flat v) = true) : CallE P cfg f args H v H := by
  refine h.one fun n hn => ?_
  simp only [clr,caller,hp,if_true,pcall,ha]
  simp only [DP] at hn
  split at hn
  · simp at hn
  · rename_i v1 H1 h1
    simp only [hn,hc,if_true]
theorem CallE.heap {f : FuncId} {args : List DV} {H H' : Heap} {v : DV} (hp : cfg.pu f = false) (h : DE P cfg f args H v H') : CallE P cfg f args H v H' := by
  refine h.one fun n hn => ?_
  simp only [clr,caller,hp,yz21,if_false]; exact hn
theorem DE.code {f : FuncId} {sf : SFunc} {args : List DV} {H H' : Heap} {v : DV} (hp : cfg.prim f = none) (hc : cfg.code f = some sf)
    (h : runW P cfg sf.body ⟨args ++ List.replicate (sf.ntmps - args.length) P9,H⟩ fun ex s => done? ex = true ∧ s.H = H' ∧ ∃ vs,U1 s sf.res = some vs ∧ v = pack vs) : DE P cfg f args H v H' := by
  obtain ⟨ex,s,h1,h2,h3,vs,h4,h5⟩ := zz4 h
  refine Ev.succ ?_
  refine h1.one fun n hn => ?_
  simp only [D,hp,hc,hn,h2,if_true,h4]
  subst h5; subst h3
  match vs with
  | [] => rfl
  | [x] => rfl
  | _ :: _ :: _ => rfl
theorem DE.prim {f : FuncId} {g : List DV → Option DV} {args : List DV} {H : Heap} {v : DV} (hp : cfg.prim f = some g) (h : g args = some v) : DE P cfg f args H v H :=
  Ev.succ (Ev.of fun n => by simp only [D,hp,h]; rfl)
theorem PE.of {f : FuncId} {args : List DV} {H' : Heap} {v v' : DV} (h : DE P cfg f args [] v H') (hv : frz H' W4 v = some v') : PE P cfg f args v' := by
  refine h.one fun n hn => ?_
  simp only [DP,hn,hv]
theorem PE.code {f : FuncId} {sf : SFunc} {args : List DV} {v' : DV} (hp : cfg.prim f = none) (hc : cfg.code f = some sf)
    (h : runW P cfg sf.body ⟨args ++ List.replicate (sf.ntmps - args.length) P9,[]⟩ fun ex s => done? ex = true ∧ ∃ vs,U1 s sf.res = some vs ∧ frz s.H W4 (pack vs) = some v') : PE P cfg f args v' := by
  obtain ⟨ex,s,h1,h2,vs,h4,h5⟩ := zz4 h
  refine PE.of (H' := s.H) (v := pack vs) ?_ h5
  refine Ev.succ ?_
  refine h1.one fun n hn => ?_
  simp only [D,hp,hc,hn,h2,if_true,h4]
  match vs with
  | [] => rfl
  | [x] => rfl
  | _ :: _ :: _ => rfl
end
end Go.Dx
end
