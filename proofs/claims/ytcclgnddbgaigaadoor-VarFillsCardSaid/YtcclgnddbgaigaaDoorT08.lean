/- A part of the proof of VarFills: rules of an interpreter of the program's code, shown to answer as the model does. -/
import Derived.Test.YtcclgnddbgaigaaDoorT07
open Nat renaming le_refl → jz18, zero_add → yz24
open Bool renaming and_eq_true → zz19, false_eq_true → yz21, not_true → zz25
open List renaming length_append → yz20, all_cons → zz21, cons_append → jz22, map_cons → yz23, drop_zero → jz25, append_nil → jz26, nil_append → yz27
open Option renaming map_some → zz22
set_option linter.all false
section
namespace Go.Dx
open Go
section
variable {P : Program} {cfg : Cfg} {G : Nat → Option (List DV)} {H H' L : Heap} {id n i k bytes : Nat} {ty : TypeId}
theorem V9 {sl : List DV} : dev G sl (.const (.slice none 0 0)) = .nil := Eq.trans rfl rfl
def Lst (k : Nat) (ty : TypeId) (H : Heap) (v : DV) (es : List (List DV)) : Prop := (v = .nil ∧ es = []) ∨ ∃ j,v = .osl j 0 es.length ∧ H.row j = some (Row.mk k es ty 0 true)
def Keep (H H' : Heap) (v : DV) : Prop := ∀ id r,H.row id = some r → (∀ off n,v ≠ .osl id off n) → H'.row id = some r
def Next (H : Heap) (v v' : DV) : Prop := v' = v ∨ ∃ id off n,v' = .osl id off n ∧ H.length ≤ id
theorem Lst.nil : Lst k ty H .nil [] := .inl ⟨rfl,rfl⟩
theorem Lst.lt {v : DV} {es : List (List DV)} (h : Lst k ty H v es) {id a b : Nat} (e : v = .osl id a b) : id < H.length := by
  rcases h with ⟨rfl,_⟩ | ⟨j,rfl,hj⟩
  · cases e
  · injection e with e1 e2 e3; subst e1; exact row_lt hj
theorem Lst.keep {v w : DV} {es : List (List DV)} (h : Lst k ty H v es) (hk : Keep H H' w) (hn : ∀ id off n off' n',v = .osl id off n → w ≠ .osl id off' n') : Lst k ty H' v es := by
  rcases h with ⟨rfl,rfl⟩ | ⟨j,rfl,hj⟩
  · exact .inl ⟨rfl,rfl⟩
  · exact .inr ⟨j,rfl,hk _ _ hj fun off n => hn _ _ _ _ _ rfl⟩
theorem Keep.old {v : DV} (h : Keep H H' v) {r : Row} (hr : H.row id = some r) (hn : ∀ j off n,v = .osl j off n → j ≠ id) : H'.row id = some r :=
  h id r hr fun off n e => hn _ _ _ e rfl
theorem Keep.refl {v : DV} : Keep H H v := fun _ _ h _ => h
theorem Lst.more {v : DV} {es : List (List DV)} (h : Lst k ty H v es) : Lst k ty (H ++ L) v es := by
  rcases h with ⟨rfl,rfl⟩ | ⟨j,rfl,hj⟩
  · exact .inl ⟨rfl,rfl⟩
  · exact .inr ⟨j,rfl,by rw [Y4 (row_lt hj)]; exact hj⟩
theorem Keep.at {v : DV} {es : List (List DV)} (h : Keep (H ++ L) H' v) (hv : Lst k ty H v es) {r : Row} (hr : Heap.row L n = some r) : H'.row (H.length + n) = some r := by
  refine h _ r (by rw [yz17]; exact hr) fun off m e => ?_
  have := hv.lt e
  omega
theorem Keep.at0 {v : DV} {es : List (List DV)} (h : Keep (H ++ L) H' v) (hv : Lst k ty H v es) {r : Row} (hr : Heap.row L 0 = some r) : H'.row H.length = some r := h.at hv (n := 0) hr
theorem row_end1 {r : Row} {x : Option Row} : Heap.row (H ++ x :: some r :: L) (H.length + 1) = some r := by
  rw [yz17]; simp [Heap.row]
theorem elems_row {r : Row} {m : Nat} (h : H.row id = some r) (hk : r.k = k) (hm : r.es.length = m) : Z6 H k (.osl id 0 m) = some r.es := by
  subst hm
  simp only [Z6,h,hk,yz24,jz18,and_self,if_true,jz25,List.take_length]
theorem llen_lst {v : DV} {es : List (List DV)} (h : Lst k ty H v es) : llenD H' v = .val (intD es.length) H' := by
  rcases h with ⟨rfl,rfl⟩ | ⟨j,rfl,hj⟩ <;> rfl
theorem elems_lst {v : DV} {es : List (List DV)} (h : Lst k ty H v es) : Z6 H k v = some es := by
  rcases h with ⟨rfl,rfl⟩ | ⟨j,rfl,hj⟩
  · rfl
  · simp only [Z6,hj,yz24,jz25,List.take_length,jz18,and_self,if_true]
theorem app_lst {v x : DV} {es new : List (List DV)} (h : Lst k ty H v es) (hx : Z6 H k x = some new) (hk : 1 ≤ k) (hb : (es.length + new.length) * bytes ≤ 2 ^ 47) (h1 : new.all (fun e => e.all DV.one) = true) :
    ∃ v' H',appD H ty k bytes v x = .val v' H' ∧ Lst k ty H' v' (es ++ new) ∧ Keep H H' v ∧ Next H v v' ∧ H.length ≤ H'.length ∧ (new = [] → v' = v) := by
  by_cases hn : new = []
  · subst hn
    refine ⟨v,H,?_,by simpa using h,Keep.refl,.inl rfl,jz18 _,fun _ => rfl⟩
    rcases h with ⟨rfl,rfl⟩ | ⟨j,rfl,hj⟩
    · simp only [appD,yz10,hx,List.isEmpty_nil,if_true]
    · simp only [appD,yz10,hx,List.isEmpty_nil,if_true,hj,yz24,jz18]
  · have he : new.isEmpty = false := by cases new <;> simp_all
    rcases h with ⟨rfl,rfl⟩ | ⟨j,rfl,hj⟩
    · refine ⟨.osl H.length 0 new.length,H ++ [some (Row.mk k new ty 0 true)],?_,.inr ⟨H.length,by simp,by simp [Y0]⟩,?_,.inr ⟨H.length,_,_,rfl,jz18 _⟩,by simp,fun e => absurd e hn⟩
      · simp only [appD,yz10,hx,he,yz21,if_false]
        rw [if_pos ⟨by simpa using hb,hk⟩]
      · intro id r hr _
        rw [Y4 (row_lt hr)]; exact hr
    · have hjl := row_lt hj
      refine ⟨.osl H.length 0 (es.length + new.length),H.set j none ++ [some (Row.mk k (es ++ new) ty 0 true)],?_,.inr ⟨H.length,by simp,?_⟩,?_,.inr ⟨H.length,_,_,rfl,jz18 _⟩,by simp,fun e => absurd e hn⟩
      · simp only [appD,yz10,hx,he,yz21,if_false,hj,jz25,List.take_length]
        rw [if_pos ⟨True.intro,True.intro,by omega,by omega,hb,hk,h1⟩]
      · have : H.length = (H.set j none).length := by simp
        rw [this,Y0]
      · intro id r hr hne
        have hjne : id ≠ j := fun e => hne 0 es.length (by rw [e])
        rw [Y4 (by simp; exact row_lt hr),Heap.row_set,if_neg (fun e => hjne e.1)]; exact hr
theorem appW {v x : DV} {es new : List (List DV)} {d : Option Tmp} {rest : List SOper} {sl : List DV} {Q : DS → Prop} (h : Lst k ty H v es) (hx : Z6 H k x = some new) (hk : 1 ≤ k) (hb : (es.length + new.length) * bytes ≤ 2 ^ 47) (h1 : new.all (fun e => e.all DV.one) = true)
    (hQ : ∀ v' H',Lst k ty H' v' (es ++ new) → Keep H H' v → Next H v v' → H.length ≤ H'.length → (new = [] → v' = v) → opsW P cfg rest ⟨dput sl d v',H'⟩ Q) : drW P cfg d rest sl H Q (appD H ty k bytes v x) := by
  obtain ⟨v',H',e,h2,h3,h4,h5,h6⟩ := app_lst h hx hk hb h1
  rw [e,J8]
  exact hQ v' H' h2 h3 h4 h5 h6
theorem frz_lst {v : DV} {es fs : List (List DV)} {m : Nat} (h : Lst k ty H v es) (hf : Q8 (Q8 (frz H m)) es = some fs) : frz H (m + 1) v = some (.imm fs) := by
  rcases h with ⟨rfl,rfl⟩ | ⟨j,rfl,hj⟩
  · simp only [Q8,Option.some.injEq] at hf; subst hf; rfl
  · simp only [frz,hj,yz24,jz18,if_true,jz25,List.take_length,hf]; rfl
theorem frz_rows {m : Nat} : ∀ {es : List (List DV)},(es.all fun e => e.all jz6) = true → Q8 (Q8 (frz H (m + 1))) es = some es
  | [],_ => rfl
  | e :: r,h => by
    simp only [zz21,zz19] at h
    simp only [Q8,frz_plains h.1,frz_rows h.2]
end
end Go.Dx
end
section
namespace Go.Dx
open Go
section
variable {P : Program} {cfg : Cfg}
def SOp.sens : SOp → Bool
  | .load .. | .lslice .. | .indexAddr .. | .convBS .. | .eqPtr .. | .toUnsafe .. | .fromUnsafe .. | .sliceData .. => true
  | _ => false
theorem rval_at {H H2 : Heap} {o : Option DV} {v : DV} (h : rval H o = .val v H) : rval H2 o = .val v H2 := by
  cases o with
  | none => simp [rval] at h
  | some x => simp only [rval,DR.val.injEq] at h ⊢; exact ⟨h.1,trivial⟩
theorem dop_insens {op : SOp} {sl : List DV} {H H' : Heap} {v : DV} (ht : op.turns = false) (hs : op.sens = false) (h : dop P cfg.G op sl H = .val v H') (H2 : Heap) : dop P cfg.G op sl H2 = .val v H2 := by
  obtain rfl := dop_still ht h
  have ite_at : ∀ {c : Prop} [Decidable c] {a b a' b' : DR},(a = .val v H' → a' = .val v H2) → (b = .val v H' → b' = .val v H2) → (if c then a else b) = .val v H' → (if c then a' else b') = .val v H2 := by
    intro c _ a b a' b' h1 h2 h
    split at h
    · rename_i hc; rw [if_pos hc]; exact h1 h
    · rename_i hc; rw [if_neg hc]; exact h2 h
  have vat : ∀ {u : DV},DR.val u H' = .val v H' → DR.val u H2 = .val v H2 := fun h => by
    simp only [DR.val.injEq] at h; rw [h.1]
  have fat : DR.fail = .val v H' → DR.fail = .val v H2 := fun h => by cases h
  cases op with
  | mv x => exact vat h
  | ident x => exact vat h
  | pick c a b =>
    simp only [dop] at h ⊢
    split at h
    · exact vat h
    · cases h
  | build z ps => exact rval_at h
  | nilCheck x =>
    simp only [dop] at h ⊢
    split at h <;> first | exact vat h | cases h
  | bin op t x y =>
    simp only [dop] at h ⊢
    split at h
    · exact rval_at h
    · cases h
  | un op x =>
    simp only [dop] at h ⊢
    split at h
    · exact rval_at h
    · cases h
  | conv s d x =>
    simp only [dop] at h ⊢
    split at h
    · exact rval_at h
    · cases h
  | index t x i =>
    simp only [dop] at h ⊢
    split at h
    · exact rval_at h
    · cases h
  | sslice t x lo hi =>
    simp only [dop] at h ⊢
    split at h <;> first | exact rval_at h | cases h
  | fieldAddr off x =>
    simp only [dop] at h ⊢
    split at h <;> first | exact vat h | cases h
  | field agg off n x =>
    simp only [dop] at h ⊢
    split at h
    · exact ite_at vat rval_at h
    · cases h
  | extract x i =>
    simp only [dop] at h ⊢
    split at h
    · exact rval_at h
    · cases h
  | len x =>
    simp only [dop] at h ⊢
    split at h
    · exact vat h
    · cases h
  | blt b ts t xs =>
    simp only [dop] at h ⊢
    split at h
    · split at h
      · exact vat h
      · cases h
    · cases h
  | mkfn f cs => exact vat h
  | eqNil neg x =>
    simp only [dop] at h ⊢
    split at h <;> first | exact vat h | cases h
  | bad => cases h
  | _ => first | (simp only [SOp.turns,Bool.true_eq_false] at ht; done) | (simp only [SOp.sens,Bool.true_eq_false] at hs; done)
theorem one_write {L : List SOper} {es : List (List Nat)} {tr : List (List DV × DV × Heap)} (F : DrawnFacts L es) (htn : tr.length = L.length) :
    ∀ (i : Nat) (o : SOper) (t : Tmp) (j : Nat) (u : DV),L[i]? = some o → o.dst = some t → (wOf L tr)[j]? = some (some t,u) → j = i := by
  have hWn : (wOf L tr).length = L.length := by simp [wOf,htn]
  intro i o t j u ho hd hj
  have hjl : j < L.length := by rw [← hWn]; exact getElem?_lt hj
  have hoj := List.getElem?_eq_getElem hjl
  have hxj := List.getElem?_eq_getElem (show j < tr.length by omega)
  have hdj : (L[j]).dst = some t := by
    rw [wOf,List.getElem?_map,zip_get hoj hxj] at hj
    simpa using (congrArg (Option.map Prod.fst) hj)
  rcases Nat.lt_trichotomy i j with h | h | h
  · exact absurd (hd.trans hdj.symm) (F.dst i j _ _ h ho hoj (by simp [hd]))
  · exact h.symm
  · exact absurd (hdj.trans hd.symm) (F.dst j i _ _ h hoj ho (by simp [hdj]))
theorem cAt_range {L : List SOper} {tr : List (List DV × DV × Heap)} (htn : tr.length = L.length) (es : List (List Nat)) (j : Nat) (hj : j ≤ L.length) : lowAt L es j ≤ cAt L tr j ∧ cAt L tr j ≤ highAt L es j := by
  have hz : (L.zip tr).length = L.length := by simp [htn]
  have e : cAt L tr j = cnt L.length (fun i => U4 L i && decide (i < j)) := by
    unfold cAt
    rw [← cnt_take (fun p : SOper × (List DV × DV × Heap) => p.1.op.turns) (L.zip tr) (fun i => U4 L i) (fun i x hx => by
      rw [List.getElem?_zip_eq_some] at hx
      simp [U4,hx.1]) j (by omega),hz]
  rw [e]
  constructor
  · refine cnt_le fun i _ h => ?_
    simp only [zz19,decide_eq_true_eq] at h ⊢
    exact ⟨h.1,h.2.1⟩
  · refine cnt_le fun i _ h => ?_
    simp only [zz19,decide_eq_true_eq] at h ⊢
    refine ⟨h.1,?_⟩
    have : decide (j < i) = false := by simp; omega
    rw [this]; rfl
def oblOk (P : Program) (G : Nat → Option (List DV)) (op : SOp) (sl : List DV) (v : DV) : List Heap → Prop
  | [] => True
  | h :: r => dop P G op sl h = .val v h ∧ oblOk P G op sl v r
structure Obl where
  op : SOp
  sl : List DV
  v : DV
  lo : Nat
  hi : Nat
def oblsOk (P : Program) (G : Nat → Option (List DV)) (hs : List Heap) : List Obl → Prop
  | [] => True
  | o :: r => oblOk P G o.op o.sl o.v ((hs.drop o.lo).take (o.hi + 1 - o.lo)) ∧ oblsOk P G hs r
def addObl (need : Option (Nat × Nat)) (op : SOp) (sl : List DV) (v : DV) (obl : List Obl) : List Obl :=
  match need with
  | none => obl
  | some (lo,hi) => ⟨op,sl,v,lo,hi⟩ :: obl
def drawW (P : Program) (cfg : Cfg) : List (SOper × Option (Nat × Nat)) → List DV → Heap → List Heap → List Obl → (DS → Prop) → Prop
  | [],sl,H,hs,obl,Q => oblsOk P cfg.G hs obl ∧ Q ⟨sl,H⟩
  | (o,need) :: r,sl,H,hs,obl,Q => if jz3 sl o.guard = true then (if Y7 sl o.guard = true then
      (match dop P cfg.G o.op sl H with
      | .val v H' => drawW P cfg r (dput sl o.dst v) H' (if o.op.turns then hs ++ [H'] else hs) (addObl need o.op sl v obl) Q
      | .call f args => ∃ v H',CallE P cfg f args H v H' ∧ drawW P cfg r (dput sl o.dst v) H' (if o.op.turns then hs ++ [H'] else hs) (addObl need o.op sl v obl) Q
      | .fail => False)
    else drawW P cfg r (dput sl o.dst P9) H (if o.op.turns then hs ++ [H] else hs) obl Q) else False
def turnHs (l : List SOper) (tr : List (List DV × DV × Heap)) : List Heap := ((l.zip tr).filter fun p => p.1.op.turns).map fun p => p.2.2.2
def oblAt (P : Program) (cfg : Cfg) (hs : List Heap) (o : SOper) (x : List DV × DV × Heap) : Option (Nat × Nat) → Prop
  | none => True
  | some (lo,hi) => Y7 x.1 o.guard = true → oblOk P cfg.G o.op x.1 x.2.1 ((hs.drop lo).take (hi + 1 - lo))
theorem oblsOk_add {hs : List Heap} {need : Option (Nat × Nat)} {op : SOp} {sl : List DV} {v : DV} {obl : List Obl} (h : oblsOk P cfg.G hs (addObl need op sl v obl)) :
    oblsOk P cfg.G hs obl ∧ (match need with | none => True | some (lo,hi) => oblOk P cfg.G op sl v ((hs.drop lo).take (hi + 1 - lo))) := by
  cases need with
  | none => exact ⟨h,trivial⟩
  | some p => exact ⟨h.2,h.1⟩
theorem drawW_ok : ∀ {l : List (SOper × Option (Nat × Nat))} {sl : List DV} {H : Heap} {hs : List Heap} {obl : List Obl} {Q : DS → Prop},drawW P cfg l sl H hs obl Q →
    ∃ tr s',Ev (fun n => trace P cfg.G (clr P cfg n) (l.map (·.1)) sl H) tr ∧ Ev (fun n => dops P cfg.G (clr P cfg n) (l.map (·.1)) ⟨sl,H⟩) s' ∧ Q s' ∧
      oblsOk P cfg.G (hs ++ turnHs (l.map (·.1)) tr) obl ∧ tr.length = l.length ∧
      ∀ (j : Nat) (o : SOper) (need : Option (Nat × Nat)) (x : List DV × DV × Heap),l[j]? = some (o,need) → tr[j]? = some x → oblAt P cfg (hs ++ turnHs (l.map (·.1)) tr) o x need
  | [],sl,H,hs,obl,Q,h => ⟨[],⟨sl,H⟩,Ev.of fun _ => rfl,Ev.of fun _ => rfl,h.2,by simpa [turnHs] using h.1,rfl,by simp⟩
  | (o,need) :: r,sl,H,hs,obl,Q,h => by
    have glue : ∀ (v : DV) (H' : Heap),Ev (fun n => Y8 P cfg.G (clr P cfg n) o sl H) (v,H') → ∀ obl',(∀ hs',oblsOk P cfg.G hs' obl' → oblsOk P cfg.G hs' obl ∧ oblAt P cfg hs' o (sl,v,H') need) →
        drawW P cfg r (dput sl o.dst v) H' (if o.op.turns then hs ++ [H'] else hs) obl' Q →
        ∃ tr s',Ev (fun n => trace P cfg.G (clr P cfg n) (((o,need) :: r).map (·.1)) sl H) tr ∧ Ev (fun n => dops P cfg.G (clr P cfg n) (((o,need) :: r).map (·.1)) ⟨sl,H⟩) s' ∧ Q s' ∧
          oblsOk P cfg.G (hs ++ turnHs (((o,need) :: r).map (·.1)) tr) obl ∧ tr.length = ((o,need) :: r).length ∧
          ∀ (j : Nat) (p : SOper) (nd : Option (Nat × Nat)) (x : List DV × DV × Heap),((o,need) :: r)[j]? = some (p,nd) → tr[j]? = some x → oblAt P cfg (hs ++ turnHs (((o,need) :: r).map (·.1)) tr) p x nd := by
      intro v H' he obl' ho hr
      obtain ⟨tr,s',t1,t2,t3,t4,t5,t6⟩ := drawW_ok hr
      have e1 : (if o.op.turns then hs ++ [H'] else hs) ++ turnHs (r.map (·.1)) tr = hs ++ turnHs (o :: r.map (·.1)) ((sl,v,H') :: tr) := by
        unfold turnHs
        rw [List.zip_cons_cons,List.filter_cons]
        by_cases ht : o.op.turns = true
        · simp only [ht,if_true,yz23,List.append_assoc,jz22,yz27]
        · simp only [ht,if_false,yz21]
      rw [e1] at t4 t6
      obtain ⟨o1,o2⟩ := ho _ t4
      refine ⟨(sl,v,H') :: tr,s',Ev.two he t1 fun n n1 n2 => ?_,Ev.two he t2 fun n n1 n2 => ?_,t3,o1,by simp [t5],fun j p nd x hj hx => ?_⟩
      · simp only [yz23,trace,n1,n2,zz22]
      · rw [yz23,dops_step]; simp only [n1]; exact n2
      · cases j with
        | zero =>
          simp only [List.getElem?_cons_zero,Option.some.injEq,Prod.mk.injEq] at hj hx
          obtain ⟨rfl,rfl⟩ := hj; subst hx
          exact o2
        | succ j =>
          simp only [List.getElem?_cons_succ] at hj hx
          exact t6 j p nd x hj hx
    simp only [drawW] at h
    split at h
    · rename_i hk
      split at h
      · rename_i hw
        split at h
        · rename_i v H' hd
          refine glue v H' (Ev.of fun n => by simp only [Y8,if_pos hk,if_pos hw,hd]) _ (fun hs' ho => ?_) h
          obtain ⟨a,b⟩ := oblsOk_add ho
          refine ⟨a,?_⟩
          cases need with
          | none => trivial
          | some p => exact fun _ => b
        · rename_i f args hd
          obtain ⟨v,H',hc,h⟩ := h
          refine glue v H' (hc.one fun n hn => by simp only [Y8,if_pos hk,if_pos hw,hd]; exact hn) _ (fun hs' ho => ?_) h
          obtain ⟨a,b⟩ := oblsOk_add ho
          refine ⟨a,?_⟩
          cases need with
          | none => trivial
          | some p => exact fun _ => b
        · exact h.elim
      · rename_i hw
        refine glue P9 H (Ev.of fun n => by simp only [Y8,if_pos hk,if_neg hw]) _ (fun hs' ho => ⟨ho,?_⟩) h
        cases need with
        | none => trivial
        | some p => exact fun hw' => absurd hw' hw
    · exact h.elim
def needsOk (ops : List SOper) (es : List (List Nat)) (needs : List (Option (Nat × Nat))) : Bool :=
  (List.range ops.length).all fun j => match ops[j]?,needs[j]? with
    | some o,some nd => o.op.turns || !o.op.sens || (match nd with
        | none => lowAt ops es j == highAt ops es j
        | some (lo,hi) => lo == lowAt ops es j && hi == highAt ops es j)
    | _,_ => false
theorem oblOk_mem {op : SOp} {sl : List DV} {v : DV} : ∀ {hs : List Heap},oblOk P cfg.G op sl v hs → ∀ h ∈ hs,dop P cfg.G op sl h = .val v h
  | [],_,_,hm => by simp at hm
  | a :: r,⟨h1,h2⟩,h,hm => by
    rcases List.mem_cons.mp hm with rfl | hm
    · exact h1
    · exact oblOk_mem h2 h hm
theorem map_fst_zip {α β : Type} : ∀ {l : List α} {m : List β},m.length = l.length → (l.zip m).map (·.1) = l
  | [],[],_ => rfl
  | a :: l,b :: m,h => by simp only [List.zip_cons_cons,yz23,map_fst_zip (l := l) (m := m) (by simpa using h)]
  | [],_ :: _,h => by simp at h
  | _ :: _,[],h => by simp at h
theorem S7 {l : List (SOper × List Nat)} {sl : List DV} {H : Heap} {Q : Ex → DS → Prop} (needs : List (Option (Nat × Nat))) (hn : needs.length = l.length)
    (hd : drawn? (l.map (·.1)) (l.map (·.2)) = true) (ho : needsOk (l.map (·.1)) (l.map (·.2)) needs = true)
    (h : drawW P cfg ((l.map (·.1)).zip needs) sl H [H] [] fun s' => Q .normal s') : runW P cfg (.draw l) ⟨sl,H⟩ Q := by
  obtain ⟨tr,s',t1,t2,t3,_,t5,t6⟩ := drawW_ok h
  rw [map_fst_zip (by simpa using hn)] at t1 t2 t6
  refine ⟨s',Ev.two t1 t2 fun n e1 e2 => ?_,t3⟩
  unfold ddraw
  simp only [e1]
  rw [if_pos]
  · exact e2
  rw [hd,Bool.true_and]
  have F := drawn_facts hd
  have htr := jz12 e1
  have hstage : [H] ++ turnHs (l.map (·.1)) tr = Z4 (l.map (·.1)) tr H := rfl
  rw [hstage] at t6
  unfold steady
  rw [List.all_eq_true]
  intro j hj
  have hj : j < (l.map (·.1)).length := List.mem_range.mp hj
  have q1 : (l.map (·.1))[j]? = some (l.map (·.1))[j] := List.getElem?_eq_getElem hj
  have q2 : tr[j]? = some (tr[j]'(by rw [htr]; exact hj)) := List.getElem?_eq_getElem (by rw [htr]; exact hj)
  rw [q1,q2]
  simp only
  generalize (l.map (·.1))[j] = o at q1
  generalize tr[j]'(by rw [htr]; exact hj) = x at q2
  by_cases ht : o.op.turns = true
  · rw [ht]; rfl
  have ht : o.op.turns = false := by simpa using ht
  rw [ht,Bool.false_or,List.all_eq_true]
  intro k hk
  have hk := List.mem_range.mp hk
  rw [List.getElem?_eq_getElem hk]
  simp only
  by_cases hr : ¬ (lowAt (l.map (·.1)) (l.map (·.2)) j ≤ k ∧ k ≤ highAt (l.map (·.1)) (l.map (·.2)) j)
  · have : (decide (lowAt (l.map (·.1)) (l.map (·.2)) j ≤ k) && decide (k ≤ highAt (l.map (·.1)) (l.map (·.2)) j)) = false := by
      rw [Bool.and_eq_false_iff]
      rcases Classical.not_and_iff_not_or_not.mp hr with a | a
      · exact .inl (by simpa using a)
      · exact .inr (by simpa using a)
    rw [this]; rfl
  have hr := Classical.not_not.mp hr
  obtain ⟨_,_,Hi,s2,s3⟩ := text_run e1 (one_write F htr) j o x q1 q2
  suffices hs : Y8 P cfg.G (clr P cfg n) o x.1 ((Z4 (l.map (·.1)) tr H)[k]'hk) = some (x.2.1,(Z4 (l.map (·.1)) tr H)[k]'hk) by
    rw [hs]; simp only [same_refl,Bool.or_true]
  unfold Y8 at s3 ⊢
  split at s3
  · rename_i hkn
    rw [if_pos hkn]
    split at s3
    · rename_i hw
      rw [if_pos hw]
      split at s3
      · rename_i v H1 hdop
        simp only [Option.some.injEq,Prod.mk.injEq] at s3
        obtain ⟨rfl,_⟩ := s3
        obtain rfl := dop_still ht hdop
        suffices hs : dop P cfg.G o.op x.1 ((Z4 (l.map (·.1)) tr H)[k]'hk) = .val x.2.1 ((Z4 (l.map (·.1)) tr H)[k]'hk) by rw [hs]
        by_cases hse : o.op.sens = false
        · exact dop_insens ht hse hdop _
        have hse : o.op.sens = true := by simpa using hse
        rw [needsOk,List.all_eq_true] at ho
        have hoj := ho j (List.mem_range.mpr hj)
        have q3 : needs[j]? = some (needs[j]'(by rw [hn]; simpa using hj)) := List.getElem?_eq_getElem (by rw [hn]; simpa using hj)
        rw [q1,q3] at hoj
        simp only [ht,hse,Bool.false_or,zz25] at hoj
        have q4 : ((l.map (·.1)).zip needs)[j]? = some (o,needs[j]'(by rw [hn]; simpa using hj)) := zip_get q1 q3
        have hob := t6 j o _ x q4 q2
        generalize needs[j]'(by rw [hn]; simpa using hj) = nd at hoj hob
        cases nd with
        | some p =>
          simp only [zz19,beq_iff_eq] at hoj
          refine oblOk_mem (hob hw) _ ?_
          have hmem : ∀ (a b : Nat) (hs : List Heap) (hk : k < hs.length),a ≤ k → k ≤ b → hs[k] ∈ (hs.drop a).take (b + 1 - a) := by
            intro a b hs hk h1 h2
            rw [List.mem_iff_getElem]
            refine ⟨k - a,by simp; omega,?_⟩
            simp only [List.getElem_take,List.getElem_drop]
            congr 1; omega
          exact hmem _ _ _ hk (by rw [hoj.1]; exact hr.1) (by rw [hoj.2]; exact hr.2)
        | none =>
          simp only [beq_iff_eq] at hoj
          have hc := cAt_range htr (l.map (·.2)) j (by omega)
          obtain rfl : cAt (l.map (·.1)) tr j = k := by omega
          rw [List.getElem?_eq_getElem hk] at s2
          obtain rfl := Option.some.inj s2
          exact hdop
      · rename_i hdop
        rw [zz16 hdop] at ht; cases ht
      · simp at s3
    · rename_i hw
      rw [if_neg hw]
      simp only [Option.some.injEq,Prod.mk.injEq] at s3 ⊢
      exact ⟨s3.1,trivial⟩
  · simp at s3
def dvW (P : Program) (cfg : Cfg) (d : Option Tmp) (op : SOp) (need : Option (Nat × Nat)) (r : List (SOper × Option (Nat × Nat))) (sl : List DV) (H : Heap) (hs : List Heap) (obl : List Obl) (Q : DS → Prop) : DR → Prop
  | .val v H' => drawW P cfg r (dput sl d v) H' (if op.turns then hs ++ [H'] else hs) (addObl need op sl v obl) Q
  | .call f args => R4 P cfg f args H fun v H' => drawW P cfg r (dput sl d v) H' (if op.turns then hs ++ [H'] else hs) (addObl need op sl v obl) Q
  | .fail => False
theorem W8 {d : Option Tmp} {op : SOp} {need : Option (Nat × Nat)} {r : List (SOper × Option (Nat × Nat))} {sl : List DV} {H H' : Heap} {hs : List Heap} {obl : List Obl} {Q : DS → Prop} {v : DV} :
    dvW P cfg d op need r sl H hs obl Q (.val v H') = drawW P cfg r (dput sl d v) H' (if op.turns then hs ++ [H'] else hs) (addObl need op sl v obl) Q := Eq.trans rfl rfl
theorem V4 {d : Option Tmp} {op : SOp} {need : Option (Nat × Nat)} {r : List (SOper × Option (Nat × Nat))} {sl : List DV} {H : Heap} {hs : List Heap} {obl : List Obl} {Q : DS → Prop} {f : FuncId} {args : List DV} :
    dvW P cfg d op need r sl H hs obl Q (.call f args) = R4 P cfg f args H fun v H' => drawW P cfg r (dput sl d v) H' (if op.turns then hs ++ [H'] else hs) (addObl need op sl v obl) Q := Eq.trans rfl rfl
theorem T3 {sl : List DV} {H : Heap} {hs : List Heap} {obl : List Obl} {Q : DS → Prop} : drawW P cfg [] sl H hs obl Q = (oblsOk P cfg.G hs obl ∧ Q ⟨sl,H⟩) := Eq.trans rfl rfl
theorem R3 {d : Option Tmp} {op : SOp} {need : Option (Nat × Nat)} {r : List (SOper × Option (Nat × Nat))} {sl : List DV} {H : Heap} {hs : List Heap} {obl : List Obl} {Q : DS → Prop} :
    drawW P cfg ((⟨d,op,none⟩,need) :: r) sl H hs obl Q = dvW P cfg d op need r sl H hs obl Q (dop P cfg.G op sl H) := by
  simp only [drawW,jz3,Y7,if_true]
  unfold dvW
  cases dop P cfg.G op sl H <;> rfl
theorem S4 {hs : List Heap} : oblsOk P cfg.G hs [] = True := Eq.trans rfl rfl
theorem S8 {hs : List Heap} {op : SOp} {sl : List DV} {v : DV} {lo hi : Nat} {r : List Obl} : oblsOk P cfg.G hs (⟨op,sl,v,lo,hi⟩ :: r) = (oblOk P cfg.G op sl v ((hs.drop lo).take (hi + 1 - lo)) ∧ oblsOk P cfg.G hs r) := Eq.trans rfl rfl
theorem U7 {op : SOp} {sl : List DV} {v : DV} : oblOk P cfg.G op sl v [] = True := Eq.trans rfl rfl
theorem T6 {op : SOp} {sl : List DV} {v : DV} {h : Heap} {r : List Heap} : oblOk P cfg.G op sl v (h :: r) = (dop P cfg.G op sl h = .val v h ∧ oblOk P cfg.G op sl v r) := Eq.trans rfl rfl
theorem R5 {op : SOp} {sl : List DV} {v : DV} {obl : List Obl} : addObl none op sl v obl = obl := Eq.trans rfl rfl
theorem T0 {lo hi : Nat} {op : SOp} {sl : List DV} {v : DV} {obl : List Obl} : addObl (some (lo,hi)) op sl v obl = ⟨op,sl,v,lo,hi⟩ :: obl := Eq.trans rfl rfl
theorem X1 {v w : DV} {H : Heap} : (DR.val v H = DR.val w H) = (v = w) := by
  apply propext; constructor
  · intro h; injection h
  · rintro rfl; rfl
theorem zz1 {l : List (SOper × Option (Nat × Nat))} {sl sl' : List DV} {H H' : Heap} {hs hs' : List Heap} {obl obl' : List Obl} {Q : DS → Prop} (h1 : sl = sl') (h2 : H = H') (h3 : hs = hs') (h4 : obl = obl') :
    drawW P cfg l sl H hs obl Q = drawW P cfg l sl' H' hs' obl' Q := by rw [h1,h2,h3,h4]
theorem zz14 {d : Option Tmp} {op : SOp} {need : Option (Nat × Nat)} {r : List (SOper × Option (Nat × Nat))} {sl : List DV} {H : Heap} {hs : List Heap} {obl : List Obl} {Q : DS → Prop} {x y : DR} (h : x = y) :
    dvW P cfg d op need r sl H hs obl Q x = dvW P cfg d op need r sl H hs obl Q y := by rw [h]
def retK (res : List SRes) (K : DV → Heap → Prop) (ex : Ex) (s : DS) : Prop := done? ex = true ∧ ∃ vs,U1 s res = some vs ∧ K (pack vs) s.H
theorem ret0 {K : DV → Heap → Prop} {ex : Ex} (he : done? ex = true) {sl : List DV} {H : Heap} : retK [] K ex ⟨sl,H⟩ = K (.tup []) H := by
  simp only [retK,he,true_and,U1]
  apply propext; constructor
  · rintro ⟨vs,h,h2⟩; obtain rfl := Option.some.inj h; exact h2
  · exact fun h => ⟨_,rfl,h⟩
theorem ret1 {K : DV → Heap → Prop} {ex : Ex} (he : done? ex = true) {sl : List DV} {H : Heap} {t : Nat} : retK [.tmp t] K ex ⟨sl,H⟩ = K (sl.getD t P9) H := by
  simp only [retK,he,true_and,U1,dres]
  apply propext; constructor
  · rintro ⟨vs,h,h2⟩; obtain rfl := Option.some.inj h; exact h2
  · exact fun h => ⟨_,rfl,h⟩
theorem ret2 {K : DV → Heap → Prop} {ex : Ex} (he : done? ex = true) {sl : List DV} {H : Heap} {t u : Nat} : retK [.tmp t,.tmp u] K ex ⟨sl,H⟩ = K (.tup [sl.getD t P9,sl.getD u P9]) H := by
  simp only [retK,he,true_and,U1,dres]
  apply propext; constructor
  · rintro ⟨vs,h,h2⟩; obtain rfl := Option.some.inj h; exact h2
  · exact fun h => ⟨_,rfl,h⟩
theorem ret4 {K : DV → Heap → Prop} {ex : Ex} (he : done? ex = true) {sl : List DV} {H : Heap} {t u r w : Nat} : retK [.tmp t,.tmp u,.tmp r,.tmp w] K ex ⟨sl,H⟩ = K (.tup [sl.getD t P9,sl.getD u P9,sl.getD r P9,sl.getD w P9]) H := by
  simp only [retK,he,true_and,U1,dres]
  apply propext; constructor
  · rintro ⟨vs,h,h2⟩; obtain rfl := Option.some.inj h; exact h2
  · exact fun h => ⟨_,rfl,h⟩
theorem retc {K : DV → Heap → Prop} {ex : Ex} (he : done? ex = true) {sl : List DV} {H : Heap} {n t : Nat} : retK [.cell true n t] K ex ⟨sl,H⟩ = (∃ cs,dload H n (sl.getD t P9) = some cs ∧ K (.agg cs) H) := by
  simp only [retK,he,true_and,U1,dres]
  cases dload H n (sl.getD t P9) with
  | none => simp
  | some cs =>
    apply propext
    simp only [if_true,Option.some.injEq]
    constructor
    · rintro ⟨vs,h,h2⟩; subst h; exact ⟨cs,rfl,h2⟩
    · rintro ⟨cs',rfl,h2⟩; exact ⟨_,rfl,h2⟩
theorem callH {f : FuncId} {sf : SFunc} {args : List DV} {H : Heap} {K : DV → Heap → Prop} (hu : cfg.pu f = false) (hp : cfg.prim f = none) (hc : cfg.code f = some sf)
    (h : runW P cfg sf.body ⟨args ++ List.replicate (sf.ntmps - args.length) P9,H⟩ (retK sf.res K)) : R4 P cfg f args H K := by
  obtain ⟨ex,s,h1,h2,vs,h4,h5⟩ := zz4 h
  refine ⟨pack vs,s.H,CallE.heap hu ?_,h5⟩
  refine Ev.succ ?_
  refine h1.one fun n hn => ?_
  simp only [D,hp,hc,hn,h2,if_true,h4]
  match vs with
  | [] => rfl
  | [x] => rfl
  | _ :: _ :: _ => rfl
def nckD (H : Heap) : DV → DR
  | .ptr id i j => .val (.ptr id i j) H
  | .iptr cs => .val (.iptr cs) H
  | .fn f cs => .val (.fn f cs) H
  | _ => .fail
theorem V7 {G : Nat → Option (List DV)} {x : Operand} {sl : List DV} {H : Heap} : dop P G (.nilCheck x) sl H = nckD H (dev G sl x) := by
  simp only [dop]; unfold nckD; cases dev G sl x <;> rfl
theorem jz15 {H : Heap} {id i j : Nat} : nckD H (.ptr id i j) = .val (.ptr id i j) H := Eq.trans rfl rfl
def eqnD (H : Heap) (neg : Bool) : DV → DR
  | .ptr _ _ _ => .val (.sc (.bool neg)) H
  | .iptr _ => .val (.sc (.bool neg)) H
  | .sc (.pointer none) => .val (.sc (.bool !neg)) H
  | _ => .fail
theorem dop_eqNil {G : Nat → Option (List DV)} {neg : Bool} {x : Operand} {sl : List DV} {H : Heap} : dop P G (.eqNil neg x) sl H = eqnD H neg (dev G sl x) := by
  simp only [dop]; unfold eqnD; split <;> simp_all
theorem eqn_ptr {H : Heap} {neg : Bool} {id i j : Nat} : eqnD H neg (.ptr id i j) = .val (boD neg) H := Eq.trans rfl rfl
theorem eqn_nil {H : Heap} {neg : Bool} : eqnD H neg (.sc (.pointer none)) = .val (boD (!neg)) H := Eq.trans rfl rfl
def eqpD (H : Heap) (neg : Bool) (v w : DV) : DR := match v,w with
  | .ptr id i j,.ptr id' i' j' => if id = id' ∧ i = i' ∧ j = j' ∧ (H.row id).isSome then .val (.sc (.bool !neg)) H else .fail
  | _,_ => .fail
theorem dop_eqPtr {G : Nat → Option (List DV)} {neg : Bool} {x y : Operand} {sl : List DV} {H : Heap} : dop P G (.eqPtr neg x y) sl H = eqpD H neg (dev G sl x) (dev G sl y) := by
  simp only [dop]; unfold eqpD; split <;> simp_all
theorem eqp_same {H : Heap} {neg : Bool} {id i j : Nat} {r : Row} (h : H.row id = some r) : eqpD H neg (.ptr id i j) (.ptr id i j) = .val (boD (!neg)) H := by
  simp [eqpD,h,boD]
def tunD (H : Heap) : DV → DR
  | .ptr id i j => match H.row id with
      | some r => if i < r.es.length ∧ j < r.k then .val (.ptr id i j) H else .fail
      | none => .fail
  | _ => .fail
theorem dop_toUnsafe {G : Nat → Option (List DV)} {x : Operand} {sl : List DV} {H : Heap} : dop P G (.toUnsafe x) sl H = tunD H (dev G sl x) := by
  simp only [dop]; unfold tunD; cases dev G sl x <;> rfl
theorem tun_row {H : Heap} {id i j k f : Nat} {es : List (List DV)} {ty : TypeId} {sf : Bool} (h : H.row id = some (Row.mk k es ty f sf)) (h1 : i < es.length) (h2 : j < k) : tunD H (.ptr id i j) = .val (.ptr id i j) H := by
  simp only [tunD,h]; rw [if_pos ⟨h1,h2⟩]
def funD (H : Heap) (ty : TypeId) (k : Nat) : DV → DR
  | .ptr id i 0 => match H.row id with
      | some r => if i < r.es.length ∧ r.ty = ty ∧ r.k = k then .val (.ptr id i 0) H else .fail
      | none => .fail
  | _ => .fail
theorem dop_fromUnsafe {G : Nat → Option (List DV)} {ty : TypeId} {k : Nat} {x : Operand} {sl : List DV} {H : Heap} : dop P G (.fromUnsafe ty k x) sl H = funD H ty k (dev G sl x) := by
  simp only [dop]; unfold funD; split <;> simp_all <;> rfl
theorem fun_row {H : Heap} {id i k f : Nat} {es : List (List DV)} {ty : TypeId} {sf : Bool} (h : H.row id = some (Row.mk k es ty f sf)) (h1 : i < es.length) : funD H ty k (.ptr id i 0) = .val (.ptr id i 0) H := by
  simp only [funD,h]; rw [if_pos ⟨h1,trivial,trivial⟩]
theorem Z8 {H : Heap} {id : Nat} {x : Option Row} (h : id < H.length) : Heap.row (H.set id x) id = x := by
  rw [Heap.row_set,if_pos ⟨rfl,h⟩]
theorem zz8 {H : Heap} {id j : Nat} {x : Option Row} (h : id ≠ j) : Heap.row (H.set j x) id = H.row id := by
  rw [Heap.row_set,if_neg (fun e => h e.1)]
theorem callW_eq {f : FuncId} {args : List DV} {H H' : Heap} {v : DV} (h : R4 P cfg f args H fun v1 H1 => v1 = v ∧ H1 = H') (K : DV → Heap → Prop) : R4 P cfg f args H K = K v H' := by
  obtain ⟨v1,H1,h1,rfl,rfl⟩ := h
  exact CallE.told h1 K
def cvD (xs : List DV) : DV → DR
  | .fn g cs => .call g (xs ++ cs)
  | _ => .fail
theorem zz10 {G : Nat → Option (List DV)} {f : Operand} {xs : List Operand} {sl : List DV} {H : Heap} : dop P G (.callv f xs) sl H = cvD (xs.map (dev G sl)) (dev G sl f) := by
  simp only [dop]; unfold cvD; cases dev G sl f <;> rfl
theorem cv_fn {xs cs : List DV} {g : FuncId} : cvD xs (.fn g cs) = .call g (xs ++ cs) := Eq.trans rfl rfl
theorem X2 {G : Nat → Option (List DV)} {f : FuncId} {cs : List Operand} {sl : List DV} {H : Heap} : dop P G (.mkfn f cs) sl H = .val (.fn f (cs.map (dev G sl))) H := Eq.trans rfl rfl
theorem V5 {G : Nat → Option (List DV)} {ty : TypeId} {x : Operand} {sl : List DV} {H : Heap} : dop P G (.box ty x) sl H = .val (.ptr H.length 0 0) (H ++ [some (Row.mk (dev G sl x).cells.length [(dev G sl x).cells] ty 0 true)]) := Eq.trans rfl rfl
theorem opsW_wk : ∀ {l : List SOper} {s : DS} {Q R : DS → Prop},opsW P cfg l s Q → (∀ s',Q s' → R s') → opsW P cfg l s R
  | [],s,Q,R,h,hq => hq _ h
  | o :: r,s,Q,R,h,hq => by
    simp only [opsW] at h ⊢
    split at h
    · rename_i hk
      rw [if_pos hk]
      split at h
      · rename_i hw
        rw [if_pos hw]
        split at h
        · exact opsW_wk h hq
        · obtain ⟨v,H',hc,h⟩ := h
          exact ⟨v,H',hc,opsW_wk h hq⟩
        · exact h.elim
      · rename_i hw
        rw [if_neg hw]
        exact opsW_wk h hq
    · exact h.elim
theorem runW_wk : ∀ {c : SCode} {s : DS} {Q R : Ex → DS → Prop},runW P cfg c s Q → (∀ ex s',Q ex s' → R ex s') → runW P cfg c s R
  | .skip,s,Q,R,h,hq => hq _ _ h
  | .ops l,s,Q,R,h,hq => opsW_wk h fun s' => hq _ s'
  | .seq a b,s,Q,R,h,hq => by
    refine runW_wk (c := a) h fun ex s' h' => ?_
    cases ex with
    | normal => exact runW_wk (c := b) h' hq
    | exit id => exact hq _ _ h'
    | ret => exact hq _ _ h'
  | .cond c a b,s,Q,R,h,hq => by
    simp only [runW] at h ⊢
    split at h
    · rename_i t ht
      split at h
      · rename_i hb; rw [if_pos hb]; exact runW_wk h hq
      · rename_i hb; rw [if_neg hb]; exact runW_wk h hq
    · exact h.elim
  | .block id a,s,Q,R,h,hq => by
    refine runW_wk (c := a) h fun ex s' h' => ?_
    cases ex with
    | normal => exact hq _ _ h'
    | exit j =>
      simp only at h' ⊢
      split at h'
      · rename_i hj; rw [if_pos hj]; exact hq _ _ h'
      · rename_i hj; rw [if_neg hj]; exact hq _ _ h'
    | ret => exact hq _ _ h'
  | .loop a,s,Q,R,h,hq => by
    obtain ⟨ex,s',h1,h2⟩ := h
    exact ⟨ex,s',h1,hq _ _ h2⟩
  | .exit id,s,Q,R,h,hq => hq _ _ h
  | .ret,s,Q,R,h,hq => hq _ _ h
  | .draw l,s,Q,R,h,hq => by
    obtain ⟨s',h1,h2⟩ := h
    exact ⟨s',h1,hq _ _ h2⟩
  | .fail,_,_,_,h,_ => h.elim
end
end Go.Dx
end
section
namespace Go.Dx
open Go
theorem hid {p : Prop} (h : p) : Hid p := h
section
variable {P : Program} {cfg : Cfg} {G : Nat → Option (List DV)} {H H' L : Heap} {id n i k bytes : Nat} {ty : TypeId}
def Lsp (k : Nat) (ty : TypeId) (H : Heap) (v : DV) (es : List (List DV)) : Prop := (v = .nil ∧ es = []) ∨ ∃ j ext,v = .osl j 0 es.length ∧ H.row j = some (Row.mk k (es ++ ext) ty 0 true)
theorem Lsp.nil : Lsp k ty H .nil [] := .inl ⟨rfl,rfl⟩
theorem Lsp.lt {v : DV} {es : List (List DV)} (h : Lsp k ty H v es) {id a b : Nat} (e : v = .osl id a b) : id < H.length := by
  rcases h with ⟨rfl,_⟩ | ⟨j,ext,rfl,hj⟩
  · cases e
  · injection e with e1 e2 e3; subst e1; exact row_lt hj
theorem Lsp.more {v : DV} {es : List (List DV)} (h : Lsp k ty H v es) : Lsp k ty (H ++ L) v es := by
  rcases h with ⟨rfl,rfl⟩ | ⟨j,ext,rfl,hj⟩
  · exact .inl ⟨rfl,rfl⟩
  · exact .inr ⟨j,ext,rfl,by rw [Y4 (row_lt hj)]; exact hj⟩
theorem llen_lsp {v : DV} {es : List (List DV)} (h : Lsp k ty H v es) : llenD H' v = .val (intD es.length) H' := by
  rcases h with ⟨rfl,rfl⟩ | ⟨j,ext,rfl,hj⟩ <;> rfl
theorem Lsp.row {v : DV} {es : List (List DV)} (h : Lsp k ty H v es) (hne : es ≠ []) : ∃ j ext,v = .osl j 0 es.length ∧ H.row j = some (Row.mk k (es ++ ext) ty 0 true) := by
  rcases h with ⟨_,rfl⟩ | h
  · exact absurd rfl hne
  · exact h
theorem Lsp.at {v : DV} {es : List (List DV)} (h : Keep (H ++ L) H' v) (hv : Lsp k ty H v es) {r : Row} (hr : Heap.row L n = some r) : H'.row (H.length + n) = some r := by
  refine h _ r (by rw [yz17]; exact hr) fun off m e => ?_
  have := hv.lt e
  omega
theorem Lsp.at0 {v : DV} {es : List (List DV)} (h : Keep (H ++ L) H' v) (hv : Lsp k ty H v es) {r : Row} (hr : Heap.row L 0 = some r) : H'.row H.length = some r := Lsp.at h hv (n := 0) hr
theorem Lsp.take {es : List (List DV)} {j m : Nat} {ext : List (List DV)} (hj : H.row j = some (Row.mk k (es ++ ext) ty 0 true)) (hm : m ≤ es.length) : Lsp k ty H (.osl j 0 m) (es.take m) := by
  refine .inr ⟨j,es.drop m ++ ext,by rw [List.length_take,Nat.min_eq_left hm],?_⟩
  rw [hj,← List.append_assoc,List.take_append_drop]
theorem appW' {v x : DV} {es new : List (List DV)} {d : Option Tmp} {rest : List SOper} {sl : List DV} {Q : DS → Prop} (h : Lsp k ty H v es) (hx : Z6 H k x = some new) (hn : new ≠ []) (hk : 1 ≤ k) (hb : (es.length + new.length) * bytes ≤ 2 ^ 47) (h1 : new.all (fun e => e.all DV.one) = true)
    (hQ : ∀ v' H',Lsp k ty H' v' (es ++ new) → Keep H H' v → H.length ≤ H'.length → opsW P cfg rest ⟨dput sl d v',H'⟩ Q) : drW P cfg d rest sl H Q (appD H ty k bytes v x) := by
  have he : new.isEmpty = false := by cases new <;> simp_all
  rcases h with ⟨rfl,rfl⟩ | ⟨j,ext,rfl,hj⟩
  · have e : appD H ty k bytes .nil x = .val (.osl H.length 0 new.length) (H ++ [some (Row.mk k new ty 0 true)]) := by
      simp only [appD,yz10,hx,he,yz21,if_false]
      rw [if_pos ⟨by simpa using hb,hk⟩]
    rw [e,J8]
    refine hQ _ _ (.inr ⟨H.length,[],by simp,by simp [Y0]⟩) ?_ (by simp)
    intro id r hr _
    rw [Y4 (row_lt hr)]; exact hr
  · have hjl := row_lt hj
    have e : appD H ty k bytes (.osl j 0 es.length) x = .val (.osl H.length 0 (es.length + new.length)) (H.set j none ++ [some (Row.mk k (es ++ new) ty 0 true)]) := by
      simp only [appD,yz10,hx,he,yz21,if_false,hj,jz25,yz24,Nat.zero_sub]
      rw [if_pos ⟨True.intro,True.intro,by rw [yz20]; omega,by omega,hb,hk,h1⟩]
      simp only [List.take_left']
    rw [e,J8]
    refine hQ _ _ (.inr ⟨H.length,[],by simp,?_⟩) ?_ (by simp)
    · have : H.length = (H.set j none).length := by simp
      rw [this,Y0,jz26]
    · intro id r hr hne
      have hjne : id ≠ j := fun e => hne 0 es.length (by rw [e])
      rw [Y4 (by simp; exact row_lt hr),Heap.row_set,if_neg (fun e => hjne e.1)]; exact hr
theorem ia_row {j m k f : Nat} {i : Int} {es : List (List DV)} {ty : TypeId} {sf : Bool} (h0 : 0 ≤ i) (h1 : i < m) (h2 : m ≤ es.length) : iaR H k j 0 m i (some (Row.mk k es ty f sf)) = .val (.ptr j i.toNat 0) H := by
  unfold iaR
  simp only
  rw [if_pos ⟨h0,h1,True.intro,by omega⟩,yz24]
theorem ld_row {m i k f : Nat} {e : List DV} {es : List (List DV)} {ty : TypeId} {sf : Bool} (h : es[i]? = some e) (hm : m ≤ e.length) : ldR m i 0 (some (Row.mk k es ty f sf)) = some (e.take m) := by
  unfold ldR
  simp only [h]
  rw [if_pos (by omega),jz25]
def lslD (H : Heap) (k : Nat) (x : DV) (lo hi : Option DV) : DR := match dints lo,dints hi with
    | some l,some h => rval H (dslice H k x (l.getD 0) h)
    | _,_ => .fail
theorem Q9 {k : Nat} {x : Operand} {lo hi : Option Operand} {sl : List DV} : dop P G (.lslice k x lo hi) sl H = lslD H k (dev G sl x) (lo.map (dev G sl)) (hi.map (dev G sl)) := Eq.trans rfl rfl
theorem lsl_hi_row {j m f : Nat} {i : Int} {es : List (List DV)} {ty : TypeId} {sf : Bool} (hj : H.row j = some (Row.mk k es ty f sf)) (h0 : 0 ≤ i) (h1 : i ≤ m) (h2 : m ≤ es.length) : lslD H k (.osl j 0 m) none (some (intD i)) = .val (.osl j 0 i.toNat) H := by
  simp only [lslD,dints,dint,intD,if_pos h0,dslice,Option.getD_none,Option.getD_some,hj]
  rw [if_pos ⟨Nat.zero_le _,by omega,True.intro,by omega⟩]
  rfl
theorem fin4 {ex : Ex} (he : done? ex = true) {sl : List DV} {t u r w : Nat} {v : DV} : (done? ex = true ∧ ∃ vs,U1 ⟨sl,H⟩ [.tmp t,.tmp u,.tmp r,.tmp w] = some vs ∧ frz H W4 (pack vs) = some v) = (frz H W4 (.tup [sl.getD t P9,sl.getD u P9,sl.getD r P9,sl.getD w P9]) = some v) := by
  simp only [he,true_and,U1,dres]
  apply propext; constructor
  · rintro ⟨vs,h,h2⟩; obtain rfl := Option.some.inj h; exact h2
  · exact fun h => ⟨_,rfl,h⟩
end
end Go.Dx
end
