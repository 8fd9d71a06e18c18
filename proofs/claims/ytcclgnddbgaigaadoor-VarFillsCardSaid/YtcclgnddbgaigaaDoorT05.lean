/- A part of the proof of VarFills: rules of an interpreter of the program's code, shown to answer as the model does. -/
import Derived.Test.YtcclgnddbgaigaaDoorT04
open Bool renaming and_eq_true → zz19, not_false → jz24, not_true → zz25
open List renaming take_succ_cons → yz19, length_cons → zz20, length_append → yz20, map_nil → zz23, length_nil → yz25
open Option renaming map_eq_some_iff → jz20, map_some → zz22, map_none → jz23
open Nat renaming add_zero → jz21, zero_add → yz24
set_option linter.all false
section
namespace Go.Dx
open Go
section
variable {P : Program} {G : Nat → Option (List DV)}
theorem dop_congr {o : SOp} {sl sl' : List DV} {H : Heap} (h : ∀ x ∈ o.operands,dev G sl x = dev G sl' x) : dop P G o sl H = dop P G o sl' H := by
  cases o <;> simp only [SOp.operands,List.mem_cons,List.mem_map,List.mem_append,Option.mem_toList,List.not_mem_nil,or_false,forall_eq_or_imp,forall_eq,forall_exists_index,and_imp,forall_apply_eq_imp_iff₂] at h <;> simp only [dop]
  case mv x => rw [h]
  case pick c a b => rw [h.1,h.2.1,h.2.2]
  case box t x => rw [h]
  case build z ps =>
    have e1 : (ps.map fun (p : Nat × Nat × Operand) => (p.1,((dev G sl p.2.2).cells.take p.2.1))) = ps.map fun p => (p.1,((dev G sl' p.2.2).cells.take p.2.1)) :=
      List.map_congr_left fun p hp => by rw [h p hp]
    have e2 : (ps.all fun (p : Nat × Nat × Operand) => (dev G sl p.2.2).cells.length == p.2.1) = ps.all fun p => (dev G sl' p.2.2).cells.length == p.2.1 := by
      rw [Bool.eq_iff_iff,List.all_eq_true,List.all_eq_true]
      exact ⟨fun q p hp => by rw [← h p hp]; exact q p hp,fun q p hp => by rw [h p hp]; exact q p hp⟩
    rw [e1,e2]
  case buildSlice t k z n ps =>
    have e1 : (ps.map fun (p : Nat × Operand) => (p.1 * k,(dev G sl p.2).cells)) = ps.map fun p => (p.1 * k,(dev G sl' p.2).cells) :=
      List.map_congr_left fun p hp => by rw [h p hp]
    have e2 : (ps.all fun (p : Nat × Operand) => (dev G sl p.2).cells.length == k) = ps.all fun p => (dev G sl' p.2).cells.length == k := by
      rw [Bool.eq_iff_iff,List.all_eq_true,List.all_eq_true]
      exact ⟨fun q p hp => by rw [← h p hp]; exact q p hp,fun q p hp => by rw [h p hp]; exact q p hp⟩
    rw [e1,e2]
  case load g n a => rw [h]
  case store n a x => rw [h.1,h.2]
  case nilCheck x => rw [h]
  case bin op t x y => rw [h.1,h.2]
  case un op x => rw [h]
  case conv s d x => rw [h]
  case convBS x => rw [h]
  case convSB t x => rw [h]
  case index t x y => rw [h.1,h.2]
  case sslice t x lo hi =>
    rw [h.1]
    cases lo <;> cases hi <;> simp only [jz23,zz22]
    · rw [h.2 _ (.inr rfl)]
    · rw [h.2 _ (.inl rfl)]
    · rw [h.2 _ (.inl rfl),h.2 _ (.inr rfl)]
  case lslice k x lo hi =>
    rw [h.1]
    cases lo <;> cases hi <;> simp only [jz23,zz22]
    · rw [h.2 _ (.inr rfl)]
    · rw [h.2 _ (.inl rfl)]
    · rw [h.2 _ (.inl rfl),h.2 _ (.inr rfl)]
  case fieldAddr off x => rw [h]
  case field a off n x => rw [h]
  case indexAddr k x i => rw [h.1,h.2]
  case extract x i => rw [h]
  case len x => rw [h]
  case blt b ts t xs => rw [List.map_congr_left h]
  case append t k b s x => rw [h.1,h.2]
  case makeSlice t k b z x y => rw [h.1,h.2]
  case mkfn f cs => rw [List.map_congr_left h]
  case call f xs => rw [List.map_congr_left h]
  case callv f xs =>
    rw [h.1,List.map_congr_left h.2]
  case ident x => rw [h]
  case eqNil n x => rw [h]
  case eqPtr n x y => rw [h.1,h.2]
  case toUnsafe x => rw [h]
  case fromUnsafe t k x => rw [h]
  case sliceData x => rw [h]
  case ustring t p n => rw [h.1,h.2]
theorem dev_of_slot {sl sl' : List DV} {x : Operand} (h : ∀ t,x = .tmp t → sl[t]? = sl'[t]?) : dev G sl x = dev G sl' x := by
  cases x with
  | tmp t => simp only [dev,List.getD_eq_getElem?_getD,h t rfl]
  | _ => rfl
theorem estep_congr {call : U8} {o : SOper} {sl sl' : List DV} {H : Heap} (h : ∀ t ∈ o.reads,sl[t]? = sl'[t]?) : Y8 P G call o sl H = Y8 P G call o sl' H := by
  have h1 : dop P G o.op sl H = dop P G o.op sl' H := dop_congr fun x hx => dev_of_slot fun t ht => h t (by
    subst ht
    exact List.mem_append.2 (.inl (List.mem_filterMap.2 ⟨_,hx,rfl⟩)))
  have h2 : ∀ p,o.guard = some p → sl[p.1]? = sl'[p.1]? := fun p hp => h _ (List.mem_append.2 (.inr (by simp [hp])))
  have h3 : jz3 sl o.guard = jz3 sl' o.guard := by
    cases hg : o.guard with
    | none => rfl
    | some p => simp only [jz3,h2 p hg]
  have h4 : Y7 sl o.guard = Y7 sl' o.guard := by
    cases hg : o.guard with
    | none => rfl
    | some p => simp only [Y7,h2 p hg]
  simp only [Y8,h1,h3,h4]
theorem estep_heap {call : U8} {o : SOper} {sl : List DV} {H H' : Heap} {v : DV} (ht : o.op.turns = false) (h : Y8 P G call o sl H = some (v,H')) : H' = H := by
  unfold Y8 at h
  split at h
  · split at h
    · split at h
      · rename_i v2 H2 hop
        obtain ⟨rfl,rfl⟩ := Prod.mk.inj (Option.some.inj h)
        cases o with
        | mk dst op guard =>
        cases op <;> simp only [SOp.turns] at ht <;> (try (cases ht; done)) <;> simp only [dop,rval,Z7] at hop <;> (try (repeat' split at hop)) <;> first
          | (cases hop; done)
          | exact (DR.val.inj hop).2.symm
      · rename_i f args hop
        cases o with
        | mk dst op guard =>
        cases op <;> simp only [SOp.turns] at ht <;> (try (cases ht; done)) <;> simp only [dop,rval,Z7] at hop <;> (try (repeat' split at hop)) <;> (cases hop; done)
      · simp at h
    · exact (Prod.mk.inj (Option.some.inj h)).2.symm
  · simp at h
abbrev W := List (Option Tmp × DV)
def app (p : Nat → Bool) : W → Nat → List DV → List DV
  | [],_,sl => sl
  | (d,v) :: r,k,sl => app p r (k + 1) (if p k = true then dput sl d v else sl)
theorem dput_length (sl : List DV) (d : Option Tmp) (v : DV) : (dput sl d v).length = sl.length := by cases d <;> simp [dput]
theorem app_length (p : Nat → Bool) : ∀ (l : W) (k : Nat) (sl : List DV),(app p l k sl).length = sl.length
  | [],_,_ => rfl
  | (d,v) :: r,k,sl => by
    simp only [app]
    rw [app_length]
    split
    · exact dput_length _ _ _
    · rfl
theorem dput_other {sl : List DV} {d : Option Tmp} {v : DV} {t : Tmp} (h : d ≠ some t) : (dput sl d v)[t]? = sl[t]? := by
  cases d with
  | none => rfl
  | some u => simp only [dput]; rw [List.getElem?_set,if_neg (fun e => h (by rw [e]))]
theorem dput_same {sl : List DV} {v : DV} {t : Tmp} : (dput sl (some t) v)[t]? = if t < sl.length then some v else none := by
  simp only [dput,List.getElem?_set,if_true]
theorem app_agree {p q : Nat → Bool} {t : Tmp} : ∀ (l : W) (k : Nat) (sl sl' : List DV),(∀ (j : Nat) (v : DV),l[j]? = some (some t,v) → p (k + j) = q (k + j)) → sl[t]? = sl'[t]? → sl.length = sl'.length → (app p l k sl)[t]? = (app q l k sl')[t]?
  | [],_,_,_,_,h,_ => h
  | (d,v) :: r,k,sl,sl',hpq,h,hl => by
    simp only [app]
    refine app_agree r (k + 1) _ _ (fun j v' hj => by have := hpq (j + 1) v' (by simpa using hj); rwa [show k + (j + 1) = k + 1 + j by omega] at this) ?_ (by split <;> split <;> simp [dput_length,hl])
    by_cases hd : d = some t
    · subst hd
      have h0 := hpq 0 v (by simp)
      simp only [jz21] at h0
      rw [h0]
      split
      · rw [dput_same,dput_same,hl]
      · exact h
    · have e1 : ∀ (b : Bool) (s : List DV),(if b = true then dput s d v else s)[t]? = s[t]? := fun b s => by
        split
        · exact dput_other hd
        · rfl
      rw [e1,e1]; exact h
theorem app_one {p : Nat → Bool} {t : Tmp} {v : DV} : ∀ (l : W) (k i : Nat) (sl : List DV),l[i]? = some (some t,v) → p (k + i) = true → (∀ (j : Nat) (u : DV),l[j]? = some (some t,u) → j = i) →
    (app p l k sl)[t]? = if t < sl.length then some v else none
  | [],_,_,_,h,_,_ => by simp at h
  | (d,u) :: r,k,0,sl,h,hp,hone => by
    simp only [List.getElem?_cons_zero,Option.some.injEq,Prod.mk.injEq] at h
    obtain ⟨rfl,rfl⟩ := h
    simp only [jz21] at hp
    simp only [app,hp,if_true]
    have : ∀ (j : Nat) (u' : DV),r[j]? ≠ some (some t,u') := fun j u' hj => by
      have := hone (j + 1) u' (by simpa using hj); omega
    rw [app_agree (p := p) (q := fun _ => false) r (k + 1) _ (dput sl (some t) u) (fun j u' hj => absurd hj (this j u')) rfl rfl]
    have hnone : ∀ (l : W) (k : Nat) (sl : List DV),app (fun _ => false) l k sl = sl := by
      intro l
      induction l with
      | nil => intro k sl; rfl
      | cons x r ih => intro k sl; simp only [app]; simp [ih]
    rw [hnone,dput_same]
  | (d,u) :: r,k,i + 1,sl,h,hp,hone => by
    simp only [app]
    have hd : d ≠ some t := fun e => by
      have := hone 0 u (by simp [e]); omega
    rw [app_one r (k + 1) i _ (by simpa using h) (by rwa [show k + 1 + i = k + (i + 1) by omega]) (fun j u' hj => by have := hone (j + 1) u' (by simpa using hj); omega)]
    have : (if p k = true then dput sl d u else sl).length = sl.length := by split <;> simp [dput_length]
    rw [this]
theorem app_ext {p q : Nat → Bool} (l : W) (sl : List DV) (h : ∀ i,i < l.length → p i = q i) : app p l 0 sl = app q l 0 sl := by
  apply List.ext_getElem?
  intro t
  refine app_agree l 0 sl sl (fun j v hj => ?_) rfl rfl
  have : j < l.length := by
    rcases Nat.lt_or_ge j l.length with x | x
    · exact x
    · rw [List.getElem?_eq_none x] at hj; simp at hj
  rw [yz24]; exact h j this
theorem app_put {p : Nat → Bool} {l : W} {i : Nat} {d : Option Tmp} {v : DV} (sl : List DV) (hi : l[i]? = some (d,v)) (hp : p i = false)
    (hone : ∀ (t : Tmp) (j : Nat) (u : DV),d = some t → l[j]? = some (some t,u) → j = i) : dput (app p l 0 sl) d v = app (fun j => p j || j == i) l 0 sl := by
  apply List.ext_getElem?
  intro t
  by_cases hd : d = some t
  · subst hd
    rw [dput_same,app_length,app_one l 0 i sl hi (by simp) (fun j u hj => hone t j u rfl hj)]
  · rw [dput_other hd]
    refine app_agree l 0 sl sl (fun j u hj => ?_) rfl rfl
    have : j ≠ i := fun e => by
      subst e
      rw [hi] at hj
      simp only [Option.some.injEq,Prod.mk.injEq] at hj
      exact hd hj.1
    simp [this]
inductive Ext (es : List (List Nat)) (n : Nat) : (Nat → Bool) → List Nat → Prop where
  | nil {p : Nat → Bool} (h : ∀ i,i < n → p i = true) : Ext es n p []
  | cons {p : Nat → Bool} {i : Nat} {r : List Nat} (hi : i < n) (hp : p i = false) (he : ∀ k ∈ es.getD i [],p k = true) (h : Ext es n (fun j => p j || j == i) r) : Ext es n p (i :: r)
theorem go_ext (m : Region.Mode) (ops : Array Oper) (es : List (List Nat))
    (hes : ∀ (i : Nat) (o : Oper),ops[i]? = some o → (∀ e ∈ o.after.toList,e.on < i) ∧ ∀ k ∈ es.getD i [],∃ e ∈ o.after.toList,Region.binds m e = true ∧ e.on = k) :
    ∀ (fuel t : Nat) (listed : Array Bool) (acc : List Nat),listed.size = ops.size → ((List.range ops.size).filter fun i => !listed.getD i true).length ≤ fuel →
      ∃ tail,Region.linearise.go m ops fuel t listed acc = acc.reverse ++ tail ∧ Ext es ops.size (fun i => listed.getD i true) tail := by
  intro fuel
  induction fuel with
  | zero =>
    intro t listed acc hs hf
    refine ⟨[],by simp [Region.linearise.go],.nil fun i hi => ?_⟩
    have h0 : ((List.range ops.size).filter fun i => !listed.getD i true) = [] := List.length_eq_zero_iff.1 (by omega)
    rw [List.filter_eq_nil_iff] at h0
    simpa using h0 i (by simpa using hi)
  | succ fuel ih =>
    intro t listed acc hs hf
    simp only [Region.linearise.go]
    generalize hrs : ((List.range ops.size).filter fun i => !listed.getD i true && ((ops[i]?).map (·.after.all fun e => !Region.binds m e || listed.getD e.on false)).getD false) = rs
    by_cases hall : ∀ i,i < ops.size → listed.getD i true = true
    · have : rs = [] := by
        rw [← hrs,List.filter_eq_nil_iff]
        intro i hi
        rw [hall i (by simpa using hi)]; simp
      rw [this]
      exact ⟨[],by simp,.nil hall⟩
    ·
      have hex : ∃ i,i < ops.size ∧ listed.getD i true = false := by
        apply Classical.byContradiction
        intro hne
        apply hall
        intro i hi
        cases h : listed.getD i true with
        | true => rfl
        | false => exact absurd ⟨i,hi,h⟩ hne
      have hmin : ∃ i,i < ops.size ∧ listed.getD i true = false ∧ ∀ j,j < i → listed.getD j true = true := by
        obtain ⟨i,hi,hl⟩ := hex
        induction i using Nat.strongRecOn with
        | _ i ih2 =>
          by_cases hj : ∃ j,j < i ∧ listed.getD j true = false
          · obtain ⟨j,h1,h2⟩ := hj
            exact ih2 j h1 (by omega) h2
          · refine ⟨i,hi,hl,fun j hji => ?_⟩
            cases h : listed.getD j true with
            | true => rfl
            | false => exact absurd ⟨j,hji,h⟩ hj
      have hne : rs ≠ [] := by
        obtain ⟨i,hi,hl,hlow⟩ := hmin
        intro h0
        rw [← hrs,List.filter_eq_nil_iff] at h0
        refine h0 i (by simpa using hi) ?_
        rw [Array.getElem?_eq_getElem hi]
        simp only [hl,jz24,Bool.true_and,zz22,Option.getD_some,Array.all_eq_true']
        intro e he
        have h1 := (hes i _ (Array.getElem?_eq_getElem hi)).1 e (by simpa using he)
        have h2 := hlow e.on h1
        have h3 : listed.getD e.on false = true := by
          rw [Array.getD_eq_getD_getElem?] at h2 ⊢
          have : e.on < listed.size := by omega
          rw [Array.getElem?_eq_getElem this] at h2 ⊢
          exact h2
        rw [h3]; simp
      have hlt : t % rs.length < rs.length := Nat.mod_lt _ (List.length_pos_iff.2 hne)
      rw [List.getElem?_eq_getElem hlt]
      have hmem := List.getElem_mem hlt
      generalize hi : rs[t % rs.length] = i at hmem
      rw [← hrs,List.mem_filter] at hmem
      obtain ⟨hir,hcond⟩ := hmem
      have hin : i < ops.size := by simpa using hir
      simp only [zz19,Bool.not_eq_true'] at hcond
      obtain ⟨hlf,hedge⟩ := hcond
      rw [Array.getElem?_eq_getElem hin] at hedge
      simp only [zz22,Option.getD_some] at hedge
      have hset : ∀ j,(listed.setIfInBounds i true).getD j true = (listed.getD j true || j == i) := by
        intro j
        simp only [Array.getD_eq_getD_getElem?,Array.getElem?_setIfInBounds]
        by_cases hij : i = j
        · subst hij
          simp [hs,hin]
        · simp [hij]; intro e; exact absurd e.symm hij
      have hcount : ((List.range ops.size).filter fun j => !(listed.setIfInBounds i true).getD j true).length ≤ fuel := by
        have hlt2 : ((List.range ops.size).filter fun j => !(listed.setIfInBounds i true).getD j true).length < ((List.range ops.size).filter fun i => !listed.getD i true).length := by
          have e1 : ((List.range ops.size).filter fun j => !(listed.setIfInBounds i true).getD j true) = ((List.range ops.size).filter fun i => !listed.getD i true).filter fun j => !(j == i) := by
            rw [List.filter_filter]
            apply List.filter_congr
            intro j _
            rw [hset j]
            cases listed.getD j true <;> simp
          rw [e1]
          have hm : i ∈ ((List.range ops.size).filter fun i => !listed.getD i true) := List.mem_filter.2 ⟨hir,by simp [hlf]⟩
          exact List.length_filter_lt_length_iff_exists.2 ⟨i,hm,by simp⟩
        omega
      obtain ⟨tail,h1,h2⟩ := ih (t / rs.length) (listed.setIfInBounds i true) (i :: acc) (by simpa using hs) hcount
      refine ⟨i :: tail,?_,?_⟩
      · simp only []
        rw [h1]; simp
      · refine .cons hin hlf (fun k hk => ?_) ?_
        · obtain ⟨e,he,hb,rfl⟩ := (hes i _ (Array.getElem?_eq_getElem hin)).2 k hk
          have := Array.all_eq_true'.1 hedge e (by simpa using he)
          rw [hb] at this
          simp only [zz25,Bool.false_or] at this
          rw [Array.getD_eq_getD_getElem?] at this ⊢
          cases hx : listed[e.on]? with
          | none => rw [hx] at this; simp at this
          | some b => rw [hx] at this; simpa using this
        · have : (fun j => (listed.setIfInBounds i true).getD j true) = fun j => listed.getD j true || j == i := funext hset
          rw [← this]; exact h2
theorem filter_get {α : Type} (p : α → Bool) : ∀ (l : List α) (i : Nat) (x : α),l[i]? = some x → p x = true → (l.filter p)[((l.take i).filter p).length]? = some x
  | [],_,_,h,_ => by simp at h
  | y :: r,0,x,h,hp => by
    simp only [List.getElem?_cons_zero,Option.some.injEq] at h
    subst h
    simp [hp]
  | y :: r,i + 1,x,h,hp => by
    have ih := filter_get p r i x (by simpa using h) hp
    rw [yz19]
    by_cases hy : p y = true
    · rw [List.filter_cons_of_pos hy,List.filter_cons_of_pos hy,zz20,List.getElem?_cons_succ]; exact ih
    · rw [List.filter_cons_of_neg hy,List.filter_cons_of_neg hy]; exact ih
theorem take_snoc_filter {α : Type} (p : α → Bool) (l : List α) (i : Nat) (x : α) (h : l[i]? = some x) : ((l.take (i + 1)).filter p).length = ((l.take i).filter p).length + if p x = true then 1 else 0 := by
  have hi : i < l.length := by
    rcases Nat.lt_or_ge i l.length with y | y
    · exact y
    · rw [List.getElem?_eq_none y] at h; simp at h
  rw [List.take_succ_eq_append_getElem hi,List.filter_append,yz20]
  rw [List.getElem?_eq_getElem hi] at h
  rw [Option.some.inj h]
  split
  · rename_i hp; simp [hp]
  · rename_i hp; simp [hp]
def cnt (n : Nat) (p : Nat → Bool) : Nat := ((List.range n).filter p).length
theorem cnt_le {n : Nat} {p q : Nat → Bool} (h : ∀ i,i < n → p i = true → q i = true) : cnt n p ≤ cnt n q := by
  unfold cnt
  have e : (List.range n).filter p = ((List.range n).filter q).filter p := by
    rw [List.filter_filter]
    apply List.filter_congr
    intro i hi
    have := h i (by simpa using hi)
    cases hp : p i with
    | false => simp
    | true => simp [this hp]
  rw [e]
  exact List.length_filter_le _ _
theorem cnt_congr {n : Nat} {p q : Nat → Bool} (h : ∀ i,i < n → p i = q i) : cnt n p = cnt n q := by
  unfold cnt
  rw [List.filter_congr (fun i hi => h i (by simpa using hi))]
theorem cnt_put {n i : Nat} {p : Nat → Bool} {t : Nat → Bool} (hi : i < n) (hp : p i = false) : cnt n (fun j => t j && (p j || j == i)) = cnt n (fun j => t j && p j) + if t i = true then 1 else 0 := by
  have key : ∀ m,cnt m (fun j => t j && (p j || j == i)) = cnt m (fun j => t j && p j) + if i < m then (if t i = true then 1 else 0) else 0 := by
    intro m
    induction m with
    | zero => simp [cnt]
    | succ m ih =>
      unfold cnt at *
      rw [List.range_succ,List.filter_append,List.filter_append,yz20,yz20,ih]
      by_cases hm : m = i
      · subst hm
        rw [if_neg (Nat.lt_irrefl _),if_pos (Nat.lt_succ_self _)]
        cases ht : t m <;> simp [ht,hp]
      · have e1 : (decide (m < i) || true) = true := by simp
        have e2 : (m == i) = false := by simpa using hm
        have e3 : (i < m + 1) ↔ i < m := by omega
        simp only [e3]
        have : ([m].filter fun j => t j && (p j || j == i)) = [m].filter fun j => t j && p j := by
          simp [List.filter_cons,e2]
        rw [this]; omega
  rw [key n,if_pos hi]
theorem cnt_take {α : Type} (q : α → Bool) (l : List α) (f : Nat → Bool) (hf : ∀ i x,l[i]? = some x → f i = q x) : ∀ k,k ≤ l.length → cnt l.length (fun j => f j && decide (j < k)) = ((l.take k).filter q).length := by
  intro k
  induction k with
  | zero => intro _; simp [cnt]
  | succ k ih =>
    intro hk
    have hx : l[k]? = some l[k] := List.getElem?_eq_getElem (by omega)
    rw [take_snoc_filter q l k _ hx,← ih (by omega)]
    have := cnt_put (n := l.length) (i := k) (p := fun j => decide (j < k)) (t := f) (by omega) (by simp)
    rw [hf k _ hx] at this
    rw [← this]
    apply cnt_congr
    intro j _
    congr 1
    rw [Bool.eq_iff_iff]; simp; omega
theorem optMap_get {α β : Type} {f : α → Option β} : ∀ {l : List α} {m : List β},Q8 f l = some m → m.length = l.length ∧ ∀ (i : Nat) (x : α),l[i]? = some x → ∃ y,m[i]? = some y ∧ f x = some y
  | [],m,h => by simp only [Q8,Option.some.injEq] at h; subst h; simp
  | a :: r,m,h => by
    simp only [Q8] at h
    split at h
    · rename_i b m' h1 h2
      obtain rfl := Option.some.inj h
      obtain ⟨e1,e2⟩ := optMap_get h2
      refine ⟨by simp [e1],fun i x hx => ?_⟩
      cases i with
      | zero => simp at hx; subst hx; exact ⟨b,rfl,h1⟩
      | succ i => simpa using e2 i x (by simpa using hx)
    · simp at h
theorem jz12 {call : U8} : ∀ {L : List SOper} {sl : List DV} {H : Heap} {tr : List (List DV × DV × Heap)},trace P G call L sl H = some tr → tr.length = L.length
  | [],_,_,_,h => by simp only [trace,Option.some.injEq] at h; subst h; rfl
  | o :: r,sl,H,tr,h => by
    simp only [trace] at h
    split at h
    · simp at h
    · simp only [jz20] at h
      obtain ⟨l,h1,rfl⟩ := h
      simp [jz12 h1]
theorem trace_at {call : U8} : ∀ {L : List SOper} {sl : List DV} {H : Heap} {tr : List (List DV × DV × Heap)},trace P G call L sl H = some tr → ∀ (i : Nat) (o : SOper) (x : List DV × DV × Heap),L[i]? = some o → tr[i]? = some x →
    ∃ Hi,Y8 P G call o x.1 Hi = some (x.2.1,x.2.2) ∧ (i = 0 → Hi = H ∧ x.1 = sl) ∧ (∀ j y o',i = j + 1 → tr[j]? = some y → L[j]? = some o' → Hi = y.2.2 ∧ x.1 = dput y.1 o'.dst y.2.1)
  | [],_,_,_,_,i,o,x,ho,_ => by simp at ho
  | q :: r,sl,H,tr,h,i,o,x,ho,hx => by
    simp only [trace] at h
    split at h
    · simp at h
    · rename_i v H' he
      simp only [jz20] at h
      obtain ⟨l,h1,rfl⟩ := h
      cases i with
      | zero =>
        simp only [List.getElem?_cons_zero,Option.some.injEq] at ho hx
        subst ho; subst hx
        exact ⟨H,he,fun _ => ⟨rfl,rfl⟩,fun j y o' hj => by omega⟩
      | succ i =>
        obtain ⟨Hi,e1,e2,e3⟩ := trace_at h1 i o x (by simpa using ho) (by simpa using hx)
        refine ⟨Hi,e1,fun h0 => by omega,fun j y o' hj hy ho' => ?_⟩
        cases j with
        | zero =>
          simp only [List.getElem?_cons_zero,Option.some.injEq] at hy ho'
          subst hy; subst ho'
          exact e2 (by omega)
        | succ j => exact e3 j y o' (by omega) (by simpa using hy) (by simpa using ho')
theorem dops_trace {call : U8} : ∀ {L : List SOper} {sl : List DV} {H : Heap} {tr : List (List DV × DV × Heap)} {s' : DS},trace P G call L sl H = some tr → dops P G call L ⟨sl,H⟩ = some s' →
    (L = [] → s' = ⟨sl,H⟩) ∧ ∀ o x n,L.length = n + 1 → L[n]? = some o → tr[n]? = some x → s' = ⟨dput x.1 o.dst x.2.1,x.2.2⟩
  | [],sl,H,tr,s',_,hd => by
    simp only [dops,Option.some.injEq] at hd
    exact ⟨fun _ => hd.symm,fun o x n hn => by simp at hn⟩
  | q :: r,sl,H,tr,s',h,hd => by
    simp only [trace] at h
    rw [dops_cons] at hd
    split at h
    · simp at h
    · rename_i v H' he
      rw [he] at hd
      simp only [jz20] at h
      obtain ⟨l,h1,rfl⟩ := h
      obtain ⟨e1,e2⟩ := dops_trace h1 hd
      refine ⟨fun h0 => by simp at h0,fun o x n hn ho hx => ?_⟩
      cases n with
      | zero =>
        have hr : r = [] := by simpa using hn
        simp only [List.getElem?_cons_zero,Option.some.injEq] at ho hx
        subst ho; subst hx
        exact e1 hr
      | succ n => exact e2 o x n (by simpa using hn) (by simpa using ho) (by simpa using hx)
end
end Go.Dx
end
section
namespace Go.Dx
open Go
section
variable {P : Program} {G : Nat → Option (List DV)}
def wOf (L : List SOper) (tr : List (List DV × DV × Heap)) : W := (L.zip tr).map fun p => (p.1.dst,p.2.2.1)
def cAt (L : List SOper) (tr : List (List DV × DV × Heap)) (i : Nat) : Nat := (((L.zip tr).take i).filter fun p => p.1.op.turns).length
theorem zip_get {α β : Type} : ∀ {l : List α} {m : List β} {i : Nat} {x : α} {y : β},l[i]? = some x → m[i]? = some y → (l.zip m)[i]? = some (x,y) := by
  intro l m i x y h1 h2
  rw [List.getElem?_zip_eq_some]; exact ⟨h1,h2⟩
theorem app_succ {L : List SOper} {tr : List (List DV × DV × Heap)} {sl : List DV} {i : Nat} {o : SOper} {x : List DV × DV × Heap} (ho : L[i]? = some o) (hx : tr[i]? = some x)
    (hone : ∀ (t : Tmp) (j : Nat) (u : DV),o.dst = some t → (wOf L tr)[j]? = some (some t,u) → j = i) :
    dput (app (fun j => decide (j < i)) (wOf L tr) 0 sl) o.dst x.2.1 = app (fun j => decide (j < i + 1)) (wOf L tr) 0 sl := by
  have hi : (wOf L tr)[i]? = some (o.dst,x.2.1) := by
    rw [wOf,List.getElem?_map,zip_get ho hx]; rfl
  rw [app_put sl hi (by simp) hone]
  apply app_ext
  intro j _
  rw [Bool.eq_iff_iff]; simp; omega
theorem text_run {call : U8} {L : List SOper} {sl : List DV} {H : Heap} {tr : List (List DV × DV × Heap)} (h : trace P G call L sl H = some tr)
    (hone : ∀ (i : Nat) (o : SOper) (t : Tmp) (j : Nat) (u : DV),L[i]? = some o → o.dst = some t → (wOf L tr)[j]? = some (some t,u) → j = i) :
    ∀ (i : Nat) (o : SOper) (x : List DV × DV × Heap),L[i]? = some o → tr[i]? = some x →
      x.1 = app (fun j => decide (j < i)) (wOf L tr) 0 sl ∧ (Z4 L tr H)[cAt L tr (i + 1)]? = some x.2.2 ∧ ∃ Hi,(Z4 L tr H)[cAt L tr i]? = some Hi ∧ Y8 P G call o x.1 Hi = some (x.2.1,x.2.2) := by
  have next : ∀ (i : Nat) (o : SOper) (x : List DV × DV × Heap) (Hi : Heap),L[i]? = some o → tr[i]? = some x → (Z4 L tr H)[cAt L tr i]? = some Hi → Y8 P G call o x.1 Hi = some (x.2.1,x.2.2) →
      (Z4 L tr H)[cAt L tr (i + 1)]? = some x.2.2 := by
    intro i o x Hi ho hx hs he
    have hz := zip_get ho hx
    unfold cAt
    rw [take_snoc_filter _ _ i _ hz]
    by_cases ht : o.op.turns = true
    · rw [if_pos ht]
      have := filter_get (fun p : SOper × (List DV × DV × Heap) => p.1.op.turns) (L.zip tr) i (o,x) hz ht
      simp only [Z4]
      rw [List.getElem?_cons_succ,List.getElem?_map,this]; rfl
    · have ht : o.op.turns = false := by simpa using ht
      rw [if_neg (by simp [ht]),jz21]
      rw [estep_heap ht he]; exact hs
  intro i
  induction i with
  | zero =>
    intro o x ho hx
    obtain ⟨Hi,e1,e2,_⟩ := trace_at h 0 o x ho hx
    obtain ⟨rfl,e3⟩ := e2 rfl
    have h0 : (Z4 L tr Hi)[cAt L tr 0]? = some Hi := by simp [cAt,Z4]
    refine ⟨?_,next 0 o x Hi ho hx h0 e1,Hi,h0,e1⟩
    rw [e3]
    have hnone : ∀ (l : W) (k : Nat) (s : List DV),app (fun j => decide (j < 0)) l k s = s := by
      intro l
      induction l with
      | nil => intro k s; rfl
      | cons y r ih => intro k s; simp only [app]; rw [ih]; simp
    rw [hnone]
  | succ i ih =>
    intro o x ho hx
    have hi : i < L.length := by
      rcases Nat.lt_or_ge (i + 1) L.length with y | y
      · omega
      · rw [List.getElem?_eq_none y] at ho; simp at ho
    have ho' := List.getElem?_eq_getElem hi
    have hx' := List.getElem?_eq_getElem (show i < tr.length by rw [jz12 h]; exact hi)
    obtain ⟨f1,f2,_⟩ := ih _ _ ho' hx'
    obtain ⟨Hi,e1,_,e3⟩ := trace_at h (i + 1) o x ho hx
    obtain ⟨rfl,e4⟩ := e3 i _ _ rfl hx' ho'
    refine ⟨?_,next (i + 1) o x _ ho hx f2 e1,_,f2,e1⟩
    rw [e4,f1]
    exact app_succ ho' hx' fun t j u hd hj => hone i _ t j u ho' hd hj
theorem ahead_done {es : List (List Nat)} {p : Nat → Bool} (hp : ∀ i,p i = true → ∀ k ∈ es.getD i [],p k = true) : ∀ (n i j : Nat),ahead es n i j = true → (∀ k ∈ es.getD j [],p k = true) → p i = true
  | 0,_,_,h,_ => by simp [ahead] at h
  | n + 1,i,j,h,hj => by
    simp only [ahead,List.any_eq_true,Bool.or_eq_true,beq_iff_eq] at h
    obtain ⟨k,hk,rfl | h⟩ := h
    · exact hj k hk
    · exact ahead_done hp n i k h (hp k (hj k hk))
structure DrawnFacts (L : List SOper) (es : List (List Nat)) : Prop where
  turns : ∀ (i j : Nat) (a b : SOper),i < j → L[i]? = some a → L[j]? = some b → a.op.turns = true → b.op.turns = true → ahead es L.length i j = true
  dst : ∀ (i j : Nat) (a b : SOper),i < j → L[i]? = some a → L[j]? = some b → a.dst.isSome = true → a.dst ≠ b.dst
  wr : ∀ (i j : Nat) (a b : SOper) (t : Tmp),i < j → L[i]? = some a → L[j]? = some b → a.dst = some t → t ∈ b.reads → ahead es L.length i j = true
  rw_ : ∀ (i j : Nat) (a b : SOper) (t : Tmp),i < j → L[i]? = some a → L[j]? = some b → b.dst = some t → t ∈ a.reads → ahead es L.length i j = true
theorem drawn_facts {L : List SOper} {es : List (List Nat)} (h : drawn? L es = true) : DrawnFacts L es := by
  have key : ∀ i j a b,i < j → L[i]? = some a → L[j]? = some b → (!(a.op.turns && b.op.turns) || ahead es L.length i j) = true ∧ (!(a.dst.isSome && a.dst == b.dst)) = true ∧
      (!((a.dst.map fun t => b.reads.contains t).getD false || (b.dst.map fun t => a.reads.contains t).getD false) || ahead es L.length i j) = true := by
    intro i j a b hij ha hb
    have hj : j < L.length := by
      rcases Nat.lt_or_ge j L.length with y | y
      · exact y
      · rw [List.getElem?_eq_none y] at hb; simp at hb
    have h1 := List.all_eq_true.1 h j (by simpa using hj)
    have h2 := List.all_eq_true.1 h1 i (by simpa using hij)
    simp only [ha,hb,zz19] at h2
    exact ⟨h2.1.1,h2.1.2,h2.2⟩
  refine ⟨?_,?_,?_,?_⟩
  · intro i j a b hij ha hb h1 h2
    have := (key i j a b hij ha hb).1
    simpa [h1,h2] using this
  · intro i j a b hij ha hb h1 h2
    have := (key i j a b hij ha hb).2.1
    rw [h2] at h1 this
    simp [h1] at this
  · intro i j a b t hij ha hb h1 h2
    have := (key i j a b hij ha hb).2.2
    simpa [h1,h2] using this
  · intro i j a b t hij ha hb h1 h2
    have := (key i j a b hij ha hb).2.2
    simpa [h1,h2] using this
theorem getElem?_lt {α : Type} {l : List α} {i : Nat} {x : α} (h : l[i]? = some x) : i < l.length := by
  rcases Nat.lt_or_ge i l.length with y | y
  · exact y
  · rw [List.getElem?_eq_none y] at h; simp at h
theorem draw_ok {call : U8} (hcall : CallOk P G call) {ops : Array Oper} {l : List (SOper × List Nat)} (hl : cdraw P ops = some l) {s s' : DS} (hd : ddraw P G call l s = some s') {S : Sit} {a : Act} (hr : Rel G S s a)
    (Q : Exit → Act → World → Prop) (t : Nat) (hQ : ∀ S' a',Step S S' → Rel G S' s' a' → Q .normal a' S'.w) : wpOps P ops Q (Region.schedule (P.follows .mixedOrders) ops t) a S.w := by
  simp only [ddraw] at hd
  split at hd
  · simp at hd
  · rename_i tr htr
    split at hd
    · rename_i hc
      rw [zz19] at hc
      obtain ⟨hdr,hst⟩ := hc
      generalize hL : l.map (·.1) = L at *
      generalize hE : l.map (·.2) = es at *
      have F := drawn_facts hdr
      obtain ⟨hlen,hget⟩ := optMap_get (show Q8 _ (ops.toList.zipIdx) = some l from hl)
      have hLn : L.length = ops.size := by rw [← hL]; simpa using hlen
      have htn : tr.length = L.length := jz12 htr
      have hWn : (wOf L tr).length = L.length := by simp [wOf,htn]
      have hop : ∀ i (hi : i < ops.size),∃ o,L[i]? = some o ∧ coper P ops ops[i] = some o ∧ cedges i ops[i] = some (es.getD i []) := by
        intro i hi
        obtain ⟨y,h1,h2⟩ := hget i (ops[i],i) (by simp [List.getElem?_zipIdx,Array.getElem?_toList,Array.getElem?_eq_getElem hi])
        simp only at h2
        split at h2
        · rename_i o e h3 h4
          obtain rfl := Option.some.inj h2
          refine ⟨o,by rw [← hL]; simp [h1],h3,?_⟩
          rw [← hE,List.getD_eq_getElem?_getD,List.getElem?_map,h1]; exact h4
        · simp at h2
      have hone : ∀ (i : Nat) (o : SOper) (t : Tmp) (j : Nat) (u : DV),L[i]? = some o → o.dst = some t → (wOf L tr)[j]? = some (some t,u) → j = i := by
        intro i o t j u ho hd hj
        have hjl : j < L.length := by rw [← hWn]; exact getElem?_lt hj
        have hoj := List.getElem?_eq_getElem hjl
        have hxj := List.getElem?_eq_getElem (show j < tr.length by omega)
        have hdj : (L[j]).dst = some t := by
          rw [wOf,List.getElem?_map,zip_get hoj hxj] at hj
          simpa using (congrArg (Option.map Prod.fst) hj)
        rcases Nat.lt_trichotomy i j with h | h | h
        · exact absurd (hd.trans hdj.symm) (F.dst i j _ _ h ho hoj (by simp [hd]))
        · exact h.symm
        · exact absurd (hdj.trans hd.symm) (F.dst j i _ _ h hoj ho (by simp [hdj]))
      have T := text_run htr hone
      have main : ∀ (order : List Nat) (p : Nat → Bool),Ext es ops.size p order → (∀ i,p i = true → ∀ k ∈ es.getD i [],p k = true) → ∀ (S1 : Sit) (a1 : Act) (h1 : Heap),Step S S1 →
          (Z4 L tr s.H)[cnt ops.size (fun i => U4 L i && p i)]? = some h1 → Rel G S1 ⟨app p (wOf L tr) 0 s.sl,h1⟩ a1 → wpOps P ops Q order a1 S1.w := by
        intro order
        induction order with
        | nil =>
          intro p hx hdown S1 a1 h1 st hh hrel
          cases hx with
          | nil hall =>
            refine hQ S1 a1 st ?_
            have hs' : s' = ⟨app p (wOf L tr) 0 s.sl,h1⟩ := by
              obtain ⟨g1,g2⟩ := dops_trace (P := P) (G := G) htr hd
              rcases Nat.eq_zero_or_pos L.length with h0 | hpos
              · have hLe : L = [] := List.length_eq_zero_iff.1 h0
                have := g1 hLe
                rw [this]
                have hn0 : ops.size = 0 := by omega
                subst hLe
                simp only [wOf,List.zip_nil_left,zz23,app]
                rw [hn0] at hh
                simp only [cnt,List.range_zero,List.filter_nil,yz25,Z4,List.getElem?_cons_zero,Option.some.injEq] at hh
                rw [hh]
              · obtain ⟨m,hm⟩ : ∃ m,L.length = m + 1 := ⟨L.length - 1,by omega⟩
                have ho := List.getElem?_eq_getElem (show m < L.length by omega)
                have hxm := List.getElem?_eq_getElem (show m < tr.length by omega)
                obtain ⟨t1,t2,_⟩ := T m _ _ ho hxm
                rw [g2 _ _ m hm ho hxm]
                have e1 : app p (wOf L tr) 0 s.sl = dput (tr[m]'(by omega)).1 (L[m]'(by omega)).dst (tr[m]'(by omega)).2.1 := by
                  rw [t1,app_succ ho hxm fun t j u hd hj => hone m _ t j u ho hd hj]
                  apply app_ext
                  intro i hi
                  rw [hall i (by omega)]; simp; omega
                have e2 : cnt ops.size (fun i => U4 L i && p i) = cAt L tr (m + 1) := by
                  have hz : (L.zip tr).length = ops.size := by simp [htn,hLn]
                  unfold cAt
                  rw [← cnt_take _ (L.zip tr) (fun i => U4 L i) (fun i x hx => by
                    rw [List.getElem?_zip_eq_some] at hx
                    simp [U4,hx.1]) (m + 1) (by omega),hz]
                  apply cnt_congr
                  intro i hi
                  rw [hall i hi]
                  have : decide (i < m + 1) = true := by simp; omega
                  rw [this]
                rw [e2,t2] at hh
                rw [e1,Option.some.inj hh]
            rw [hs']; exact hrel
        | cons i r ih =>
          intro p hx hdown S1 a1 h1 st hh hrel
          cases hx with
          | cons hi hpi he hrest =>
            obtain ⟨o,ho,hco,hce⟩ := hop i hi
            have hxi := List.getElem?_eq_getElem (show i < tr.length by omega)
            generalize hx' : tr[i]'(by omega) = x at hxi
            obtain ⟨t1,t2,Hi,t3,t4⟩ := T i o x ho hxi
            have done_ahead : ∀ j,j < i → ahead es L.length j i = true → p j = true := fun j _ h => ahead_done hdown _ _ _ h he
            have undone : ∀ j,i < j → ahead es L.length i j = true → p j = false := fun j _ h => by
              cases hpj : p j with
              | false => rfl
              | true =>
                have := ahead_done hdown _ _ _ h (fun k hk => hdown j hpj k hk)
                rw [this] at hpi; cases hpi
            have hread : ∀ tt ∈ o.reads,(app p (wOf L tr) 0 s.sl)[tt]? = x.1[tt]? := by
              intro tt htt
              rw [t1]
              refine app_agree _ _ _ _ (fun j u hj => ?_) rfl rfl
              rw [yz24]
              have hjl : j < L.length := by rw [← hWn]; exact getElem?_lt hj
              have hoj := List.getElem?_eq_getElem hjl
              have hxj := List.getElem?_eq_getElem (show j < tr.length by omega)
              have hdj : (L[j]).dst = some tt := by
                rw [wOf,List.getElem?_map,zip_get hoj hxj] at hj
                simpa using (congrArg (Option.map Prod.fst) hj)
              rcases Nat.lt_trichotomy j i with h | h | h
              · rw [done_ahead j h (F.wr j i _ _ tt h hoj ho hdj htt)]; simp [h]
              · subst h; rw [hpi]; simp
              · rw [undone j h (F.rw_ i j _ _ tt h ho hoj hdj htt)]; simp; omega
            have hz : (L.zip tr).length = ops.size := by simp [htn,hLn]
            have cAt_eq : ∀ k,k ≤ ops.size → cAt L tr k = cnt ops.size (fun j => U4 L j && decide (j < k)) := by
              intro k hk
              unfold cAt
              rw [← cnt_take _ (L.zip tr) (fun i => U4 L i) (fun i x hx => by
                rw [List.getElem?_zip_eq_some] at hx
                simp [U4,hx.1]) k (by omega),hz]
            have turns_of : ∀ j,U4 L j = true → ∃ b,L[j]? = some b ∧ b.op.turns = true := by
              intro j hj
              unfold U4 at hj
              cases hb : L[j]? with
              | none => rw [hb] at hj; simp at hj
              | some b => rw [hb] at hj; exact ⟨b,rfl,by simpa using hj⟩
            have hstep : ∃ H2,Y8 P G call o (app p (wOf L tr) 0 s.sl) h1 = some (x.2.1,H2) ∧ (Z4 L tr s.H)[cnt ops.size (fun j => U4 L j && (p j || j == i))]? = some H2 := by
              rw [estep_congr hread]
              by_cases hturn : o.op.turns = true
              ·
                have hcnt : cnt ops.size (fun j => U4 L j && p j) = cAt L tr i := by
                  rw [cAt_eq i (by omega)]
                  apply cnt_congr
                  intro j hj
                  cases htj : U4 L j with
                  | false => simp
                  | true =>
                    obtain ⟨b,hb,hbt⟩ := turns_of j htj
                    rcases Nat.lt_trichotomy j i with h | h | h
                    · rw [done_ahead j h (F.turns j i _ _ h hb ho hbt hturn)]; simp [h]
                    · subst h; rw [hpi]; simp
                    · rw [undone j h (F.turns i j _ _ h ho hb hturn hbt)]; simp; omega
                rw [hcnt,t3] at hh
                obtain rfl := Option.some.inj hh
                refine ⟨x.2.2,t4,?_⟩
                rw [cnt_put hi hpi,hcnt]
                have : U4 L i = true := by simp [U4,ho,hturn]
                rw [if_pos this]
                rw [cAt_eq (i + 1) (by omega)] at t2
                have e := cnt_put (n := ops.size) (i := i) (p := fun j => decide (j < i)) (t := fun j => U4 L j) hi (by simp)
                rw [if_pos this] at e
                rw [← cAt_eq i (by omega)] at e
                rw [← e,← t2]
                congr 1
                apply cnt_congr
                intro j _
                congr 1
                rw [Bool.eq_iff_iff]; simp; omega
              · have hturn : o.op.turns = false := by simpa using hturn
                have hst1 := List.all_eq_true.1 hst i (by rw [List.mem_range]; omega)
                simp only [ho,hxi,hturn,Bool.false_or] at hst1
                have hlow : lowAt L es i ≤ cnt ops.size (fun j => U4 L j && p j) := by
                  unfold lowAt
                  rw [hLn]
                  refine cnt_le (n := ops.size) fun j hj h => ?_
                  simp only [zz19,decide_eq_true_eq] at h ⊢
                  exact ⟨h.1,done_ahead j h.2.1 (by rw [hLn]; exact h.2.2)⟩
                have hhigh : cnt ops.size (fun j => U4 L j && p j) ≤ highAt L es i := by
                  unfold highAt
                  rw [hLn]
                  refine cnt_le (n := ops.size) fun j hj h => ?_
                  simp only [zz19,Bool.not_eq_true',Bool.and_eq_false_iff,decide_eq_false_iff_not] at h ⊢
                  refine ⟨h.1,?_⟩
                  by_cases hij : i < j
                  · right
                    cases ha : ahead es ops.size i j with
                    | false => rfl
                    | true =>
                      have := undone j hij (by rw [hLn]; exact ha)
                      rw [h.2] at this; cases this
                  · exact .inl hij
                have hkl : cnt ops.size (fun j => U4 L j && p j) < (Z4 L tr s.H).length := getElem?_lt hh
                have hst2 := List.all_eq_true.1 hst1 _ (by rw [List.mem_range]; exact hkl)
                simp only [hh,Bool.or_eq_true,Bool.not_eq_true',Bool.and_eq_false_iff,decide_eq_false_iff_not] at hst2
                rcases hst2 with h | h
                · omega
                · split at h
                  · rename_i v2 H2 hes
                    obtain rfl := estep_heap hturn hes
                    rw [same_eq _ _ h] at hes
                    refine ⟨_,hes,?_⟩
                    rw [cnt_put hi hpi]
                    have : U4 L i = false := by simp [U4,ho,hturn]
                    rw [this]; simpa using hh
                  · cases h
            obtain ⟨H2,hs2,hh2⟩ := hstep
            refine wpOps_cons hi (oper_ok hcall hco hrel hs2 _ _ fun S2 a2 st2 hrel2 => ?_)
            have hput := app_put (p := p) (l := wOf L tr) (i := i) (d := o.dst) (v := x.2.1) s.sl (by rw [wOf,List.getElem?_map,zip_get ho hxi]; rfl) hpi (fun t j u hd hj => hone i o t j u ho hd hj)
            simp only [hput] at hrel2
            refine ih _ hrest ?_ S2 a2 H2 (st.trans st2) hh2 hrel2
            intro j hj k hk
            simp only [Bool.or_eq_true,beq_iff_eq] at hj ⊢
            rcases hj with hj | rfl
            · exact .inl (hdown j hj k hk)
            · exact .inl (he k hk)
      have hsched : ∃ order p,Region.schedule (P.follows .mixedOrders) ops t = order ∧ Ext es ops.size p order ∧ ∀ i,i < ops.size → p i = false := by
        have edges : ∀ (m : Region.Mode) (i : Nat) (o : Oper),ops[i]? = some o → (∀ e ∈ o.after.toList,e.on < i) ∧ ∀ k ∈ es.getD i [],∃ e ∈ o.after.toList,Region.binds m e = true ∧ e.on = k := by
          intro m i o ho
          have hi : i < ops.size := by
            rcases Nat.lt_or_ge i ops.size with y | y
            · exact y
            · rw [Array.getElem?_eq_none y] at ho; simp at ho
          obtain ⟨so,h1,h2,h3⟩ := hop i hi
          rw [Array.getElem?_eq_getElem hi] at ho
          obtain rfl := Option.some.inj ho
          unfold cedges at h3
          split at h3
          · rename_i hall
            rw [← Option.some.inj h3]
            refine ⟨fun e he => ?_,fun k hk => ?_⟩
            · have := List.all_eq_true.1 hall e he
              simp only [zz19,decide_eq_true_eq] at this
              exact this.1
            · obtain ⟨e,he,rfl⟩ := List.mem_map.1 hk
              obtain ⟨he1,he2⟩ := List.mem_filter.1 he
              refine ⟨e,he1,?_,rfl⟩
              have := List.all_eq_true.1 hall e he1
              simp only [zz19,Bool.not_eq_true'] at this
              have h4 := this.2
              unfold Region.binds at he2 ⊢
              cases hg : e.ground <;> rw [hg] at he2 h4 <;> simp_all
          · simp at h3
        have one : ∀ m tt,∃ order p,Region.linearise m ops tt = order ∧ Ext es ops.size p order ∧ ∀ i,i < ops.size → p i = false := by
          intro m tt
          obtain ⟨tail,h1,h2⟩ := go_ext m ops es (edges m) ops.size tt (Array.replicate ops.size false) [] (by simp) (Nat.le_trans (List.length_filter_le _ _) (by simp))
          refine ⟨tail,_,by unfold Region.linearise; rw [h1]; rfl,h2,fun i hi => ?_⟩
          simp [Array.getD_eq_getD_getElem?,hi]
        unfold Region.schedule
        split
        · exact one _ _
        · exact one _ _
      obtain ⟨order,p,e1,e2,e3⟩ := hsched
      rw [e1]
      have hext : Ext es ops.size (fun _ => false) order := by
        have gen : ∀ (order : List Nat) (p q : Nat → Bool),Ext es ops.size p order → (∀ i,i < ops.size → q i = p i) → Ext es ops.size q order := by
          intro order
          induction order with
          | nil => intro p q h hq; cases h with | nil ha => exact .nil fun i hi => by rw [hq i hi]; exact ha i hi
          | cons i r ih =>
            intro p q h hq
            cases h with
            | cons hi hp he hr =>
              refine .cons hi (by rw [hq i hi]; exact hp) (fun k hk => ?_) (ih _ _ hr fun j hj => by simp [hq j hj])
              have hki : k < ops.size := by
                obtain ⟨so,h1,h2,h3⟩ := hop i hi
                unfold cedges at h3
                split at h3
                · rename_i hall
                  rw [← Option.some.inj h3] at hk
                  obtain ⟨e,he',rfl⟩ := List.mem_map.1 hk
                  have := List.all_eq_true.1 hall e (List.mem_filter.1 he').1
                  simp only [zz19,decide_eq_true_eq] at this
                  omega
                · simp at h3
              rw [hq k hki]; exact he k hk
        exact gen order p _ e2 fun i hi => (e3 i hi).symm
      have hnone : ∀ (l : W) (k : Nat) (s : List DV),app (fun _ => false) l k s = s := by
        intro l
        induction l with
        | nil => intro k s; rfl
        | cons y r ih => intro k s; simp only [app]; rw [ih]; simp
      refine main order _ hext (fun i h => by cases h) S a s.H (Step.refl S) ?_ ?_
      · have : cnt ops.size (fun i => U4 L i && false) = 0 := by simp [cnt]
        rw [this]; simp [Z4]
      · rw [hnone]; exact hr
    · simp at hd
end
end Go.Dx
end
section
namespace Go.Dx
open Go
section
variable {P : Program} {G : Nat → Option (List DV)}
theorem run_ok {call : U8} (hcall : CallOk P G call) (n : Nat) : ∀ (c : Code) (sc : SCode),zz11 P c = some sc → ∀ (s : DS) (ex : Ex) (s' : DS),run P G call n sc s = some (ex,s') →
    ∀ S a,Rel G S s a → c.wp P (Post G S ex s') a S.w := by
  intro c
  induction c with
  | skip =>
    intro sc hc s ex s' h S a hr
    simp only [zz11,Option.some.injEq] at hc; subst hc
    simp only [run,Option.some.injEq,Prod.mk.injEq] at h
    obtain ⟨rfl,rfl⟩ := h
    exact wp_skip ⟨rfl,S,rfl,Step.refl S,hr⟩
  | region id ops draw =>
    intro sc hc s ex s' h S a hr
    cases draw with
    | true =>
      simp only [zz11] at hc
      split at hc
      · rename_i l hl
        obtain rfl := Option.some.inj hc
        simp only [run,jz20,Prod.mk.injEq] at h
        obtain ⟨s1,hd,rfl,rfl⟩ := h
        refine wp_region_draw fun t => ?_
        have hat : Alike S.w { S.w with drawn := S.w.drawn + 1 } := ⟨rfl,rfl,rfl,rfl⟩
        have st := Sit.at_step hat
        exact draw_ok hcall hl hd (S := S.at { S.w with drawn := S.w.drawn + 1 }) ⟨Sit.at_ok hr.ok hat,hr.glob.mono st hr.ok,hr.heap,hr.vals.mono st hr.ok,hr.defers⟩ _ t
          fun S' a' st' h => ⟨rfl,S',rfl,st.trans st',h⟩
      · obtain rfl := Option.some.inj hc
        simp [run] at h
    | false =>
      simp only [zz11,jz20] at hc
      obtain ⟨l,hl,rfl⟩ := hc
      simp only [run,jz20,Prod.mk.injEq] at h
      obtain ⟨s1,hd,rfl,rfl⟩ := h
      refine wp_region ?_
      rw [List.range_eq_range']
      exact dops_ok hcall ops.size 0 l s s1 S a _ rfl (by simpa using hl) hd hr fun S' a' st h => ⟨rfl,S',rfl,st,h⟩
  | seq x y ihx ihy =>
    intro sc hc s ex s' h S a hr
    simp only [zz11] at hc
    split at hc
    · rename_i p q hp hq
      obtain rfl := Option.some.inj hc
      simp only [run] at h
      refine wp_seq ?_
      split at h
      · rename_i s1 h1
        refine wp_mono (ihx p hp s _ s1 h1 S a hr) ?_
        rintro e a1 w1 ⟨rfl,S1,rfl,st,hr1⟩
        exact wp_mono (ihy q hq s1 ex s' h S1 a1 hr1) fun e a2 w2 hp => hp.mono st
      · rename_i r hne
        refine wp_mono (ihx p hp s ex s' h S a hr) ?_
        rintro e a1 w1 ⟨rfl,S1,rfl,st,hr1⟩
        cases ex with
        | normal => exact absurd h (fun e => hne s' e)
        | exit id => exact ⟨rfl,S1,rfl,st,hr1⟩
        | ret => exact ⟨rfl,S1,rfl,st,hr1⟩
    · simp at hc
  | cond x p q ihp ihq =>
    intro sc hc s ex s' h S a hr
    simp only [zz11] at hc
    split at hc
    · rename_i u v hu hv
      obtain rfl := Option.some.inj hc
      simp only [run] at h
      split at h
      · rename_i t ht
        have hx := S3 (a := a) hr.glob hr.vals x
        rw [ht] at hx
        have hx : a.eval x = .bool t := hx
        refine wp_cond hx ?_
        cases t with
        | true => exact ihp u hu s ex s' h S a hr
        | false => exact ihq v hv s ex s' h S a hr
      · simp at h
    · simp at hc
  | block id x ih =>
    intro sc hc s ex s' h S a hr
    simp only [zz11,jz20] at hc
    obtain ⟨p,hp,rfl⟩ := hc
    simp only [run] at h
    refine wp_block ?_
    split at h
    · rename_i j s1 h1
      refine wp_mono (ih p hp s _ s1 h1 S a hr) ?_
      rintro e a1 w1 ⟨rfl,S1,rfl,st,hr1⟩
      split at h
      · rename_i hj
        obtain ⟨rfl,rfl⟩ := Prod.mk.inj (Option.some.inj h)
        simp only [Ex.toExit,Exit.inBlock,hj,if_true]
        exact ⟨rfl,S1,rfl,st,hr1⟩
      · rename_i hj
        obtain ⟨rfl,rfl⟩ := Prod.mk.inj (Option.some.inj h)
        simp only [Ex.toExit,Exit.inBlock,hj,if_false]
        exact ⟨rfl,S1,rfl,st,hr1⟩
    · rename_i r hne
      refine wp_mono (ih p hp s ex s' h S a hr) ?_
      rintro e a1 w1 ⟨rfl,S1,rfl,st,hr1⟩
      cases ex with
      | normal => exact ⟨rfl,S1,rfl,st,hr1⟩
      | exit id => exact absurd h (fun e => hne id s' e)
      | ret => exact ⟨rfl,S1,rfl,st,hr1⟩
  | loop x ih =>
    intro sc hc s ex s' h S a hr
    simp only [zz11,jz20] at hc
    obtain ⟨p,hp,rfl⟩ := hc
    simp only [run] at h
    intro b k cs
    obtain ⟨e,a',w',hq,harr⟩ := loop_ok (fun s ex s' h S a hr => ih p hp s ex s' h S a hr) n s ex s' h S a hr b k cs
    exact ⟨e,a',w',hq,.of_steps (.one step_loop) harr⟩
  | rangeFunc f ps asg body => intro sc hc s ex s' h; simp only [zz11,Option.some.injEq] at hc; subst hc; simp [run] at h
  | exit id =>
    intro sc hc s ex s' h S a hr
    simp only [zz11,Option.some.injEq] at hc; subst hc
    simp only [run,Option.some.injEq,Prod.mk.injEq] at h
    obtain ⟨rfl,rfl⟩ := h
    exact wp_exit ⟨rfl,S,rfl,Step.refl S,hr⟩
  | scope x ih =>
    intro sc hc s ex s' h S a hr
    simp only [zz11] at hc
    refine wp_scope ?_ (ih sc hc s ex s' h S a hr)
    rintro l a w ⟨he,_⟩
    cases ex <;> cases he
  | label l =>
    intro sc hc s ex s' h S a hr
    simp only [zz11,Option.some.injEq] at hc; subst hc
    simp only [run,Option.some.injEq,Prod.mk.injEq] at h
    obtain ⟨rfl,rfl⟩ := h
    exact wp_label ⟨rfl,S,rfl,Step.refl S,hr⟩
  | goto l => intro sc hc s ex s' h; simp only [zz11,Option.some.injEq] at hc; subst hc; simp [run] at h
  | ret =>
    intro sc hc s ex s' h S a hr
    simp only [zz11,Option.some.injEq] at hc; subst hc
    simp only [run,Option.some.injEq,Prod.mk.injEq] at h
    obtain ⟨rfl,rfl⟩ := h
    exact wp_ret ⟨rfl,S,rfl,Step.refl S,hr⟩
  | refuse why => intro sc hc s ex s' h; simp only [zz11,Option.some.injEq] at hc; subst hc; simp [run] at h
end
end Go.Dx
end
