/- A part of the proof of VarFills: rules of an interpreter of the program's code, shown to answer as the model does. -/
import Derived.Laws.IdiomCopy
import Derived.Test.YtcclgnddbgaigaaDoorT01
open Bool renaming and_eq_true → zz19, false_eq_true → yz21
open List renaming length_cons → zz20, all_cons → zz21
open Option renaming map_eq_some_iff → jz20
open Nat renaming add_zero → jz21
set_option linter.all false
section
namespace Go.Dx
open Go
section
variable (P : Program)
def cAgg (t : TypeId) : Option Bool :=
  match P.underlying t with
  | some (.struct _) | some (.array _ _) => some true
  | some _ => some false
  | none => none
def zz3 (t : TypeId) : Option Nat := (P.info? t).map (·.size)
def cZero (t : TypeId) : Option (List DV) := ((P.info? t).bind (·.zero)).map fun v => v.cells.toList.map ofV1
def cPart (fs : Array Field) (p : Nat × Operand) : Option (Nat × Nat × Operand) :=
  match fs[p.1]? with
  | some f => (zz3 P f.type).map fun n => (f.offset,n,p.2)
  | none => none
def cop (o : Oper) : Option SOp :=
  match o.op with
  | .move x | .assign x => some (.mv x)
  | .pick c a b => some (.pick c a b)
  | .alloc e => (cZero P e).map (.alloc e)
  | .box t x => some (.box t x)
  | .build t ps => match P.underlying t with
    | some (.struct fs) => match cZero P t,Q8 (cPart P fs) ps.toList with
      | some z,some l => if fs.toList.all (fun f => (P.info? f.type).isSome) = true then some (.build z l) else none
      | _,_ => none
    | _ => none
  | .buildSlice t n ps => match P.underlying t with
    | some (.slice e) => match cZero P e,zz3 P e with
      | some z,some k => if n * k ≤ 2 ^ 24 ∧ 1 ≤ n * k then some (.buildSlice e k z n ps.toList) else none
      | _,_ => none
    | _ => none
  | .load t a => match cAgg P t,zz3 P t with
    | some g,some n => some (.load g n a)
    | _,_ => none
  | .store t a x => (zz3 P t).map fun n => .store n a x
  | .nilCheck x => some (.nilCheck x)
  | .binOp op t x y _ => match op,y,P.underlying t with
    | .eql,.const (.pointer none),some (.pointer _) => some (.eqNil false x)
    | .neq,.const (.pointer none),some (.pointer _) => some (.eqNil true x)
    | .eql,y,some (.pointer e) => if (P.info? e).isSome = true then some (.eqPtr false x y) else none
    | .neq,y,some (.pointer e) => if (P.info? e).isSome = true then some (.eqPtr true x y) else none
    | op,y,_ => some (.bin op t x y)
  | .unOp op _ x => some (.un op x)
  | .convert s d x => match P.underlying s,P.underlying d with
    | some (.slice e),some .string => match P.underlying e with
      | some (.int .u8) => some (.convBS x)
      | _ => none
    | some .string,some (.slice e) => match P.underlying e with
      | some (.int .u8) => some (.convSB e x)
      | _ => none
    | some (.pointer t),some .unsafePointer => match zz3 P t with
      | some n => if n = 0 then none else some (.toUnsafe x)
      | none => none
    | some .unsafePointer,some (.pointer u) => match zz3 P u with
      | some k => if 1 ≤ k ∧ 1 ≤ P.depth ∧ sameLayout P P.depth u u = true then some (.fromUnsafe u k x) else none
      | none => none
    | _,_ => some (.conv s d x)
  | .slice t x lo hi none => match P.underlying t with
    | some .string => some (.sslice t x lo hi)
    | some (.slice e) => (zz3 P e).map fun k => .lslice k x lo hi
    | _ => none
  | .fieldAddr s x f => match P.underlying s with
    | some (.struct fs) => match fs[f]? with
      | some g => match zz3 P g.type with
        | some n => if n = 0 then none else some (.fieldAddr g.offset x)
        | none => none
      | none => none
    | _ => none
  | .field t x f => match P.underlying t with
    | some (.struct fs) => match fs[f]? with
      | some g => match cAgg P g.type,zz3 P g.type with
        | some a,some n => some (.field a g.offset n x)
        | _,_ => none
      | none => none
    | _ => none
  | .indexAddr t x i => match P.underlying t with
    | some (.slice e) => (zz3 P e).map fun k => .indexAddr k x i
    | _ => none
  | .index t x i => some (.index t x i)
  | .extract x i => some (.extract x i)
  | .makeSlice t l c => match P.underlying t with
    | some (.slice e) => match P.info? e,cZero P e with
      | some f,some z => some (.makeSlice e f.size f.bytes z l c)
      | _,_ => none
    | _ => none
  | .makeFunc (.func f) first captured => if first.isEmpty then some (.mkfn f captured.toList) else none
  | .call c => match c.callee with
    | .builtin .len => match c.argTypes[0]?,c.args.toList with
      | some t,[x] => match P.underlying t with
        | some (.slice _) => some (.len x)
        | some .string => some (.blt .len c.argTypes o.type [x])
        | _ => none
      | _,_ => none
    | .builtin .append => match c.argTypes[0]?,c.argTypes[1]?,c.args.toList with
      | some t,some u,[s,x] => match P.underlying t,P.underlying u with
        | some (.slice _),some (.int _) => none
        | some (.slice e),some _ => match P.info? e with
          | some f => match cZero P e with
            | some z => if z.length = f.size ∧ 1 ≤ f.bytes then some (.append e f.size f.bytes s x) else none
            | none => none
          | none => none
        | _,_ => none
      | _,_,_ => none
    | .builtin .min => some (.blt .min c.argTypes o.type c.args.toList)
    | .builtin .max => some (.blt .max c.argTypes o.type c.args.toList)
    | .builtin .unsafeSliceData => match c.args.toList with
      | [x] => some (.sliceData x)
      | _ => none
    | .builtin .unsafeString => match c.argTypes[0]?,c.args.toList with
      | some pt,[p,n] => match P.underlying pt with
        | some (.pointer u) => match zz3 P u with
          | some k => if k = 1 ∧ 1 ≤ P.depth ∧ sameLayout P P.depth u u = true then some (.ustring u p n) else none
          | none => none
        | _ => none
      | _,_ => none
    | .value (.func f) => match P.funcs[f]? with
      | some fn => if fn.body.isSome ∧ fn.name ≠ "runtime.NumGoroutine" then some (.call f c.args.toList)
        else if fn.body.isNone = true ∧ fn.name = "internal/abi.NoEscape" ∧ fn.origin = "" then (match c.args.toList with
          | [x] => some (.ident x)
          | _ => none)
        else none
      | none => none
    | .value x => some (.callv x c.args.toList)
    | _ => none
  | _ => none
def coper (ops : Array Oper) (o : Oper) : Option SOper :=
  match o.guard with
  | none => some ⟨o.dst,(cop P o).getD .bad,none⟩
  | some (j,b) => match (ops[j]?).bind (·.dst) with
    | some t => some ⟨o.dst,(cop P o).getD .bad,some (t,b)⟩
    | none => none
def cedges (i : Nat) (o : Oper) : Option (List Nat) :=
  if o.after.toList.all (fun e => decide (e.on < i) && !(match e.ground with | .gcOnly _ => true | _ => false)) = true then
    some ((o.after.toList.filter fun e => Region.binds .any e).map (·.on)) else none
def cdraw (ops : Array Oper) : Option (List (SOper × List Nat)) :=
  Q8 (fun p : Oper × Nat => match coper P ops p.1,cedges p.2 p.1 with
    | some o,some e => some (o,e)
    | _,_ => none) (ops.toList.zipIdx)
def zz11 : Code → Option SCode
  | .skip => some .skip
  | .region _ ops false => (Q8 (coper P ops) ops.toList).map .ops
  | .region _ ops true => match cdraw P ops with
    | some l => some (.draw l)
    | none => some .fail
  | .seq a b => match zz11 a,zz11 b with
    | some x,some y => some (.seq x y)
    | _,_ => none
  | .cond c a b => match zz11 a,zz11 b with
    | some x,some y => some (.cond c x y)
    | _,_ => none
  | .block id a => (zz11 a).map (.block id)
  | .loop a => (zz11 a).map .loop
  | .exit id => some (.exit id)
  | .scope a => zz11 a
  | .label _ => some .skip
  | .ret => some .ret
  | _ => some .fail
def cres : ResultVar → Option SRes
  | .tmp t => some (.tmp t)
  | .cell a t => match cAgg P t,zz3 P t with
    | some g,some n => some (.cell g n a)
    | _,_ => none
def cfunc (f : FuncId) : Option SFunc :=
  match P.funcs[f]? with
  | none => none
  | some fn => if fn.name = "runtime.NumGoroutine" then none else match fn.body with
    | none => none
    | some c => match zz11 P c,Q8 (cres P) fn.results.toList with
      | some b,some r => some ⟨fn.ntmps,r,b⟩
      | _,_ => none
end
end Go.Dx
end
section
namespace Go.Dx
open Go
theorem setCells_heap (b : Nat) (t : TypeId) (fr : Nat × Nat) : ∀ (vs : List Value) (o : Nat) (w : World) (arr : Array Value),w.heap[b]? = some (.cells arr t fr) → o + vs.length ≤ arr.size →
    ∃ arr' : Array Value,(w.setCells b o vs).heap[b]? = some (.cells arr' t fr) ∧ arr'.size = arr.size ∧ (∀ (j : Nat) (v : Value),vs[j]? = some v → arr'[o + j]? = some v) ∧
      (∀ i : Nat,(i < o ∨ o + vs.length ≤ i) → arr'[i]? = arr[i]?)
  | [],o,w,arr,h,_ => ⟨arr,h,rfl,by simp,fun _ _ => rfl⟩
  | v :: r,o,w,arr,h,hl => by
    have h1 : (w.setCell ⟨b,o,none⟩ v).heap[b]? = some (.cells (arr.setIfInBounds o v) t fr) := by
      simp [World.setCell,Array.getElem?_modify,h]
    obtain ⟨arr',g1,g2,g3,g4⟩ := setCells_heap b t fr r (o + 1) (w.setCell ⟨b,o,none⟩ v) _ h1 (by simp at hl ⊢; omega)
    refine ⟨arr',g1,by simpa using g2,fun j u hj => ?_,fun i hi => ?_⟩
    · cases j with
      | zero =>
        simp only [List.getElem?_cons_zero,Option.some.injEq] at hj
        subst hj
        rw [g4 (o + 0) (.inl (by omega))]
        simp only [zz20] at hl
        simp [Array.getElem?_setIfInBounds]; omega
      | succ j => have := g3 j u (by simpa using hj); rwa [show o + 1 + j = o + (j + 1) by omega] at this
    · simp only [zz20] at hi
      rw [g4 i (by omega),Array.getElem?_setIfInBounds,if_neg (by omega)]
theorem Z5 (b k : Nat) (hk : k ≠ b) : ∀ (vs : List Value) (o : Nat) (w : World),(w.setCells b o vs).heap[k]? = w.heap[k]?
  | [],_,_ => rfl
  | v :: r,o,w => by
    rw [show w.setCells b o (v :: r) = (w.setCell ⟨b,o,none⟩ v).setCells b (o + 1) r from rfl,Z5 b k hk r]
    exact Go.RowKit.Below.heap_setCell w _ v k hk
theorem V2 (b : Nat) : ∀ (vs : List Value) (o : Nat) (w : World),(w.setCells b o vs).os = w.os ∧ (w.setCells b o vs).tape = w.tape ∧ (w.setCells b o vs).output = w.output ∧ (w.setCells b o vs).heap.size = w.heap.size
  | [],_,_ => ⟨rfl,rfl,rfl,rfl⟩
  | v :: r,o,w => by
    rw [show w.setCells b o (v :: r) = (w.setCell ⟨b,o,none⟩ v).setCells b (o + 1) r from rfl]
    obtain ⟨h1,h2,h3,h4⟩ := V2 b r (o + 1) (w.setCell ⟨b,o,none⟩ v)
    exact ⟨h1,h2,h3,by rw [h4]; simp [World.setCell]⟩
theorem VRcells.in {S S' : Sit} {b b' o o' : Nat} {cs : List DV} (h : VRcells S b o cs) (st : Step S S') (ok : S.ok)
    (hc : ∀ p,p < cs.length → S'.w.cell? ⟨b',o' + p,none⟩ = S.w.cell? ⟨b,o + p,none⟩) : VRcells S' b' o' cs := by
  obtain ⟨vs,h1,h2⟩ := h.get
  refine VRcells.of (h1.mono st ok) fun j v hj => ?_
  have hl : j < vs.length := by
    rcases Nat.lt_or_ge j vs.length with x | x
    · exact x
    · rw [List.getElem?_eq_none x] at hj; simp at hj
  rw [hc j (by rw [h1.length]; exact hl)]
  exact h2 j v hj
theorem VRrows.ofGet {S : Sit} {k b : Nat} : ∀ {o : Nat} {es : List (List DV)},(∀ (n : Nat) (e : List DV),es[n]? = some e → e.length = k ∧ VRcells S b (o + n * k) e) → VRrows S k b o es
  | _,[],_ => trivial
  | o,e :: r,h => by
    obtain ⟨h1,h2⟩ := h 0 e rfl
    refine ⟨h1,by simpa using h2,VRrows.ofGet fun n x hx => ?_⟩
    have := h (n + 1) x (by simpa using hx)
    rwa [show o + (n + 1) * k = o + k + n * k by rw [Nat.add_mul]; omega] at this
theorem jz5 {w : World} {b : Nat} {arr : Array Value} {t : TypeId} {fr : Nat × Nat} (h : w.heap[b]? = some (.cells arr t fr)) (o : Nat) : w.cell? ⟨b,o,none⟩ = arr[o]? := by
  simp [World.cell?,h]
theorem frozen_lie {w : World} {b : Nat} {arr : Array Value} {t lo hi : Nat} (h : w.heap[b]? = some (.cells arr t (lo,hi))) (o : Nat) : w.frozen? ⟨b,o,none⟩ = (decide (lo ≤ o) && decide (o < hi)) := by
  simp [World.frozen?,h]
def Sit.write (S : Sit) (id : Nat) (r : Row) (o : Nat) (vs : List Value) : Sit := { S with w := S.w.setCells (S.blk id) o vs,H := S.H.set id (some r) }
theorem Sit.write_row {S : Sit} {id j : Nat} {r q r0 : Row} {o : Nat} {vs : List Value} (h0 : S.H.row id = some r0) (h : (S.write id r o vs).H.row j = some q) : (j = id ∧ q = r) ∨ (j ≠ id ∧ S.H.row j = some q) := by
  simp only [Sit.write] at h
  rw [Heap.row_set] at h
  split at h
  · rename_i hn; exact .inl ⟨hn.1,(Option.some.inj h).symm⟩
  · rename_i hn
    exact .inr ⟨fun e => hn ⟨e,Heap.row_lt h0⟩,h⟩
theorem Sit.write_step {S : Sit} {id : Nat} {r r0 : Row} {o : Nat} {vs : List Value} (h0 : S.H.row id = some r0) (hk : r.k = r0.k) : Step S (S.write id r o vs) where
  os := (V2 _ vs o S.w).1
  tape := (V2 _ vs o S.w).2.1
  output := (V2 _ vs o S.w).2.2.1
  size := Nat.le_of_eq (V2 _ vs o S.w).2.2.2.symm
  frame b _ hn := Z5 _ b (fun e => hn ⟨id,r0,h0,e.symm⟩) vs o S.w
  fz _ h := h
  fzof _ h := .inl h
  own b h := by
    obtain ⟨j,q,hq,he⟩ := h
    rcases Sit.write_row h0 hq with ⟨rfl,_⟩ | ⟨_,h2⟩
    · exact .inl ⟨j,r0,h0,he⟩
    · exact .inl ⟨j,q,h2,he⟩
  len := by simp [Sit.write]
  ids j q _ hq := by
    rcases Sit.write_row h0 hq with ⟨rfl,rfl⟩ | ⟨_,h2⟩
    · exact ⟨r0,h0,hk,rfl,rfl,rfl⟩
    · exact ⟨q,h2,rfl,rfl,rfl,rfl⟩
theorem mul_apart {k n i p : Nat} (hn : n ≠ i) (hp : p < k) : n * k + p < i * k ∨ i * k + k ≤ n * k + p := by
  rcases Nat.lt_or_ge n i with h | h
  · have : (n + 1) * k ≤ i * k := Nat.mul_le_mul_right _ h
    rw [Nat.add_mul] at this; omega
  · have h1 : i + 1 ≤ n := by omega
    have : (i + 1) * k ≤ n * k := Nat.mul_le_mul_right _ h1
    rw [Nat.add_mul] at this; omega
theorem splice_length {e : List DV} {j : Nat} {cs : List DV} (h : j + cs.length ≤ e.length) : (jz16 e j cs).length = e.length := by
  simp [jz16]; omega
theorem Sit.write_ok {S : Sit} (ok : S.ok) {id : Nat} {r0 : Row} (h0 : S.H.row id = some r0) (i j : Nat) (e cs : List DV) (vs : List Value)
    (he : r0.es[i]? = some e) (hj : j + cs.length ≤ e.length) (hv : VRs S cs vs) :
    (S.write id { r0 with es := r0.es.set i (jz16 e j cs) } (S.bas id + i * r0.k + j) vs).ok := by
  have st := Sit.write_step (S := S) (id := id) (r := { r0 with es := r0.es.set i (jz16 e j cs) }) (o := S.bas id + i * r0.k + j) (vs := vs) h0 rfl
  have hR := ok.rows id r0 h0
  obtain ⟨arr,lo,hi,hh,hsz,hfz,hsoft⟩ := hR.lie
  have hel := (hR.vals.get i e he).1
  have hil : i < r0.es.length := by
    rcases Nat.lt_or_ge i r0.es.length with x | x
    · exact x
    · rw [List.getElem?_eq_none x] at he; simp at he
  have hroom := hR.room
  have hcap : (i + 1) * r0.k ≤ S.cap id * r0.k := Nat.mul_le_mul_right _ (by omega)
  rw [Nat.add_mul] at hcap
  have hvl := hv.length
  obtain ⟨arr',g1,g2,g3,g4⟩ := setCells_heap (S.blk id) r0.ty (lo,hi) vs (S.bas id + i * r0.k + j) S.w arr hh (by omega)
  constructor
  · intro n q hq
    rcases Sit.write_row h0 hq with ⟨rfl,rfl⟩ | ⟨hne,h2⟩
    · refine ⟨⟨arr',lo,hi,g1,by rw [g2]; exact hsz,by rw [g2]; exact hfz,hsoft⟩,hR.mult,?_,by show (r0.es.set i _).length ≤ S.cap n; rw [List.length_set]; exact hroom,by show r0.frz ≤ (r0.es.set i _).length; rw [List.length_set]; exact hR.frzle⟩
      refine VRrows.ofGet fun m x hx => ?_
      rw [List.getElem?_set] at hx
      split at hx
      · rename_i hm
        subst hm
        obtain rfl := Option.some.inj hx
        refine ⟨by rw [splice_length hj,hel],?_⟩
        obtain ⟨ws,w1,w2⟩ := (hR.vals.get i e he).2.get
        have hwl := w1.length
        refine VRcells.of (vs := ws.take j ++ vs ++ ws.drop (j + cs.length)) (((w1.take j).mono st ok |>.append (hv.mono st ok)).append ((w1.drop _).mono st ok)) fun p v hp => ?_
        show (S.w.setCells _ _ _).cell? ⟨S.blk n,S.bas n + i * r0.k + p,none⟩ = _
        rw [jz5 g1]
        rw [List.append_assoc,List.getElem?_append] at hp
        have htl : (ws.take j).length = j := by rw [List.length_take]; omega
        rw [htl] at hp
        split at hp
        · rename_i hpj
          rw [g4 _ (.inl (by show S.bas n + i * r0.k + p < _; omega))]
          rw [List.getElem?_take,if_pos hpj] at hp
          have := w2 p v hp
          rwa [jz5 hh] at this
        · rename_i hpj
          rw [List.getElem?_append] at hp
          split at hp
          · rename_i hpv
            have := g3 (p - j) v hp
            rwa [show S.bas n + i * r0.k + j + (p - j) = S.bas n + i * r0.k + p by omega] at this
          · rename_i hpv
            rw [g4 _ (.inr (by show _ ≤ S.bas n + i * r0.k + p; omega))]
            rw [List.getElem?_drop] at hp
            have := w2 (j + cs.length + (p - j - vs.length)) v hp
            rw [jz5 hh] at this
            rwa [show S.bas n + i * r0.k + (j + cs.length + (p - j - vs.length)) = S.bas n + i * r0.k + p by omega] at this
      · rename_i hm
        obtain ⟨a1,a2⟩ := hR.vals.get m x hx
        refine ⟨a1,a2.in st ok fun p hp => ?_⟩
        show (S.w.setCells _ _ _).cell? ⟨S.blk n,S.bas n + m * r0.k + p,none⟩ = _
        rw [jz5 g1,jz5 hh]
        have := mul_apart (k := r0.k) (n := m) (i := i) (p := p) (by omega) (by omega)
        exact g4 _ (by show S.bas n + m * r0.k + p < _ ∨ _ ≤ S.bas n + m * r0.k + p; omega)
    · refine (ok.rows n q h2).mono st ok (Z5 _ _ (fun e => hne ?_) vs _ S.w) rfl rfl rfl
      exact ok.apart n id q r0 h2 h0 e
  · intro n q hq
    rcases Sit.write_row h0 hq with ⟨rfl,rfl⟩ | ⟨hne,h2⟩
    · exact ok.free n r0 h0
    · exact ok.free n q h2
  · intro a b q q' ha hb
    have ha' : ∃ q,S.H.row a = some q := by
      rcases Sit.write_row h0 ha with ⟨rfl,_⟩ | ⟨_,h2⟩
      · exact ⟨r0,h0⟩
      · exact ⟨_,h2⟩
    have hb' : ∃ q,S.H.row b = some q := by
      rcases Sit.write_row h0 hb with ⟨rfl,_⟩ | ⟨_,h2⟩
      · exact ⟨r0,h0⟩
      · exact ⟨_,h2⟩
    obtain ⟨_,ha'⟩ := ha'
    obtain ⟨_,hb'⟩ := hb'
    exact ok.apart a b _ _ ha' hb'
  · intro b hb
    exact Nat.lt_of_lt_of_le (ok.fzlt b hb) st.size
def Sit.grow (S : Sit) (id off n : Nat) (r : Row) (o : Nat) (vs : List Value) : Sit :=
  { w := S.w.setCells (S.blk id) o vs,H := S.H.set id none ++ [some r],blk := upd S.blk S.H.length (S.blk id),bas := upd S.bas S.H.length (S.bas id + off * r.k),
    cap := upd S.cap S.H.length n,fz := S.fz }
theorem Sit.grow_row {S : Sit} {id off n : Nat} {r q : Row} {o : Nat} {vs : List Value} {j : Nat} (h : (S.grow id off n r o vs).H.row j = some q) :
    (j = S.H.length ∧ q = r) ∨ (j < S.H.length ∧ j ≠ id ∧ S.H.row j = some q) := by
  simp only [Sit.grow] at h
  rw [Heap.row_append] at h
  split at h
  · rename_i hl
    have := Sit.kill_row (S := S) (id := id) (j := j) (r := q) h
    exact .inr ⟨by simpa using hl,this.2,this.1⟩
  · split at h
    · rename_i h2; exact .inl ⟨by simpa using h2,(Option.some.inj h).symm⟩
    · simp at h
theorem Sit.grow_step {S : Sit} {id off n : Nat} {r r0 : Row} {o : Nat} {vs : List Value} (h0 : S.H.row id = some r0) : Step S (S.grow id off n r o vs) where
  os := (V2 _ vs o S.w).1
  tape := (V2 _ vs o S.w).2.1
  output := (V2 _ vs o S.w).2.2.1
  size := Nat.le_of_eq (V2 _ vs o S.w).2.2.2.symm
  frame b _ hn := Z5 _ b (fun e => hn ⟨id,r0,h0,e.symm⟩) vs o S.w
  fz _ h := h
  fzof _ h := .inl h
  own b h := by
    obtain ⟨j,q,hq,he⟩ := h
    rcases Sit.grow_row hq with ⟨rfl,_⟩ | ⟨hl,_,h2⟩
    · simp only [Sit.grow,T1] at he; exact .inl ⟨id,r0,h0,he⟩
    · simp only [Sit.grow,yz1 _ _ _ (Nat.ne_of_lt hl)] at he; exact .inl ⟨j,q,h2,he⟩
  len := by simp [Sit.grow]
  ids j q hl hq := by
    rcases Sit.grow_row hq with ⟨rfl,rfl⟩ | ⟨_,_,h2⟩
    · omega
    · exact ⟨q,h2,rfl,by simp [Sit.grow,yz1 _ _ _ (Nat.ne_of_lt hl)],by simp [Sit.grow,yz1 _ _ _ (Nat.ne_of_lt hl)],by simp [Sit.grow,yz1 _ _ _ (Nat.ne_of_lt hl)]⟩
theorem Sit.grow_ok {S : Sit} (ok : S.ok) {id : Nat} {r0 : Row} (h0 : S.H.row id = some r0) (off len n : Nat) (new : List (List DV)) (vs : List Value)
    (hl : off + len ≤ r0.es.length) (hn : off + n = S.cap id) (hroom : len + new.length ≤ n) (hk : ∀ e ∈ new,e.length = r0.k) (hv : VRs S new.flatten vs) (hfz : r0.frz ≤ off + len) :
    (S.grow id off n ⟨r0.k,(r0.es.drop off).take len ++ new,r0.ty,r0.frz - off,r0.soft⟩ (S.bas id + (off + len) * r0.k) vs).ok := by
  have st := Sit.grow_step (S := S) (id := id) (off := off) (n := n) (r := ⟨r0.k,(r0.es.drop off).take len ++ new,r0.ty,r0.frz - off,r0.soft⟩) (o := S.bas id + (off + len) * r0.k) (vs := vs) h0
  have hR := ok.rows id r0 h0
  obtain ⟨arr,lo,hi,hh,hsz,hff,hsoft⟩ := hR.lie
  have hvl : vs.length = new.length * r0.k := by rw [← hv.length,X5 hk]
  have hcap : (off + len + new.length) * r0.k ≤ S.cap id * r0.k := Nat.mul_le_mul_right _ (by omega)
  rw [Nat.add_mul] at hcap
  obtain ⟨arr',g1,g2,g3,g4⟩ := setCells_heap (S.blk id) r0.ty (lo,hi) vs (S.bas id + (off + len) * r0.k) S.w arr hh (by omega)
  have hlen : ((r0.es.drop off).take len).length = len := by simp; omega
  constructor
  · intro m q hq
    rcases Sit.grow_row hq with ⟨rfl,rfl⟩ | ⟨hlt,hne,h2⟩
    · refine ⟨⟨arr',lo,hi,by simpa [Sit.grow,T1] using g1,?_,?_,?_⟩,?_,?_,?_,?_⟩
      · simp only [Sit.grow,T1,g2]
        have : (off + n) * r0.k = S.cap id * r0.k := by rw [hn]
        rw [Nat.add_mul] at this; omega
      · simp only [Sit.grow,T1,g2]
        intro p hp hp2
        refine hff p ?_ hp2
        have : r0.frz * r0.k ≤ (off + (r0.frz - off)) * r0.k := Nat.mul_le_mul_right _ (by omega)
        rw [Nat.add_mul] at this; omega
      · simp only [Sit.grow,T1]
        intro hs
        refine (hsoft hs).imp (fun x => x) fun h => ?_
        have : r0.frz * r0.k ≤ (off + (r0.frz - off)) * r0.k := Nat.mul_le_mul_right _ (by omega)
        rw [Nat.add_mul] at this; omega
      · simp only [Sit.grow,T1]
        obtain ⟨m0,hm0⟩ := hR.mult
        exact ⟨m0 + off,by rw [hm0,Nat.add_mul]⟩
      · simp only [Sit.grow,T1]
        refine VRrows.ofGet fun p x hx => ?_
        rw [List.getElem?_append] at hx
        split at hx
        · rename_i hp
          rw [hlen] at hp
          rw [List.getElem?_take,if_pos hp,List.getElem?_drop] at hx
          obtain ⟨a1,a2⟩ := hR.vals.get _ x hx
          refine ⟨a1,a2.in st ok fun y hy => ?_⟩
          show (S.w.setCells _ _ _).cell? _ = _
          rw [jz5 g1,jz5 hh]
          have h1 : (off + p + 1) * r0.k ≤ (off + len) * r0.k := Nat.mul_le_mul_right _ (by omega)
          rw [Nat.add_mul (off + p)] at h1
          have h3 : (off + p) * r0.k = off * r0.k + p * r0.k := Nat.add_mul _ _ _
          rw [g4 _ (.inl (by omega))]
          congr 1; omega
        · rename_i hp
          rw [hlen] at hp hx
          have hxk := hk x (List.mem_of_getElem? hx)
          refine ⟨hxk,?_⟩
          have key : VRcells (S.grow id off n ⟨r0.k,(r0.es.drop off).take len ++ new,r0.ty,r0.frz - off,r0.soft⟩ (S.bas id + (off + len) * r0.k) vs) (S.blk id) (S.bas id + (off + len) * r0.k) new.flatten :=
            VRcells.of (hv.mono st ok) fun j v hj => by
              show (S.w.setCells _ _ _).cell? _ = _
              rw [jz5 g1]; exact g3 j v hj
          have := ((VRrows.of hk key).get (p - len) x hx).2
          rwa [show S.bas id + (off + len) * r0.k + (p - len) * r0.k = S.bas id + off * r0.k + p * r0.k by
            rw [Nat.add_assoc,Nat.add_assoc,← Nat.add_mul,← Nat.add_mul]; congr 2; omega] at this
      · simp only [Sit.grow,T1]
        simp [hlen]; omega
      · simp [hlen]; omega
    · refine (ok.rows m q h2).mono st ok (Z5 _ _ (fun e => hne ?_) vs _ S.w) ?_ ?_ ?_
      · exact ok.apart m id q r0 h2 h0 e
      all_goals simp [Sit.grow,yz1 _ _ _ (Nat.ne_of_lt hlt)]
  · intro m q hq
    rcases Sit.grow_row hq with ⟨rfl,rfl⟩ | ⟨hlt,hne,h2⟩
    · simp only [Sit.grow,T1]; exact ok.free id r0 h0
    · simp only [Sit.grow,yz1 _ _ _ (Nat.ne_of_lt hlt)]; exact ok.free m q h2
  · intro a b q q' ha hb he
    rcases Sit.grow_row ha with ⟨rfl,_⟩ | ⟨hla,hna,h2⟩
    · rcases Sit.grow_row hb with ⟨rfl,_⟩ | ⟨hlb,hnb,h3⟩
      · rfl
      · simp only [Sit.grow,T1,yz1 _ _ _ (Nat.ne_of_lt hlb)] at he
        exact absurd (ok.apart id b _ _ h0 h3 he).symm hnb
    · rcases Sit.grow_row hb with ⟨rfl,_⟩ | ⟨hlb,hnb,h3⟩
      · simp only [Sit.grow,T1,yz1 _ _ _ (Nat.ne_of_lt hla)] at he
        exact absurd (ok.apart a id _ _ h2 h0 he) hna
      · simp only [Sit.grow,yz1 _ _ _ (Nat.ne_of_lt hla),yz1 _ _ _ (Nat.ne_of_lt hlb)] at he
        exact ok.apart a b _ _ h2 h3 he
  · intro b hb
    exact Nat.lt_of_lt_of_le (ok.fzlt b hb) st.size
end Go.Dx
end
section
namespace Go.Dx
open Go
section
variable {P : Program} {G : Nat → Option (List DV)}
theorem pv_run {α : Type} : ∀ {s : Sem α} {a : α},pv? P s = some a → ∀ w,s.run P w = .ok a w
  | .pure _,_,h,_ => by simp only [pv?,Option.some.injEq] at h; subst h; rfl
  | .program k,_,h,w => by simp only [pv?] at h; exact pv_run (s := k P) h w
  | .load ..,_,h,_ => by simp [pv?] at h
  | .store ..,_,h,_ => by simp [pv?] at h
  | .new ..,_,h,_ => by simp [pv?] at h
  | .shape ..,_,h,_ => by simp [pv?] at h
  | .freeze ..,_,h,_ => by simp [pv?] at h
  | .frozen ..,_,h,_ => by simp [pv?] at h
  | .getObj ..,_,h,_ => by simp [pv?] at h
  | .setObj ..,_,h,_ => by simp [pv?] at h
  | .choose ..,_,h,_ => by simp [pv?] at h
  | .sys ..,_,h,_ => by simp [pv?] at h
  | .mark ..,_,h,_ => by simp [pv?] at h
  | .halt _,_,h,_ => by simp [pv?] at h
theorem VR_ofV1 (S : Sit) (v : Value) : VR S (ofV1 v) v := by
  unfold ofV1
  split <;> simp [VR]
theorem VRs_ofV1 (S : Sit) : ∀ l : List Value,VRs S (l.map ofV1) l
  | [] => by simp [VRs]
  | v :: r => ⟨VR_ofV1 S v,VRs_ofV1 S r⟩
theorem VR_ofV (S : Sit) (v : Value) : VR S (ofV v) v := by
  unfold ofV
  split
  · exact ⟨_,rfl,VRs_ofV1 S _⟩
  · exact VR_ofV1 S v
mutual
theorem zz9 {S : Sit} : ∀ {d : DV} {c v : Value},VR S d c → toV? d = some v → c = v
  | .sc _,_,_,h,e => by simp only [toV?,Option.some.injEq] at e; rw [← e]; exact h
  | .nil,_,_,h,e => by simp only [toV?,Option.some.injEq] at e; rw [← e]; exact h
  | .imm _,_,_,_,e => by simp [toV?] at e
  | .osl _ _ _,_,_,_,e => by simp [toV?] at e
  | .ptr _ _ _,_,_,_,e => by simp [toV?] at e
  | .iptr _,_,_,_,e => by simp [toV?] at e
  | .agg cs,_,_,⟨a,h,hs⟩,e => by
    simp only [toV?,jz20] at e
    obtain ⟨l,h1,h2⟩ := e
    rw [← h2,h,← toVs_ok hs h1]
  | .tup cs,_,_,⟨a,h,hs⟩,e => by
    simp only [toV?,jz20] at e
    obtain ⟨l,h1,h2⟩ := e
    rw [← h2,h,← toVs_ok hs h1]
  | .fn f cs,_,_,⟨a,h,hs⟩,e => by
    simp only [toV?,jz20] at e
    obtain ⟨l,h1,h2⟩ := e
    rw [← h2,h,← toVs_ok hs h1]
theorem toVs_ok {S : Sit} : ∀ {ds : List DV} {cs vs : List Value},VRs S ds cs → toVs? ds = some vs → cs = vs
  | [],[],_,_,e => by simp only [toVs?,Option.some.injEq] at e; exact e
  | d :: r,c :: s,vs,⟨h1,h2⟩,e => by
    simp only [toVs?] at e
    split at e
    · rename_i x xs hx hxs
      rw [← Option.some.inj e,zz9 h1 hx,toVs_ok h2 hxs]
    · simp at e
  | [],_ :: _,_,h,_ => h.elim
  | _ :: _,[],_,h,_ => h.elim
end
def Glob (G : Nat → Option (List DV)) (S : Sit) : Prop := ∀ g cs,G g = some cs → VR S (.iptr cs) (.pointer (some ⟨g,0,none⟩)) ∧ (cs = [] → ∃ m,S.w.cell? ⟨g,0,none⟩ = some (.int .i64 m))
theorem Glob.mono {S S' : Sit} (h : Glob G S) (st : Step S S') (ok : S.ok) : Glob G S' := fun g cs e => by
  obtain ⟨h1,h2⟩ := h g cs e
  refine ⟨h1.mono st ok,fun hc => ?_⟩
  obtain ⟨m,hm⟩ := h2 hc
  obtain ⟨_,b,o,hp,hf,_⟩ := h1
  have hb : b = g := by
    injection hp with hp; injection hp with hp; injection hp with hp _ _; exact hp.symm
  subst hb
  exact ⟨m,by rw [st.cell ok hf]; exact hm⟩
theorem VRs.getD {S : Sit} {sl : List DV} {cs : List Value} (h : VRs S sl cs) (t : Nat) : VR S (sl.getD t P9) (cs.getD t undef) := by
  simp only [List.getD_eq_getElem?_getD]
  cases e : sl[t]? with
  | some v =>
    obtain ⟨c,hc,hv⟩ := h.get t v e
    rw [hc]; exact hv
  | none =>
    have : cs[t]? = none := by
      rw [List.getElem?_eq_none_iff] at e ⊢
      rw [← h.length]; exact e
    rw [this]
    exact ⟨#[],rfl,trivial⟩
theorem S3 {S : Sit} {sl : List DV} {a : Act} (hg : Glob G S) (h : VRs S sl a.tmps.toList) (x : Operand) : VR S (dev G sl x) (a.eval x) := by
  cases x with
  | tmp t =>
    have := h.getD t
    simp only [dev,Act.eval]
    rwa [show a.tmps.getD t undef = a.tmps.toList.getD t undef by simp [Array.getD_eq_getD_getElem?,List.getD_eq_getElem?_getD]]
  | const v => exact VR_ofV S v
  | global g =>
    simp only [dev,Act.eval]
    split
    · rename_i cs e; exact (hg g cs e).1
    · rfl
  | func f => exact ⟨#[],rfl,trivial⟩
theorem devs_ok {S : Sit} {sl : List DV} {a : Act} (hg : Glob G S) (h : VRs S sl a.tmps.toList) : ∀ l : List Operand,VRs S (l.map (dev G sl)) (l.map a.eval)
  | [] => by simp [VRs]
  | x :: r => ⟨S3 hg h x,devs_ok hg h r⟩
theorem cells_ok {S : Sit} {d : DV} {c : Value} (h : VR S d c) : VRs S d.cells c.cells.toList := by
  unfold DV.cells
  split
  · obtain ⟨a,rfl,hs⟩ := h; exact hs
  · rename_i a
    have h : c = .agg a := h
    subst h
    exact VRs_ofV1 S _
  · rename_i h1 h2
    have hc : c.cells = #[c] := by
      unfold Value.cells
      split
      · rename_i a
        exfalso
        cases d with
        | sc v => exact h2 a (congrArg DV.sc h.symm)
        | agg cs => exact h1 cs rfl
        | nil => cases h
        | imm es => obtain ⟨_,_,_,e,_⟩ := h; cases e
        | osl i o l => obtain ⟨⟨_,_,e⟩,_⟩ := h; cases e
        | ptr i o l => obtain ⟨⟨_,_,e⟩,_⟩ := h; cases e
        | iptr cs => obtain ⟨_,_,_,e,_⟩ := h; cases e
        | tup cs => obtain ⟨_,e,_⟩ := h; cases e
        | fn f cs => obtain ⟨_,e,_⟩ := h; cases e
      · rfl
    rw [hc]
    exact ⟨h,trivial⟩
theorem one_ok {S : Sit} {d : DV} {c : Value} (h : VR S d c) (h1 : d.one = true) : c.oneCell' = true := by
  cases d with
  | sc v =>
    obtain rfl : c = v := h
    cases c <;> simp_all [DV.one,Value.oneCell']
  | nil => obtain rfl : c = _ := h; rfl
  | imm es => obtain ⟨_,_,_,rfl,_⟩ := h; rfl
  | osl i o l => obtain ⟨⟨_,_,rfl⟩,_⟩ := h; rfl
  | ptr i o l => obtain ⟨⟨_,_,rfl⟩,_⟩ := h; rfl
  | iptr cs => obtain ⟨_,_,_,rfl,_⟩ := h; rfl
  | agg cs => simp [DV.one] at h1
  | tup cs => simp [DV.one] at h1
  | fn f cs => obtain ⟨_,rfl,_⟩ := h; rfl
theorem ones_ok {S : Sit} : ∀ {ds : List DV} {cs : List Value},VRs S ds cs → ds.all DV.one = true → ∀ c ∈ cs,c.oneCell' = true
  | [],[],_,_,_,h => by simp at h
  | d :: r,c :: s,⟨h1,h2⟩,ha,x,hx => by
    simp only [zz21,zz19] at ha
    rcases List.mem_cons.1 hx with rfl | hx
    · exact one_ok h1 ha.1
    · exact ones_ok h2 ha.2 x hx
  | [],_ :: _,h,_,_,_ => h.elim
  | _ :: _,[],h,_,_,_ => h.elim
theorem Addr.add_mk (b o n : Nat) : (⟨b,o,none⟩ : Addr).add n = ⟨b,o + n,none⟩ := by
  unfold Addr.add; split
  · rename_i h; subst h; rfl
  · rfl
structure Did (S : Sit) (H' : Heap) (v : DV) (r : Result Next) : Prop where
  did : ∃ (n : Next) (c : Value) (S' : Sit),r = .ok n S'.w ∧ (n = .value c ∨ n = .skip ∧ c = undef) ∧ S'.ok ∧ Step S S' ∧ S'.H = H' ∧ VR S' v c
theorem Did.same {S : Sit} (ok : S.ok) {v : DV} {c : Value} (h : VR S v c) : Did S S.H v (.ok (.value c) S.w) :=
  ⟨_,c,S,rfl,.inl rfl,ok,Step.refl S,rfl,h⟩
theorem Did.pure {S : Sit} (ok : S.ok) {s : Sem Value} {v : DV} {H' : Heap} (h : Z7 P S.H s = .val v H') : Did S H' v ((do Pure.pure (Next.value (← s)) : Sem Next).run P S.w) := by
  simp only [Z7,rval] at h
  split at h
  · rename_i d hd
    simp only [jz20] at hd
    obtain ⟨c,h1,h2⟩ := hd
    obtain ⟨rfl,rfl⟩ := DR.val.inj h
    simp only [Sem.run_bind,pv_run h1,Result.andThen_ok,Sem.run_pure]
    rw [← h2]
    exact Did.same ok (VR_ofV S c)
  · cases h
theorem dload_ok {S : Sit} (ok : S.ok) {n : Nat} {d : DV} {c : Value} {cs : List DV} (h : VR S d c) (e : dload S.H n d = some cs) :
    ∃ b o vs,c = .pointer (some ⟨b,o,none⟩) ∧ VRs S cs vs ∧ vs.length = n ∧ ∀ (j : Nat) (v : Value),vs[j]? = some v → S.w.cell? ((⟨b,o,none⟩ : Addr).add j) = some v := by
  cases d <;> simp only [dload] at e <;> try (simp at e; done)
  · rename_i id i j
    obtain ⟨_,hl,hp⟩ := h
    split at e
    · rename_i r hr
      split at e
      · rename_i x hx
        split at e
        · rename_i hjn
          have hR := ok.rows id r hr
          obtain ⟨h1,h2⟩ := hR.vals.get i x hx
          obtain ⟨vs,w1,w2⟩ := ((h2.drop j).take n).get
          rw [Option.some.inj e] at w1
          refine ⟨_,_,vs,hp r hr,w1,?_,fun q v hq => ?_⟩
          · rw [← w1.length,← Option.some.inj e]; simp; omega
          · rw [Addr.add_mk]; exact w2 q v hq
        · simp at e
      · simp at e
    · simp at e
  · rename_i ds
    obtain ⟨_,b,o,rfl,hb,hc⟩ := h
    split at e
    · rename_i hn
      obtain ⟨vs,w1,w2⟩ := (hc.take n).get
      rw [Option.some.inj e] at w1
      refine ⟨b,o,vs,rfl,w1,?_,fun q v hq => ?_⟩
      · rw [← w1.length,← Option.some.inj e]; simp; omega
      · rw [Addr.add_mk]; exact w2 q v hq
    · simp at e
theorem cAgg_run {t : TypeId} {g : Bool} (h : cAgg P t = some g) (w : World) : (isAgg t).run P w = .ok g w := by
  unfold cAgg at h
  split at h <;> simp at h
  all_goals (subst h; rename_i x; simp only [isAgg,Sem.run_bind,run_underlying x,Result.andThen_ok])
  · rfl
  · rfl
  · rename_i d h1 h2
    cases d <;> first | rfl | exact absurd rfl (h1 _) | exact absurd rfl (h2 _ _)
theorem X9 {t : TypeId} {n : Nat} (h : zz3 P t = some n) (w : World) : (sizeOf t).run P w = .ok n w := by
  unfold zz3 at h
  simp only [jz20] at h
  obtain ⟨i,h1,rfl⟩ := h
  simp [sizeOf,typeInfo,h1]
theorem op_pick {S : Sit} {sl : List DV} {a : Act} (ok : S.ok) (hg : Glob G S) (hs : VRs S sl a.tmps.toList) {v : DV} {H' : Heap} {c x y : Operand}
    (h : dop P G (.pick c x y) sl S.H = .val v H') : Did S H' v ((do Pure.pure (Next.value (if ← asBool (a.eval c) then a.eval x else a.eval y)) : Sem Next).run P S.w) := by
  simp only [dop] at h
  split at h
  · rename_i t ht
    obtain ⟨rfl,rfl⟩ := DR.val.inj h
    have hc := S3 hg hs c
    rw [ht] at hc
    have hc : a.eval c = .bool t := hc
    simp only [hc,asBool,Sem.run_bind,Sem.run_pure,Result.andThen_ok]
    cases t
    · exact Did.same ok (S3 hg hs y)
    · exact Did.same ok (S3 hg hs x)
  · cases h
theorem new_did {S : Sit} (ok : S.ok) {w1 : World} (hw : Alike S.w w1) (r : Row) (arr : Array Value) (fr : Nat × Nat) (c : Nat) (vs : List Value)
    (hk : ∀ e ∈ r.es,e.length = r.k) (hv : VRs S r.es.flatten vs) (ha : ∀ (j : Nat) (v : Value),vs[j]? = some v → arr[j]? = some v) (hroom : c * r.k ≤ arr.size) (hc : r.es.length ≤ c)
    (hfr : ∀ o,r.frz * r.k ≤ o → o < arr.size → ¬ (fr.1 ≤ o ∧ o < fr.2)) (hz : r.frz ≤ r.es.length) (hsoft : r.soft = true → fr.1 = fr.2) (v : DV) (cv : Value)
    (hval : VR (S.add w1 r (.cells arr r.ty fr) c) v cv) {w' : World} (hw' : w' = w1.alloc (.cells arr r.ty fr)) :
    Did S (S.H ++ [some r]) v (.ok (.value cv) w') :=
  ⟨_,cv,S.add w1 r (.cells arr r.ty fr) c,by rw [hw']; rfl,.inl rfl,Sit.add_ok ok hw r arr fr c vs hk hv ha hroom hc hfr hz hsoft,Sit.add_step hw r _ c,rfl,hval⟩
theorem add_ptr (S : Sit) (w1 : World) (r : Row) (o : Obj) (c : Nat) : VR (S.add w1 r o c) (.ptr S.H.length 0 0) (.pointer (some ⟨S.w.heap.size,0,none⟩)) := by
  refine ⟨⟨_,_,rfl⟩,by simp [Sit.add],fun q hq => ?_⟩
  simp [Sit.add,T1]
theorem add_osl (S : Sit) (w1 : World) (r : Row) (o : Obj) (c n : Nat) : VR (S.add w1 r o c) (.osl S.H.length 0 n) (.slice (some ⟨S.w.heap.size,0,none⟩) n c) := by
  refine ⟨⟨_,_,rfl⟩,by simp [Sit.add],fun q hq => .inl ⟨c,?_,?_⟩⟩
  · simp [Sit.add,T1]
  · simp [Sit.add,T1]
theorem op_box {S : Sit} {sl : List DV} {a : Act} (ok : S.ok) (hg : Glob G S) (hs : VRs S sl a.tmps.toList) {v : DV} {H' : Heap} {x : Operand} (t : TypeId)
    (h : dop P G (.box t x) sl S.H = .val v H') : Did S H' v ((do Pure.pure (Next.value (← Instr.box t (a.eval x))) : Sem Next).run P S.w) := by
  simp only [dop] at h
  obtain ⟨rfl,rfl⟩ := DR.val.inj h
  have hc := cells_ok (S3 hg hs x)
  have hr : ((do Pure.pure (Next.value (← Instr.box t (a.eval x))) : Sem Next).run P S.w) = .ok (.value (.pointer (some ⟨S.w.heap.size,0,none⟩))) (S.w.alloc (.cells (a.eval x).cells t)) := by
    simp [Instr.box,newVar,newRow]
  rw [hr]
  refine new_did ok (Alike.refl _) { k := (dev G sl x).cells.length,es := [(dev G sl x).cells],ty := t } _ (0,0) 1 (a.eval x).cells.toList ?_ ?_ ?_ ?_ ?_ ?_ ?_ (fun _ => rfl) _ _ (add_ptr _ _ _ _ _) rfl
  · simp
  · simpa using hc
  · intro j u hu; simpa using hu
  · have := hc.length; simp at this; simp; omega
  · simp
  · intro o _ _ hh; simp at hh
  · simp
theorem cZero_run {t : TypeId} {z : List DV} (h : cZero P t = some z) : ∃ v : Value,z = v.cells.toList.map ofV1 ∧ ∀ w,(zeroValue t).run P w = .ok v w := by
  simp only [cZero,jz20,Option.bind_eq_some_iff] at h
  obtain ⟨v,⟨i,h1,h2⟩,rfl⟩ := h
  exact ⟨v,rfl,fun w => by simp [zeroValue,typeInfo,h1,h2]⟩
theorem cZero_info {t : TypeId} {z : List DV} (h : cZero P t = some z) : ∃ (i : TypeInfo) (v : Value),P.info? t = some i ∧ i.zero = some v ∧ z = v.cells.toList.map ofV1 := by
  simp only [cZero,jz20,Option.bind_eq_some_iff] at h
  obtain ⟨v,⟨i,h1,h2⟩,rfl⟩ := h
  exact ⟨i,v,h1,h2,rfl⟩
theorem op_alloc {S : Sit} {sl : List DV} (ok : S.ok) {v : DV} {H' : Heap} {t : TypeId} {z : List DV} (hz : cZero P t = some z)
    (h : dop P G (.alloc t z) sl S.H = .val v H') : Did S H' v ((do Pure.pure (Next.value (← Instr.alloc t true (.tuple #[]))) : Sem Next).run P S.w) := by
  simp only [dop] at h
  obtain ⟨rfl,rfl⟩ := DR.val.inj h
  obtain ⟨u,rfl,hu⟩ := cZero_run hz
  have hr : ((do Pure.pure (Next.value (← Instr.alloc t true (.tuple #[]))) : Sem Next).run P S.w) = .ok (.value (.pointer (some ⟨S.w.heap.size,0,none⟩))) (S.w.alloc (.cells u.cells t)) := by
    simp [Instr.alloc,hu,newVar,newRow]
  rw [hr]
  refine new_did ok (Alike.refl _) { k := (u.cells.toList.map ofV1).length,es := [u.cells.toList.map ofV1],ty := t } _ (0,0) 1 u.cells.toList ?_ ?_ ?_ ?_ ?_ ?_ ?_ (fun _ => rfl) _ _ (add_ptr _ _ _ _ _) rfl
  · simp
  · simpa using VRs_ofV1 S u.cells.toList
  · intro j u hu; simpa using hu
  · simp
  · simp
  · intro o _ _ hh; simp at hh
  · simp
theorem op_load {S : Sit} {sl : List DV} {a : Act} (ok : S.ok) (hg : Glob G S) (hs : VRs S sl a.tmps.toList) {v : DV} {H' : Heap} {x : Operand} {t : TypeId} {g : Bool} {n : Nat}
    (ha : cAgg P t = some g) (hn : zz3 P t = some n) (h : dop P G (.load g n x) sl S.H = .val v H') :
    Did S H' v ((do Pure.pure (Next.value (← Instr.loadAt t (a.eval x))) : Sem Next).run P S.w) := by
  simp only [dop] at h
  split at h
  · rename_i cs hcs
    obtain ⟨b,o,vs,hx,hv,hl,hcell⟩ := dload_ok ok (S3 hg hs x) hcs
    have hload := run_loadCells_list (P := P) S.w ⟨b,o,none⟩ vs hcell
    rw [hl] at hload
    cases g with
    | true =>
      obtain ⟨rfl,rfl⟩ := DR.val.inj h
      have hr : ((do Pure.pure (Next.value (← Instr.loadAt t (a.eval x))) : Sem Next).run P S.w) = .ok (.value (.agg vs.toArray)) S.w := by
        simp [Instr.loadAt,Instr.sureAddr,hx,loadVar,cAgg_run ha,X9 hn,hload]
      rw [hr]
      exact Did.same ok ⟨_,rfl,by simpa using hv⟩
    | false =>
      simp only [yz21,if_false] at h
      split at h
      · rename_i d
        obtain ⟨rfl,rfl⟩ := DR.val.inj h
        match vs,hv with
        | [u],⟨hu,_⟩ =>
          have h0 := hcell 0 u rfl
          rw [Addr.add_mk] at h0
          have hr : ((do Pure.pure (Next.value (← Instr.loadAt t (a.eval x))) : Sem Next).run P S.w) = .ok (.value u) S.w := by
            simp only [jz21] at h0
            simp [Instr.loadAt,Instr.sureAddr,hx,loadVar,cAgg_run ha,h0]
          rw [hr]
          exact Did.same ok hu
      · cases h
  · cases h
theorem op_store {S : Sit} {sl : List DV} {a : Act} (ok : S.ok) (hg : Glob G S) (hs : VRs S sl a.tmps.toList) {v : DV} {H' : Heap} {x y : Operand} {t : TypeId} {n : Nat}
    (hn : zz3 P t = some n) (h : dop P G (.store n x y) sl S.H = .val v H') :
    Did S H' v ((do Instr.storeAt t (a.eval x) (a.eval y); Pure.pure Next.skip : Sem Next).run P S.w) := by
  simp only [dop] at h
  split at h
  · rename_i hlen
    split at h
    · rename_i H1 hH
      obtain ⟨rfl,rfl⟩ := DR.val.inj h
      have hy := cells_ok (S3 hg hs y)
      have hx := S3 hg hs x
      generalize dev G sl x = dx at hH hx
      cases dx <;> simp only [dstore] at hH <;> try (simp at hH; done)
      rename_i id i j
      split at hH
      · rename_i r hr
        split at hH
        · rename_i e he
          split at hH
          · rename_i hc
            obtain ⟨hj,hfz,hone⟩ := hc
            obtain ⟨_,hl,hp⟩ := hx
            have hp := hp r hr
            have hH := Option.some.inj hH
            have hR := ok.rows id r hr
            obtain ⟨arr,lo,hi,hh,hsz,hff,hso⟩ := hR.lie
            have hel := (hR.vals.get i e he).1
            have hil : i < r.es.length := by
              rcases Nat.lt_or_ge i r.es.length with x | x
              · exact x
              · rw [List.getElem?_eq_none x] at he; simp at he
            have hcap : (i + 1) * r.k ≤ S.cap id * r.k := Nat.mul_le_mul_right _ (by have := hR.room; omega)
            rw [Nat.add_mul] at hcap
            have hfi : r.frz * r.k ≤ i * r.k := Nat.mul_le_mul_right _ hfz
            have hyl := hy.length
            have hstore := run_storeCells_cells (P := P) (S.blk id) (S.bas id + i * r.k + j) (a.eval y).cells.toList 0 S.w
              (fun p hp => by rw [jz21,jz5 hh,Array.getElem?_eq_getElem (by omega)]; rfl)
              (fun p hp => by
                rw [jz21,frozen_lie hh]
                have := hff (S.bas id + i * r.k + j + p) (by omega) (by omega)
                simp only [Bool.and_eq_false_iff,decide_eq_false_iff_not]
                omega)
              (ones_ok hy hone)
            simp only [jz21] at hstore
            refine ⟨.skip,undef,S.write id { r with es := r.es.set i (jz16 e j (dev G sl y).cells) } (S.bas id + i * r.k + j) (a.eval y).cells.toList,?_,.inr ⟨rfl,rfl⟩,Sit.write_ok ok hr i j e _ _ he hj hy,Sit.write_step hr rfl,?_,?_⟩
            · have hsize : (a.eval y).cells.size = n := by simp at hyl; omega
              simp [Instr.storeAt,Instr.sureAddr,hp,storeVar,X9 hn,hsize,hstore,Sit.write]
            · rw [← hH]; rfl
            · exact ⟨#[],rfl,trivial⟩
          · simp at hH
        · simp at hH
      · simp at hH
    · cases h
  · cases h
end
end Go.Dx
end
