/- A part of the proof of VarFills: rules of an interpreter of the program's code, shown to answer as the model does. -/
import Derived.Below
import Derived.WalkKit
open Nat renaming le_refl → jz18
open Bool renaming and_eq_true → zz19
open List renaming take_succ_cons → yz19, replicate_succ → jz19, length_cons → zz20, length_append → yz20
set_option linter.all false
section
namespace Go.Dx
open Go
inductive DV where
  | sc (v : Value)
  | nil
  | imm (es : List (List DV))
  | osl (id off len : Nat)
  | ptr (id i j : Nat)
  | iptr (cs : List DV)
  | agg (cs : List DV)
  | tup (cs : List DV)
  | fn (f : FuncId) (cs : List DV)
  deriving Inhabited
mutual
def yz7 : DV → Bool
  | .sc _ => true
  | .nil => true
  | .imm es => X4 es
  | .osl _ _ _ => false
  | .ptr _ _ _ => false
  | .iptr cs => T8 cs
  | .agg cs => T8 cs
  | .tup cs => T8 cs
  | .fn _ cs => T8 cs
def T8 : List DV → Bool
  | [] => true
  | v :: r => yz7 v && T8 r
def X4 : List (List DV) → Bool
  | [] => true
  | e :: r => T8 e && X4 r
end
structure Row where
  k : Nat
  es : List (List DV)
  ty : TypeId
  frz : Nat := 0
  soft : Bool := true
abbrev Heap := List (Option Row)
def Heap.row (H : Heap) (id : Nat) : Option Row := (H[id]?).join
structure Sit where
  w : World
  H : Heap
  blk : Nat → Nat
  bas : Nat → Nat
  cap : Nat → Nat
  fz : Nat → Prop
def Sit.oslAt (S : Sit) (id off len : Nat) (c : Value) : Prop :=
  (∃ a n,c = .slice a len n) ∧ id < S.H.length ∧ ∀ r,S.H.row id = some r →
    (∃ n,c = .slice (some ⟨S.blk id,S.bas id + off * r.k,none⟩) len n ∧ off + n = S.cap id) ∨ (len = 0 ∧ ∃ a,c = .slice (some a) 0 0)
def Sit.ptrAt (S : Sit) (id i j : Nat) (c : Value) : Prop :=
  (∃ b o,c = .pointer (some ⟨b,o,none⟩)) ∧ id < S.H.length ∧ ∀ r,S.H.row id = some r → c = .pointer (some ⟨S.blk id,S.bas id + i * r.k + j,none⟩)
mutual
def VR (S : Sit) : DV → Value → Prop
  | .sc v,c => c = v
  | .nil,c => c = .slice none 0 0
  | .imm es,c => X4 es = true ∧ ∃ a n,c = .slice a es.length n ∧ es.length ≤ n ∧ (es = [] ∨ ∃ b o k,a = some ⟨b,o,none⟩ ∧ S.fz b ∧ VRrows S k b o es)
  | .osl id off len,c => S.oslAt id off len c
  | .ptr id i j,c => S.ptrAt id i j c
  | .iptr cs,c => T8 cs = true ∧ ∃ b o,c = .pointer (some ⟨b,o,none⟩) ∧ S.fz b ∧ VRcells S b o cs
  | .agg cs,c => ∃ a : Array Value,c = .agg a ∧ VRs S cs a.toList
  | .tup cs,c => ∃ a : Array Value,c = .tuple a ∧ VRs S cs a.toList
  | .fn f cs,c => ∃ a : Array Value,c = .func (.func f) #[] a ∧ VRs S cs a.toList
def VRcells (S : Sit) (b : Nat) : Nat → List DV → Prop
  | _,[] => True
  | o,v :: r => (∃ c,S.w.cell? ⟨b,o,none⟩ = some c ∧ VR S v c) ∧ VRcells S b (o + 1) r
def VRrows (S : Sit) (k b : Nat) : Nat → List (List DV) → Prop
  | _,[] => True
  | o,e :: r => e.length = k ∧ VRcells S b o e ∧ VRrows S k b (o + k) r
def VRs (S : Sit) : List DV → List Value → Prop
  | [],[] => True
  | v :: r,c :: s => VR S v c ∧ VRs S r s
  | _,_ => False
end
structure RowAt (S : Sit) (id : Nat) (r : Row) : Prop where
  lie : ∃ (arr : Array Value) (lo hi : Nat),S.w.heap[S.blk id]? = some (.cells arr r.ty (lo,hi)) ∧ S.bas id + S.cap id * r.k ≤ arr.size ∧
    (∀ o,S.bas id + r.frz * r.k ≤ o → o < arr.size → ¬ (lo ≤ o ∧ o < hi)) ∧ (r.soft = true → lo = hi ∨ hi ≤ S.bas id + r.frz * r.k)
  mult : ∃ m,S.bas id = m * r.k
  vals : VRrows S r.k (S.blk id) (S.bas id) r.es
  room : r.es.length ≤ S.cap id
  frzle : r.frz ≤ r.es.length
structure Sit.ok (S : Sit) : Prop where
  rows : ∀ id r,S.H.row id = some r → RowAt S id r
  free : ∀ id r,S.H.row id = some r → ¬ S.fz (S.blk id)
  apart : ∀ i j r s,S.H.row i = some r → S.H.row j = some s → S.blk i = S.blk j → i = j
  fzlt : ∀ b,S.fz b → b < S.w.heap.size
def Sit.owned (S : Sit) (b : Nat) : Prop := ∃ id r,S.H.row id = some r ∧ S.blk id = b
structure Step (S S' : Sit) : Prop where
  os : S'.w.os = S.w.os
  tape : S'.w.tape = S.w.tape
  output : S'.w.output = S.w.output
  size : S.w.heap.size ≤ S'.w.heap.size
  frame : ∀ b,b < S.w.heap.size → ¬ S.owned b → S'.w.heap[b]? = S.w.heap[b]?
  fz : ∀ b,S.fz b → S'.fz b
  fzof : ∀ b,S'.fz b → S.fz b ∨ S.owned b ∨ S.w.heap.size ≤ b
  own : ∀ b,S'.owned b → S.owned b ∨ S.w.heap.size ≤ b
  len : S.H.length ≤ S'.H.length
  ids : ∀ id r',id < S.H.length → S'.H.row id = some r' → ∃ r,S.H.row id = some r ∧ r'.k = r.k ∧ S'.blk id = S.blk id ∧ S'.bas id = S.bas id ∧ S'.cap id = S.cap id
theorem Step.refl (S : Sit) : Step S S :=
  ⟨rfl,rfl,rfl,jz18 _,fun _ _ _ => rfl,fun _ h => h,fun _ h => .inl h,fun _ h => .inl h,jz18 _,fun _ r _ h => ⟨r,h,rfl,rfl,rfl,rfl⟩⟩
theorem Step.trans {A B C : Sit} (h : Step A B) (g : Step B C) : Step A C where
  os := g.os.trans h.os
  tape := g.tape.trans h.tape
  output := g.output.trans h.output
  size := Nat.le_trans h.size g.size
  frame b hb hn := (g.frame b (Nat.lt_of_lt_of_le hb h.size) (fun o => (h.own b o).elim hn (fun x => absurd hb (Nat.not_lt.2 x)))).trans (h.frame b hb hn)
  fz b hb := g.fz b (h.fz b hb)
  fzof b hb := by
    rcases g.fzof b hb with x | x | x
    · exact h.fzof b x
    · rcases h.own b x with y | y
      · exact .inr (.inl y)
      · exact .inr (.inr y)
    · exact .inr (.inr (Nat.le_trans h.size x))
  own b hb := by
    rcases g.own b hb with x | x
    · exact h.own b x
    · exact .inr (Nat.le_trans h.size x)
  len := Nat.le_trans h.len g.len
  ids id r' hi hr := by
    obtain ⟨r,h1,h2,h3,h4,h5⟩ := g.ids id r' (Nat.lt_of_lt_of_le hi h.len) hr
    obtain ⟨q,k1,k2,k3,k4,k5⟩ := h.ids id r hi h1
    exact ⟨q,k1,h2.trans k2,h3.trans k3,h4.trans k4,h5.trans k5⟩
theorem cell_of_block {w w' : World} {b o : Nat} (h : w'.heap[b]? = w.heap[b]?) : w'.cell? ⟨b,o,none⟩ = w.cell? ⟨b,o,none⟩ := by
  simp only [World.cell?,h]
theorem Sit.ok.notowned {S : Sit} (h : S.ok) {b : Nat} (hb : S.fz b) : ¬ S.owned b := by
  rintro ⟨id,r,hr,rfl⟩
  exact h.free id r hr hb
theorem Step.cell {S S' : Sit} (h : Step S S') (ok : S.ok) {b : Nat} (hb : S.fz b) (o : Nat) : S'.w.cell? ⟨b,o,none⟩ = S.w.cell? ⟨b,o,none⟩ :=
  cell_of_block (h.frame b (ok.fzlt b hb) (ok.notowned hb))
mutual
theorem VR.mono {S S' : Sit} (h : Step S S') (ok : S.ok) : ∀ (v : DV) (c : Value),VR S v c → VR S' v c
  | .sc _,_,x => x
  | .nil,_,x => x
  | .imm es,_,⟨hi,a,n,e,l,x⟩ => ⟨hi,a,n,e,l,x.imp id fun ⟨b,o,k,ha,hb,hr⟩ => ⟨b,o,k,ha,h.fz b hb,VRrows.mono h ok k b (h.cell ok hb) o es hr⟩⟩
  | .osl id off len,_,⟨hs,hl,x⟩ => ⟨hs,Nat.lt_of_lt_of_le hl h.len,fun r' hr' => by
      obtain ⟨r,h1,h2,h3,h4,h5⟩ := h.ids id r' hl hr'
      rw [h2,h3,h4,h5]
      exact x r h1⟩
  | .ptr id i j,_,⟨hs,hl,x⟩ => ⟨hs,Nat.lt_of_lt_of_le hl h.len,fun r' hr' => by
      obtain ⟨r,h1,h2,h3,h4,h5⟩ := h.ids id r' hl hr'
      rw [h2,h3,h4]
      exact x r h1⟩
  | .iptr cs,_,⟨hi,b,o,e,hb,x⟩ => ⟨hi,b,o,e,h.fz b hb,VRcells.mono h ok b (h.cell ok hb) o cs x⟩
  | .agg cs,_,⟨a,e,x⟩ => ⟨a,e,VRs.mono h ok cs a.toList x⟩
  | .tup cs,_,⟨a,e,x⟩ => ⟨a,e,VRs.mono h ok cs a.toList x⟩
  | .fn _ cs,_,⟨a,e,x⟩ => ⟨a,e,VRs.mono h ok cs a.toList x⟩
theorem VRcells.mono {S S' : Sit} (h : Step S S') (ok : S.ok) (b : Nat) (hb : ∀ o,S'.w.cell? ⟨b,o,none⟩ = S.w.cell? ⟨b,o,none⟩) :
    ∀ (o : Nat) (cs : List DV),VRcells S b o cs → VRcells S' b o cs
  | _,[],x => x
  | o,v :: r,⟨⟨c,hc,hv⟩,x⟩ => ⟨⟨c,(hb o).trans hc,VR.mono h ok v c hv⟩,VRcells.mono h ok b hb (o + 1) r x⟩
theorem VRrows.mono {S S' : Sit} (h : Step S S') (ok : S.ok) (k b : Nat) (hb : ∀ o,S'.w.cell? ⟨b,o,none⟩ = S.w.cell? ⟨b,o,none⟩) :
    ∀ (o : Nat) (es : List (List DV)),VRrows S k b o es → VRrows S' k b o es
  | _,[],x => x
  | o,e :: r,⟨hk,hc,x⟩ => ⟨hk,VRcells.mono h ok b hb o e hc,VRrows.mono h ok k b hb (o + k) r x⟩
theorem VRs.mono {S S' : Sit} (h : Step S S') (ok : S.ok) : ∀ (vs : List DV) (cs : List Value),VRs S vs cs → VRs S' vs cs
  | [],[],x => x
  | v :: r,c :: s,⟨hv,x⟩ => ⟨VR.mono h ok v c hv,VRs.mono h ok r s x⟩
  | [],_ :: _,x => x.elim
  | _ :: _,[],x => x.elim
end
theorem RowAt.mono {S S' : Sit} {id : Nat} {r : Row} (h : RowAt S id r) (st : Step S S') (ok : S.ok) (hb : S'.w.heap[S.blk id]? = S.w.heap[S.blk id]?)
    (e1 : S'.blk id = S.blk id) (e2 : S'.bas id = S.bas id) (e3 : S'.cap id = S.cap id) : RowAt S' id r where
  lie := by rw [e1,e2,e3,hb]; exact h.lie
  mult := by rw [e2]; exact h.mult
  vals := by rw [e1,e2]; exact h.vals.mono st ok _ _ fun _ => cell_of_block hb
  room := by rw [e3]; exact h.room
  frzle := h.frzle
theorem noIdsL_take : ∀ (n : Nat) (l : List DV),T8 l = true → T8 (l.take n) = true
  | 0,_,_ => by simp [T8]
  | _ + 1,[],_ => by simp [T8]
  | n + 1,v :: r,h => by
    simp only [T8,zz19] at h
    simp only [yz19,T8,zz19]
    exact ⟨h.1,noIdsL_take n r h.2⟩
theorem noIdsL_drop : ∀ (n : Nat) (l : List DV),T8 l = true → T8 (l.drop n) = true
  | 0,_,h => h
  | _ + 1,[],_ => by simp [T8]
  | n + 1,v :: r,h => by
    simp only [T8,zz19] at h
    simpa using noIdsL_drop n r h.2
theorem noIdss_take : ∀ (n : Nat) (l : List (List DV)),X4 l = true → X4 (l.take n) = true
  | 0,_,_ => by simp [X4]
  | _ + 1,[],_ => by simp [X4]
  | n + 1,v :: r,h => by
    simp only [X4,zz19] at h
    simp only [yz19,X4,zz19]
    exact ⟨h.1,noIdss_take n r h.2⟩
theorem noIdss_drop : ∀ (n : Nat) (l : List (List DV)),X4 l = true → X4 (l.drop n) = true
  | 0,_,h => h
  | _ + 1,[],_ => by simp [X4]
  | n + 1,v :: r,h => by
    simp only [X4,zz19] at h
    simpa using noIdss_drop n r h.2
theorem noIdss_get : ∀ (l : List (List DV)) (i : Nat) (e : List DV),X4 l = true → l[i]? = some e → T8 e = true
  | [],_,_,_,h => by simp at h
  | v :: r,0,e,h,he => by
    simp only [X4,zz19] at h
    simp at he; subst he; exact h.1
  | v :: r,i + 1,e,h,he => by
    simp only [X4,zz19] at h
    exact noIdss_get r i e h.2 (by simpa using he)
theorem VRs.length {S : Sit} : ∀ {vs : List DV} {cs : List Value},VRs S vs cs → vs.length = cs.length
  | [],[],_ => rfl
  | _ :: _,_ :: _,⟨_,h⟩ => by simp [VRs.length h]
  | [],_ :: _,h => h.elim
  | _ :: _,[],h => h.elim
theorem VRs.get {S : Sit} : ∀ {vs : List DV} {cs : List Value},VRs S vs cs → ∀ (i : Nat) (v : DV),vs[i]? = some v → ∃ c,cs[i]? = some c ∧ VR S v c
  | [],[],_,i,v,h => by simp at h
  | _ :: _,c :: _,⟨hv,_⟩,0,v,h => ⟨c,rfl,by simp at h; exact h ▸ hv⟩
  | _ :: _,_ :: _,⟨_,hr⟩,i + 1,v,h => by simpa using hr.get i v (by simpa using h)
  | [],_ :: _,h,_,_,_ => h.elim
  | _ :: _,[],h,_,_,_ => h.elim
theorem VRs.append {S : Sit} : ∀ {vs ws : List DV} {cs ds : List Value},VRs S vs cs → VRs S ws ds → VRs S (vs ++ ws) (cs ++ ds)
  | [],_,[],_,_,h => h
  | _ :: _,_,_ :: _,_,⟨hv,hr⟩,h => ⟨hv,hr.append h⟩
  | [],_,_ :: _,_,h,_ => h.elim
  | _ :: _,_,[],_,h,_ => h.elim
theorem VRs.take {S : Sit} : ∀ {vs : List DV} {cs : List Value} (n : Nat),VRs S vs cs → VRs S (vs.take n) (cs.take n)
  | _,_,0,_ => by simp [VRs]
  | [],[],_ + 1,_ => by simp [VRs]
  | _ :: _,_ :: _,n + 1,⟨hv,hr⟩ => ⟨hv,hr.take n⟩
  | [],_ :: _,_ + 1,h => h.elim
  | _ :: _,[],_ + 1,h => h.elim
theorem VRs.drop {S : Sit} : ∀ {vs : List DV} {cs : List Value} (n : Nat),VRs S vs cs → VRs S (vs.drop n) (cs.drop n)
  | _,_,0,h => h
  | [],[],_ + 1,_ => by simp [VRs]
  | _ :: _,_ :: _,n + 1,⟨_,hr⟩ => hr.drop n
  | [],_ :: _,_ + 1,h => h.elim
  | _ :: _,[],_ + 1,h => h.elim
theorem VRs.set {S : Sit} : ∀ {vs : List DV} {cs : List Value} (n : Nat) {v : DV} {c : Value},VRs S vs cs → VR S v c → VRs S (vs.set n v) (cs.set n c)
  | [],[],_,_,_,_,_ => by simp [VRs]
  | _ :: _,_ :: _,0,_,_,⟨_,hr⟩,h => ⟨h,hr⟩
  | _ :: _,_ :: _,n + 1,_,_,⟨hv,hr⟩,h => ⟨hv,hr.set n h⟩
  | [],_ :: _,_,_,_,h,_ => h.elim
  | _ :: _,[],_,_,_,h,_ => h.elim
theorem VRs.replicate {S : Sit} {v : DV} {c : Value} (h : VR S v c) : ∀ n,VRs S (List.replicate n v) (List.replicate n c)
  | 0 => by simp [VRs]
  | n + 1 => by simp only [jz19]; exact ⟨h,VRs.replicate h n⟩
theorem VRcells.get {S : Sit} {b : Nat} : ∀ {o : Nat} {cs : List DV},VRcells S b o cs → ∃ vs,VRs S cs vs ∧ ∀ j v,vs[j]? = some v → S.w.cell? ⟨b,o + j,none⟩ = some v
  | _,[],_ => ⟨[],by simp [VRs],by simp⟩
  | o,v :: r,⟨⟨c,hc,hv⟩,x⟩ => by
    obtain ⟨vs,h1,h2⟩ := x.get
    refine ⟨c :: vs,⟨hv,h1⟩,fun j u hu => ?_⟩
    cases j with
    | zero => simp at hu; exact hu ▸ hc
    | succ j => have := h2 j u (by simpa using hu); rwa [show o + 1 + j = o + (j + 1) by omega] at this
theorem VRcells.of {S : Sit} {b : Nat} : ∀ {o : Nat} {cs : List DV} {vs : List Value},VRs S cs vs → (∀ j v,vs[j]? = some v → S.w.cell? ⟨b,o + j,none⟩ = some v) → VRcells S b o cs
  | _,[],[],_,_ => trivial
  | o,_ :: _,v :: _,⟨hv,hr⟩,h => ⟨⟨v,h 0 v rfl,hv⟩,VRcells.of hr fun j u hu => by
      have := h (j + 1) u (by simpa using hu); rwa [show o + (j + 1) = o + 1 + j by omega] at this⟩
  | _,[],_ :: _,h,_ => h.elim
  | _,_ :: _,[],h,_ => h.elim
theorem VRcells.append {S : Sit} {b : Nat} : ∀ {o : Nat} {cs ds : List DV},VRcells S b o cs → VRcells S b (o + cs.length) ds → VRcells S b o (cs ++ ds)
  | _,[],_,_,h => by simpa using h
  | o,_ :: r,_,⟨h1,h2⟩,h => ⟨h1,h2.append (by simp only [zz20] at h; rwa [show o + (r.length + 1) = o + 1 + r.length by omega] at h)⟩
theorem VRcells.take {S : Sit} {b : Nat} : ∀ {o : Nat} {cs : List DV} (n : Nat),VRcells S b o cs → VRcells S b o (cs.take n)
  | _,_,0,_ => by simp [VRcells]
  | _,[],_ + 1,_ => by simp [VRcells]
  | _,_ :: _,n + 1,⟨h1,h2⟩ => ⟨h1,h2.take n⟩
theorem VRcells.drop {S : Sit} {b : Nat} : ∀ {o : Nat} {cs : List DV} (n : Nat),VRcells S b o cs → VRcells S b (o + n) (cs.drop n)
  | _,_,0,h => h
  | _,[],_ + 1,_ => by simp [VRcells]
  | o,_ :: _,n + 1,⟨_,h2⟩ => by have := h2.drop n; rw [show o + (n + 1) = o + 1 + n by omega]; simpa using this
theorem VRrows.len {S : Sit} {k b : Nat} : ∀ {o : Nat} {es : List (List DV)},VRrows S k b o es → ∀ e ∈ es,e.length = k
  | _,[],_,_,h => by simp at h
  | _,_ :: _,⟨hk,_,hr⟩,e,h => by
    rcases List.mem_cons.1 h with rfl | h
    · exact hk
    · exact hr.len e h
theorem VRrows.get {S : Sit} {k b : Nat} : ∀ {o : Nat} {es : List (List DV)},VRrows S k b o es → ∀ (i : Nat) (e : List DV),es[i]? = some e → e.length = k ∧ VRcells S b (o + i * k) e
  | _,[],_,_,_,h => by simp at h
  | o,_ :: _,⟨hk,hc,_⟩,0,e,h => by simp at h; subst h; exact ⟨hk,by simpa using hc⟩
  | o,_ :: _,⟨_,_,hr⟩,i + 1,e,h => by
    have := hr.get i e (by simpa using h)
    rwa [show o + k + i * k = o + (i + 1) * k by rw [Nat.add_mul]; omega] at this
theorem VRrows.flat {S : Sit} {k b : Nat} : ∀ {o : Nat} {es : List (List DV)},VRrows S k b o es → VRcells S b o es.flatten
  | _,[],_ => by simp [VRcells]
  | o,e :: r,⟨hk,hc,hr⟩ => by
    rw [List.flatten_cons]
    exact hc.append (by rw [hk]; exact hr.flat)
theorem VRrows.of {S : Sit} {k b : Nat} : ∀ {o : Nat} {es : List (List DV)},(∀ e ∈ es,e.length = k) → VRcells S b o es.flatten → VRrows S k b o es
  | _,[],_,_ => trivial
  | o,e :: r,hk,hc => by
    rw [List.flatten_cons] at hc
    have h1 := hc.take e.length
    have h2 := hc.drop e.length
    have he := hk e (by simp)
    simp only [List.take_left',List.drop_left'] at h1 h2
    refine ⟨he,h1,VRrows.of (fun x hx => hk x (by simp [hx])) ?_⟩
    rw [← he]; exact h2
theorem VRrows.drop {S : Sit} {k b : Nat} : ∀ {o : Nat} {es : List (List DV)} (n : Nat),VRrows S k b o es → VRrows S k b (o + n * k) (es.drop n)
  | _,_,0,h => by simpa using h
  | _,[],_ + 1,_ => by simp [VRrows]
  | o,_ :: _,n + 1,⟨_,_,hr⟩ => by
    have := hr.drop n
    rw [show o + (n + 1) * k = o + k + n * k by rw [Nat.add_mul]; omega]; simpa using this
theorem VRrows.take {S : Sit} {k b : Nat} : ∀ {o : Nat} {es : List (List DV)} (n : Nat),VRrows S k b o es → VRrows S k b o (es.take n)
  | _,_,0,_ => by simp [VRrows]
  | _,[],_ + 1,_ => by simp [VRrows]
  | _,_ :: _,n + 1,⟨hk,hc,hr⟩ => ⟨hk,hc,hr.take n⟩
theorem X5 {k : Nat} : ∀ {es : List (List DV)},(∀ e ∈ es,e.length = k) → es.flatten.length = es.length * k
  | [],_ => by simp
  | e :: r,h => by
    rw [List.flatten_cons,yz20,X5 (fun x hx => h x (by simp [hx])),h e (by simp),zz20,Nat.add_mul]; omega
theorem Heap.row_append (H : Heap) (r : Option Row) (id : Nat) : Heap.row (H ++ [r]) id = if id < H.length then H.row id else if id = H.length then r else none := by
  unfold Heap.row
  split
  · rename_i h; rw [List.getElem?_append_left h]
  · rename_i h
    rw [List.getElem?_append_right (by omega)]
    split
    · rename_i h2; subst h2; simp
    · rename_i h2
      rw [List.getElem?_eq_none (by simp; omega)]; rfl
theorem Heap.row_lt {H : Heap} {id : Nat} {r : Row} (h : H.row id = some r) : id < H.length := by
  unfold Heap.row at h
  rcases Nat.lt_or_ge id H.length with x | x
  · exact x
  · rw [List.getElem?_eq_none x] at h; simp at h
theorem Heap.row_set (H : Heap) (j : Nat) (r : Option Row) (id : Nat) : Heap.row (H.set j r) id = if id = j ∧ j < H.length then r else H.row id := by
  unfold Heap.row
  rw [List.getElem?_set]
  by_cases h : j = id
  · subst h
    by_cases hl : j < H.length
    · simp [hl]
    · simp [hl]
  · rw [if_neg h,if_neg (by intro ⟨h1,_⟩; exact h h1.symm)]
def jz16 (e : List DV) (j : Nat) (cs : List DV) : List DV := e.take j ++ cs ++ e.drop (j + cs.length)
def upd {α : Type} (f : Nat → α) (n : Nat) (x : α) : Nat → α := fun i => if i = n then x else f i
theorem T1 {α : Type} (f : Nat → α) (n : Nat) (x : α) : upd f n x n = x := by simp [upd]
theorem yz1 {α : Type} (f : Nat → α) (n : Nat) (x : α) {i : Nat} (h : i ≠ n) : upd f n x i = f i := by simp [upd,h]
structure Alike (w w' : World) : Prop where
  heap : w'.heap = w.heap
  os : w'.os = w.os
  tape : w'.tape = w.tape
  output : w'.output = w.output
theorem Alike.refl (w : World) : Alike w w := ⟨rfl,rfl,rfl,rfl⟩
theorem Alike.drew (w : World) : Alike w w.drew := ⟨rfl,rfl,rfl,rfl⟩
def Sit.add (S : Sit) (w1 : World) (r : Row) (o : Obj) (c : Nat) : Sit :=
  { w := w1.alloc o,H := S.H ++ [some r],blk := upd S.blk S.H.length S.w.heap.size,bas := upd S.bas S.H.length 0,cap := upd S.cap S.H.length c,fz := S.fz }
theorem Sit.add_step {S : Sit} {w1 : World} (hw : Alike S.w w1) (r : Row) (o : Obj) (c : Nat) : Step S (S.add w1 r o c) where
  os := hw.os
  tape := hw.tape
  output := hw.output
  size := by simp [Sit.add,hw.heap]
  frame b hb _ := by show (w1.alloc o).heap[b]? = _; rw [Go.RowKit.Below.heap_alloc w1 o b (by rw [hw.heap]; exact hb),hw.heap]
  fz _ h := h
  fzof _ h := .inl h
  own b h := by
    obtain ⟨id,q,hq,he⟩ := h
    simp only [Sit.add] at hq he
    rw [Heap.row_append] at hq
    split at hq
    · rename_i hl
      rw [yz1 _ _ _ (by omega)] at he
      exact .inl ⟨id,q,hq,he⟩
    · split at hq
      · rename_i h2; subst h2; rw [T1] at he; exact .inr (by omega)
      · simp at hq
  len := by simp [Sit.add]
  ids id r' hl hr := by
    simp only [Sit.add] at hr
    rw [Heap.row_append,if_pos hl] at hr
    exact ⟨r',hr,rfl,by simp [Sit.add,yz1 _ _ _ (Nat.ne_of_lt hl)],by simp [Sit.add,yz1 _ _ _ (Nat.ne_of_lt hl)],by simp [Sit.add,yz1 _ _ _ (Nat.ne_of_lt hl)]⟩
theorem Sit.ok.blk_lt {S : Sit} (ok : S.ok) {id : Nat} {r : Row} (h : S.H.row id = some r) : S.blk id < S.w.heap.size := by
  obtain ⟨arr,lo,hi,h1,_⟩ := (ok.rows id r h).lie
  rcases Nat.lt_or_ge (S.blk id) S.w.heap.size with x | x
  · exact x
  · rw [Array.getElem?_eq_none x] at h1; simp at h1
theorem Sit.add_ok {S : Sit} (ok : S.ok) {w1 : World} (hw : Alike S.w w1) (r : Row) (arr : Array Value) (fr : Nat × Nat) (c : Nat) (vs : List Value)
    (hk : ∀ e ∈ r.es,e.length = r.k) (hv : VRs S r.es.flatten vs) (ha : ∀ (j : Nat) (v : Value),vs[j]? = some v → arr[j]? = some v) (hroom : c * r.k ≤ arr.size) (hc : r.es.length ≤ c)
    (hfr : ∀ o,r.frz * r.k ≤ o → o < arr.size → ¬ (fr.1 ≤ o ∧ o < fr.2)) (hz : r.frz ≤ r.es.length) (hsoft : r.soft = true → fr.1 = fr.2) : (S.add w1 r (.cells arr r.ty fr) c).ok := by
  have st := Sit.add_step hw r (.cells arr r.ty fr) c
  have hnew : (S.add w1 r (.cells arr r.ty fr) c).w.heap[S.w.heap.size]? = some (.cells arr r.ty fr) := by
    show (w1.heap.push _)[S.w.heap.size]? = _
    rw [hw.heap,Array.getElem?_push_size]
  constructor
  · intro id q hq
    simp only [Sit.add] at hq
    rw [Heap.row_append] at hq
    split at hq
    · rename_i hl
      refine (ok.rows id q hq).mono st ok ?_ ?_ ?_ ?_
      · show (w1.alloc _).heap[S.blk id]? = _
        rw [Go.RowKit.Below.heap_alloc w1 _ _ (by rw [hw.heap]; exact ok.blk_lt hq),hw.heap]
      all_goals simp [Sit.add,yz1 _ _ _ (Nat.ne_of_lt hl)]
    · split at hq
      · rename_i h2
        subst h2
        obtain rfl := Option.some.inj hq
        refine ⟨⟨arr,fr.1,fr.2,?_,?_,?_,fun h => .inl (hsoft h)⟩,⟨0,by simp [Sit.add,T1]⟩,?_,?_,hz⟩
        · simpa [Sit.add,T1] using hnew
        · simpa [Sit.add,T1] using hroom
        · simpa [Sit.add,T1] using hfr
        · simp only [Sit.add,T1]
          refine VRrows.of hk (VRcells.of (hv.mono st ok) fun j v hj => ?_)
          have := ha j v hj
          simp only [World.cell?,Sit.add] at hnew ⊢
          rw [hnew]; simpa using this
        · simpa [Sit.add,T1] using hc
      · simp at hq
  · intro id q hq
    simp only [Sit.add] at hq ⊢
    rw [Heap.row_append] at hq
    split at hq
    · rename_i hl
      rw [yz1 _ _ _ (by omega)]
      exact ok.free id q hq
    · split at hq
      · rename_i h2; subst h2; rw [T1]; intro h; exact absurd (ok.fzlt _ h) (by omega)
      · simp at hq
  · intro i j q q' hi hj he
    simp only [Sit.add] at hi hj he
    rw [Heap.row_append] at hi hj
    split at hi
    · rename_i hl
      rw [yz1 _ _ _ (by omega)] at he
      split at hj
      · rename_i hl'
        rw [yz1 _ _ _ (by omega)] at he
        exact ok.apart i j q q' hi hj he
      · split at hj
        · rename_i h2; subst h2; rw [T1] at he; exact absurd (ok.blk_lt hi) (by omega)
        · simp at hj
    · split at hi
      · rename_i h2
        subst h2
        rw [T1] at he
        split at hj
        · rename_i hl'
          rw [yz1 _ _ _ (by omega)] at he
          exact absurd (ok.blk_lt hj) (by omega)
        · split at hj
          · rename_i h3; exact h3.symm
          · simp at hj
      · simp at hi
  · intro b hb
    exact Nat.lt_of_lt_of_le (ok.fzlt b hb) st.size
def Sit.at (S : Sit) (w1 : World) : Sit := { S with w := w1 }
theorem Sit.at_step {S : Sit} {w1 : World} (hw : Alike S.w w1) : Step S (S.at w1) :=
  ⟨hw.os,hw.tape,hw.output,by simp [Sit.at,hw.heap],fun _ _ _ => by simp [Sit.at,hw.heap],fun _ h => h,fun _ h => .inl h,fun _ h => .inl h,jz18 _,fun _ r _ h => ⟨r,h,rfl,rfl,rfl,rfl⟩⟩
theorem Sit.at_ok {S : Sit} (ok : S.ok) {w1 : World} (hw : Alike S.w w1) : (S.at w1).ok where
  rows id r h := (ok.rows id r h).mono (Sit.at_step hw) ok (by simp [Sit.at,hw.heap]) rfl rfl rfl
  free := ok.free
  apart := ok.apart
  fzlt b h := by simp only [Sit.at,hw.heap]; exact ok.fzlt b h
def Sit.kill (S : Sit) (id : Nat) : Sit := { S with H := S.H.set id none }
theorem Sit.kill_row {S : Sit} {id j : Nat} {r : Row} (h : (S.kill id).H.row j = some r) : S.H.row j = some r ∧ j ≠ id := by
  simp only [Sit.kill] at h
  rw [Heap.row_set] at h
  split at h
  · simp at h
  · rename_i hn
    refine ⟨h,fun e => hn ⟨e,e ▸ Heap.row_lt h⟩⟩
theorem Sit.kill_step {S : Sit} (id : Nat) : Step S (S.kill id) :=
  ⟨rfl,rfl,rfl,jz18 _,fun _ _ _ => rfl,fun _ h => h,fun _ h => .inl h,
    fun _ ⟨j,r,h,e⟩ => .inl ⟨j,r,(Sit.kill_row h).1,e⟩,by simp [Sit.kill],fun _ r _ h => ⟨r,(Sit.kill_row h).1,rfl,rfl,rfl,rfl⟩⟩
theorem Sit.kill_ok {S : Sit} (ok : S.ok) (id : Nat) : (S.kill id).ok where
  rows j r h := (ok.rows j r (Sit.kill_row h).1).mono (Sit.kill_step id) ok rfl rfl rfl rfl
  free j r h := ok.free j r (Sit.kill_row h).1
  apart i j r s hi hj he := ok.apart i j r s (Sit.kill_row hi).1 (Sit.kill_row hj).1 he
  fzlt := ok.fzlt
end Go.Dx
end
section
namespace Go.Dx
open Go
mutual
def eqV : Value → Value → Bool
  | .bool a,.bool b => a == b
  | .int k a,.int l b => decide (k = l) && decide (a = b)
  | .float k a,.float l b => decide (k = l) && decide (a = b)
  | .complex k a c,.complex l b d => decide (k = l) && (decide (a = b) && decide (c = d))
  | .string a,.string b => decide (a = b)
  | .pointer a,.pointer b => decide (a = b)
  | .slice a m n,.slice b p q => decide (a = b) && (decide (m = p) && decide (n = q))
  | .map a,.map b => decide (a = b)
  | .chan a,.chan b => decide (a = b)
  | .func f a c,.func g b d => decide (f = g) && (eqA a b && eqA c d)
  | .nilFunc,.nilFunc => true
  | .iface t a,.iface u b => decide (t = u) && eqV a b
  | .nilIface,.nilIface => true
  | .agg a,.agg b => eqA a b
  | .tuple a,.tuple b => eqA a b
  | _,_ => false
def eqA : Array Value → Array Value → Bool
  | ⟨a⟩,⟨b⟩ => eqL a b
def eqL : List Value → List Value → Bool
  | [],[] => true
  | a :: r,b :: s => eqV a b && eqL r s
  | _,_ => false
end
mutual
theorem eqV_eq : ∀ (a b : Value),eqV a b = true → a = b
  | .bool a,b,h => by cases b <;> simp_all [eqV]
  | .int k a,b,h => by cases b <;> simp_all [eqV]
  | .float k a,b,h => by cases b <;> simp_all [eqV]
  | .complex k a c,b,h => by cases b <;> simp_all [eqV]
  | .string a,b,h => by cases b <;> simp_all [eqV]
  | .pointer a,b,h => by cases b <;> simp_all [eqV]
  | .slice a m n,b,h => by cases b <;> simp_all [eqV]
  | .map a,b,h => by cases b <;> simp_all [eqV]
  | .chan a,b,h => by cases b <;> simp_all [eqV]
  | .func f x y,b,h => by
    cases b <;> simp only [eqV,zz19,decide_eq_true_eq] at h <;> try (simp at h; done)
    obtain ⟨h1,h2,h3⟩ := h
    rw [h1,eqA_eq x _ h2,eqA_eq y _ h3]
  | .nilFunc,b,h => by cases b <;> simp_all [eqV]
  | .iface t a,b,h => by
    cases b <;> simp only [eqV,zz19,decide_eq_true_eq] at h <;> try (simp at h; done)
    obtain ⟨h1,h2⟩ := h
    rw [h1,eqV_eq a _ h2]
  | .nilIface,b,h => by cases b <;> simp_all [eqV]
  | .agg x,b,h => by
    cases b <;> simp only [eqV] at h <;> try (simp at h; done)
    rw [eqA_eq x _ h]
  | .tuple x,b,h => by
    cases b <;> simp only [eqV] at h <;> try (simp at h; done)
    rw [eqA_eq x _ h]
theorem eqA_eq : ∀ (a b : Array Value),eqA a b = true → a = b
  | ⟨a⟩,⟨b⟩,h => by simp only [eqA] at h; rw [eqL_eq a b h]
theorem eqL_eq : ∀ (a b : List Value),eqL a b = true → a = b
  | [],[],_ => rfl
  | a :: r,b :: s,h => by
    simp only [eqL,zz19] at h
    rw [eqV_eq a b h.1,eqL_eq r s h.2]
  | [],_ :: _,h => by simp [eqL] at h
  | _ :: _,[],h => by simp [eqL] at h
end
mutual
theorem eqV_refl : ∀ a : Value,eqV a a = true
  | .bool a => by simp [eqV]
  | .int k a => by simp [eqV]
  | .float k a => by simp [eqV]
  | .complex k a c => by simp [eqV]
  | .string a => by simp [eqV]
  | .pointer a => by simp [eqV]
  | .slice a m n => by simp [eqV]
  | .map a => by simp [eqV]
  | .chan a => by simp [eqV]
  | .func f x y => by simp [eqV,eqA_refl x,eqA_refl y]
  | .nilFunc => by simp [eqV]
  | .iface t a => by simp [eqV,eqV_refl a]
  | .nilIface => by simp [eqV]
  | .agg x => by simp [eqV,eqA_refl x]
  | .tuple x => by simp [eqV,eqA_refl x]
theorem eqA_refl : ∀ a : Array Value,eqA a a = true
  | ⟨a⟩ => by simp [eqA,eqL_refl a]
theorem eqL_refl : ∀ a : List Value,eqL a a = true
  | [] => by simp [eqL]
  | a :: r => by simp [eqL,eqV_refl a,eqL_refl r]
end
mutual
def same : DV → DV → Bool
  | .sc a,.sc b => eqV a b
  | .nil,.nil => true
  | .imm a,.imm b => sameLL a b
  | .osl a b c,.osl d e f => decide (a = d) && (decide (b = e) && decide (c = f))
  | .ptr a b c,.ptr d e f => decide (a = d) && (decide (b = e) && decide (c = f))
  | .iptr a,.iptr b => sameL a b
  | .agg a,.agg b => sameL a b
  | .tup a,.tup b => sameL a b
  | .fn f a,.fn g b => decide (f = g) && sameL a b
  | _,_ => false
def sameL : List DV → List DV → Bool
  | [],[] => true
  | a :: r,b :: s => same a b && sameL r s
  | _,_ => false
def sameLL : List (List DV) → List (List DV) → Bool
  | [],[] => true
  | a :: r,b :: s => sameL a b && sameLL r s
  | _,_ => false
end
mutual
theorem same_eq : ∀ (a b : DV),same a b = true → a = b
  | .sc a,b,h => by cases b <;> simp only [same] at h <;> first | (simp at h; done) | rw [eqV_eq a _ h]
  | .nil,b,h => by cases b <;> simp_all [same]
  | .imm a,b,h => by cases b <;> simp only [same] at h <;> first | (simp at h; done) | rw [sameLL_eq a _ h]
  | .osl _ _ _,b,h => by cases b <;> simp_all [same]
  | .ptr _ _ _,b,h => by cases b <;> simp_all [same]
  | .iptr a,b,h => by cases b <;> simp only [same] at h <;> first | (simp at h; done) | rw [sameL_eq a _ h]
  | .agg a,b,h => by cases b <;> simp only [same] at h <;> first | (simp at h; done) | rw [sameL_eq a _ h]
  | .tup a,b,h => by cases b <;> simp only [same] at h <;> first | (simp at h; done) | rw [sameL_eq a _ h]
  | .fn f a,b,h => by
    cases b <;> simp only [same,zz19,decide_eq_true_eq] at h <;> try (simp at h; done)
    rw [h.1,sameL_eq a _ h.2]
theorem sameL_eq : ∀ (a b : List DV),sameL a b = true → a = b
  | [],[],_ => rfl
  | a :: r,b :: s,h => by
    simp only [sameL,zz19] at h
    rw [same_eq a b h.1,sameL_eq r s h.2]
  | [],_ :: _,h => by simp [sameL] at h
  | _ :: _,[],h => by simp [sameL] at h
theorem sameLL_eq : ∀ (a b : List (List DV)),sameLL a b = true → a = b
  | [],[],_ => rfl
  | a :: r,b :: s,h => by
    simp only [sameLL,zz19] at h
    rw [sameL_eq a b h.1,sameLL_eq r s h.2]
  | [],_ :: _,h => by simp [sameLL] at h
  | _ :: _,[],h => by simp [sameLL] at h
end
mutual
theorem same_refl : ∀ a : DV,same a a = true
  | .sc a => by simp [same,eqV_refl a]
  | .nil => by simp [same]
  | .imm a => by simp [same,sameLL_refl a]
  | .osl _ _ _ => by simp [same]
  | .ptr _ _ _ => by simp [same]
  | .iptr a => by simp [same,jz7 a]
  | .agg a => by simp [same,jz7 a]
  | .tup a => by simp [same,jz7 a]
  | .fn f a => by simp [same,jz7 a]
theorem jz7 : ∀ a : List DV,sameL a a = true
  | [] => by simp [sameL]
  | a :: r => by simp [sameL,same_refl a,jz7 r]
theorem sameLL_refl : ∀ a : List (List DV),sameLL a a = true
  | [] => by simp [sameLL]
  | a :: r => by simp [sameLL,jz7 a,sameLL_refl r]
end
end Go.Dx
end
section
namespace Go.Dx
open Go
def P9 : DV := .tup []
def ofV1 : Value → DV
  | .slice none 0 0 => .nil
  | v => .sc v
def ofV : Value → DV
  | .agg a => .agg (a.toList.map ofV1)
  | v => ofV1 v
mutual
def toV? : DV → Option Value
  | .sc v => some v
  | .nil => some (.slice none 0 0)
  | .agg cs => (toVs? cs).map fun l => .agg l.toArray
  | .tup cs => (toVs? cs).map fun l => .tuple l.toArray
  | .fn f cs => (toVs? cs).map fun l => .func (.func f) #[] l.toArray
  | _ => none
def toVs? : List DV → Option (List Value)
  | [] => some []
  | v :: r => match toV? v,toVs? r with
    | some x,some xs => some (x :: xs)
    | _,_ => none
end
def pv? {α : Type} (P : Program) : Sem α → Option α
  | .pure a => some a
  | .program k => pv? P (k P)
  | _ => none
def DV.cells : DV → List DV
  | .agg cs => cs
  | .sc (.agg a) => a.toList.map ofV1
  | v => [v]
def DV.one : DV → Bool
  | .agg _ | .tup _ => false
  | .sc (.agg _) | .sc (.tuple _) => false
  | _ => true
def Q8 {α β : Type} (f : α → Option β) : List α → Option (List β)
  | [] => some []
  | a :: r => match f a,Q8 f r with
    | some b,some l => some (b :: l)
    | _,_ => none
inductive SOp where
  | mv (x : Operand)
  | pick (c a b : Operand)
  | alloc (ty : TypeId) (zero : List DV)
  | box (ty : TypeId) (x : Operand)
  | build (zero : List DV) (parts : List (Nat × Nat × Operand))
  | buildSlice (ty : TypeId) (k : Nat) (zero : List DV) (len : Nat) (parts : List (Nat × Operand))
  | load (agg : Bool) (n : Nat) (a : Operand)
  | store (n : Nat) (a x : Operand)
  | nilCheck (x : Operand)
  | bin (op : BinOp) (t : TypeId) (x y : Operand)
  | un (op : UnOp) (x : Operand)
  | conv (s d : TypeId) (x : Operand)
  | convBS (x : Operand)
  | convSB (ty : TypeId) (x : Operand)
  | index (t : TypeId) (x i : Operand)
  | sslice (t : TypeId) (x : Operand) (lo hi : Option Operand)
  | lslice (k : Nat) (x : Operand) (lo hi : Option Operand)
  | fieldAddr (off : Nat) (x : Operand)
  | field (agg : Bool) (off n : Nat) (x : Operand)
  | indexAddr (k : Nat) (x i : Operand)
  | extract (x : Operand) (i : Nat)
  | len (x : Operand)
  | blt (b : Builtin) (ts : Array TypeId) (t : TypeId) (xs : List Operand)
  | append (ty : TypeId) (k bytes : Nat) (s x : Operand)
  | makeSlice (ty : TypeId) (k bytes : Nat) (zero : List DV) (len cap : Operand)
  | mkfn (f : FuncId) (cs : List Operand)
  | call (f : FuncId) (xs : List Operand)
  | callv (f : Operand) (xs : List Operand)
  | ident (x : Operand)
  | eqNil (neg : Bool) (x : Operand)
  | eqPtr (neg : Bool) (x y : Operand)
  | toUnsafe (x : Operand)
  | fromUnsafe (ty : TypeId) (k : Nat) (x : Operand)
  | sliceData (x : Operand)
  | ustring (ty : TypeId) (p n : Operand)
  | bad
  deriving Inhabited
structure SOper where
  dst : Option Tmp
  op : SOp
  guard : Option (Nat × Bool)
inductive SCode where
  | skip
  | ops (l : List SOper)
  | seq (a b : SCode)
  | cond (c : Operand) (a b : SCode)
  | block (id : Nat) (a : SCode)
  | loop (a : SCode)
  | exit (id : Nat)
  | ret
  | draw (l : List (SOper × List Nat))
  | fail
  deriving Inhabited
inductive SRes where
  | tmp (t : Tmp)
  | cell (agg : Bool) (n : Nat) (t : Tmp)
structure SFunc where
  ntmps : Nat
  res : List SRes
  body : SCode
inductive DR where
  | val (v : DV) (H : Heap)
  | call (f : FuncId) (args : List DV)
  | fail
structure DS where
  sl : List DV
  H : Heap
section
variable (P : Program) (G : Nat → Option (List DV))
def dev (sl : List DV) : Operand → DV
  | .tmp t => sl.getD t P9
  | .const v => ofV v
  | .global g => match G g with | some cs => .iptr cs | none => .sc (.pointer (some ⟨g,0,none⟩))
  | .func f => .fn f []
def rval (H : Heap) : Option DV → DR
  | some v => .val v H
  | none => .fail
def Z7 (H : Heap) (s : Sem Value) : DR := rval H ((pv? P s).map ofV)
def dint : DV → Option Int
  | .sc (.int _ n) => some n
  | _ => none
def dload (H : Heap) (n : Nat) : DV → Option (List DV)
  | .ptr id i j => match H.row id with
    | some r => match r.es[i]? with
      | some e => if j + n ≤ e.length then some ((e.drop j).take n) else none
      | none => none
    | none => none
  | .iptr cs => if n ≤ cs.length then some (cs.take n) else none
  | _ => none
def dstore (H : Heap) (a : DV) (cs : List DV) : Option Heap :=
  match a with
  | .ptr id i j => match H.row id with
    | some r => match r.es[i]? with
      | some e => if j + cs.length ≤ e.length ∧ r.frz ≤ i ∧ cs.all DV.one then some (H.set id (some { r with es := r.es.set i (jz16 e j cs) })) else none
      | none => none
    | none => none
  | _ => none
def Z6 (H : Heap) (k : Nat) : DV → Option (List (List DV))
  | .nil => some []
  | .imm es => if es.all (·.length == k) then some es else none
  | .osl id off len => match H.row id with
    | some r => if r.k = k ∧ off + len ≤ r.es.length then some ((r.es.drop off).take len) else none
    | none => none
  | .sc (.string s) => if k = 1 then some (s.data.toList.map fun b => [.sc (.int .u8 b.toNat)]) else none
  | _ => none
def dlen : DV → Option Nat
  | .nil => some 0
  | .imm es => some es.length
  | .osl _ _ len => some len
  | _ => none
def yz10 (ty : TypeId) (k bytes : Nat) (H : Heap) (s x : DV) : Option (DV × Heap) :=
  match Z6 H k x with
  | none => none
  | some new => if new.isEmpty then (match s with
      | .nil => some (s,H)
      | .imm _ => some (s,H)
      | .osl id off len => match H.row id with
        | some r => if off + len ≤ r.es.length then some (s,H) else none
        | none => none
      | _ => none) else
    match s with
    | .nil => if new.length * bytes ≤ 2 ^ 47 ∧ 1 ≤ k then some (.osl H.length 0 new.length,H ++ [some { k := k,es := new,ty := ty }]) else none
    | .osl id off len => match H.row id with
      | some r => if r.k = k ∧ r.ty = ty ∧ off + len ≤ r.es.length ∧ r.frz ≤ off + len ∧ (len + new.length) * bytes ≤ 2 ^ 47 ∧ 1 ≤ k ∧ new.all (fun e => e.all DV.one) = true then
          some (.osl H.length 0 (len + new.length),H.set id none ++ [some { k := k,es := (r.es.drop off).take len ++ new,ty := ty,frz := r.frz - off,soft := r.soft }]) else none
      | none => none
    | _ => none
def dslice (H : Heap) (k : Nat) (x : DV) (l : Nat) (h : Option Nat) : Option DV :=
  match x with
  | .nil => if l = 0 ∧ h.getD 0 = 0 then some .nil else none
  | .imm es => let h := h.getD es.length
    if l ≤ h ∧ h ≤ es.length ∧ es.all (·.length == k) then some (.imm ((es.drop l).take (h - l))) else none
  | .osl id off len => let h := h.getD len
    match H.row id with
    | some r => if l ≤ h ∧ h ≤ len ∧ r.k = k ∧ off + len ≤ r.es.length then some (.osl id (off + l) (h - l)) else none
    | none => none
  | _ => none
def jz8 (H : Heap) (k : Nat) (x : DV) (i : Int) : Option DV :=
  match x with
  | .imm es => if 0 ≤ i then match es[i.toNat]? with
      | some e => if e.length = k ∧ 1 ≤ k then some (.iptr e) else none
      | none => none
    else none
  | .osl id off len => match H.row id with
    | some r => if 0 ≤ i ∧ i < len ∧ r.k = k ∧ off + len ≤ r.es.length then some (.ptr id (off + i.toNat) 0) else none
    | none => none
  | _ => none
def dfill (zero : List DV) : List (Nat × List DV) → Option (List DV)
  | [] => some zero
  | (off,cs) :: r => if off + cs.length ≤ zero.length then dfill (jz16 zero off cs) r else none
def dints (x : Option DV) : Option (Option Nat) :=
  match x with
  | none => some none
  | some d => match dint d with
    | some n => if 0 ≤ n then some (some n.toNat) else none
    | none => none
def dop (o : SOp) (sl : List DV) (H : Heap) : DR :=
  let ev := dev G sl
  match o with
  | .mv x => .val (ev x) H
  | .pick c a b => match ev c with
    | .sc (.bool t) => .val (if t then ev a else ev b) H
    | _ => .fail
  | .alloc ty zero => .val (.ptr H.length 0 0) (H ++ [some { k := zero.length,es := [zero],ty := ty }])
  | .box ty x => .val (.ptr H.length 0 0) (H ++ [some { k := (ev x).cells.length,es := [(ev x).cells],ty := ty }])
  | .build zero ps => rval H ((dfill zero (ps.map fun (off,n,x) => (off,((ev x).cells.take n)))).bind fun cs =>
      if ps.all fun (_,n,x) => (ev x).cells.length == n then some (.agg cs) else none)
  | .buildSlice ty k zero len ps =>
    match dfill ((List.replicate len zero).flatten) (ps.map fun (i,x) => (i * k,(ev x).cells)) with
    | some cs => if (ps.all fun (_,x) => (ev x).cells.length == k) ∧ zero.length = k ∧ 1 ≤ k then
        .val (.osl H.length 0 len) (H ++ [some { k := k,es := (List.range len).map fun i => (cs.drop (i * k)).take k,ty := ty }]) else .fail
    | none => .fail
  | .load agg n a => match dload H n (ev a) with
    | some cs => if agg then .val (.agg cs) H else match cs with | [v] => .val v H | _ => .fail
    | none => .fail
  | .store n a x => if (ev x).cells.length = n then (match dstore H (ev a) (ev x).cells with | some H' => .val P9 H' | none => .fail) else .fail
  | .nilCheck x => match ev x with
    | .ptr id i j => .val (.ptr id i j) H
    | .iptr cs => .val (.iptr cs) H
    | .fn f cs => .val (.fn f cs) H
    | _ => .fail
  | .bin op t x y => match toV? (ev x),toV? (ev y) with
    | some a,some b => Z7 P H (do eqGuard op t x y a b; binOp op t a b)
    | _,_ => .fail
  | .un op x => match toV? (ev x) with
    | some a => Z7 P H (Op.unary op a)
    | none => .fail
  | .conv s d x => match toV? (ev x) with
    | some a => Z7 P H (convert s d a)
    | none => .fail
  | .convBS x => match dlen (ev x),Z6 H 1 (ev x) with
    | some _,some es => rval H ((Q8 (fun e => match e with | [DV.sc (.int .u8 n)] => some (UInt8.ofNat n.toNat) | _ => none) es).map fun l => DV.sc (.string ⟨l.toArray⟩))
    | _,_ => .fail
  | .convSB ty x => match ev x with
    | .sc (.string s) => .val (.osl H.length 0 s.size) (H ++ [some { k := 1,es := s.data.toList.map fun b => [.sc (.int .u8 b.toNat)],ty := ty,soft := false }])
    | _ => .fail
  | .index t x i => match toV? (ev x),toV? (ev i) with
    | some a,some b => Z7 P H (Instr.index t a b)
    | _,_ => .fail
  | .sslice t x lo hi => match toV? (ev x),lo.map (fun o => toV? (ev o)),hi.map (fun o => toV? (ev o)) with
    | some a,none,none => Z7 P H (Instr.slice t a none none none)
    | some a,some (some l),none => Z7 P H (Instr.slice t a (some l) none none)
    | some a,none,some (some h) => Z7 P H (Instr.slice t a none (some h) none)
    | some a,some (some l),some (some h) => Z7 P H (Instr.slice t a (some l) (some h) none)
    | _,_,_ => .fail
  | .lslice k x lo hi => match dints (lo.map ev),dints (hi.map ev) with
    | some l,some h => rval H (dslice H k (ev x) (l.getD 0) h)
    | _,_ => .fail
  | .fieldAddr off x => match ev x with
    | .ptr id i j => .val (.ptr id i (j + off)) H
    | .iptr cs => .val (.iptr (cs.drop off)) H
    | _ => .fail
  | .field agg off n x => match ev x with
    | .agg cs => if agg then .val (.agg ((cs.drop off).take n)) H else rval H (cs[off]?)
    | _ => .fail
  | .indexAddr k x i => match dint (ev i) with
    | some n => rval H (jz8 H k (ev x) n)
    | none => .fail
  | .extract x i => match ev x with
    | .tup cs => rval H (cs[i]?)
    | _ => .fail
  | .len x => match dlen (ev x) with
    | some n => .val (.sc (.int .i64 n)) H
    | none => .fail
  | .blt b ts t xs => match toVs? (xs.map ev) with
    | some vs => match pv? P (builtin b ts t #[] vs.toArray) with
      | some (.value v) => .val (ofV v) H
      | _ => .fail
    | none => .fail
  | .append ty k bytes s x => match yz10 ty k bytes H (ev s) (ev x) with
    | some (v,H') => .val v H'
    | none => .fail
  | .makeSlice ty k bytes zero len cap => match dint (ev len),dint (ev cap) with
    | some l,some c => if 0 ≤ l ∧ l ≤ c ∧ c * bytes ≤ 2 ^ 47 ∧ c < 2 ^ 63 ∧ 1 ≤ k ∧ zero.length = k then
        .val (.osl H.length 0 l.toNat) (H ++ [some { k := k,es := List.replicate l.toNat zero,ty := ty }]) else .fail
    | _,_ => .fail
  | .mkfn f cs => .val (.fn f (cs.map ev)) H
  | .call f xs => .call f (xs.map ev)
  | .callv f xs => match ev f with
    | .fn g cs => .call g (xs.map ev ++ cs)
    | _ => .fail
  | .ident x => .val (ev x) H
  | .eqNil neg x => match ev x with
    | .ptr _ _ _ => .val (.sc (.bool neg)) H
    | .iptr _ => .val (.sc (.bool neg)) H
    | .sc (.pointer none) => .val (.sc (.bool !neg)) H
    | _ => .fail
  | .eqPtr neg x y => match ev x,ev y with
    | .ptr id i j,.ptr id' i' j' => if id = id' ∧ i = i' ∧ j = j' ∧ (H.row id).isSome then .val (.sc (.bool !neg)) H else .fail
    | _,_ => .fail
  | .toUnsafe x => match ev x with
    | .ptr id i j => match H.row id with
      | some r => if i < r.es.length ∧ j < r.k then .val (.ptr id i j) H else .fail
      | none => .fail
    | _ => .fail
  | .fromUnsafe ty k x => match ev x with
    | .ptr id i 0 => match H.row id with
      | some r => if i < r.es.length ∧ r.ty = ty ∧ r.k = k then .val (.ptr id i 0) H else .fail
      | none => .fail
    | _ => .fail
  | .sliceData x => match ev x with
    | .nil => .val (.sc (.pointer none)) H
    | .osl id off len => match H.row id with
      | some r => if 1 ≤ len ∧ off + len ≤ r.es.length then .val (.ptr id off 0) H else .fail
      | none => .fail
    | _ => .fail
  | .ustring ty p n => match dint (ev n) with
    | some m => match ev p with
      | .sc (.pointer none) => if m = 0 then .val (.sc (.string ⟨#[]⟩)) H else .fail
      | .ptr id i 0 => match H.row id with
        | some r => if 1 ≤ m ∧ m < 2 ^ 62 ∧ i + m.toNat ≤ r.es.length ∧ r.ty = ty ∧ r.k = 1 ∧ r.soft = true then
            (match Q8 (fun e => match e with | [DV.sc (.int .u8 n)] => some (UInt8.ofNat n.toNat) | _ => none) ((r.es.drop i).take m.toNat) with
            | some l => .val (.sc (.string ⟨l.toArray⟩)) (H.set id (some { r with frz := max r.frz (i + m.toNat) }))
            | none => .fail) else .fail
        | none => .fail
      | _ => .fail
    | none => .fail
  | .bad => .fail
abbrev U8 := FuncId → List DV → Heap → Option (DV × Heap)
def dput (sl : List DV) (d : Option Tmp) (v : DV) : List DV := match d with | some t => sl.set t v | none => sl
def Y7 (sl : List DV) : Option (Nat × Bool) → Bool
  | none => true
  | some (t,b) => match sl[t]? with
    | some (.sc (.bool c)) => c == b
    | _ => false
def jz3 (sl : List DV) : Option (Nat × Bool) → Bool
  | none => true
  | some (t,_) => match sl[t]? with
    | some (.sc (.bool _)) => true
    | some (.tup []) => true
    | _ => false
def dops (call : U8) : List SOper → DS → Option DS
  | [],s => some s
  | o :: r,s => if jz3 s.sl o.guard = true then if Y7 s.sl o.guard = true then
      match dop P G o.op s.sl s.H with
      | .val v H => dops call r ⟨dput s.sl o.dst v,H⟩
      | .call f args => match call f args s.H with
        | some (v,H) => dops call r ⟨dput s.sl o.dst v,H⟩
        | none => none
      | .fail => none
    else dops call r ⟨dput s.sl o.dst P9,s.H⟩ else none
def SOp.operands : SOp → List Operand
  | .mv x | .box _ x | .load _ _ x | .nilCheck x | .un _ x | .conv _ _ x | .convBS x | .convSB _ x | .fieldAddr _ x | .field _ _ _ x | .extract x _ | .len x | .ident x | .eqNil _ x | .toUnsafe x | .fromUnsafe _ _ x | .sliceData x => [x]
  | .pick c a b => [c,a,b]
  | .alloc _ _ => []
  | .bad => []
  | .build _ ps => ps.map fun p => p.2.2
  | .buildSlice _ _ _ _ ps => ps.map fun p => p.2
  | .store _ a x | .bin _ _ a x | .index _ a x | .indexAddr _ a x | .append _ _ _ a x | .makeSlice _ _ _ _ a x | .eqPtr _ a x | .ustring _ a x => [a,x]
  | .sslice _ x lo hi | .lslice _ x lo hi => x :: (lo.toList ++ hi.toList)
  | .blt _ _ _ xs | .mkfn _ xs | .call _ xs => xs
  | .callv f xs => f :: xs
def SOp.turns : SOp → Bool
  | .alloc .. | .box .. | .buildSlice .. | .store .. | .convSB .. | .ustring .. | .append .. | .makeSlice .. | .call .. | .callv .. => true
  | _ => false
def Y8 (call : U8) (o : SOper) (sl : List DV) (H : Heap) : Option (DV × Heap) :=
  if jz3 sl o.guard = true then if Y7 sl o.guard = true then
    match dop P G o.op sl H with
    | .val v H' => some (v,H')
    | .call f args => call f args H
    | .fail => none
  else some (P9,H) else none
def SOper.reads (o : SOper) : List Tmp := (o.op.operands.filterMap fun | .tmp t => some t | _ => none) ++ (o.guard.map (·.1)).toList
def ahead (es : List (List Nat)) : Nat → Nat → Nat → Bool
  | 0,_,_ => false
  | n + 1,i,j => (es.getD j []).any fun k => k == i || ahead es n i k
def trace (call : U8) : List SOper → List DV → Heap → Option (List (List DV × DV × Heap))
  | [],_,_ => some []
  | o :: r,sl,H => match Y8 P G call o sl H with
    | none => none
    | some (v,H') => (trace call r (dput sl o.dst v) H').map fun l => (sl,v,H') :: l
def U4 (l : List SOper) (i : Nat) : Bool := (l[i]?.map (·.op.turns)).getD false
def drawn? (l : List SOper) (es : List (List Nat)) : Bool :=
  (List.range l.length).all fun j => (List.range j).all fun i =>
    match l[i]?,l[j]? with
    | some a,some b => (!(a.op.turns && b.op.turns) || ahead es l.length i j) &&
        (!(a.dst.isSome && a.dst == b.dst)) &&
        (!((a.dst.map fun t => b.reads.contains t).getD false || (b.dst.map fun t => a.reads.contains t).getD false) || ahead es l.length i j)
    | _,_ => true
def Z4 (l : List SOper) (tr : List (List DV × DV × Heap)) (H : Heap) : List Heap :=
  H :: ((l.zip tr).filter fun p => p.1.op.turns).map fun p => p.2.2.2
def lowAt (l : List SOper) (es : List (List Nat)) (j : Nat) : Nat := ((List.range l.length).filter fun i => U4 l i && (i < j && ahead es l.length i j)).length
def highAt (l : List SOper) (es : List (List Nat)) (j : Nat) : Nat := ((List.range l.length).filter fun i => U4 l i && !(j < i && ahead es l.length j i)).length
def steady (call : U8) (l : List SOper) (es : List (List Nat)) (tr : List (List DV × DV × Heap)) (hs : List Heap) : Bool :=
  (List.range l.length).all fun j => match l[j]?,tr[j]? with
    | some o,some x => o.op.turns || (List.range hs.length).all fun k => match hs[k]? with
      | some h => !(decide (lowAt l es j ≤ k) && decide (k ≤ highAt l es j)) || (match Y8 P G call o x.1 h with
        | some (v,_) => same v x.2.1
        | none => false)
      | none => true
    | _,_ => false
def ddraw (call : U8) (l : List (SOper × List Nat)) (s : DS) : Option DS :=
  let ops := l.map (·.1)
  let es := l.map (·.2)
  match trace P G call ops s.sl s.H with
  | none => none
  | some tr => if (drawn? ops es && steady P G call ops es tr (Z4 ops tr s.H)) = true then dops P G call ops s else none
inductive Ex where
  | normal | exit (id : Nat) | ret
  deriving DecidableEq,Repr
def loopN (f : DS → Option (Ex × DS)) : Nat → DS → Option (Ex × DS)
  | 0,_ => none
  | n + 1,s => match f s with
    | some (.normal,s') => loopN f n s'
    | r => r
def run (call : U8) (n : Nat) : SCode → DS → Option (Ex × DS)
  | .skip,s => some (.normal,s)
  | .ops l,s => (dops P G call l s).map fun s' => (.normal,s')
  | .seq a b,s => match run call n a s with
    | some (.normal,s') => run call n b s'
    | r => r
  | .cond c a b,s => match dev G s.sl c with
    | .sc (.bool t) => if t then run call n a s else run call n b s
    | _ => none
  | .block id a,s => match run call n a s with
    | some (.exit j,s') => if j = id then some (.normal,s') else some (.exit j,s')
    | r => r
  | .loop a,s => loopN (run call n a) n s
  | .exit id,s => some (.exit id,s)
  | .ret,s => some (.ret,s)
  | .fail,_ => none
  | .draw l,s => (ddraw P G call l s).map fun s' => (.normal,s')
end
def dres (s : DS) : SRes → Option DV
  | .tmp t => some (s.sl.getD t P9)
  | .cell agg n t => match dload s.H n (s.sl.getD t P9) with
    | some cs => if agg then some (.agg cs) else match cs with | [v] => some v | _ => none
    | none => none
def U1 (s : DS) : List SRes → Option (List DV)
  | [] => some []
  | r :: l => match dres s r,U1 s l with
    | some v,some vs => some (v :: vs)
    | _,_ => none
def done? : Ex → Bool
  | .exit _ => false
  | _ => true
def frz (H : Heap) : Nat → DV → Option DV
  | 0,_ => none
  | _ + 1,.sc v => some (.sc v)
  | _ + 1,.nil => some (.imm [])
  | _ + 1,.imm es => some (.imm es)
  | n + 1,.osl id off len => match H.row id with
    | some r => if off + len ≤ r.es.length then (Q8 (Q8 (frz H n)) ((r.es.drop off).take len)).map DV.imm else none
    | none => none
  | n + 1,.agg cs => (Q8 (frz H n) cs).map DV.agg
  | n + 1,.tup cs => (Q8 (frz H n) cs).map DV.tup
  | n + 1,.fn f cs => (Q8 (frz H n) cs).map (DV.fn f)
  | _ + 1,.iptr _ => none
  | _ + 1,.ptr _ _ _ => none
mutual
def flat : DV → Bool
  | .sc _ => true
  | .nil => true
  | .imm es => es.isEmpty
  | .osl _ _ _ => false
  | .ptr _ _ _ => false
  | .iptr _ => false
  | .agg cs => flatL cs
  | .tup cs => flatL cs
  | .fn _ cs => flatL cs
def flatL : List DV → Bool
  | [] => true
  | v :: r => flat v && flatL r
end
structure Cfg where
  G : Nat → Option (List DV)
  code : FuncId → Option SFunc
  prim : FuncId → Option (List DV → Option DV)
  pu : FuncId → Bool
def W4 : Nat := 8
def pcall (d : U8) (f : FuncId) (args : List DV) (H : Heap) : Option (DV × Heap) :=
  match Q8 (frz H W4) args with
  | none => none
  | some args' => match d f args' [] with
    | none => none
    | some (v,H') => match frz H' W4 v with
      | none => none
      | some v' => if T8 args || flat v' then some (v',H) else none
def caller (cfg : Cfg) (d : U8) : U8 := fun f args H =>
  if cfg.pu f then pcall d f args H else d f args H
def D (P : Program) (cfg : Cfg) : Nat → U8
  | 0 => fun _ _ _ => none
  | n + 1 => fun f args H =>
    match cfg.prim f with
    | some g => (g args).map fun v => (v,H)
    | none => match cfg.code f with
      | none => none
      | some sf => match run P cfg.G (caller cfg (D P cfg n)) n sf.body ⟨args ++ List.replicate (sf.ntmps - args.length) P9,H⟩ with
        | none => none
        | some (ex,s) => if done? ex then (match U1 s sf.res with
          | some [v] => some (v,s.H)
          | some vs => some (.tup vs,s.H)
          | none => none) else none
def DP (P : Program) (cfg : Cfg) (n : Nat) (f : FuncId) (args : List DV) : Option DV :=
  match D P cfg n f args [] with
  | none => none
  | some (v,H) => frz H W4 v
end Go.Dx
end
