/- A part of the proof of VarFills: rules of an interpreter of the program's code, shown to answer as the model does. -/
import Derived.Lib.Builder
import Derived.Test.YtcclgnddbgaigaaDoorT03
open Nat renaming le_refl → jz18, add_zero → jz21
open List renaming length_cons → zz20, map_nil → zz23, map_cons → yz23
open Option renaming map_eq_some_iff → jz20, map_none → jz23, bind_some → zz24
open Bool renaming false_eq_true → yz21
set_option linter.all false
section
namespace Go.Dx
open Go
section
variable {P : Program} {G : Nat → Option (List DV)}
def ptrOp (neg : Bool) : BinOp := if neg = true then .neq else .eql
theorem op_eqNil {S : Sit} {sl : List DV} {a : Act} (ok : S.ok) (hg : Glob G S) (hs : VRs S sl a.tmps.toList) {v : DV} {H' : Heap} {x : Operand} {t e : TypeId} {neg : Bool}
    (h1 : P.underlying t = some (.pointer e)) (h : dop P G (.eqNil neg x) sl S.H = .val v H') :
    Did S H' v ((do Pure.pure (Next.value (← (do eqGuard (ptrOp neg) t x (.const (.pointer none)) (a.eval x) (a.eval (.const (.pointer none))); binOp (ptrOp neg) t (a.eval x) (a.eval (.const (.pointer none))) : Sem Value))) : Sem Next).run P S.w) := by
  have hx := S3 hg hs x
  have e0 : a.eval (.const (.pointer none)) = .pointer none := rfl
  have key : ∀ p,a.eval x = .pointer p → ((do Pure.pure (Next.value (← (do eqGuard (ptrOp neg) t x (.const (.pointer none)) (a.eval x) (a.eval (.const (.pointer none))); binOp (ptrOp neg) t (a.eval x) (a.eval (.const (.pointer none))) : Sem Value))) : Sem Next).run P S.w) =
      .ok (.value (.bool (if neg then p.isSome else p.isNone))) S.w := by
    intro p hp
    rw [e0,hp]
    have he : ∀ d,(Op.equalIn (d + 1) t (.pointer p) (.pointer none)).run P S.w = .ok p.isNone S.w := by
      intro d
      cases p <;> simp [Op.equalIn,run_underlying h1]
    cases neg <;> simp [ptrOp,eqGuard,binOp,Op.equal,Op.maxDepth,he 9999]
  simp only [dop] at h
  split at h
  · rename_i id i j hd
    obtain ⟨rfl,rfl⟩ := DR.val.inj h
    rw [hd] at hx
    obtain ⟨⟨b,o,hp⟩,_⟩ := hx
    rw [key _ hp]
    exact Did.same ok (by cases neg <;> rfl)
  · rename_i cs hd
    obtain ⟨rfl,rfl⟩ := DR.val.inj h
    rw [hd] at hx
    obtain ⟨_,b,o,hp,_⟩ := hx
    rw [key _ hp]
    exact Did.same ok (by cases neg <;> rfl)
  · rename_i hd
    obtain ⟨rfl,rfl⟩ := DR.val.inj h
    rw [hd] at hx
    have hx : a.eval x = .pointer none := hx
    rw [key _ hx]
    exact Did.same ok (by cases neg <;> rfl)
  · cases h
theorem op_eqPtr {S : Sit} {sl : List DV} {a : Act} (ok : S.ok) (hg : Glob G S) (hs : VRs S sl a.tmps.toList) {v : DV} {H' : Heap} {x y : Operand} {t e : TypeId} {neg : Bool}
    (h1 : P.underlying t = some (.pointer e)) (he : (P.info? e).isSome = true) (h : dop P G (.eqPtr neg x y) sl S.H = .val v H') :
    Did S H' v ((do Pure.pure (Next.value (← (do eqGuard (ptrOp neg) t x y (a.eval x) (a.eval y); binOp (ptrOp neg) t (a.eval x) (a.eval y) : Sem Value))) : Sem Next).run P S.w) := by
  have hx := S3 hg hs x
  have hy := S3 hg hs y
  obtain ⟨ti,hti⟩ := Option.isSome_iff_exists.1 he
  simp only [dop] at h
  split at h
  · rename_i id i j id' i' j' hd hd'
    split at h
    · rename_i hc
      obtain ⟨rfl,rfl,rfl,hlive⟩ := hc
      obtain ⟨rfl,rfl⟩ := DR.val.inj h
      obtain ⟨r,hr⟩ := Option.isSome_iff_exists.1 hlive
      rw [hd] at hx
      rw [hd'] at hy
      have hp := hx.2.2 r hr
      have hq := hy.2.2 r hr
      have hr : ((do Pure.pure (Next.value (← (do eqGuard (ptrOp neg) t x y (a.eval x) (a.eval y); binOp (ptrOp neg) t (a.eval x) (a.eval y) : Sem Value))) : Sem Next).run P S.w) = .ok (.value (.bool !neg)) S.w := by
        rw [hp,hq]
        have hE : ∀ d,(Op.equalIn (d + 1) t (.pointer (some ⟨S.blk id,S.bas id + i * r.k + j,none⟩)) (.pointer (some ⟨S.blk id,S.bas id + i * r.k + j,none⟩))).run P S.w = .ok true S.w := by
          intro d
          simp [Op.equalIn,run_underlying h1,sizeOf,typeInfo,hti,run_sameAddr_same]
        cases neg <;> simp [ptrOp,eqGuard,binOp,Op.equal,Op.maxDepth,hE 9999]
      rw [hr]
      exact Did.same ok rfl
    · cases h
  · cases h
theorem row_cells {S : Sit} (ok : S.ok) {id : Nat} {r : Row} (hr : S.H.row id = some r) : ∃ n,S.w.shape? (S.blk id) = some (r.ty,n) ∧ S.bas id + S.cap id * r.k ≤ n := by
  obtain ⟨arr,lo,hi,hh,hsz,_⟩ := (ok.rows id r hr).lie
  exact ⟨arr.size,by simp [World.shape?,hh],hsz⟩
theorem op_toUnsafe {S : Sit} {sl : List DV} {a : Act} (ok : S.ok) (hg : Glob G S) (hs : VRs S sl a.tmps.toList) {v : DV} {H' : Heap} {x : Operand} {s d t : TypeId} {n : Nat}
    (h1 : P.underlying s = some (.pointer t)) (h2 : P.underlying d = some .unsafePointer) (h3 : zz3 P t = some n) (h4 : n ≠ 0) (h : dop P G (.toUnsafe x) sl S.H = .val v H') :
    Did S H' v ((do Pure.pure (Next.value (← convert s d (a.eval x))) : Sem Next).run P S.w) := by
  have hx := S3 hg hs x
  simp only [zz3,jz20] at h3
  obtain ⟨ti,hti,rfl⟩ := h3
  simp only [dop] at h
  split at h
  · rename_i id i j hd
    split at h
    · rename_i r hr
      split at h
      · rename_i hc
        obtain ⟨rfl,rfl⟩ := DR.val.inj h
        rw [hd] at hx
        have hp := hx.2.2 r hr
        obtain ⟨m,hsh,hm⟩ := row_cells ok hr
        have hR := ok.rows id r hr
        have : (i + 1) * r.k ≤ S.cap id * r.k := Nat.mul_le_mul_right _ (by have := hR.room; omega)
        rw [Nat.add_mul] at this
        have hrun := Lib.run_to_unsafe (P := P) S.w (src := s) (dst := d) (e := r.ty) (cells := m) ⟨S.blk id,S.bas id + i * r.k + j,none⟩ h1 h2 hti h4 hsh (by show S.bas id + i * r.k + j < m; omega)
        have hr' : ((do Pure.pure (Next.value (← convert s d (a.eval x))) : Sem Next).run P S.w) = .ok (.value (a.eval x)) S.w := by
          simp only [Sem.run_bind]; rw [hp,hrun]; rfl
        rw [hr']
        exact Did.same ok hx
      · cases h
    · cases h
  · cases h
theorem liesAt_row {u : TypeId} {k m n i q : Nat} (hd : 1 ≤ P.depth) (hs : sameLayout P P.depth u u = true) (hk : P.cellsOf u = k) (hk1 : 1 ≤ k) (hq : (m + i + q) * k ≤ n) : liesAt P P.depth u (n / P.cellsOf u) (m * k + i * k) u q = true := by
  obtain ⟨d,hd⟩ : ∃ d,P.depth = d + 1 := ⟨P.depth - 1,by omega⟩
  rw [hk]
  have hrow : rowAt P (sameLayout P P.depth · u) P.depth u (n / k) (m * k + i * k) q = true := by
    rw [hd]
    unfold rowAt
    rw [hk]
    have h0 : ¬ k = 0 := by omega
    rw [← Nat.add_mul]
    have e1 : (m + i) * k / k = m + i := Nat.mul_div_cancel _ (by omega)
    have e2 : (m + i) * k % k = 0 := Nat.mul_mod_left _ _
    have e3 : m + i + q ≤ n / k := (Nat.le_div_iff_mul_le (by omega)).2 hq
    rw [← hd]
    simp only [if_neg h0,e1,e2,hs,e3,decide_true,Bool.and_true,beq_self_eq_true,Bool.true_or]
  rw [hd] at hrow ⊢
  unfold liesAt
  rw [hd,hrow]
  rfl
theorem op_fromUnsafe {S : Sit} {sl : List DV} {a : Act} (ok : S.ok) (hg : Glob G S) (hs : VRs S sl a.tmps.toList) {v : DV} {H' : Heap} {x : Operand} {s d u : TypeId} {k : Nat}
    (h1 : P.underlying s = some .unsafePointer) (h2 : P.underlying d = some (.pointer u)) (h3 : zz3 P u = some k) (h4 : 1 ≤ k) (h5 : 1 ≤ P.depth) (h6 : sameLayout P P.depth u u = true)
    (h : dop P G (.fromUnsafe u k x) sl S.H = .val v H') : Did S H' v ((do Pure.pure (Next.value (← convert s d (a.eval x))) : Sem Next).run P S.w) := by
  have hx := S3 hg hs x
  simp only [zz3,jz20] at h3
  obtain ⟨ti,hti,rfl⟩ := h3
  simp only [dop] at h
  split at h
  · rename_i id i hd
    split at h
    · rename_i r hr
      split at h
      · rename_i hc
        obtain ⟨hi,hty,hrk⟩ := hc
        obtain ⟨rfl,rfl⟩ := DR.val.inj h
        rw [hd] at hx
        have hp := hx.2.2 r hr
        obtain ⟨m,hsh,hm⟩ := row_cells ok hr
        have hR := ok.rows id r hr
        obtain ⟨m0,hm0⟩ := hR.mult
        have hck : P.cellsOf u = ti.size := by simp [Program.cellsOf,hti]
        have hle : (m0 + i + 1) * ti.size ≤ m := by
          have : (i + 1) * r.k ≤ S.cap id * r.k := Nat.mul_le_mul_right _ (by have := hR.room; omega)
          rw [hm0,hrk] at hm
          rw [hrk] at this
          rw [Nat.add_assoc,Nat.add_mul m0]; omega
        have hl := liesAt_row (P := P) (u := u) (m := m0) (i := i) (q := 1) h5 h6 hck h4 hle
        have hrun := Lib.run_from_unsafe (P := P) S.w (src := s) (dst := d) (u := u) (e := r.ty) (cells := m) ⟨S.blk id,S.bas id + i * r.k + 0,none⟩ h1 h2 hti hsh (by
          show liesAt P P.depth r.ty (m / P.cellsOf r.ty) (S.bas id + i * r.k + 0) u 1 = true
          rw [hty,hm0,hrk]; exact hl)
        have hr' : ((do Pure.pure (Next.value (← convert s d (a.eval x))) : Sem Next).run P S.w) = .ok (.value (a.eval x)) S.w := by
          simp only [Sem.run_bind]; rw [hp,hrun]; rfl
        rw [hr']
        exact Did.same ok hx
      · cases h
    · cases h
  · cases h
theorem op_sliceData {S : Sit} {sl : List DV} {a : Act} (ok : S.ok) (hg : Glob G S) (hs : VRs S sl a.tmps.toList) {v : DV} {H' : Heap} {x : Operand} {ts : Array TypeId} {ty : TypeId}
    (h : dop P G (.sliceData x) sl S.H = .val v H') : Did S H' v ((do Pure.pure (Next.value (← Builtin.unsafeSliceData_ ts ty #[a.eval x])) : Sem Next).run P S.w) := by
  have hx := S3 hg hs x
  simp only [dop] at h
  split at h
  · rename_i hd
    obtain ⟨rfl,rfl⟩ := DR.val.inj h
    rw [hd] at hx
    have hx : a.eval x = .slice none 0 0 := hx
    have hr : ((do Pure.pure (Next.value (← Builtin.unsafeSliceData_ ts ty #[a.eval x])) : Sem Next).run P S.w) = .ok (.value (.pointer none)) S.w := by
      rw [hx]; rfl
    rw [hr]
    exact Did.same ok rfl
  · rename_i id off len hd
    split at h
    · rename_i r hr
      split at h
      · rename_i hc
        obtain ⟨rfl,rfl⟩ := DR.val.inj h
        rw [hd] at hx
        obtain ⟨_,hlt,hq⟩ := hx
        rcases hq r hr with ⟨n,he,hn⟩ | ⟨h0,_⟩
        · have := (ok.rows id r hr).room
          have hn0 : n ≠ 0 := by omega
          have hr' : ((do Pure.pure (Next.value (← Builtin.unsafeSliceData_ ts ty #[a.eval x])) : Sem Next).run P S.w) = .ok (.value (.pointer (some ⟨S.blk id,S.bas id + off * r.k,none⟩))) S.w := by
            have e1 : Builtin.unsafeSliceData_ ts ty #[.slice (some ⟨S.blk id,S.bas id + off * r.k,none⟩) len n] = (if n ≠ 0 then Pure.pure (.pointer (some ⟨S.blk id,S.bas id + off * r.k,none⟩)) else
                do if (← viewAt (S.blk id)).isSome then Pure.pure (.pointer (some ⟨S.blk id,S.bas id + off * r.k,none⟩)) else Pure.pure (.pointer (some ⟨← newObj (.view ⟨S.blk id,S.bas id + off * r.k,none⟩ (← elemOf ty)),0,none⟩)) : Sem Value) := rfl
            rw [he,e1,if_pos hn0]; rfl
          rw [hr']
          refine Did.same ok ⟨⟨_,_,rfl⟩,hlt,fun r' hr'' => ?_⟩
          obtain rfl := Option.some.inj (hr.symm.trans hr'')
          rfl
        · omega
      · cases h
    · cases h
  · cases h
theorem run_noEscape_call {f : FuncId} {fn : Func} (h1 : P.funcs[f]? = some fn) (h2 : fn.body.isNone = true) (h3 : fn.name = "internal/abi.NoEscape") (h4 : fn.origin = "") (v : Value) (w : World) :
    (callFunc f #[v]).run P w = .ok (.value v) w := by
  have hp : (program).run P w = .ok P w := rfl
  have e1 : Extern.findNext fn = none := by
    have a1 : Extern.allNextRows.lookup "internal/abi.NoEscape" = none := by kernel_rfl
    have a2 : Extern.allNextRows.lookup "" = none := by kernel_rfl
    simp [Extern.findNext,h3,h4,a1,a2]
  have e2 : Extern.find fn = some Extern.AbiNoEscape.same := by
    have a1 : Extern.allGenericRows.lookup "internal/abi.NoEscape" = none := by kernel_rfl
    have a2 : Extern.allTypedRows.lookup "internal/abi.NoEscape" = none := by kernel_rfl
    have a3 : Extern.allRows.lookup "internal/abi.NoEscape" = some Extern.AbiNoEscape.same := by kernel_rfl
    simp [Extern.find,h3,a1,a2,a3]
  simp only [callFunc,Sem.run_bind,hp,Result.andThen_ok,h1,h2]
  rw [h3]
  have e3 : Extern.AbiNoEscape.same #[v] = Pure.pure v := rfl
  simp [e1,e2,e3]
theorem run_loadBytes (w : World) : ∀ (ns : List Int) (a : Addr) (acc : ByteArray),(∀ (j : Nat) (n : Int),ns[j]? = some n → w.cell? (a.add j) = some (.int .u8 n)) →
    (loadBytes a acc ns.length).run P w = .ok (acc ++ ⟨(ns.map fun n => UInt8.ofNat n.toNat).toArray⟩) w
  | [],a,acc,_ => by simp [loadBytes]; apply ByteArray.ext; simp
  | n :: r,a,acc,h => by
    have h0 := h 0 n rfl
    have e0 : a.add 0 = a := by simp [Addr.add]
    rw [e0] at h0
    have ih := run_loadBytes w r (a.add 1) (acc.push n.toNat.toUInt8) (fun j m hj => by
      have := h (j + 1) m (by simpa using hj)
      have e : (a.add 1).add j = a.add (j + 1) := by
        unfold Addr.add
        by_cases hj0 : j = 0
        · subst hj0; simp
        · simp [hj0]; omega
      rw [e]; exact this)
    simp only [zz20,loadBytes,Sem.run_bind,run_load,h0,Result.andThen_ok]
    rw [ih]
    congr 1
    apply ByteArray.ext
    simp [ByteArray.push]
def Sit.ice (S : Sit) (id : Nat) (r : Row) (i n : Nat) : Sit :=
  { S with w := S.w.freeze ⟨S.blk id,S.bas id + i,none⟩ n,H := S.H.set id (some { r with frz := max r.frz (i + n) }) }
theorem freeze_heap {w : World} {b o n : Nat} {arr : Array Value} {t lo hi : Nat} (hn : n ≠ 0) (h : w.heap[b]? = some (.cells arr t (lo,hi))) :
    (∀ c,c ≠ b → (w.freeze ⟨b,o,none⟩ n).heap[c]? = w.heap[c]?) ∧ (w.freeze ⟨b,o,none⟩ n).heap[b]? = some (.cells arr t (if lo == hi then (o,o + n) else (min lo o,max hi (o + n)))) ∧
      (w.freeze ⟨b,o,none⟩ n).heap.size = w.heap.size ∧ (w.freeze ⟨b,o,none⟩ n).os = w.os ∧ (w.freeze ⟨b,o,none⟩ n).tape = w.tape ∧ (w.freeze ⟨b,o,none⟩ n).output = w.output := by
  simp only [World.freeze,if_neg hn]
  refine ⟨fun c hc => ?_,?_,?_,trivial,trivial,trivial⟩
  · rw [Array.getElem?_modify,if_neg (fun e => hc e.symm)]
  · rw [Array.getElem?_modify,if_pos rfl,h]; rfl
  · simp
theorem ice_row {S : Sit} {id j : Nat} {r q : Row} {i n : Nat} (h0 : S.H.row id = some r) (h : (S.ice id r i n).H.row j = some q) :
    (j = id ∧ q = { r with frz := max r.frz (i + n) }) ∨ (j ≠ id ∧ S.H.row j = some q) := by
  simp only [Sit.ice] at h
  rw [Heap.row_set] at h
  split at h
  · rename_i hn; exact .inl ⟨hn.1,(Option.some.inj h).symm⟩
  · rename_i hn; exact .inr ⟨fun e => hn ⟨e,Heap.row_lt h0⟩,h⟩
theorem ice_step {S : Sit} (ok : S.ok) {id : Nat} {r : Row} {i n : Nat} (hn : n ≠ 0) (h0 : S.H.row id = some r) : Step S (S.ice id r i n) := by
  obtain ⟨arr,lo,hi,hh,_⟩ := (ok.rows id r h0).lie
  obtain ⟨f1,f2,f3,f4,f5,f6⟩ := freeze_heap (o := S.bas id + i) hn hh
  refine ⟨f4,f5,f6,Nat.le_of_eq f3.symm,fun b _ hb => f1 b (fun e => hb ⟨id,r,h0,e.symm⟩),fun _ h => h,fun _ h => .inl h,fun b hb => ?_,by simp [Sit.ice],fun j q _ hq => ?_⟩
  · obtain ⟨j,q,hq,he⟩ := hb
    rcases ice_row h0 hq with ⟨rfl,_⟩ | ⟨_,h2⟩
    · exact .inl ⟨j,r,h0,he⟩
    · exact .inl ⟨j,q,h2,he⟩
  · rcases ice_row h0 hq with ⟨rfl,rfl⟩ | ⟨_,h2⟩
    · exact ⟨r,h0,rfl,rfl,rfl,rfl⟩
    · exact ⟨q,h2,rfl,rfl,rfl,rfl⟩
theorem ice_ok {S : Sit} (ok : S.ok) {id : Nat} {r : Row} {i n : Nat} (hn : n ≠ 0) (h0 : S.H.row id = some r) (hk : r.k = 1) (hle : i + n ≤ r.es.length) (hs : r.soft = true) : (S.ice id r i n).ok := by
  have st := ice_step (i := i) ok hn h0
  have hR := ok.rows id r h0
  obtain ⟨arr,lo,hi,hh,hsz,hff,hso⟩ := hR.lie
  obtain ⟨f1,f2,f3,f4,f5,f6⟩ := freeze_heap (o := S.bas id + i) hn hh
  constructor
  · intro j q hq
    rcases ice_row h0 hq with ⟨rfl,rfl⟩ | ⟨hne,h2⟩
    · refine ⟨?_,hR.mult,?_,hR.room,?_⟩
      · rw [hk] at hsz hff hso
        have hlh := hso hs
        by_cases he : lo = hi
        · refine ⟨arr,S.bas j + i,S.bas j + i + n,?_,?_,?_,?_⟩
          · show (S.w.freeze _ _).heap[S.blk j]? = _
            rw [f2,he]; simp
          · simpa [Sit.ice,hk] using hsz
          · intro o ho _ hh'
            simp only [Sit.ice,hk,Nat.mul_one] at ho
            omega
          · intro _
            right
            simp only [Sit.ice,hk,Nat.mul_one]
            omega
        · refine ⟨arr,min lo (S.bas j + i),max hi (S.bas j + i + n),?_,?_,?_,?_⟩
          · show (S.w.freeze _ _).heap[S.blk j]? = _
            rw [f2]; simp [he]
          · simpa [Sit.ice,hk] using hsz
          · intro o ho _ hh'
            simp only [Sit.ice,hk,Nat.mul_one] at ho hlh
            omega
          · intro _
            right
            simp only [Sit.ice,hk,Nat.mul_one] at hlh ⊢
            omega
      · refine (hR.vals.mono st ok _ _ fun o => ?_)
        show (S.w.freeze _ _).cell? _ = _
        simp only [World.cell?,f2,hh]
      · show max r.frz (i + n) ≤ r.es.length
        have := hR.frzle
        omega
    · exact (ok.rows j q h2).mono st ok (f1 _ fun e => hne (ok.apart j id q r h2 h0 e)) rfl rfl rfl
  · intro j q hq
    rcases ice_row h0 hq with ⟨rfl,rfl⟩ | ⟨hne,h2⟩
    · exact ok.free j r h0
    · exact ok.free j q h2
  · intro x y q q' hx hy
    have hx' : ∃ q,S.H.row x = some q := by
      rcases ice_row h0 hx with ⟨rfl,_⟩ | ⟨_,h2⟩
      · exact ⟨r,h0⟩
      · exact ⟨_,h2⟩
    have hy' : ∃ q,S.H.row y = some q := by
      rcases ice_row h0 hy with ⟨rfl,_⟩ | ⟨_,h2⟩
      · exact ⟨r,h0⟩
      · exact ⟨_,h2⟩
    obtain ⟨_,hx'⟩ := hx'
    obtain ⟨_,hy'⟩ := hy'
    exact ok.apart x y _ _ hx' hy'
  · intro b hb
    exact Nat.lt_of_lt_of_le (ok.fzlt b hb) st.size
theorem op_ustring {S : Sit} {sl : List DV} {a : Act} (ok : S.ok) (hg : Glob G S) (hs : VRs S sl a.tmps.toList) {v : DV} {H' : Heap} {p n : Operand} {ts : Array TypeId} {ty pt u : TypeId} {k : Nat}
    (hpt : ts[0]? = some pt) (hu : P.underlying pt = some (.pointer u)) (hk : zz3 P u = some k) (hk1 : k = 1) (hd : 1 ≤ P.depth) (hl : sameLayout P P.depth u u = true)
    (h : dop P G (.ustring u p n) sl S.H = .val v H') : Did S H' v ((do Pure.pure (Next.value (← Builtin.unsafeString_ ts ty #[a.eval p,a.eval n])) : Sem Next).run P S.w) := by
  subst hk1
  have hp := S3 (a := a) hg hs p
  simp only [dop] at h
  split at h
  · rename_i m hm
    obtain ⟨kk,hn⟩ := dint_ok (S3 hg hs n) hm
    split at h
    · rename_i hd'
      split at h
      · rename_i h0
        obtain ⟨rfl,rfl⟩ := DR.val.inj h
        subst h0
        rw [hd'] at hp
        have hp : a.eval p = .pointer none := hp
        have hr : ((do Pure.pure (Next.value (← Builtin.unsafeString_ ts ty #[a.eval p,a.eval n])) : Sem Next).run P S.w) = .ok (.value (.string .empty)) S.w := by
          have e1 : Builtin.unsafeString_ ts ty #[.pointer none,a.eval n] = (do
                let n ← asInt (a.eval n)
                let some pt := ts[0]? | stuck "unsafe.String: no argument types"
                if n < 0 then runtimePanic (.error "unsafe.String: len out of range")
                if n > IntKind.i64.max then unsupported (.unsafePointer "String: a length above the largest int")
                match (none : Option Addr) with
                | none =>
                  if n = 0 then Pure.pure (.string .empty)
                  else runtimePanic (.error "unsafe.String: ptr is nil and len is not zero")
                | some a =>
                  if n = 0 then Pure.pure (.string .empty)
                  else if ← variablesAt a (← elemOf pt) n.toNat then do
                    let s ← loadBytes a .empty n.toNat
                    freeze a n.toNat
                    Pure.pure (.string s)
                  else unsupported (.unsafePointer "String: not so many bytes at ptr") : Sem Value) := rfl
          rw [hp,e1]
          simp [hn,asInt,asIntOf,hpt]
        rw [hr]
        exact Did.same ok rfl
      · cases h
    · rename_i id i hd'
      split at h
      · rename_i r hr
        split at h
        · rename_i hc
          obtain ⟨c1,c2,c3,c4,c5,c6⟩ := hc
          split at h
          · rename_i l hbytes
            obtain ⟨rfl,rfl⟩ := DR.val.inj h
            rw [hd'] at hp
            have hpa := hp.2.2 r hr
            rw [c5,Nat.mul_one,jz21] at hpa
            have hR := ok.rows id r hr
            have hV := (hR.vals.drop i).take m.toNat
            obtain ⟨vs,w1,w2⟩ := hV.flat.get
            obtain ⟨ns,rfl,rfl⟩ := mem_read hbytes w1
            have hlen : ns.length = m.toNat := by
              have e1 := w1.length
              rw [X5 hV.len,c5,Nat.mul_one] at e1
              simp at e1; omega
            obtain ⟨nc,hsh,hnc⟩ := row_cells ok hr
            obtain ⟨m0,hm0⟩ := hR.mult
            simp only [zz3,jz20] at hk
            obtain ⟨ti,hti,hts⟩ := hk
            have hck : P.cellsOf u = 1 := by simp [Program.cellsOf,hti,hts]
            have hle : (m0 + i + m.toNat) * 1 ≤ nc := by
              rw [hm0,c5] at hnc
              have := hR.room
              omega
            have hlies := liesAt_row (P := P) (u := u) (m := m0) (i := i) (q := m.toNat) hd hl hck (jz18 1) hle
            have hvar : (variablesAt ⟨S.blk id,S.bas id + i,none⟩ u m.toNat).run P S.w = .ok true S.w := by
              have : (program).run P S.w = .ok P S.w := rfl
              simp only [variablesAt,Sem.run_bind,this,Result.andThen_ok,run_shape,hsh,Sem.run_pure]
              rw [c4]
              have e : S.bas id + i = m0 * 1 + i * 1 := by rw [hm0,c5]; omega
              rw [e,hlies]
            have hload := run_loadBytes (P := P) S.w ns ⟨S.blk id,S.bas id + i,none⟩ .empty (fun j q hj => by
              rw [Addr.add_mk]
              have := w2 j (.int .u8 q) (by simp [hj])
              rwa [c5,Nat.mul_one] at this)
            rw [hlen] at hload
            have hel : (elemOf pt).run P S.w = .ok u S.w := by simp [elemOf,run_underlying hu]
            have hm0' : ¬ m < 0 := by omega
            have hmx : ¬ m > IntKind.i64.max := by
              have : IntKind.i64.max = 9223372036854775807 := by decide
              rw [this]; omega
            have hmz : ¬ m = 0 := by omega
            have hr' : ((do Pure.pure (Next.value (← Builtin.unsafeString_ ts ty #[a.eval p,a.eval n])) : Sem Next).run P S.w) =
                .ok (.value (.string (.empty ++ ⟨(ns.map fun n => UInt8.ofNat n.toNat).toArray⟩))) (S.w.freeze ⟨S.blk id,S.bas id + i,none⟩ m.toNat) := by
              have e1 : Builtin.unsafeString_ ts ty #[.pointer (some ⟨S.blk id,S.bas id + i,none⟩),a.eval n] = (do
                let n ← asInt (a.eval n)
                let some pt := ts[0]? | stuck "unsafe.String: no argument types"
                if n < 0 then runtimePanic (.error "unsafe.String: len out of range")
                if n > IntKind.i64.max then unsupported (.unsafePointer "String: a length above the largest int")
                match ((some ⟨S.blk id,S.bas id + i,none⟩) : Option Addr) with
                | none =>
                  if n = 0 then Pure.pure (.string .empty)
                  else runtimePanic (.error "unsafe.String: ptr is nil and len is not zero")
                | some a =>
                  if n = 0 then Pure.pure (.string .empty)
                  else if ← variablesAt a (← elemOf pt) n.toNat then do
                    let s ← loadBytes a .empty n.toNat
                    freeze a n.toNat
                    Pure.pure (.string s)
                  else unsupported (.unsafePointer "String: not so many bytes at ptr") : Sem Value) := rfl
              rw [hpa,e1]
              simp only [Sem.run_bind,hn,asInt,asIntOf,Sem.run_pure,Result.andThen_ok,hpt,if_neg hm0',if_neg hmx,if_neg hmz,hel,hvar,if_true,hload,run_freeze]
            rw [hr']
            have hne : m.toNat ≠ 0 := by omega
            refine ⟨_,.string (.empty ++ ⟨(ns.map fun n => UInt8.ofNat n.toNat).toArray⟩),S.ice id r i m.toNat,rfl,.inl rfl,ice_ok ok hne hr c5 c3 c6,ice_step ok hne hr,rfl,?_⟩
            show Value.string _ = Value.string _
            congr 1
          · cases h
        · cases h
      · cases h
    · cases h
  · cases h
end
end Go.Dx
end
section
namespace Go.Dx
open Go
section
variable {P : Program} {G : Nat → Option (List DV)}
theorem chunks {α : Type} (k : Nat) : ∀ (n : Nat) (cs : List α),cs.length = n * k → ((List.range n).map fun i => (cs.drop (i * k)).take k).flatten = cs
  | 0,cs,h => by simp at h; simp [h]
  | n + 1,cs,h => by
    rw [Nat.add_mul] at h
    rw [List.range_succ_eq_map,yz23,List.flatten_cons,List.map_map]
    have ih := chunks k n (cs.drop k) (by simp; omega)
    have : ((fun i => (cs.drop (i * k)).take k) ∘ Nat.succ) = fun i => ((cs.drop k).drop (i * k)).take k := by
      funext i
      simp only [Function.comp,List.drop_drop]
      congr 2
      rw [Nat.succ_eq_add_one,Nat.add_mul]; omega
    rw [this,ih]
    simp
theorem dfill_length : ∀ (l : List (Nat × List DV)) (z cs : List DV),dfill z l = some cs → cs.length = z.length
  | [],z,cs,h => by simp only [dfill,Option.some.injEq] at h; rw [h]
  | (off,x) :: r,z,cs,h => by
    simp only [dfill] at h
    split at h
    · rename_i hc
      rw [dfill_length r _ cs h,splice_length hc]
    · simp at h
theorem made_flat (z : Array Value) (n : Nat) : (madeCells z (n * z.size)).toList = (List.replicate n z.toList).flatten := by
  apply List.ext_getElem?
  intro j
  have hl : (List.replicate n z.toList).flatten.length = n * z.size := by
    rw [List.length_flatten]; simp
  by_cases hj : j < n * z.size
  · have e : ∃ v,((List.replicate n z.toList).flatten)[j]? = some v := ⟨_,List.getElem?_eq_getElem (by rw [hl]; exact hj)⟩
    obtain ⟨v,hv⟩ := e
    obtain ⟨_,h2⟩ := yz15 _ _ _ _ hv
    simp only [Array.length_toList] at h2
    rw [hv]
    have := made_get z (n * z.size) j v hj (by simpa using h2)
    simpa using this
  · rw [List.getElem?_eq_none (by rw [Array.length_toList,size_madeCells]; omega),List.getElem?_eq_none (by rw [hl]; omega)]
theorem op_buildSlice {S : Sit} {sl : List DV} {a : Act} (ok : S.ok) (hg : Glob G S) (hs : VRs S sl a.tmps.toList) {v : DV} {H' : Heap} {t e : TypeId} {z : List DV} {k n : Nat} {ps : Array (Nat × Operand)}
    (h1 : P.underlying t = some (.slice e)) (hz : cZero P e = some z) (hk : zz3 P e = some k) (hn : n * k ≤ 2 ^ 24) (hn1 : 1 ≤ n * k)
    (h : dop P G (.buildSlice e k z n ps.toList) sl S.H = .val v H') : Did S H' v ((do Pure.pure (Next.value (← Instr.buildSlice t n (ps.map fun (i,x) => (i,a.eval x)))) : Sem Next).run P S.w) := by
  simp only [dop] at h
  split at h
  · rename_i cs hcs
    split at h
    · rename_i hc
      obtain ⟨c1,c2,c3⟩ := hc
      obtain ⟨rfl,rfl⟩ := DR.val.inj h
      obtain ⟨zv,rfl,hzr⟩ := cZero_run hz
      have hzs : zv.cells.size = k := by simpa using c2
      have hlen := dfill_length _ _ _ hcs
      have hlen2 : cs.length = n * k := by
        rw [hlen,List.length_flatten]; simp [hzs]
      let Q : List (Nat × Nat × List DV × Value) := ps.toList.map fun x => (x.1,x.1 * k,(dev G sl x.2).cells,a.eval x.2)
      have e1 : Q.map (fun x => (x.2.1,x.2.2.1)) = ps.toList.map fun (i,x) => (i * k,(dev G sl x).cells) := by simp [Q]
      have e2 : Q.map (fun x => (x.1,x.2.2.2)) = ps.toList.map fun (i,x) => (i,a.eval x) := by simp [Q]
      have e3 : ∀ x ∈ Q,(fun i => some (i * k,k)) x.1 = some (x.2.1,x.2.2.1.length) ∧ VRs S x.2.2.1 x.2.2.2.cells.toList := by
        intro x hx
        obtain ⟨p,hp,rfl⟩ := List.mem_map.1 hx
        refine ⟨?_,cells_ok (S3 hg hs p.2)⟩
        have := List.all_eq_true.1 c1 p hp
        simp only [beq_iff_eq] at this
        simp [this]
      rw [← e1] at hcs
      have hz0 : VRs S (List.replicate n (zv.cells.toList.map ofV1)).flatten (madeCells zv.cells (n * k)).toList := by
        rw [← hzs,made_flat]
        exact VRs_rep (VRs_ofV1 S _) n
      obtain ⟨arr,f1,f2⟩ := fill_ok (fun i => some (i * k,k)) Q _ _ (madeCells zv.cells (n * k)) e3 hz0 hcs
      have hr : ((do Pure.pure (Next.value (← Instr.buildSlice t n (ps.map fun (i,x) => (i,a.eval x)))) : Sem Next).run P S.w) = .ok (.value (.slice (some ⟨S.w.heap.size,0,none⟩) n n)) (S.w.alloc (.cells arr e)) := by
        have hps : (ps.map fun (i,x) => (i,a.eval x)).toList = Q.map (fun x => (x.1,x.2.2.2)) := by rw [e2]; simp
        have hne : ¬ n * k = 0 := by omega
        have hnl : ¬ n * k > 2 ^ 24 := by omega
        have f1' := f1
        simp only [madeCells] at f1'
        simp only [Instr.buildSlice,Sem.run_bind,run_underlying h1,Result.andThen_ok,X9 hk,if_neg hnl,if_neg hne,hzr,Sem.run_pure,hps,f1',newRow,run_newObj_alloc]
      rw [hr]
      have hal := f2.length
      refine new_did ok (Alike.refl _) { k := k,es := (List.range n).map fun i => (cs.drop (i * k)).take k,ty := e } arr (0,0) n arr.toList ?_ ?_ ?_ ?_ ?_ ?_ ?_ (fun _ => rfl) _ _ (add_osl _ _ _ _ _ _) rfl
      · intro q hq
        obtain ⟨j,hj,rfl⟩ := List.mem_map.1 hq
        have hj : j < n := by simpa using hj
        have : (j + 1) * k ≤ n * k := Nat.mul_le_mul_right _ hj
        rw [Nat.add_mul] at this
        simp; omega
      · rw [chunks k n cs hlen2]; exact f2
      · intro j u hu; simpa using hu
      · simp at hal; show n * k ≤ _; omega
      · simp
      · intro o _ _ hh; exact absurd hh.2 (Nat.not_lt_zero _)
      · simp
    · cases h
  · cases h
def Enters (P : Program) (f : FuncId) : Prop := ∃ fn, P.funcs[f]? = some fn ∧ fn.body.isSome = true ∧ fn.name ≠ "runtime.NumGoroutine"
theorem run_callFunc {f : FuncId} (h : Enters P f) (args : Array Value) (w : World) : (callFunc f args).run P w = .ok (.enter f args) w := by
  obtain ⟨fn,h1,h2,h3⟩ := h
  have h4 : fn.body.isNone = false := by cases hb : fn.body <;> simp_all
  have hp : (program).run P w = .ok P w := rfl
  simp only [callFunc,Sem.run_bind,hp,Result.andThen_ok,h1,h4,yz21,if_false]
  rw [if_neg (by simpa using h3)]
  rfl
theorem cop_call {o : Oper} {g : FuncId} {xs : List Operand} (hc : cop P o = some (.call g xs)) : ∃ c : Call,o.op = .call c ∧ c.callee = .value (.func g) ∧ xs = c.args.toList := by
  unfold cop at hc
  split at hc <;> (try (repeat' split at hc)) <;> first
    | (simp at hc; done)
    | skip
  rename_i c ho _ f hcal _ fn hfn hb
  simp only [Option.some.injEq,SOp.call.injEq] at hc
  obtain ⟨rfl,rfl⟩ := hc
  exact ⟨c,ho,hcal,rfl⟩
theorem cop_callv {o : Oper} {f : Operand} {xs : List Operand} (hc : cop P o = some (.callv f xs)) : ∃ c : Call,o.op = .call c ∧ c.callee = .value f ∧ xs = c.args.toList := by
  unfold cop at hc
  split at hc <;> (try (repeat' split at hc)) <;> first
    | (simp at hc; done)
    | skip
  rename_i c ho _ y _ hcal
  simp only [Option.some.injEq,SOp.callv.injEq] at hc
  obtain ⟨rfl,rfl⟩ := hc
  exact ⟨c,ho,hcal,rfl⟩
theorem dop_call {S : Sit} {sl : List DV} {a : Act} (hg : Glob G S) (hs : VRs S sl a.tmps.toList) {o : Oper} {s : SOp} (hc : cop P o = some s) {f : FuncId} {args : List DV}
    (h : dop P G s sl S.H = .call f args) : ∃ cargs : Array Value,VRs S args cargs.toList ∧ (Enters P f → (execOp a.eval o).run P S.w = .ok (.enter f cargs) S.w) := by
  cases s
  case call g xs =>
    simp only [dop] at h
    obtain ⟨rfl,rfl⟩ := DR.call.inj h
    obtain ⟨c,ho,hcal,rfl⟩ := cop_call hc
    refine ⟨c.args.map a.eval,by simpa using devs_ok hg hs c.args.toList,fun he => ?_⟩
    simp only [execOp,ho,resolve,hcal,Act.eval,Deferred.ofValue,invoke,Sem.run_bind,Sem.run_pure,Result.andThen_ok]
    simpa using run_callFunc he (c.args.map a.eval) S.w
  case callv g xs =>
    simp only [dop] at h
    split at h
    · rename_i f' cs hf
      obtain ⟨rfl,rfl⟩ := DR.call.inj h
      obtain ⟨c,ho,hcal,rfl⟩ := cop_callv hc
      have hg' := S3 (a := a) hg hs g
      rw [hf] at hg'
      obtain ⟨arr,he,hv⟩ := hg'
      refine ⟨c.args.map a.eval ++ arr,by simpa using (devs_ok hg hs c.args.toList).append hv,fun hE => ?_⟩
      simp only [execOp,ho,resolve,hcal,he,Deferred.ofValue,invoke,Sem.run_bind,Sem.run_pure,Result.andThen_ok]
      simpa using run_callFunc hE (c.args.map a.eval ++ arr) S.w
    · cases h
  all_goals (simp only [dop,rval,Z7] at h; repeat' split at h)
  all_goals (first | (cases h; done) | skip)
theorem dop_val {S : Sit} {sl : List DV} {a : Act} (ok : S.ok) (hg : Glob G S) (hs : VRs S sl a.tmps.toList) {o : Oper} {s : SOp} (hc : cop P o = some s) {v : DV} {H' : Heap}
    (h : dop P G s sl S.H = .val v H') : Did S H' v ((execOp a.eval o).run P S.w) := by
  unfold cop at hc
  split at hc
  · rename_i x ho
    obtain rfl := Option.some.inj hc
    simp only [dop] at h
    obtain ⟨rfl,rfl⟩ := DR.val.inj h
    simp only [execOp,ho]
    exact Did.same ok (S3 hg hs x)
  · rename_i x ho
    obtain rfl := Option.some.inj hc
    simp only [dop] at h
    obtain ⟨rfl,rfl⟩ := DR.val.inj h
    simp only [execOp,ho]
    exact Did.same ok (S3 hg hs x)
  · rename_i c x y ho
    obtain rfl := Option.some.inj hc
    simp only [execOp,ho]
    exact op_pick ok hg hs h
  · rename_i e ho
    simp only [jz20] at hc
    obtain ⟨z,hz,rfl⟩ := hc
    simp only [execOp,ho]
    exact op_alloc ok hz h
  · rename_i t x ho
    obtain rfl := Option.some.inj hc
    simp only [execOp,ho]
    exact op_box ok hg hs t h
  · rename_i t ps ho
    split at hc
    · rename_i fs hfs
      split at hc
      · rename_i z l hz hl
        split at hc
        · rename_i hall
          obtain rfl := Option.some.inj hc
          simp only [execOp,ho]
          exact op_build ok hg hs hfs hz hl hall h
        · simp at hc
      · simp at hc
    · simp at hc
  · rename_i t n ps ho
    split at hc
    · rename_i e he
      split at hc
      · rename_i z k hz hk
        split at hc
        · rename_i hn
          obtain rfl := Option.some.inj hc
          simp only [execOp,ho]
          exact op_buildSlice ok hg hs he hz hk hn.1 hn.2 h
        · simp at hc
      · simp at hc
    · simp at hc
  · rename_i t x ho
    split at hc
    · rename_i g n hg' hn
      obtain rfl := Option.some.inj hc
      simp only [execOp,ho]
      exact op_load ok hg hs hg' hn h
    · simp at hc
  · rename_i t x y ho
    simp only [jz20] at hc
    obtain ⟨n,hn,rfl⟩ := hc
    simp only [execOp,ho]
    exact op_store ok hg hs hn h
  · rename_i x ho
    obtain rfl := Option.some.inj hc
    exact op_nilCheck ok hg hs ho h
  · rename_i op t x y yt ho
    simp only [execOp,ho]
    split at hc
    · rename_i e h1
      obtain rfl := Option.some.inj hc
      exact op_eqNil ok hg hs (neg := false) h1 h
    · rename_i e h1
      obtain rfl := Option.some.inj hc
      exact op_eqNil ok hg hs (neg := true) h1 h
    · rename_i e _ h1
      split at hc
      · rename_i he
        obtain rfl := Option.some.inj hc
        exact op_eqPtr ok hg hs (neg := false) h1 he h
      · simp at hc
    · rename_i e _ h1
      split at hc
      · rename_i he
        obtain rfl := Option.some.inj hc
        exact op_eqPtr ok hg hs (neg := true) h1 he h
      · simp at hc
    · obtain rfl := Option.some.inj hc
      exact op_bin ok hg hs h
  · rename_i op t x ho
    obtain rfl := Option.some.inj hc
    simp only [execOp,ho]
    exact op_un ok hg hs h
  · rename_i s' d x ho
    simp only [execOp,ho]
    split at hc
    · rename_i e h1 h2
      split at hc
      · rename_i h3
        obtain rfl := Option.some.inj hc
        exact op_convBS ok hg hs h1 h2 h3 h
      · simp at hc
    · rename_i e h1 h2
      split at hc
      · rename_i h3
        obtain rfl := Option.some.inj hc
        exact op_convSB ok hg hs h1 h2 h3 h
      · simp at hc
    · rename_i t h1 h2
      split at hc
      · rename_i n hn
        split at hc
        · simp at hc
        · rename_i hn0
          obtain rfl := Option.some.inj hc
          exact op_toUnsafe ok hg hs h1 h2 hn hn0 h
      · simp at hc
    · rename_i u h1 h2
      split at hc
      · rename_i n hn
        split at hc
        · rename_i hcond
          obtain rfl := Option.some.inj hc
          exact op_fromUnsafe ok hg hs h1 h2 hn hcond.1 hcond.2.1 hcond.2.2 h
        · simp at hc
      · simp at hc
    · obtain rfl := Option.some.inj hc
      exact op_conv ok hg hs h
  · rename_i t x lo hi ho
    split at hc
    · rename_i h1
      obtain rfl := Option.some.inj hc
      have := op_sslice ok hg hs h
      simpa only [execOp,ho,jz23,Instr.sliceAt,Sem.run_bind,run_underlying h1,Result.andThen_ok] using this
    · rename_i e h1
      simp only [jz20] at hc
      obtain ⟨k,hk,rfl⟩ := hc
      have := op_lslice ok hg hs h1 hk h
      simpa only [execOp,ho,jz23,Instr.sliceAt,Sem.run_bind,run_underlying h1,Result.andThen_ok] using this
    · simp at hc
  · rename_i s' x f ho
    split at hc
    · rename_i fs hfs
      split at hc
      · rename_i g hg'
        split at hc
        · rename_i n hn
          split at hc
          · simp at hc
          · rename_i hn0
            obtain rfl := Option.some.inj hc
            simp only [execOp,ho]
            exact op_fieldAddr ok hg hs hfs hg' hn hn0 h
        · simp at hc
      · simp at hc
    · simp at hc
  · rename_i t x f ho
    split at hc
    · rename_i fs hfs
      split at hc
      · rename_i g hg'
        split at hc
        · rename_i b n hb hn
          obtain rfl := Option.some.inj hc
          simp only [execOp,ho]
          exact op_field ok hg hs hfs hg' hb hn h
        · simp at hc
      · simp at hc
    · simp at hc
  · rename_i t x i ho
    split at hc
    · rename_i e he
      simp only [jz20] at hc
      obtain ⟨k,hk,rfl⟩ := hc
      simp only [execOp,ho]
      exact op_indexAddr ok hg hs he hk h
    · simp at hc
  · rename_i t x i ho
    obtain rfl := Option.some.inj hc
    simp only [execOp,ho]
    exact op_index ok hg hs h
  · rename_i x i ho
    obtain rfl := Option.some.inj hc
    simp only [execOp,ho]
    exact op_extract ok hg hs h
  · rename_i t l c ho
    split at hc
    · rename_i e he
      split at hc
      · rename_i f z hf hz
        obtain rfl := Option.some.inj hc
        simp only [execOp,ho]
        exact op_makeSlice ok hg hs he hf hz h
      · simp at hc
    · simp at hc
  · rename_i f first captured ho
    split at hc
    · rename_i hfirst
      obtain rfl := Option.some.inj hc
      have hf0 : first = #[] := by simpa using hfirst
      subst hf0
      simp only [execOp,ho,List.map_toArray,zz23]
      exact op_mkfn (a := a) ok hg hs h
    · simp at hc
  · rename_i c ho
    split at hc
    · rename_i hcal
      split at hc
      · rename_i t x ht hx
        have hargs : c.args = #[x] := Array.ext' hx
        split at hc
        · rename_i e he
          obtain rfl := Option.some.inj hc
          have := op_len (a := a) (ty := o.type) (ts := c.argTypes) ok hg hs ht he h
          simpa only [execOp,ho,resolve,hcal,invoke,builtin,hargs,List.map_toArray,yz23,zz23,pure_bind] using this
        · obtain rfl := Option.some.inj hc
          have := op_blt (a := a) (xs := #[x]) ok hg hs h
          simpa only [execOp,ho,resolve,hcal,invoke,builtin,hargs,List.map_toArray,yz23,zz23,pure_bind] using this
        · simp at hc
      · simp at hc
    · rename_i hcal
      split at hc
      · rename_i t u s' x ht hu hx
        have hargs : c.args = #[s',x] := Array.ext' hx
        split at hc
        · simp at hc
        · rename_i e d hni he hd
          split at hc
          · rename_i f hf
            split at hc
            · rename_i z hz
              split at hc
              · rename_i hzl
                obtain rfl := Option.some.inj hc
                have := op_append (a := a) (ty := o.type) ok hg hs ht hu he hd (fun k hk => hni k hk) hf hz hzl.1 hzl.2 h
                simpa only [execOp,ho,resolve,hcal,invoke,builtin,hargs,List.map_toArray,yz23,zz23,pure_bind] using this
              · simp at hc
            · simp at hc
          · simp at hc
        · simp at hc
      · simp at hc
    · rename_i hcal
      obtain rfl := Option.some.inj hc
      have := op_blt (a := a) (xs := c.args) ok hg hs h
      simpa only [execOp,ho,resolve,hcal,invoke,builtin,pure_bind] using this
    · rename_i hcal
      obtain rfl := Option.some.inj hc
      have := op_blt (a := a) (xs := c.args) ok hg hs h
      simpa only [execOp,ho,resolve,hcal,invoke,builtin,pure_bind] using this
    · rename_i hcal
      split at hc
      · rename_i x hx
        have hargs : c.args = #[x] := Array.ext' hx
        obtain rfl := Option.some.inj hc
        have := op_sliceData (a := a) (ts := c.argTypes) (ty := o.type) ok hg hs h
        simpa only [execOp,ho,resolve,hcal,invoke,builtin,hargs,List.map_toArray,yz23,zz23,pure_bind] using this
      · simp at hc
    · rename_i hcal
      split at hc
      · rename_i pt p n hpt hx
        have hargs : c.args = #[p,n] := Array.ext' hx
        split at hc
        · rename_i u hu
          split at hc
          · rename_i k hk
            split at hc
            · rename_i hcond
              obtain rfl := Option.some.inj hc
              have := op_ustring (a := a) (ts := c.argTypes) (ty := o.type) ok hg hs hpt hu hk hcond.1 hcond.2.1 hcond.2.2 h
              simpa only [execOp,ho,resolve,hcal,invoke,builtin,hargs,List.map_toArray,yz23,zz23,pure_bind] using this
            · simp at hc
          · simp at hc
        · simp at hc
      · simp at hc
    · rename_i f hcal
      split at hc
      · rename_i fn hfn
        split at hc
        · obtain rfl := Option.some.inj hc
          simp only [dop] at h
          cases h
        · split at hc
          · rename_i hcond
            split at hc
            · rename_i x hx
              have hargs : c.args = #[x] := Array.ext' hx
              obtain rfl := Option.some.inj hc
              simp only [dop] at h
              obtain ⟨rfl,rfl⟩ := DR.val.inj h
              have hr := run_noEscape_call hfn hcond.1 hcond.2.1 hcond.2.2 (a.eval x) S.w
              have : (execOp a.eval o).run P S.w = .ok (.value (a.eval x)) S.w := by
                have hf : a.eval (.func f) = .func (.func f) #[] #[] := rfl
                simp only [execOp,ho,resolve,hcal,hf,Deferred.ofValue,invoke,Sem.run_bind,Sem.run_pure,Result.andThen_ok,hargs,List.map_toArray,yz23,zz23]
                simpa using hr
              rw [this]
              exact Did.same ok (S3 hg hs x)
            · simp at hc
          · simp at hc
      · simp at hc
    · obtain rfl := Option.some.inj hc
      simp only [dop] at h
      split at h <;> cases h
    · simp at hc
  · simp at hc
end
end Go.Dx
end
section
namespace Go.Dx
open Go
section
variable {P : Program} {G : Nat → Option (List DV)}
def Answers (P : Program) (G : Nat → Option (List DV)) (f : FuncId) (args : List DV) (H : Heap) (v : DV) (H' : Heap) : Prop :=
  ∀ (S : Sit) (cargs : Array Value),S.ok → Glob G S → S.H = H → VRs S args cargs.toList →
    Calls P f cargs S.w fun e w' => ∃ c S',e = .returned c ∧ S'.w = w' ∧ S'.H = H' ∧ S'.ok ∧ Step S S' ∧ VR S' v c
def CallOk (P : Program) (G : Nat → Option (List DV)) (call : U8) : Prop := ∀ f args H v H',call f args H = some (v,H') → Enters P f ∧ Answers P G f args H v H'
structure Rel (G : Nat → Option (List DV)) (S : Sit) (s : DS) (a : Act) : Prop where
  ok : S.ok
  glob : Glob G S
  heap : S.H = s.H
  vals : VRs S s.sl a.tmps.toList
  defers : a.defers = []
theorem put_vals {S : Sit} {sl : List DV} {a : Act} (h : VRs S sl a.tmps.toList) (d : Option Tmp) {v : DV} {c : Value} (hv : VR S v c) : VRs S (dput sl d v) (a.put d c).tmps.toList := by
  cases d with
  | none => exact h
  | some t => simpa [dput,Act.put] using h.set t hv
theorem put_defers (a : Act) (d : Option Tmp) (c : Value) : (a.put d c).defers = a.defers := by cases d <;> rfl
theorem wanted_ok {S : Sit} {sl : List DV} {a : Act} (h : VRs S sl a.tmps.toList) {ops : Array Oper} {o : Oper} {so : SOper} (hc : coper P ops o = some so) (hk : jz3 sl so.guard = true) :
    Region.wanted o (yielded ops a.tmps) = Y7 sl so.guard ∧ so.dst = o.dst ∧ so.op = (cop P o).getD .bad := by
  unfold coper at hc
  split at hc
  · rename_i hg
    obtain rfl := Option.some.inj hc
    exact ⟨by simp [Region.wanted,hg,Y7],rfl,rfl⟩
  · rename_i j b hg
    split at hc
    · rename_i t ht
      obtain rfl := Option.some.inj hc
      refine ⟨?_,rfl,rfl⟩
      simp only [Region.wanted,hg,Y7,yielded,ht,zz24]
      simp only [jz3] at hk
      split at hk
      · rename_i c hc
        obtain ⟨u,hu,hv⟩ := h.get t _ hc
        have hv : u = .bool c := hv
        have hu' : a.tmps[t]? = some (.bool c) := by rw [← hv]; simpa using hu
        rw [hu',hc]
        simp
      · rename_i hc
        obtain ⟨u,hu,arr,hv,harr⟩ := h.get t _ hc
        have hu' : a.tmps[t]? = some (.tuple arr) := by rw [← hv]; simpa using hu
        rw [hu']
        simp [hc]
      · simp at hk
    · simp at hc
theorem cop_of {o : Oper} {s : SOp} (h : s = (cop P o).getD .bad) {sl : List DV} {H : Heap} (hd : dop P G s sl H ≠ .fail) : cop P o = some s := by
  cases hc : cop P o with
  | some x => rw [hc] at h; simp at h; rw [h]
  | none => rw [hc] at h; simp at h; subst h; exact absurd rfl hd
theorem oper_ok {call : U8} (hcall : CallOk P G call) {ops : Array Oper} {o : Oper} {so : SOper} {s : DS} {S : Sit} {a : Act} {v : DV} {H' : Heap} (hso : coper P ops o = some so) (hr : Rel G S s a)
    (hd : Y8 P G call so s.sl s.H = some (v,H')) (next : Act → World → Prop) (Q : Exit → Act → World → Prop)
    (hn : ∀ S' a',Step S S' → Rel G S' ⟨dput s.sl so.dst v,H'⟩ a' → next a' S'.w) :
    if Region.wanted o (yielded ops a.tmps) then o.wp P a S.w next Q ∨ (o.asks P a S.w ∧ LetsOut Q) else next (a.put o.dst undef) S.w := by
  unfold Y8 at hd
  split at hd
  · rename_i hk
    obtain ⟨hw,hdst,hcop⟩ := wanted_ok hr.vals hso hk
    rw [hw]
    split at hd
    · rename_i hwt
      rw [if_pos hwt]
      refine .inl ?_
      unfold Oper.wp
      split at hd
      · rename_i v H hop
        obtain ⟨rfl,rfl⟩ := Prod.mk.inj (Option.some.inj hd)
        have hcop := cop_of hcop (by rw [hop]; simp)
        rw [← hr.heap] at hop
        obtain ⟨nx,c,S1,e1,e2,ok1,st1,hH,hv⟩ := (dop_val hr.ok hr.glob hr.vals hcop hop).did
        rw [e1]
        have hrel : Rel G S1 ⟨dput s.sl so.dst v,H⟩ (a.put o.dst c) :=
          ⟨ok1,hr.glob.mono st1 hr.ok,hH,by rw [hdst]; exact put_vals (hr.vals.mono st1 hr.ok) _ hv,by rw [put_defers]; exact hr.defers⟩
        have := hn S1 _ st1 hrel
        rcases e2 with rfl | ⟨rfl,rfl⟩
        · exact this
        · exact this
      · rename_i f args hop
        have hcop := cop_of hcop (by rw [hop]; simp)
        rw [← hr.heap] at hop hd
        obtain ⟨cargs,hv,hrun⟩ := dop_call (a := a) hr.glob hr.vals hcop hop
        obtain ⟨hE,hA⟩ := hcall _ _ _ _ _ hd
        rw [hrun hE]
        refine (hA S cargs hr.ok hr.glob rfl hv).mono fun e w' hp => ?_
        obtain ⟨c,S1,rfl,rfl,hH,ok1,st1,hv1⟩ := hp
        exact hn S1 _ st1 ⟨ok1,hr.glob.mono st1 hr.ok,hH,by rw [hdst]; exact put_vals (hr.vals.mono st1 hr.ok) _ hv1,by rw [put_defers]; exact hr.defers⟩
      · simp at hd
    · rename_i hwt
      rw [if_neg hwt]
      obtain ⟨rfl,rfl⟩ := Prod.mk.inj (Option.some.inj hd)
      exact hn S _ (Step.refl S) ⟨hr.ok,hr.glob,hr.heap,by rw [hdst]; exact put_vals hr.vals _ ⟨#[],rfl,trivial⟩,by rw [put_defers]; exact hr.defers⟩
  · simp at hd
theorem dops_cons {call : U8} (o : SOper) (r : List SOper) (s : DS) : dops P G call (o :: r) s = match Y8 P G call o s.sl s.H with | some (v,H) => dops P G call r ⟨dput s.sl o.dst v,H⟩ | none => none := by
  simp only [dops,Y8]
  by_cases hk : jz3 s.sl o.guard = true
  · simp only [if_pos hk]
    by_cases hw : Y7 s.sl o.guard = true
    · simp only [if_pos hw]
      cases dop P G o.op s.sl s.H <;> rfl
    · simp only [if_neg hw]
  · simp only [if_neg hk]
theorem wpOps_cons {ops : Array Oper} {Q : Exit → Act → World → Prop} {i : Nat} {rest : List Nat} {a : Act} {w : World} (hi : i < ops.size)
    (h : if Region.wanted ops[i] (yielded ops a.tmps) then (ops[i]).wp P a w (wpOps P ops Q rest) Q ∨ ((ops[i]).asks P a w ∧ LetsOut Q) else wpOps P ops Q rest (a.put (ops[i]).dst undef) w) :
    wpOps P ops Q (i :: rest) a w := by
  simp only [wpOps,Array.getElem?_eq_getElem hi]
  exact h
theorem dops_ok {call : U8} (hcall : CallOk P G call) {ops : Array Oper} : ∀ (n i : Nat) (l : List SOper) (s s' : DS) (S : Sit) (a : Act) (Q : Exit → Act → World → Prop),
    n = ops.size - i → Q8 (coper P ops) (ops.toList.drop i) = some l → dops P G call l s = some s' → Rel G S s a →
    (∀ S' a',Step S S' → Rel G S' s' a' → Q .normal a' S'.w) → wpOps P ops Q (List.range' i n) a S.w
  | 0,i,l,s,s',S,a,Q,hn,hl,hd,hr,hQ => by
    rw [List.drop_eq_nil_of_le (by simp; omega)] at hl
    simp only [Q8,Option.some.injEq] at hl
    subst hl
    simp only [dops,Option.some.injEq] at hd
    subst hd
    exact hQ S a (Step.refl S) hr
  | n + 1,i,l,s,s',S,a,Q,hn,hl,hd,hr,hQ => by
    have hi : i < ops.size := by omega
    rw [List.drop_eq_getElem_cons (by simpa using hi)] at hl
    simp only [Q8] at hl
    split at hl
    · rename_i so r hso hrest
      obtain rfl := Option.some.inj hl
      simp only [Array.getElem_toList] at hso
      rw [dops_cons] at hd
      split at hd
      · rename_i v H he
        rw [List.range'_succ]
        exact wpOps_cons hi (oper_ok hcall hso hr he _ _ fun S' a' st hr' => dops_ok hcall n (i + 1) r _ s' S' a' Q (by omega) hrest hd hr' fun S2 a2 st2 h => hQ S2 a2 (st.trans st2) h)
      · simp at hd
    · simp at hl
def Ex.toExit : Ex → Exit
  | .normal => .normal
  | .exit id => .exit id
  | .ret => .ret
def Post (G : Nat → Option (List DV)) (S : Sit) (ex : Ex) (s' : DS) : Exit → Act → World → Prop := fun e a' w' => e = ex.toExit ∧ ∃ S',S'.w = w' ∧ Step S S' ∧ Rel G S' s' a'
theorem Post.mono {S S1 : Sit} {ex : Ex} {s' : DS} (st : Step S S1) {e : Exit} {a : Act} {w : World} (h : Post G S1 ex s' e a w) : Post G S ex s' e a w := by
  obtain ⟨h1,S',h2,h3,h4⟩ := h
  exact ⟨h1,S',h2,st.trans h3,h4⟩
theorem loop_ok {c : Code} {f : DS → Option (Ex × DS)} (hf : ∀ (s : DS) (ex : Ex) (s' : DS),f s = some (ex,s') → ∀ S a,Rel G S s a → c.wp P (Post G S ex s') a S.w) :
    ∀ (n : Nat) (s : DS) (ex : Ex) (s' : DS),loopN f n s = some (ex,s') → ∀ S a,Rel G S s a → ∀ (b : Frame) (k : List Item) (cs : List Frame),
      ∃ e a' w',Post G S ex s' e a' w' ∧ Arrives P (lone (b.at a (.code c :: .inLoop c :: k)) cs S.w) b k cs e a' w'
  | 0,_,_,_,h,_,_,_,_,_,_ => by simp [loopN] at h
  | n + 1,s,ex,s',h,S,a,hr,b,k,cs => by
    simp only [loopN] at h
    split at h
    · rename_i s1 hs1
      obtain ⟨e,a1,w1,⟨he,S1,hw,st,hr1⟩,harr⟩ := hf s _ s1 hs1 S a hr b (.inLoop c :: k) cs
      subst he
      subst hw
      obtain ⟨e2,a2,w2,hp,harr2⟩ := loop_ok hf n s1 ex s' h S1 a1 hr1 b k cs
      exact ⟨e2,a2,w2,hp.mono st,.of_steps (Steps.trans harr (.one step_inLoop)) harr2⟩
    · rename_i r hne
      obtain ⟨e,a1,w1,⟨he,S1,hw,st,hr1⟩,harr⟩ := hf s _ s' h S a hr b (.inLoop c :: k) cs
      refine ⟨e,a1,w1,⟨he,S1,hw,st,hr1⟩,?_⟩
      cases ex with
      | normal => exact absurd h (by intro e; exact hne s' e)
      | exit id => subst he; exact .pass (x := .inLoop c) rfl (fun _ _ => .inl (by simp [Ex.toExit])) harr
      | ret => subst he; exact .pass (x := .inLoop c) rfl (fun _ _ => .inl (by simp [Ex.toExit])) harr
theorem wp_scope {Q : Exit → Act → World → Prop} {a : Act} {w : World} {c : Code} (hQ : ∀ l a w,¬ Q (.goto l) a w) (h : c.wp P Q a w) : (Code.scope c).wp P Q a w := by
  intro b k cs
  obtain ⟨e,a₁,w₁,hq,harr⟩ := h b (.inScope c :: k) cs
  have hs : step P (lone (b.at a (.code (.scope c) :: k)) cs w) = .next (lone (b.at a (.code c :: .inScope c :: k)) cs w) := step_lone_go (by simp [stepG,stepG.exec,Frame.at])
  have hi : step P (lone (b.at a₁ (.inScope c :: k)) cs w₁) = .next (lone (b.at a₁ k) cs w₁) := step_lone_go (by simp [stepG,stepG.exec,Frame.at])
  cases e with
  | normal => exact ⟨.normal,a₁,w₁,hq,.head hs (Steps.trans harr (.one hi))⟩
  | exit id => exact ⟨_,a₁,w₁,hq,fun k' hk => .head hs (harr k' (by simp [exitTo,hk]))⟩
  | goto l => exact absurd hq (hQ l a₁ w₁)
  | ret => exact ⟨_,a₁,w₁,hq,.of_steps (.one hs) harr⟩
  | panic ch => exact ⟨_,a₁,w₁,hq,.of_steps (.one hs) harr⟩
  | outgrown => exact ⟨_,a₁,w₁,hq,.of_steps (b := b) (k := k) (cs := cs) (e := .outgrown) (.one hs) harr⟩
end
end Go.Dx
end
