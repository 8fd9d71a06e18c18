/- A part of the proof of VarFills: rules of an interpreter of the program's code, shown to answer as the model does. -/
import Derived.Laws.BytesString
import Derived.Test.YtcclgnddbgaigaaDoorT02
open Nat renaming le_refl → jz18, add_zero → jz21
open Bool renaming and_eq_true → zz19, false_eq_true → yz21
open List renaming replicate_succ → jz19, length_cons → zz20, length_append → yz20, all_cons → zz21, singleton_append → yz22, cons_append → jz22, map_nil → zz23, map_cons → yz23
open Option renaming map_eq_some_iff → jz20, map_some → zz22
set_option linter.all false
section
namespace Go.Dx
open Go
section
variable {P : Program} {G : Nat → Option (List DV)}
theorem op_nilCheck {S : Sit} {sl : List DV} {a : Act} (ok : S.ok) (hg : Glob G S) (hs : VRs S sl a.tmps.toList) {v : DV} {H' : Heap} {x : Operand} {o : Oper} (ho : o.op = .nilCheck x)
    (h : dop P G (.nilCheck x) sl S.H = .val v H') : Did S H' v ((execOp a.eval o).run P S.w) := by
  simp only [dop] at h
  have hx := S3 hg hs x
  split at h
  · rename_i id i j e
    obtain ⟨rfl,rfl⟩ := DR.val.inj h
    rw [e] at hx
    have hx0 := hx
    obtain ⟨⟨b,q,hp⟩,_⟩ := hx0
    have hr : (execOp a.eval o).run P S.w = .ok (.value (a.eval x)) S.w := by simp [execOp,ho,hp]
    rw [hr]
    exact Did.same ok hx
  · rename_i cs e
    obtain ⟨rfl,rfl⟩ := DR.val.inj h
    rw [e] at hx
    have hx0 := hx
    obtain ⟨_,b,q,hp,_⟩ := hx0
    have hr : (execOp a.eval o).run P S.w = .ok (.value (a.eval x)) S.w := by simp [execOp,ho,hp]
    rw [hr]
    exact Did.same ok hx
  · rename_i f cs e
    obtain ⟨rfl,rfl⟩ := DR.val.inj h
    rw [e] at hx
    have hx0 := hx
    obtain ⟨q,hp,_⟩ := hx0
    have hr : (execOp a.eval o).run P S.w = .ok (.value (a.eval x)) S.w := by simp [execOp,ho,hp]
    rw [hr]
    exact Did.same ok hx
  · cases h
theorem op_bin {S : Sit} {sl : List DV} {a : Act} (ok : S.ok) (hg : Glob G S) (hs : VRs S sl a.tmps.toList) {v : DV} {H' : Heap} {x y : Operand} {op : BinOp} {t : TypeId}
    (h : dop P G (.bin op t x y) sl S.H = .val v H') :
    Did S H' v ((do Pure.pure (Next.value (← (do eqGuard op t x y (a.eval x) (a.eval y); binOp op t (a.eval x) (a.eval y) : Sem Value))) : Sem Next).run P S.w) := by
  simp only [dop] at h
  split at h
  · rename_i c d hc hd
    rw [zz9 (S3 hg hs x) hc,zz9 (S3 hg hs y) hd]
    exact Did.pure ok h
  · cases h
theorem op_un {S : Sit} {sl : List DV} {a : Act} (ok : S.ok) (hg : Glob G S) (hs : VRs S sl a.tmps.toList) {v : DV} {H' : Heap} {x : Operand} {op : UnOp}
    (h : dop P G (.un op x) sl S.H = .val v H') : Did S H' v ((do Pure.pure (Next.value (← Op.unary op (a.eval x))) : Sem Next).run P S.w) := by
  simp only [dop] at h
  split at h
  · rename_i c hc
    rw [zz9 (S3 hg hs x) hc]
    exact Did.pure ok h
  · cases h
theorem op_conv {S : Sit} {sl : List DV} {a : Act} (ok : S.ok) (hg : Glob G S) (hs : VRs S sl a.tmps.toList) {v : DV} {H' : Heap} {x : Operand} {s d : TypeId}
    (h : dop P G (.conv s d x) sl S.H = .val v H') : Did S H' v ((do Pure.pure (Next.value (← convert s d (a.eval x))) : Sem Next).run P S.w) := by
  simp only [dop] at h
  split at h
  · rename_i c hc
    rw [zz9 (S3 hg hs x) hc]
    exact Did.pure ok h
  · cases h
theorem op_index {S : Sit} {sl : List DV} {a : Act} (ok : S.ok) (hg : Glob G S) (hs : VRs S sl a.tmps.toList) {v : DV} {H' : Heap} {x y : Operand} {t : TypeId}
    (h : dop P G (.index t x y) sl S.H = .val v H') : Did S H' v ((do Pure.pure (Next.value (← Instr.index t (a.eval x) (a.eval y))) : Sem Next).run P S.w) := by
  simp only [dop] at h
  split at h
  · rename_i c d hc hd
    rw [zz9 (S3 hg hs x) hc,zz9 (S3 hg hs y) hd]
    exact Did.pure ok h
  · cases h
theorem op_sslice {S : Sit} {sl : List DV} {a : Act} (ok : S.ok) (hg : Glob G S) (hs : VRs S sl a.tmps.toList) {v : DV} {H' : Heap} {x : Operand} {lo hi : Option Operand} {t : TypeId}
    (h : dop P G (.sslice t x lo hi) sl S.H = .val v H') : Did S H' v ((do Pure.pure (Next.value (← Instr.slice t (a.eval x) (lo.map a.eval) (hi.map a.eval) none)) : Sem Next).run P S.w) := by
  simp only [dop] at h
  split at h
  · rename_i c hc hl hh
    rw [zz9 (S3 hg hs x) hc]
    cases lo <;> simp at hl
    cases hi <;> simp at hh
    exact Did.pure ok h
  · rename_i c l hc hl hh
    rw [zz9 (S3 hg hs x) hc]
    cases lo <;> simp at hl
    rename_i lo
    rw [zz22,zz9 (S3 hg hs lo) hl]
    cases hi <;> simp at hh
    exact Did.pure ok h
  · rename_i c u hc hl hh
    rw [zz9 (S3 hg hs x) hc]
    cases lo <;> simp at hl
    cases hi <;> simp at hh
    rename_i hi
    rw [zz22,zz9 (S3 hg hs hi) hh]
    exact Did.pure ok h
  · rename_i c l u hc hl hh
    rw [zz9 (S3 hg hs x) hc]
    cases lo <;> simp at hl
    cases hi <;> simp at hh
    rename_i lo hi
    rw [zz22,zz22,zz9 (S3 hg hs lo) hl,zz9 (S3 hg hs hi) hh]
    exact Did.pure ok h
  · cases h
theorem dint_ok {S : Sit} {d : DV} {c : Value} {n : Int} (h : VR S d c) (e : dint d = some n) : ∃ k,c = .int k n := by
  unfold dint at e
  split at e
  · rename_i k m; simp at e; subst e; exact ⟨k,h⟩
  · simp at e
theorem op_fieldAddr {S : Sit} {sl : List DV} {a : Act} (ok : S.ok) (hg : Glob G S) (hs : VRs S sl a.tmps.toList) {v : DV} {H' : Heap} {x : Operand} {s : TypeId} {f : Nat} {fs : Array Field} {g : Field} {n : Nat}
    (h1 : P.underlying s = some (.struct fs)) (h2 : fs[f]? = some g) (h3 : zz3 P g.type = some n) (h4 : n ≠ 0)
    (h : dop P G (.fieldAddr g.offset x) sl S.H = .val v H') : Did S H' v ((do Pure.pure (Next.value (← Instr.fieldAt s (a.eval x) f)) : Sem Next).run P S.w) := by
  simp only [dop] at h
  have hx := S3 hg hs x
  split at h
  · rename_i id i j e
    obtain ⟨rfl,rfl⟩ := DR.val.inj h
    rw [e] at hx
    obtain ⟨⟨b,o,hp⟩,hl,hq⟩ := hx
    have hr : ((do Pure.pure (Next.value (← Instr.fieldAt s (a.eval x) f)) : Sem Next).run P S.w) = .ok (.value (.pointer (some ⟨b,o + g.offset,none⟩))) S.w := by
      simp [Instr.fieldAt,run_underlying h1,h2,hp,Instr.sureAddr,fieldPlace,X9 h3,h4,Addr.add_mk]
    rw [hr]
    refine Did.same ok ⟨⟨_,_,rfl⟩,hl,fun r hr => ?_⟩
    have := hq r hr
    rw [hp] at this
    simp only [Value.pointer.injEq,Option.some.injEq,Addr.mk.injEq,and_true] at this ⊢
    omega
  · rename_i cs e
    obtain ⟨rfl,rfl⟩ := DR.val.inj h
    rw [e] at hx
    obtain ⟨hni,b,o,hp,hb,hc⟩ := hx
    have hr : ((do Pure.pure (Next.value (← Instr.fieldAt s (a.eval x) f)) : Sem Next).run P S.w) = .ok (.value (.pointer (some ⟨b,o + g.offset,none⟩))) S.w := by
      simp [Instr.fieldAt,run_underlying h1,h2,hp,Instr.sureAddr,fieldPlace,X9 h3,h4,Addr.add_mk]
    rw [hr]
    exact Did.same ok ⟨noIdsL_drop _ _ hni,b,o + g.offset,rfl,hb,hc.drop _⟩
  · cases h
theorem op_extract {S : Sit} {sl : List DV} {a : Act} (ok : S.ok) (hg : Glob G S) (hs : VRs S sl a.tmps.toList) {v : DV} {H' : Heap} {x : Operand} {i : Nat}
    (h : dop P G (.extract x i) sl S.H = .val v H') : Did S H' v ((do Pure.pure (Next.value (← Instr.extract (a.eval x) i)) : Sem Next).run P S.w) := by
  simp only [dop] at h
  have hx := S3 hg hs x
  split at h
  · rename_i cs e
    rw [e] at hx
    obtain ⟨arr,hp,hv⟩ := hx
    unfold rval at h
    split at h
    · rename_i d hd
      obtain ⟨rfl,rfl⟩ := DR.val.inj h
      obtain ⟨c,hc,hv⟩ := hv.get i d hd
      have hr : ((do Pure.pure (Next.value (← Instr.extract (a.eval x) i)) : Sem Next).run P S.w) = .ok (.value c) S.w := by
        simp at hc
        simp [Instr.extract,hp,hc]
      rw [hr]
      exact Did.same ok hv
    · cases h
  · cases h
theorem op_field {S : Sit} {sl : List DV} {a : Act} (ok : S.ok) (hg : Glob G S) (hs : VRs S sl a.tmps.toList) {v : DV} {H' : Heap} {x : Operand} {s : TypeId} {f : Nat} {fs : Array Field} {g : Field} {n : Nat} {b : Bool}
    (h1 : P.underlying s = some (.struct fs)) (h2 : fs[f]? = some g) (h3 : cAgg P g.type = some b) (h4 : zz3 P g.type = some n)
    (h : dop P G (.field b g.offset n x) sl S.H = .val v H') : Did S H' v ((do Pure.pure (Next.value (← Instr.field s (a.eval x) f)) : Sem Next).run P S.w) := by
  simp only [dop] at h
  have hx := S3 hg hs x
  split at h
  · rename_i cs e
    rw [e] at hx
    obtain ⟨arr,hp,hv⟩ := hx
    cases b with
    | true =>
      obtain ⟨rfl,rfl⟩ := DR.val.inj h
      have hr : ((do Pure.pure (Next.value (← Instr.field s (a.eval x) f)) : Sem Next).run P S.w) = .ok (.value (.agg (arr.extract g.offset (g.offset + n)))) S.w := by
        simp [Instr.field,run_underlying h1,h2,hp,asAgg,part,cAgg_run h3,X9 h4]
      rw [hr]
      refine Did.same ok ⟨_,rfl,?_⟩
      have := (hv.drop g.offset).take n
      simpa [List.extract_eq_take_drop,Nat.add_sub_cancel_left] using this
    | false =>
      simp only [yz21,if_false,rval] at h
      split at h
      · rename_i d hd
        obtain ⟨rfl,rfl⟩ := DR.val.inj h
        obtain ⟨c,hc,hv⟩ := hv.get _ d hd
        have hr : ((do Pure.pure (Next.value (← Instr.field s (a.eval x) f)) : Sem Next).run P S.w) = .ok (.value c) S.w := by
          simp at hc
          simp [Instr.field,run_underlying h1,h2,hp,asAgg,part,cAgg_run h3,hc]
        rw [hr]
        exact Did.same ok hv
      · cases h
  · cases h
theorem op_mkfn {S : Sit} {sl : List DV} {a : Act} (ok : S.ok) (hg : Glob G S) (hs : VRs S sl a.tmps.toList) {v : DV} {H' : Heap} {f : FuncId} {cs : Array Operand}
    (h : dop P G (.mkfn f cs.toList) sl S.H = .val v H') : Did S H' v ((do Pure.pure (Next.value (← Instr.makeFunc (.func f) #[] (cs.map a.eval))) : Sem Next).run P S.w) := by
  simp only [dop] at h
  obtain ⟨rfl,rfl⟩ := DR.val.inj h
  have hr : ((do Pure.pure (Next.value (← Instr.makeFunc (.func f) #[] (cs.map a.eval))) : Sem Next).run P S.w) = .ok (.value (.func (.func f) #[] (cs.map a.eval))) S.w := by
    simp [Instr.makeFunc]
  rw [hr]
  exact Did.same ok ⟨_,rfl,by simpa using devs_ok hg hs cs.toList⟩
theorem dlen_ok {S : Sit} {d : DV} {c : Value} {n : Nat} (h : VR S d c) (e : dlen d = some n) : ∃ a k,c = .slice a n k := by
  cases d <;> simp only [dlen] at e <;> try (simp at e; done)
  · simp at e; subst e; exact ⟨_,_,h⟩
  · simp at e; subst e; obtain ⟨_,a,k,rfl,_⟩ := h; exact ⟨a,k,rfl⟩
  · simp at e; subst e; obtain ⟨⟨a,k,rfl⟩,_⟩ := h; exact ⟨a,k,rfl⟩
theorem op_len {S : Sit} {sl : List DV} {a : Act} (ok : S.ok) (hg : Glob G S) (hs : VRs S sl a.tmps.toList) {v : DV} {H' : Heap} {x : Operand} {t e : TypeId} (ty : TypeId) (ts : Array TypeId) (ht : ts[0]? = some t)
    (hsl : P.underlying t = some (.slice e)) (h : dop P G (.len x) sl S.H = .val v H') : Did S H' v ((do Pure.pure (Next.value (← Builtin.len_ ts ty #[a.eval x])) : Sem Next).run P S.w) := by
  simp only [dop] at h
  split at h
  · rename_i n hn
    obtain ⟨rfl,rfl⟩ := DR.val.inj h
    obtain ⟨b,k,hc⟩ := dlen_ok (S3 hg hs x) hn
    have hr : ((do Pure.pure (Next.value (← Builtin.len_ ts ty #[a.eval x])) : Sem Next).run P S.w) = .ok (.value (.int .i64 n)) S.w := by
      simp [Builtin.len_,ht,hc,run_underlying hsl,goInt]
    rw [hr]
    exact Did.same ok rfl
  · cases h
theorem op_blt {S : Sit} {sl : List DV} {a : Act} (ok : S.ok) (hg : Glob G S) (hs : VRs S sl a.tmps.toList) {v : DV} {H' : Heap} {b : Builtin} {ts : Array TypeId} {t : TypeId} {xs : Array Operand}
    (h : dop P G (.blt b ts t xs.toList) sl S.H = .val v H') : Did S H' v ((builtin b ts t #[] (xs.map a.eval)).run P S.w) := by
  simp only [dop] at h
  split at h
  · rename_i vs hv
    have := toVs_ok (devs_ok hg hs xs.toList) hv
    have hx : xs.map a.eval = vs.toArray := by
      apply Array.ext'
      simpa using this
    rw [hx]
    split at h
    · rename_i c hc
      obtain ⟨rfl,rfl⟩ := DR.val.inj h
      rw [pv_run hc]
      exact Did.same ok (VR_ofV S c)
    · cases h
  · cases h
theorem op_lslice {S : Sit} {sl : List DV} {a : Act} (ok : S.ok) (hg : Glob G S) (hs : VRs S sl a.tmps.toList) {v : DV} {H' : Heap} {x : Operand} {lo hi : Option Operand} {t e : TypeId} {k : Nat}
    (hsl : P.underlying t = some (.slice e)) (hk : zz3 P e = some k) (h : dop P G (.lslice k x lo hi) sl S.H = .val v H') :
    Did S H' v ((do Pure.pure (Next.value (← Instr.slice t (a.eval x) (lo.map a.eval) (hi.map a.eval) none)) : Sem Next).run P S.w) := by
  simp only [dop] at h
  split at h
  · rename_i l u hl hu
    simp only [rval] at h
    split at h
    · rename_i d hd
      obtain ⟨rfl,rfl⟩ := DR.val.inj h
      have hb : ∀ (o : Option Operand) (m : Option Nat),dints (o.map (dev G sl)) = some m → (o = none ∧ m = none) ∨ ∃ (q : Operand) (n : Nat) (kk : IntKind),o = some q ∧ m = some n ∧ a.eval q = .int kk n := by
        intro o m hm
        cases o with
        | none => simp [dints] at hm; exact .inl ⟨rfl,hm.symm⟩
        | some q =>
          simp only [zz22,dints] at hm
          split at hm
          · rename_i n hn
            split at hm
            · rename_i h0
              obtain ⟨kk,hkk⟩ := dint_ok (S3 hg hs q) hn
              refine .inr ⟨q,n.toNat,kk,rfl,(Option.some.inj hm).symm,?_⟩
              rw [hkk,Int.toNat_of_nonneg h0]
            · simp at hm
          · simp at hm
      have hx := S3 hg hs x
      generalize dev G sl x = dx at hd hx
      have key : ∀ (base : Option Addr) (len cap : Nat),a.eval x = .slice base len cap → l.getD 0 ≤ u.getD len → u.getD len ≤ cap →
          ((do Pure.pure (Next.value (← Instr.slice t (a.eval x) (lo.map a.eval) (hi.map a.eval) none)) : Sem Next).run P S.w) =
            .ok (.value (.slice (if cap = l.getD 0 then base else base.map (·.add (l.getD 0 * k))) (u.getD len - l.getD 0) (cap - l.getD 0))) S.w := by
        intro base len cap he h1 h2
        rcases hb lo l hl with ⟨rfl,rfl⟩ | ⟨q,n,kk,rfl,rfl,hq⟩ <;> rcases hb hi u hu with ⟨rfl,rfl⟩ | ⟨q',n',kk',rfl,rfl,hq'⟩
        · simp [Instr.slice,run_underlying hsl,he,Instr.sliceBounds,X9 hk]
        · simp only [Option.getD_none,Option.getD_some] at h1 h2
          simp [Instr.slice,run_underlying hsl,he,Instr.sliceBounds,Instr.sliceBound,asIntOf,hq',X9 hk,h2]
        · simp only [Option.getD_none,Option.getD_some] at h1 h2
          simp [Instr.slice,run_underlying hsl,he,Instr.sliceBounds,Instr.sliceBound,asIntOf,hq,X9 hk,h1]
        · simp only [Option.getD_some] at h1 h2
          simp [Instr.slice,run_underlying hsl,he,Instr.sliceBounds,Instr.sliceBound,asIntOf,hq,hq',X9 hk,h1,h2]
      cases dx <;> simp only [dslice] at hd <;> try (simp at hd; done)
      ·
        split at hd
        · rename_i hc
          obtain ⟨h1,h2⟩ := hc
          rw [key none 0 0 hx (by rw [h1,h2]; exact jz18 _) (by rw [h2]; exact jz18 _),h1,h2,← Option.some.inj hd]
          exact Did.same ok (by simp [VR])
        · simp at hd
      ·
        rename_i es
        split at hd
        · rename_i hc
          obtain ⟨h1,h2,h3⟩ := hc
          obtain ⟨hni,base,cap,he,hle,hrest⟩ := hx
          rw [key base es.length cap he h1 (by omega),← Option.some.inj hd]
          have hlen : ((es.drop (l.getD 0)).take (u.getD es.length - l.getD 0)).length = u.getD es.length - l.getD 0 := by simp; omega
          refine Did.same ok ⟨noIdss_take _ _ (noIdss_drop _ _ hni),_,cap - l.getD 0,by rw [hlen],by rw [hlen]; omega,?_⟩
          rcases hrest with rfl | ⟨b,o,kk,rfl,hb',hr⟩
          · left; simp
          · by_cases hz : (es.drop (l.getD 0)).take (u.getD es.length - l.getD 0) = []
            · exact .inl hz
            · right
              have hne : ¬ cap = l.getD 0 := by
                intro e
                apply hz
                rw [List.take_eq_nil_iff]; left; omega
              have hkk : kk = k := by
                have hpos : 0 < es.length := by
                  rcases Nat.eq_zero_or_pos es.length with x | x
                  · exfalso; apply hz; rw [List.take_eq_nil_iff]; left; omega
                  · exact x
                have e0 := hr.len (es[0]) (List.getElem_mem hpos)
                have e1 := List.all_eq_true.1 h3 (es[0]) (List.getElem_mem hpos)
                simp only [beq_iff_eq] at e1
                omega
              subst hkk
              refine ⟨b,o + l.getD 0 * kk,kk,by rw [if_neg hne]; simp [Addr.add_mk],hb',(hr.drop _).take _⟩
        · simp at hd
      ·
        rename_i id off len
        split at hd
        · rename_i r hr
          split at hd
          · rename_i hc
            obtain ⟨h1,h2,h3,h4⟩ := hc
            obtain ⟨⟨b0,k0,hsh⟩,hlt,hq⟩ := hx
            have hR := ok.rows id r hr
            rcases hq r hr with ⟨n,he,hn⟩ | ⟨h0,b,he⟩
            · have := hR.room
              rw [key _ len n he h1 (by omega),← Option.some.inj hd]
              refine Did.same ok ⟨⟨_,_,rfl⟩,hlt,fun r' hr' => ?_⟩
              have e := hr.symm.trans hr'
              obtain rfl := Option.some.inj e
              by_cases hz : n = l.getD 0
              · right
                refine ⟨by omega,_,by rw [if_pos hz]; congr 1 <;> omega⟩
              · left
                refine ⟨n - l.getD 0,?_,by omega⟩
                rw [if_neg hz,← h3]
                simp only [zz22,Addr.add_mk,Value.slice.injEq,Option.some.injEq,Addr.mk.injEq,and_true,true_and]
                rw [Nat.add_mul]; omega
            · subst h0
              rw [key _ 0 0 he h1 (by omega),← Option.some.inj hd]
              refine Did.same ok ⟨⟨_,_,rfl⟩,hlt,fun r' hr' => .inr ⟨by omega,?_⟩⟩
              have hl0 : l.getD 0 = 0 := by omega
              have hu0 : u.getD 0 = 0 := by omega
              exact ⟨b,by rw [hl0,hu0]; simp⟩
          · simp at hd
        · simp at hd
    · cases h
  · cases h
theorem op_indexAddr {S : Sit} {sl : List DV} {a : Act} (ok : S.ok) (hg : Glob G S) (hs : VRs S sl a.tmps.toList) {v : DV} {H' : Heap} {x i : Operand} {t e : TypeId} {k : Nat}
    (hsl : P.underlying t = some (.slice e)) (hk : zz3 P e = some k) (h : dop P G (.indexAddr k x i) sl S.H = .val v H') :
    Did S H' v ((do Pure.pure (Next.value (← Instr.indexAt t (a.eval x) (a.eval i))) : Sem Next).run P S.w) := by
  simp only [dop] at h
  split at h
  · rename_i n hn
    obtain ⟨kk,hi⟩ := dint_ok (S3 hg hs i) hn
    simp only [rval] at h
    split at h
    · rename_i d hd
      obtain ⟨rfl,rfl⟩ := DR.val.inj h
      have hx := S3 hg hs x
      generalize dev G sl x = dx at hd hx
      have key : ∀ (b o len cap : Nat),a.eval x = .slice (some ⟨b,o,none⟩) len cap → 0 ≤ n → n < len →
          ((do Pure.pure (Next.value (← Instr.indexAt t (a.eval x) (a.eval i))) : Sem Next).run P S.w) = .ok (.value (.pointer (some ⟨b,o + n.toNat * k,none⟩))) S.w := by
        intro b o len cap he h0 h1
        simp [Instr.indexAt,hi,asIntOf,run_underlying hsl,he,h0,h1,X9 hk,Addr.add_mk]
      cases dx <;> simp only [jz8] at hd <;> try (simp at hd; done)
      · rename_i es
        split at hd
        · rename_i h0
          split at hd
          · rename_i e he
            split at hd
            · rename_i hlen
              obtain ⟨hni,base,cap,hx,hle,hrest⟩ := hx
              have hlt : n.toNat < es.length := by
                rcases Nat.lt_or_ge n.toNat es.length with x | x
                · exact x
                · rw [List.getElem?_eq_none x] at he; simp at he
              rcases hrest with rfl | ⟨b,o,k',rfl,hb,hr⟩
              · simp at hlt
              · obtain ⟨e1,e2⟩ := hr.get _ e he
                have : k' = k := by omega
                subst this
                rw [key b o es.length cap hx h0 (by omega),← Option.some.inj hd]
                exact Did.same ok ⟨noIdss_get _ _ _ hni he,b,_,rfl,hb,e2⟩
            · simp at hd
          · simp at hd
        · simp at hd
      · rename_i id off len
        split at hd
        · rename_i r hr
          split at hd
          · rename_i hc
            obtain ⟨h0,h1,h2,h3⟩ := hc
            obtain ⟨⟨b0,k0,hsh⟩,hlt,hq⟩ := hx
            rcases hq r hr with ⟨m,he,hm⟩ | ⟨hz,_⟩
            · rw [key _ _ len m he h0 h1,← Option.some.inj hd]
              refine Did.same ok ⟨⟨_,_,rfl⟩,hlt,fun r' hr' => ?_⟩
              have e := hr.symm.trans hr'
              obtain rfl := Option.some.inj e
              simp only [Value.pointer.injEq,Option.some.injEq,Addr.mk.injEq,and_true,true_and]
              rw [Nat.add_mul,h2]; omega
            · subst hz; omega
          · simp at hd
        · simp at hd
    · cases h
  · cases h
end
end Go.Dx
end
section
namespace Go.Dx
open Go
section
variable {P : Program} {G : Nat → Option (List DV)}
theorem bytes_cells (S : Sit) : ∀ l : List UInt8,VRs S (l.map fun b => [DV.sc (.int .u8 b.toNat)]).flatten (l.map fun b => Value.int .u8 b.toNat)
  | [] => by simp [VRs]
  | _ :: r => ⟨rfl,bytes_cells S r⟩
theorem delems_ok {S : Sit} (ok : S.ok) {k : Nat} {d : DV} {c : Value} {new : List (List DV)} (h : VR S d c) (e : Z6 S.H k d = some new) :
    (∀ x ∈ new,x.length = k) ∧ ∃ vs,VRs S new.flatten vs ∧ ∀ w',Alike S.w w' → (Builtin.lenOf c).run P w' = .ok new.length w' ∧ (Builtin.firstCells k new.length c).run P w' = .ok vs.toArray w' := by
  have cell : ∀ w',Alike S.w w' → ∀ a : Addr,w'.cell? a = S.w.cell? a := fun w' hw a => by simp only [World.cell?,hw.heap]
  cases d
  ·
    rename_i v
    cases v <;> simp only [Z6] at e <;> try (simp at e; done)
    · rename_i s
      split at e
      · rename_i hk
        subst hk
        obtain rfl : c = _ := h
        obtain rfl := Option.some.inj e
        refine ⟨by simp,_,bytes_cells S s.data.toList,fun w' _ => ⟨?_,?_⟩⟩
        · simp [Builtin.lenOf]
        · simp only [Builtin.firstCells,Sem.run_pure,List.length_map,Array.length_toList]
          congr 1
          have : s.extract 0 s.data.size = s := by
            have := ByteArray.extract_zero_size (b := s)
            exact this
          rw [this]
          apply Array.ext'; simp
      · simp at e
  · simp only [Z6] at e
    obtain rfl : c = _ := h
    obtain rfl := Option.some.inj e
    exact ⟨by simp,[],by simp [VRs],fun w' _ => ⟨by simp [Builtin.lenOf],by simp [Builtin.firstCells]⟩⟩
  · rename_i es
    simp only [Z6] at e
    split at e
    · rename_i ha
      obtain rfl := Option.some.inj e
      obtain ⟨_,a,n,rfl,hle,hr⟩ := h
      have hk : ∀ x ∈ es,x.length = k := fun x hx => by simpa using List.all_eq_true.1 ha x hx
      refine ⟨hk,?_⟩
      rcases hr with rfl | ⟨b,o,k',rfl,hb,hr⟩
      · refine ⟨[],by simp [VRs],fun w' _ => ⟨by simp [Builtin.lenOf],?_⟩⟩
        cases a <;> simp [Builtin.firstCells,loadCells,loadCellsFrom]
      · obtain ⟨vs,w1,w2⟩ := hr.flat.get
        refine ⟨vs,w1,fun w' hw => ⟨by simp [Builtin.lenOf],?_⟩⟩
        refine run_firstCells_some (P := P) w' k es.length ⟨b,o,none⟩ es.length n vs ?_ ?_
        · rw [← w1.length,X5 hk]
        · intro j v hj; rw [Addr.add_mk,cell w' hw]; exact w2 j v hj
    · simp at e
  · rename_i id off len
    simp only [Z6] at e
    split at e
    · rename_i r hr
      split at e
      · rename_i hc
        obtain ⟨rfl,hle⟩ := hc
        obtain rfl := Option.some.inj e
        obtain ⟨⟨b0,k0,hsh⟩,hlt,hq⟩ := h
        have hR := ok.rows id r hr
        have hV := (hR.vals.drop off).take len
        refine ⟨hV.len,?_⟩
        have hlen : ((r.es.drop off).take len).length = len := by simp; omega
        rw [hlen]
        rcases hq r hr with ⟨n,rfl,hn⟩ | ⟨rfl,b,rfl⟩
        · obtain ⟨vs,w1,w2⟩ := hV.flat.get
          refine ⟨vs,w1,fun w' hw => ⟨by simp [Builtin.lenOf],?_⟩⟩
          refine run_firstCells_some (P := P) w' r.k len _ len n vs ?_ ?_
          · rw [← w1.length,X5 hV.len,hlen]
          · intro j v hj; rw [Addr.add_mk,cell w' hw]; exact w2 j v hj
        · exact ⟨[],by simp [VRs],fun w' _ => ⟨by simp [Builtin.lenOf],by simp [Builtin.firstCells,loadCells,loadCellsFrom]⟩⟩
      · simp at e
    · simp at e
  all_goals simp [Z6] at e
theorem append_copy {t u e ty : TypeId} {d : TypeDesc} {i : TypeInfo} {z : Value} {ts : Array TypeId} {w : World} {base : Option Addr} {sLen sCap n : Nat} {x : Value} {olds news : List Value}
    (h0 : ts[0]? = some t) (h1 : ts[1]? = some u) (ht : P.underlying t = some (.slice e)) (hu : P.underlying u = some d) (hd : ∀ k,d ≠ .int k) (hi : P.info? e = some i) (hz : i.zero = some z)
    (hl : (Builtin.lenOf x).run P w = .ok n w) (ho : (Builtin.firstCells i.size sLen (.slice base sLen sCap)).run P w.drew = .ok olds.toArray w.drew)
    (hn : (Builtin.firstCells i.size n x).run P w.drew = .ok news.toArray w.drew) (hg : sCap < sLen + n) (hb : 1 ≤ i.bytes) (hfit : (sLen + n) * i.bytes ≤ 2 ^ 47) :
    (Builtin.append_ ts ty #[.slice base sLen sCap,x]).run P w =
      .ok (.slice (some ⟨w.heap.size,0,none⟩) (sLen + n) (grownCap w (sLen + n) sCap e))
        (w.drew.alloc (.cells (olds.toArray ++ news.toArray ++ Builtin.zeroCells z.cells (grownCap w (sLen + n) sCap e - (sLen + n))) e)) := by
  have hn' : ¬ (sLen + n ≤ sCap) := by omega
  have hbb : sLen + n ≤ (sLen + n) * i.bytes := Nat.le_mul_of_pos_right _ hb
  have h63' : ¬ (9223372036854775807 < ((sLen : Int) + (n : Int))) := by omega
  have h48 := growslice_fits (need := sLen + n) (old := sCap) (bytes := i.bytes) hg hfit
  have h48' : ¬ (281474976710656 < Builtin.nextslicecap (sLen + n) sCap * i.bytes) := by omega
  simp only [Builtin.append_,h0,h1,List.getElem?_toArray,List.getElem?_cons_zero,List.getElem?_cons_succ,Sem.run_bind,run_underlying ht,run_underlying hu,Result.andThen_ok]
  simp [sizeOf,typeInfo,zeroValue,hi,hz,hl,hn',h63',h48',Question.forced,ho,hn,newRow,grownCap]
  congr 2
  apply Array.ext'
  simp [List.append_assoc]
theorem append_room {t u e ty : TypeId} {d : TypeDesc} {i : TypeInfo} {ts : Array TypeId} {w : World} {b o sLen sCap n : Nat} {x : Value} {news : List Value}
    (h0 : ts[0]? = some t) (h1 : ts[1]? = some u) (ht : P.underlying t = some (.slice e)) (hu : P.underlying u = some d) (hd : ∀ k,d ≠ .int k) (hi : P.info? e = some i)
    (hl : (Builtin.lenOf x).run P w = .ok n w) (hn : (Builtin.firstCells i.size n x).run P w = .ok news.toArray w) (hg : sLen + n ≤ sCap)
    (hst : (storeCells ⟨b,o + sLen * i.size,none⟩ news 0).run P w = .ok () (w.setCells b (o + sLen * i.size) news)) :
    (Builtin.append_ ts ty #[.slice (some ⟨b,o,none⟩) sLen sCap,x]).run P w = .ok (.slice (some ⟨b,o,none⟩) (sLen + n) sCap) (w.setCells b (o + sLen * i.size) news) := by
  simp only [Builtin.append_,h0,h1,List.getElem?_toArray,List.getElem?_cons_zero,List.getElem?_cons_succ,Sem.run_bind,run_underlying ht,run_underlying hu,Result.andThen_ok]
  simp [sizeOf,typeInfo,hi,hl,hg,hn,Addr.add_mk,hst]
theorem append_none {t u e ty : TypeId} {d : TypeDesc} {i : TypeInfo} {ts : Array TypeId} {w : World} {base : Option Addr} {sLen sCap : Nat} {x : Value}
    (h0 : ts[0]? = some t) (h1 : ts[1]? = some u) (ht : P.underlying t = some (.slice e)) (hu : P.underlying u = some d) (hd : ∀ k,d ≠ .int k) (hi : P.info? e = some i)
    (hl : (Builtin.lenOf x).run P w = .ok 0 w) (hn : (Builtin.firstCells i.size 0 x).run P w = .ok #[] w) (hg : sLen ≤ sCap) :
    (Builtin.append_ ts ty #[.slice base sLen sCap,x]).run P w = .ok (.slice base sLen sCap) w := by
  simp only [Builtin.append_,h0,h1,List.getElem?_toArray,List.getElem?_cons_zero,List.getElem?_cons_succ,Sem.run_bind,run_underlying ht,run_underlying hu,Result.andThen_ok]
  cases base <;> simp [sizeOf,typeInfo,hi,hl,hg,hn,storeCells]
theorem le_grownCap (w : World) (need old : Nat) (e : TypeId) : need ≤ grownCap w need old e := by
  simp only [grownCap,Question.cut]; exact Nat.le_add_right _ _
theorem zeroCells_size (z : Array Value) (n : Nat) : (Builtin.zeroCells z n).size = n * z.size := by simp [Builtin.zeroCells]
theorem op_append {S : Sit} {sl : List DV} {a : Act} (ok : S.ok) (hg : Glob G S) (hs : VRs S sl a.tmps.toList) {v : DV} {H' : Heap} {s x : Operand} {t u e ty : TypeId} {d : TypeDesc} {i : TypeInfo} {z : List DV} {ts : Array TypeId}
    (h0 : ts[0]? = some t) (h1 : ts[1]? = some u) (ht : P.underlying t = some (.slice e)) (hu : P.underlying u = some d) (hd : ∀ k,d ≠ .int k) (hi : P.info? e = some i) (hz : cZero P e = some z) (hzl : z.length = i.size)
    (hb : 1 ≤ i.bytes) (h : dop P G (.append e i.size i.bytes s x) sl S.H = .val v H') :
    Did S H' v ((do Pure.pure (Next.value (← Builtin.append_ ts ty #[a.eval s,a.eval x])) : Sem Next).run P S.w) := by
  simp only [dop] at h
  split at h
  · rename_i d' H1 hA
    obtain ⟨rfl,rfl⟩ := DR.val.inj h
    simp only [yz10] at hA
    split at hA
    · simp at hA
    · rename_i new hnew
      have hx := S3 hg hs x
      have hss := S3 hg hs s
      obtain ⟨hk,vs,hv,hrun⟩ := delems_ok (P := P) ok hx hnew
      generalize dev G sl s = ds at hA hss
      split at hA
      ·
        rename_i hemp
        have hn0 : new = [] := by simpa using hemp
        subst hn0
        obtain ⟨r1,r2⟩ := hrun S.w (Alike.refl _)
        have hv0 : vs = [] := by have := hv.length; simp at this; exact List.length_eq_zero_iff.1 this.symm
        subst hv0
        have key : ∀ base sLen sCap,a.eval s = .slice base sLen sCap → sLen ≤ sCap →
            ((do Pure.pure (Next.value (← Builtin.append_ ts ty #[a.eval s,a.eval x])) : Sem Next).run P S.w) = .ok (.value (a.eval s)) S.w := by
          intro base sLen sCap he hle
          simp only [Sem.run_bind]
          rw [he,append_none h0 h1 ht hu hd hi r1 r2 hle]; rfl
        split at hA
        · obtain ⟨rfl,rfl⟩ := Prod.mk.inj (Option.some.inj hA)
          rw [key none 0 0 hss (jz18 _)]
          exact Did.same ok hss
        · obtain ⟨rfl,rfl⟩ := Prod.mk.inj (Option.some.inj hA)
          have hss0 := hss
          obtain ⟨_,base,n,he,hle,_⟩ := hss0
          rw [key _ _ _ he hle]
          exact Did.same ok hss
        · rename_i id off len
          split at hA
          · rename_i r hr
            split at hA
            · rename_i hc
              obtain ⟨rfl,rfl⟩ := Prod.mk.inj (Option.some.inj hA)
              have hss0 := hss
              obtain ⟨_,_,hq⟩ := hss0
              rcases hq r hr with ⟨n,he,hn⟩ | ⟨rfl,b,he⟩
              · have := (ok.rows id r hr).room
                rw [key _ _ _ he (by omega)]
                exact Did.same ok hss
              · rw [key _ _ _ he (jz18 _)]
                exact Did.same ok hss
            · simp at hA
          · simp at hA
        · simp at hA
      · rename_i hemp
        have hpos : 0 < new.length := by
          rcases Nat.eq_zero_or_pos new.length with e0 | e0
          · exact absurd (by simpa using e0) hemp
          · exact e0
        obtain ⟨i',zv,hi',hzv,rfl⟩ := cZero_info hz
        obtain rfl := Option.some.inj (hi.symm.trans hi')
        have hzs : zv.cells.size = i.size := by simpa using hzl
        have copy : ∀ (S0 : Sit) (base : Option Addr) (sLen sCap : Nat) (old : List (List DV)) (olds : List Value),S0.ok → Step S S0 → S0.w = S.w → a.eval s = .slice base sLen sCap → old.length = sLen →
            (∀ x ∈ old,x.length = i.size) → VRs S old.flatten olds → (Builtin.firstCells i.size sLen (.slice base sLen sCap)).run P S.w.drew = .ok olds.toArray S.w.drew → sCap < sLen + new.length → (sLen + new.length) * i.bytes ≤ 2 ^ 47 →
            ∀ fz sf,fz ≤ sLen + new.length →
            Did S (S0.H ++ [some { k := i.size,es := old ++ new,ty := e,frz := fz,soft := sf }]) (.osl S0.H.length 0 (sLen + new.length)) ((do Pure.pure (Next.value (← Builtin.append_ ts ty #[a.eval s,a.eval x])) : Sem Next).run P S.w) := by
          intro S0 base sLen sCap old olds ok0 st0 hw0 he hol hok hov hfo hlt hfit fz sf hfz
          have happ := append_copy (w := S.w) (ty := ty) h0 h1 ht hu hd hi hzv (hrun S.w (Alike.refl _)).1 hfo (hrun S.w.drew (Alike.drew _)).2 hlt hb hfit
          have hr : ((do Pure.pure (Next.value (← Builtin.append_ ts ty #[a.eval s,a.eval x])) : Sem Next).run P S.w) =
              .ok (.value (.slice (some ⟨S.w.heap.size,0,none⟩) (sLen + new.length) (grownCap S.w (sLen + new.length) sCap e)))
                (S.w.drew.alloc (.cells (olds.toArray ++ vs.toArray ++ Builtin.zeroCells zv.cells (grownCap S.w (sLen + new.length) sCap e - (sLen + new.length))) e)) := by
            simp only [Sem.run_bind]; rw [he,happ]; rfl
          rw [hr]
          have hge := le_grownCap S.w (sLen + new.length) sCap e
          have hvl : olds.length = sLen * i.size := by rw [← hov.length,X5 hok,hol]
          have hvl2 : vs.length = new.length * i.size := by rw [← hv.length,X5 hk]
          have d0 := new_did (S := S0) ok0 (w1 := S.w.drew) (by rw [hw0]; exact Alike.drew _) { k := i.size,es := old ++ new,ty := e,frz := fz,soft := sf }
            (olds.toArray ++ vs.toArray ++ Builtin.zeroCells zv.cells (grownCap S.w (sLen + new.length) sCap e - (sLen + new.length))) (0,0) (grownCap S.w (sLen + new.length) sCap e) (olds ++ vs)
            (fun x hx => (List.mem_append.1 hx).elim (hok x) (hk x))
            (by rw [List.flatten_append]; exact (hov.mono st0 ok).append (hv.mono st0 ok))
            (fun j v hj => by
              rw [Array.getElem?_append_left (by
                have : j < (olds ++ vs).length := by
                  rcases Nat.lt_or_ge j (olds ++ vs).length with x | x
                  · exact x
                  · rw [List.getElem?_eq_none x] at hj; simp at hj
                simpa using this)]
              simpa using hj)
            (by
              simp only [Array.size_append,List.size_toArray,zeroCells_size,hzs,hvl,hvl2]
              rw [← Nat.add_mul,← Nat.add_mul]
              exact Nat.mul_le_mul_right _ (by omega))
            (by simp only [yz20]; omega)
            (by intro o _ _ hh; exact absurd hh.2 (Nat.not_lt_zero _))
            (by simp only [yz20]; omega) (fun _ => rfl) _ _ (add_osl S0 S.w.drew _ _ _ (sLen + new.length)) rfl
          obtain ⟨n,c,S',e1,e2,e3,e4,e5,e6⟩ := d0.did
          rw [hw0] at e1
          exact ⟨n,c,S',e1,e2,e3,st0.trans e4,e5,e6⟩
        split at hA
        ·
          split at hA
          · rename_i hc
            obtain ⟨hfit,hk1⟩ := hc
            obtain ⟨rfl,rfl⟩ := Prod.mk.inj (Option.some.inj hA)
            have := copy S none 0 0 [] [] ok (Step.refl S) rfl hss rfl (by simp) (by simp [VRs]) (by simp [Builtin.firstCells]) (by omega) (by simpa using hfit) 0 true (by omega)
            simpa using this
          · simp at hA
        · rename_i id off len
          split at hA
          · rename_i r hr
            split at hA
            · rename_i hc
              obtain ⟨hrk,hrt,hle,hfz,hfit,hk1,hall⟩ := hc
              obtain ⟨rfl,rfl⟩ := Prod.mk.inj (Option.some.inj hA)
              obtain ⟨_,hlt,hq⟩ := hss
              have hR := ok.rows id r hr
              have hV := (hR.vals.drop off).take len
              have hlen : ((r.es.drop off).take len).length = len := by simp; omega
              rcases hq r hr with ⟨n,he,hn⟩ | ⟨rfl,b,he⟩
              · rcases Nat.lt_or_ge n (len + new.length) with hlt' | hge
                ·
                  obtain ⟨ws,w1,w2⟩ := hV.flat.get
                  have hfo : (Builtin.firstCells i.size len (.slice (some ⟨S.blk id,S.bas id + off * r.k,none⟩) len n)).run P S.w.drew = .ok ws.toArray S.w.drew := by
                    refine run_firstCells_some (P := P) S.w.drew i.size len _ len n ws ?_ ?_
                    · rw [← w1.length,X5 hV.len,hlen,hrk]
                    · intro j v hj; rw [Addr.add_mk]; exact w2 j v hj
                  have := copy (S.kill id) _ len n ((r.es.drop off).take len) ws (Sit.kill_ok ok id) (Sit.kill_step id) rfl he hlen (by rw [← hrk]; exact hV.len) w1 hfo hlt' hfit (r.frz - off) r.soft (by omega)
                  simpa [Sit.kill,hrk] using this
                ·
                  obtain ⟨arr,lo,hi',hh,hsz,hff,hso⟩ := hR.lie
                  have hvl2 : vs.length = new.length * i.size := by rw [← hv.length,X5 hk]
                  have hcap : (off + len + new.length) * r.k ≤ S.cap id * r.k := Nat.mul_le_mul_right _ (by omega)
                  rw [Nat.add_mul,hrk] at hcap
                  rw [hrk] at hsz hff
                  have hfl : r.frz * i.size ≤ (off + len) * i.size := Nat.mul_le_mul_right _ hfz
                  have hone : ∀ v ∈ vs,v.oneCell' = true := by
                    refine ones_ok hv ?_
                    rw [List.all_flatten]; exact hall
                  have hst := run_storeCells_cells (P := P) (S.blk id) (S.bas id + (off + len) * i.size) vs 0 S.w
                    (fun p hp => by rw [jz21,jz5 hh,Array.getElem?_eq_getElem (by omega)]; rfl)
                    (fun p hp => by
                      rw [jz21,frozen_lie hh]
                      have := hff (S.bas id + (off + len) * i.size + p) (by omega) (by omega)
                      simp only [Bool.and_eq_false_iff,decide_eq_false_iff_not]
                      omega)
                    hone
                  have hoff : S.bas id + off * i.size + len * i.size = S.bas id + (off + len) * i.size := by rw [Nat.add_mul]; omega
                  have happ := append_room (P := P) (w := S.w) (ty := ty) (b := S.blk id) (o := S.bas id + off * i.size) (sLen := len) (sCap := n) h0 h1 ht hu hd hi (hrun S.w (Alike.refl _)).1 (hrun S.w (Alike.refl _)).2 hge
                    (by rw [hoff]; simpa using hst)
                  rw [hoff] at happ
                  have hr' : ((do Pure.pure (Next.value (← Builtin.append_ ts ty #[a.eval s,a.eval x])) : Sem Next).run P S.w) =
                      .ok (.value (.slice (some ⟨S.blk id,S.bas id + off * i.size,none⟩) (len + new.length) n)) (S.w.setCells (S.blk id) (S.bas id + (off + len) * i.size) vs) := by
                    simp only [Sem.run_bind]; rw [he,hrk,happ]; rfl
                  rw [hr']
                  have gok := Sit.grow_ok ok hr off len n new vs hle hn hge (by rw [hrk]; exact hk) hv hfz
                  have gst := Sit.grow_step (S := S) (id := id) (off := off) (n := n) (r := ⟨r.k,(r.es.drop off).take len ++ new,r.ty,r.frz - off,r.soft⟩) (o := S.bas id + (off + len) * r.k) (vs := vs) hr
                  refine ⟨_,.slice (some ⟨S.blk id,S.bas id + off * i.size,none⟩) (len + new.length) n,S.grow id off n ⟨r.k,(r.es.drop off).take len ++ new,r.ty,r.frz - off,r.soft⟩ (S.bas id + (off + len) * r.k) vs,?_,.inl rfl,gok,gst,?_,?_⟩
                  · simp [Sit.grow,hrk]
                  · simp [Sit.grow,hrk,hrt]
                  · refine ⟨⟨_,_,rfl⟩,by simp [Sit.grow],fun q hq' => .inl ⟨n,?_,?_⟩⟩
                    · simp [Sit.grow,T1,hrk]
                    · simp [Sit.grow,T1]
              ·
                have := copy (S.kill id) (some b) 0 0 [] [] (Sit.kill_ok ok id) (Sit.kill_step id) rfl he rfl (by simp) (by simp [VRs]) (by simp [Builtin.firstCells,loadCells,loadCellsFrom]) (by omega) (by simpa using hfit) (r.frz - off) r.soft (by omega)
                simpa [Sit.kill] using this
            · simp at hA
          · simp at hA
        · simp at hA
  · cases h
end
end Go.Dx
end
section
namespace Go.Dx
open Go
section
variable {P : Program} {G : Nat → Option (List DV)}
theorem modify_push {α : Type} (a : Array α) (x : α) (f : α → α) : (a.push x).modify a.size f = a.push (f x) := by
  apply Array.ext_getElem?
  intro i
  rw [Array.getElem?_modify]
  by_cases h : a.size = i
  · subst h; simp
  · simp only [if_neg h,Array.getElem?_push]
    rw [if_neg (fun e => h e.symm),if_neg (fun e => h e.symm)]
theorem freeze_alloc (w : World) (c : Array Value) (e : TypeId) (o : Nat) : (w.alloc (.cells c e)).freeze ⟨w.heap.size,o,none⟩ 1 = w.alloc (.cells c e (o,o + 1)) := by
  simp only [World.freeze,if_neg (Nat.one_ne_zero)]
  show ({ w with heap := (w.heap.push _).modify w.heap.size _ } : World) = { w with heap := w.heap.push _ }
  rw [modify_push]
  simp
theorem run_markStringish_alloc (w : World) (c : Array Value) (e : TypeId) : (markStringish ⟨w.heap.size,0,none⟩).run P (w.alloc (.cells c e)) = .ok () (w.alloc (.cells c e (c.size,c.size + 1))) := by
  have hs : (w.alloc (.cells c e)).shape? w.heap.size = some (e,c.size) := by
    unfold World.shape?
    rw [show (w.alloc (.cells c e)).heap[w.heap.size]? = some (.cells c e) from Array.getElem?_push_size]
  rw [← freeze_alloc w c e c.size]
  simp only [markStringish,Sem.run_bind,run_shape,hs,Result.andThen_ok,run_freeze]
theorem op_convSB {S : Sit} {sl : List DV} {a : Act} (ok : S.ok) (hg : Glob G S) (hs : VRs S sl a.tmps.toList) {v : DV} {H' : Heap} {x : Operand} {s d e : TypeId}
    (h1 : P.underlying s = some .string) (h2 : P.underlying d = some (.slice e)) (h3 : P.underlying e = some (.int .u8))
    (h : dop P G (.convSB e x) sl S.H = .val v H') : Did S H' v ((do Pure.pure (Next.value (← convert s d (a.eval x))) : Sem Next).run P S.w) := by
  simp only [dop] at h
  have hx := S3 hg hs x
  split at h
  · rename_i st hst
    obtain ⟨rfl,rfl⟩ := DR.val.inj h
    rw [hst] at hx
    have hx : a.eval x = .string st := hx
    have hge := le_grownCap S.w st.size 0 e
    have hr : ((do Pure.pure (Next.value (← convert s d (a.eval x))) : Sem Next).run P S.w) =
        .ok (.value (.slice (some ⟨S.w.heap.size,0,none⟩) st.size (grownCap S.w st.size 0 e)))
          (S.w.drew.alloc (.cells (st.data.map (fun b => Value.int .u8 b.toNat) ++ Array.replicate (grownCap S.w st.size 0 e - st.size) (.int .u8 0)) e
            (st.data.size + (grownCap S.w st.size 0 e - st.size),st.data.size + (grownCap S.w st.size 0 e - st.size) + 1))) := by
      have hm := run_markStringish_alloc (P := P) S.w.drew (st.data.map (fun b => Value.int .u8 b.toNat) ++ Array.replicate (grownCap S.w st.size 0 e - st.size) (.int .u8 0)) e
      have hsz : (st.data.map (fun b => Value.int .u8 b.toNat) ++ Array.replicate (grownCap S.w st.size 0 e - st.size) (Value.int .u8 0)).size = st.data.size + (grownCap S.w st.size 0 e - st.size) := by simp
      rw [hsz] at hm
      simp only [World.size_drew] at hm
      simp only [grownCap] at hm
      simp only [Sem.run_bind,convert,run_underlying h1,run_underlying h2,run_underlying h3,hx,Result.andThen_ok,Conv.stringToBytes]
      simp [Question.forced,newRow,hm,grownCap]
    rw [hr]
    refine new_did ok (Alike.drew _) { k := 1,es := st.data.toList.map fun b => [.sc (.int .u8 b.toNat)],ty := e,soft := false } _ _ (grownCap S.w st.size 0 e) (st.data.toList.map fun b => Value.int .u8 b.toNat) ?_ ?_ ?_ ?_ ?_ ?_ ?_ (fun h => by cases h) _ _ (add_osl _ _ _ _ _ _) rfl
    · simp
    · exact bytes_cells S _
    · intro j u hu
      rw [Array.getElem?_append_left (by
        have : j < (st.data.toList.map fun b => Value.int .u8 b.toNat).length := by
          rcases Nat.lt_or_ge j (st.data.toList.map fun b => Value.int .u8 b.toNat).length with x | x
          · exact x
          · rw [List.getElem?_eq_none x] at hu; simp at hu
        simpa using this)]
      simpa using hu
    · have : st.size = st.data.size := rfl
      simp; omega
    · have : st.size = st.data.size := rfl
      simp; omega
    · intro o _ ho hh
      simp at ho hh; omega
    · simp
  · cases h
theorem mem_read {S : Sit} : ∀ {es : List (List DV)} {l : List UInt8} {vs : List Value},Q8 (fun e => match e with | [DV.sc (.int .u8 n)] => some (UInt8.ofNat n.toNat) | _ => none) es = some l →
    VRs S es.flatten vs → ∃ ns : List Int,vs = ns.map (Value.int .u8) ∧ l = ns.map fun n => UInt8.ofNat n.toNat
  | [],l,vs,h,hv => by
    simp only [Q8,Option.some.injEq] at h
    have : vs = [] := by have := hv.length; simp at this; exact List.length_eq_zero_iff.1 this.symm
    exact ⟨[],by simp [this],by simp [← h]⟩
  | e :: r,l,vs,h,hv => by
    simp only [Q8] at h
    split at h
    · rename_i b q hb hq
      obtain rfl := Option.some.inj h
      split at hb
      · rename_i n
        simp only [List.flatten_cons,yz22] at hv
        match vs,hv with
        | u :: vs',⟨hu,hr⟩ =>
          obtain ⟨ns,e1,e2⟩ := mem_read hq hr
          have hu : u = .int .u8 n := hu
          exact ⟨n :: ns,by simp [hu,e1],by simp [← Option.some.inj hb,e2]⟩
      · simp at hb
    · simp at h
theorem foldl_push (ns : List Int) : ∀ s : ByteArray,ns.foldl (fun r n => r.push (UInt8.ofNat n.toNat)) s = s ++ ⟨(ns.map fun n => UInt8.ofNat n.toNat).toArray⟩ := by
  induction ns with
  | nil => intro s; simp; apply ByteArray.ext; simp
  | cons n r ih =>
    intro s
    rw [List.foldl_cons,ih]
    apply ByteArray.ext
    simp [ByteArray.push]
theorem op_convBS {S : Sit} {sl : List DV} {a : Act} (ok : S.ok) (hg : Glob G S) (hs : VRs S sl a.tmps.toList) {v : DV} {H' : Heap} {x : Operand} {s d e : TypeId}
    (h1 : P.underlying s = some (.slice e)) (h2 : P.underlying d = some .string) (h3 : P.underlying e = some (.int .u8))
    (h : dop P G (.convBS x) sl S.H = .val v H') : Did S H' v ((do Pure.pure (Next.value (← convert s d (a.eval x))) : Sem Next).run P S.w) := by
  simp only [dop] at h
  have hx := S3 hg hs x
  split at h
  · rename_i n es hn hes
    simp only [rval] at h
    split at h
    · rename_i d' hd
      obtain ⟨rfl,rfl⟩ := DR.val.inj h
      simp only [jz20] at hd
      obtain ⟨l,hl,rfl⟩ := hd
      obtain ⟨base,cap,he⟩ := dlen_ok hx hn
      obtain ⟨hk,vs,hv,hrun⟩ := delems_ok (P := P) ok hx hes
      obtain ⟨ns,rfl,rfl⟩ := mem_read hl hv
      obtain ⟨r1,r2⟩ := hrun S.w (Alike.refl _)
      rw [he] at r1 r2
      have hlen : n = es.length := by simpa [Builtin.lenOf] using r1
      subst hlen
      have key : (Conv.bytesToString (.slice base es.length cap)).run P S.w = .ok (.string ⟨(ns.map fun n => UInt8.ofNat n.toNat).toArray⟩) S.w := by
        cases base with
        | none =>
          simp only [Builtin.firstCells,Sem.run_pure,Result.ok.injEq,and_true] at r2
          have hn : ns = [] := by
            have := congrArg Array.size r2
            simp at this
            exact List.length_eq_zero_iff.1 this.symm
          subst hn
          simp [Conv.bytesToString]
          rfl
        | some b =>
          simp only [Builtin.firstCells,Nat.mul_one] at r2
          rw [run_bytesToString S.w b es.length cap ns r2,foldl_push]
          congr 2
      have hr : ((do Pure.pure (Next.value (← convert s d (a.eval x))) : Sem Next).run P S.w) = .ok (.value (.string ⟨(ns.map fun n => UInt8.ofNat n.toNat).toArray⟩)) S.w := by
        simp only [Sem.run_bind,he,run_convert_bytes_string S.w s d e base es.length cap h1 h3 h2,key,Result.andThen_ok,Sem.run_pure]
      rw [hr]
      exact Did.same ok rfl
    · cases h
  · cases h
theorem run_mapM_list {α β : Type} (g : α → Sem β) (h : α → β) (w : World) : ∀ l : List α,(∀ x ∈ l,(g x).run P w = .ok (h x) w) → (l.mapM g).run P w = .ok (l.map h) w
  | [],_ => by simp
  | x :: r,hx => by
    have ih := run_mapM_list g h w r (fun y hy => hx y (by simp [hy]))
    simp [List.mapM_cons,hx x (by simp),ih]
theorem run_mapM_array {α β : Type} (g : α → Sem β) (h : α → β) (w : World) (a : Array α) (hx : ∀ x ∈ a.toList,(g x).run P w = .ok (h x) w) : (a.mapM g).run P w = .ok (a.map h) w := by
  rw [Array.mapM_eq_mapM_toList]
  simp only [Sem.run_map,run_mapM_list g h w a.toList hx,Result.andThen_ok]
  congr 1
  apply Array.ext'; simp
theorem foldl_set (cs : List Value) : ∀ (off n : Nat) (arr : Array Value),off + n + cs.length ≤ arr.size →
    ((cs.zipIdx n).foldl (fun a (c,j) => a.setIfInBounds (off + j) c) arr).toList = arr.toList.take (off + n) ++ cs ++ arr.toList.drop (off + n + cs.length) := by
  induction cs with
  | nil => intro off n arr _; simp
  | cons c r ih =>
    intro off n arr h
    simp only [zz20] at h
    simp only [List.zipIdx_cons,List.foldl_cons]
    rw [ih off (n + 1) (arr.setIfInBounds (off + n) c) (by simp; omega)]
    have hl : off + n < arr.toList.length := by simp; omega
    apply List.ext_getElem?
    intro i
    simp only [Array.toList_setIfInBounds,List.append_assoc]
    rw [List.getElem?_append (l₁ := List.take (off + (n + 1)) (arr.toList.set (off + n) c)),List.getElem?_append (l₁ := List.take (off + n) arr.toList)]
    have l1 : (List.take (off + (n + 1)) (arr.toList.set (off + n) c)).length = off + n + 1 := by simp; omega
    have l2 : (List.take (off + n) arr.toList).length = off + n := by simp; omega
    rw [l1,l2]
    by_cases h1 : i < off + n
    · rw [if_pos (by omega),if_pos h1,List.getElem?_take,List.getElem?_take,if_pos (by omega),if_pos h1,List.getElem?_set,if_neg (by omega)]
    · rw [if_neg h1]
      by_cases h2 : i = off + n
      · subst h2
        rw [if_pos (by omega),List.getElem?_take,if_pos (by omega),List.getElem?_set,if_pos rfl,if_pos hl]
        simp
      · rw [if_neg (by omega)]
        rw [show i - (off + n) = (i - (off + n + 1)) + 1 by omega,jz22,List.getElem?_cons_succ]
        rw [List.getElem?_append,List.getElem?_append]
        split
        · rfl
        · rw [List.getElem?_drop,List.getElem?_drop,List.getElem?_set,if_neg (by omega)]
          congr 1; simp only [zz20]; omega
theorem splice_ok {S : Sit} {ds cs : List DV} {vs ws : List Value} (off : Nat) (h : VRs S ds vs) (h1 : VRs S cs ws) : VRs S (jz16 ds off cs) (vs.take off ++ ws ++ vs.drop (off + ws.length)) := by
  unfold jz16
  rw [h1.length]
  exact ((h.take off).append h1).append (h.drop _)
theorem fill_ok {S : Sit} (place : Nat → Option (Nat × Nat)) : ∀ (l : List (Nat × Nat × List DV × Value)) (ds out : List DV) (arr : Array Value),(∀ x ∈ l,place x.1 = some (x.2.1,x.2.2.1.length) ∧ VRs S x.2.2.1 x.2.2.2.cells.toList) →
    VRs S ds arr.toList → dfill ds (l.map fun x => (x.2.1,x.2.2.1)) = some out → ∃ arr',Instr.fill place arr (l.map fun x => (x.1,x.2.2.2)) = some arr' ∧ VRs S out arr'.toList
  | [],ds,out,arr,_,h,e => by
    simp only [zz23,dfill,Option.some.injEq] at e
    subst e
    exact ⟨arr,rfl,h⟩
  | x :: r,ds,out,arr,hx,h,e => by
    obtain ⟨hp,hv⟩ := hx x (by simp)
    simp only [yz23,dfill] at e
    split at e
    · rename_i hc
      have hlen := hv.length
      have hal := h.length
      have hsz : x.2.2.2.cells.size = x.2.2.1.length := by simpa using hlen.symm
      have hf := foldl_set x.2.2.2.cells.toList x.2.1 0 arr (by simp at hal ⊢; omega)
      have hnew := splice_ok x.2.1 h hv
      simp only [jz21] at hf
      rw [← hf] at hnew
      obtain ⟨arr',e1,e2⟩ := fill_ok place r _ out _ (fun y hy => hx y (by simp [hy])) hnew e
      refine ⟨arr',?_,e2⟩
      simp only [yz23,Instr.fill,hp]
      rw [if_neg (by simp at hal ⊢; rw [hsz]; omega)]
      rw [← e1]
      congr 1
      rw [← Array.foldl_toList,Array.toList_zipIdx]
    · simp at e
theorem build_parts {S : Sit} {sl : List DV} {a : Act} (hg : Glob G S) (hs : VRs S sl a.tmps.toList) (fs : Array Field) : ∀ (ps : List (Nat × Operand)) (l : List (Nat × Nat × Operand)),Q8 (cPart P fs) ps = some l →
    (l.all fun (_,n,x) => (dev G sl x).cells.length == n) = true →
    ∃ Q : List (Nat × Nat × List DV × Value),Q.map (fun x => (x.1,x.2.2.2)) = ps.map (fun x => (x.1,a.eval x.2)) ∧ Q.map (fun x => (x.2.1,x.2.2.1)) = l.map (fun (off,n,x) => (off,((dev G sl x).cells.take n))) ∧
      ∀ x ∈ Q,(fs.map fun f => (f.offset,P.cellsOf f.type))[x.1]? = some (x.2.1,x.2.2.1.length) ∧ VRs S x.2.2.1 x.2.2.2.cells.toList
  | [],l,h,_ => by
    simp only [Q8,Option.some.injEq] at h
    subst h
    exact ⟨[],rfl,rfl,by simp⟩
  | p :: r,l,h,ha => by
    simp only [Q8] at h
    split at h
    · rename_i q qs hq hqs
      obtain rfl := Option.some.inj h
      simp only [zz21,zz19] at ha
      obtain ⟨Q,e1,e2,e3⟩ := build_parts hg hs fs r qs hqs ha.2
      unfold cPart at hq
      split at hq
      · rename_i f hf
        simp only [zz3,Option.map_map,jz20] at hq
        obtain ⟨i,hi,rfl⟩ := hq
        have hl : (dev G sl p.2).cells.length = i.size := by simpa using ha.1
        refine ⟨(p.1,f.offset,(dev G sl p.2).cells,a.eval p.2) :: Q,by simp [e1],?_,?_⟩
        · simp only [yz23,e2,Function.comp]
          rw [List.take_of_length_le (by omega)]
        · intro x hx
          rcases List.mem_cons.1 hx with rfl | hx
          · refine ⟨?_,cells_ok (S3 hg hs p.2)⟩
            simp [hf,Program.cellsOf,hi,hl]
          · exact e3 x hx
      · simp at hq
    · simp at h
theorem op_build {S : Sit} {sl : List DV} {a : Act} (ok : S.ok) (hg : Glob G S) (hs : VRs S sl a.tmps.toList) {v : DV} {H' : Heap} {t : TypeId} {fs : Array Field} {z : List DV} {ps : Array (Nat × Operand)} {l : List (Nat × Nat × Operand)}
    (h1 : P.underlying t = some (.struct fs)) (hz : cZero P t = some z) (hp : Q8 (cPart P fs) ps.toList = some l) (hf : fs.toList.all (fun f => (P.info? f.type).isSome) = true)
    (h : dop P G (.build z l) sl S.H = .val v H') : Did S H' v ((do Pure.pure (Next.value (← Instr.build t (ps.map fun (i,x) => (i,a.eval x)))) : Sem Next).run P S.w) := by
  simp only [dop,rval] at h
  split at h
  · rename_i d hd
    obtain ⟨rfl,rfl⟩ := DR.val.inj h
    simp only [Option.bind_eq_some_iff] at hd
    obtain ⟨cs,hcs,hd⟩ := hd
    split at hd
    · rename_i hall
      obtain rfl := Option.some.inj hd
      obtain ⟨zv,rfl,hzr⟩ := cZero_run hz
      obtain ⟨Q,e1,e2,e3⟩ := build_parts (a := a) hg hs fs ps.toList l hp hall
      rw [← e2] at hcs
      obtain ⟨arr,f1,f2⟩ := fill_ok (fun i => (fs.map fun f => (f.offset,P.cellsOf f.type))[i]?) Q _ _ zv.cells e3 (VRs_ofV1 S _) hcs
      have hm : (fs.mapM (fun f => do Pure.pure (f.offset,← sizeOf f.type) : Field → Sem (Nat × Nat))).run P S.w = .ok (fs.map fun f => (f.offset,P.cellsOf f.type)) S.w := by
        refine run_mapM_array _ _ _ fs fun f hf' => ?_
        have := List.all_eq_true.1 hf f hf'
        obtain ⟨i,hi⟩ := Option.isSome_iff_exists.1 this
        simp [sizeOf,typeInfo,hi,Program.cellsOf]
      have hr : ((do Pure.pure (Next.value (← Instr.build t (ps.map fun (i,x) => (i,a.eval x)))) : Sem Next).run P S.w) = .ok (.value (.agg arr)) S.w := by
        have hps : (ps.map fun (i,x) => (i,a.eval x)).toList = Q.map (fun x => (x.1,x.2.2.2)) := by rw [e1]; simp
        simp only [Instr.build,Sem.run_bind,hzr,Result.andThen_ok,run_underlying h1,hm,hps,f1,Sem.run_pure]
      rw [hr]
      exact Did.same ok ⟨arr,rfl,f2⟩
    · simp at hd
  · cases h
theorem yz15 {α : Type} (l : List α) : ∀ (n j : Nat) (v : α),((List.replicate n l).flatten)[j]? = some v → j < n * l.length ∧ l[j % l.length]? = some v
  | 0,j,v,h => by simp at h
  | n + 1,j,v,h => by
    rw [jz19,List.flatten_cons,List.getElem?_append] at h
    split at h
    · rename_i hj
      refine ⟨by rw [Nat.add_mul]; omega,?_⟩
      rw [Nat.mod_eq_of_lt hj]; exact h
    · rename_i hj
      obtain ⟨h1,h2⟩ := yz15 l n (j - l.length) v h
      refine ⟨by rw [Nat.add_mul]; omega,?_⟩
      have : j = (j - l.length) + l.length := by omega
      rw [this,Nat.add_mod_right]; exact h2
theorem VRs_rep {S : Sit} {z : List DV} {zc : List Value} (h : VRs S z zc) : ∀ n,VRs S (List.replicate n z).flatten (List.replicate n zc).flatten
  | 0 => by simp [VRs]
  | n + 1 => by
    simp only [jz19,List.flatten_cons]
    exact h.append (VRs_rep h n)
theorem made_size (z : Array Value) (n : Nat) : (madeCells z n).size = n := by
  simp [madeCells]
theorem made_get (z : Array Value) (n j : Nat) (u : Value) (hj : j < n) (h : z[j % z.size]? = some u) : (madeCells z n)[j]? = some u := by
  have hz : j % z.size < z.size := by
    rcases Nat.lt_or_ge (j % z.size) z.size with x | x
    · exact x
    · rw [Array.getElem?_eq_none x] at h; simp at h
  simp only [madeCells]
  rw [Array.getElem?_eq_getElem (by simpa using hj)]
  simp only [Array.getElem_map,Array.getElem_range]
  rw [Array.getElem?_eq_getElem hz] at h
  rw [getElem!_pos z (j % z.size) hz]
  exact h
theorem op_makeSlice {S : Sit} {sl : List DV} {a : Act} (ok : S.ok) (hg : Glob G S) (hs : VRs S sl a.tmps.toList) {v : DV} {H' : Heap} {t e : TypeId} {z : List DV} {i : TypeInfo} {x y : Operand}
    (h1 : P.underlying t = some (.slice e)) (hi : P.info? e = some i) (hz : cZero P e = some z)
    (h : dop P G (.makeSlice e i.size i.bytes z x y) sl S.H = .val v H') : Did S H' v ((do Pure.pure (Next.value (← Instr.makeSlice t (a.eval x) (a.eval y))) : Sem Next).run P S.w) := by
  simp only [dop] at h
  split at h
  · rename_i l c hl hc
    split at h
    · rename_i hcond
      obtain ⟨c1,c2,c3,c4,c5,c6⟩ := hcond
      obtain ⟨rfl,rfl⟩ := DR.val.inj h
      obtain ⟨k1,hx⟩ := dint_ok (S3 hg hs x) hl
      obtain ⟨k2,hy⟩ := dint_ok (S3 hg hs y) hc
      obtain ⟨i',zv,hi',hzv,rfl⟩ := cZero_info hz
      obtain rfl := Option.some.inj (hi.symm.trans hi')
      have hzs : zv.cells.size = i.size := by simpa using c6
      have hbytes : (i.bytes : Int) * c ≤ 281474976710656 := by rw [Int.mul_comm]; omega
      have hm := run_make (P := P) S.w t e i zv h1 hi hzv k1 k2 l c c1 c2 hbytes (by omega)
      have hr : ((do Pure.pure (Next.value (← Instr.makeSlice t (a.eval x) (a.eval y))) : Sem Next).run P S.w) = .ok (.value (.slice (some ⟨S.w.heap.size,0,none⟩) l.toNat c.toNat))
            (S.w.alloc (.cells (madeCells zv.cells (c.toNat * i.size)) e)) := by
        simp only [Sem.run_bind,hx,hy,hm,Result.andThen_ok,Sem.run_pure]
      rw [hr]
      have hms := made_size zv.cells (c.toNat * i.size)
      refine new_did ok (Alike.refl _) { k := i.size,es := List.replicate l.toNat (zv.cells.toList.map ofV1),ty := e } _ (0,0) c.toNat (List.replicate l.toNat zv.cells.toList).flatten ?_ ?_ ?_ ?_ ?_ ?_ ?_ (fun _ => rfl) _ _ (add_osl _ _ _ _ _ _) rfl
      · intro q hq
        rw [(List.mem_replicate.1 hq).2]; simp [hzs]
      · exact VRs_rep (VRs_ofV1 S _) _
      · intro j u hu
        obtain ⟨q1,q2⟩ := yz15 _ _ _ _ hu
        simp only [Array.length_toList] at q1 q2
        have hlc : l.toNat * zv.cells.size ≤ c.toNat * i.size := by rw [hzs]; exact Nat.mul_le_mul_right _ (by omega)
        exact made_get zv.cells _ j u (by omega) (by simpa using q2)
      · rw [hms]; exact jz18 _
      · simp; omega
      · intro o _ _ hh; exact absurd hh.2 (Nat.not_lt_zero _)
      · simp
    · cases h
  · cases h
end
end Go.Dx
end
