/- The law VarFills: for every text and every list of names and values the call returns true, and both read behind the call as before; the listed tables are tied to the program's text. -/
import Derived.Test.YtcclgnddbgaigaaDoorTie
import Derived.Test.YtcclgnddbgaigaaDoorCards
import Derived.ProofKit
import Derived.OpenShut
import Derived.LaidMore
import Derived.Lay
import Derived.SevenTiedAt
import Derived.Stop.Joined
import Derived.Deep.DeepHandedRow
import Derived.Deep.SlicePairs
import Derived.Shelf.Vars
import Derived.Test.YtcclgnddbgaigaaDoorT25
open Nat renaming le_refl → jz18
open Option renaming map_some → zz22
open List renaming map_cons → yz23, append_nil → jz26
set_option linter.all false
namespace Go.Proofs.YtcclgnddbgaigaaDoor
open Go.ChangeShapes Go.WideShapes Go.ChangeAt Go.RowKit Go.Dx Go.Deep
theorem vf_own : ownKnob Tryd.prog.godebug = none := by kernel_rfl
theorem vf_laidOut : laidOutB Tryd.prog = true := by kernel_rfl
theorem vf_c28 : Tryd.prog.cellsOf 28 = 2 := by kernel_rfl
theorem vf_c9 : Tryd.prog.cellsOf 9 = 1 := by kernel_rfl
theorem fold_cell {W : World} (h : laidMetH Tryd.prog Rows.varFillsRow.laid W) (r : Nat) (hr : r < 128) : W.cell? ⟨0,r,none⟩ = some (.int .u16 (foldTab.getD r 0)) := by
  rw [MakeChecks.laidMetH_plain _ _ _ (by kernel_rfl)] at h
  obtain ⟨ps,⟨_,_,_,_,_,_,_,_,_,_,⟨g,t,cs,fuel,p,q,hg,ht,hv,hd,_,_⟩,_⟩,_,_⟩ := h
  obtain rfl := Option.some.inj ((show Tryd.prog.globalNamed "unicode.asciiFold" = some 0 by kernel_rfl).symm.trans hg)
  obtain rfl := Option.some.inj ((show (Tryd.prog.globals[0]?).map (·.type) = some 92 by kernel_rfl).symm.trans ht)
  obtain ⟨xs,m,_,ex,_,hl,hel⟩ := DataW.trod_array Tryd.underlying92 hd
  have c5 : Tryd.prog.cellsOf 91 = 1 := by kernel_rfl
  have hE := hel r hr
  rw [c5,Nat.mul_one,List.getElem?_eq_getElem (by omega)] at hE
  obtain ⟨z,e1,e2,_⟩ := DataW.trod_int Tryd.underlying91 hE
  have hlen : foldTab.length = 128 := rfl
  have e3 : (xs.map (·.1)) = foldTab.map fun n => .lit (.int .u16 n) := (DataW.agg.inj (Prod.mk.inj ex).1).symm
  have e4 : (xs.map (·.1))[r]? = (foldTab.map fun n => (DataW.lit (.int .u16 n) : DataW Unit))[r]? := by rw [e3]
  rw [List.getElem?_map,List.getElem?_map,List.getElem?_eq_getElem (by omega : r < xs.length),List.getElem?_eq_getElem (by omega : r < foldTab.length),e2] at e4
  have hz : z = foldTab.getD r 0 := by
    simp only [zz22,Option.some.injEq,DataW.lit.injEq,Lit.int.injEq,true_and] at e4
    rw [e4,List.getD,List.getElem?_eq_getElem (by omega : r < foldTab.length)]; rfl
  rw [World.var?_cell hg hv r, ← hz]
  have : cs.toList[r]? = some (.int .u16 z) := by
    have h0 : ((cs.toList.drop r).take 1)[0]? = some (.int .u16 z) := by rw [e1]; rfl
    simpa using h0
  simpa using this
def svStr : Value → ByteArray
  | .string s => s
  | _ => ⟨#[]⟩
theorem add_off (b off k : Nat) : (⟨b,off,none⟩ : Addr).add k = ⟨b,off + k,none⟩ := by
  unfold Addr.add
  split
  · rename_i h; simp [h]
  · rfl
def pairD {H : Type} (p : ByteArray × ByteArray) : DataW H := .agg [.lit (.string p.1.data.toList), .lit (.string p.2.data.toList)]
theorem vf_bytes28 : Tryd.prog.bytesOf 28 = 32 := by kernel_rfl
theorem pair_weights {H : Type} {p : ByteArray × ByteArray} : ∀ {zs : List (ByteArray × ByteArray)},p ∈ zs → p.2.data.toList.length ∈ DataW.weightsAll Tryd.prog 28 (zs.map (pairD (H := H)))
  | q :: r,h => by
    simp only [yz23,DataW.weightsAll,List.mem_append]
    rcases List.mem_cons.1 h with rfl | h
    · left
      simp [pairD,DataW.weights,Tryd.underlying28,DataW.weightsEach]
    · right; exact pair_weights h
theorem open_pairs {H : Type} {enc : TypeId × Value → H} {W : World} {a : Option Addr} {len cap fuel : Nat} {x : DataW H × List MemPlace} (hf : DataW.trod enc Tryd.prog W 0 (fun _ => true) true fuel 22 [.slice a len cap] = some x) :
    ∃ zs : List (ByteArray × ByteArray),zs.length = len ∧ len ≤ cap ∧ (zs = [] ∨ ∃ spare,x.1 = .slice (zs.map pairD) spare) ∧ SvAt W.heap.size W a zs := by
  rcases open_slice_pairs Tryd.underlying22 Tryd.underlying28 vf_c28 rfl rfl vf_c9 vf_c9 hf with ⟨e,_⟩ | ⟨a',len',cap',m,n,V0,V1,D0,D1,P0,P1,e,_,hl,hm,hmm,ex,hx⟩
  · simp only [List.cons.injEq,Value.slice.injEq,and_true] at e
    obtain ⟨rfl,rfl,rfl⟩ := e
    exact ⟨[],rfl,jz18 _, .inl rfl, .inl rfl⟩
  · simp only [List.cons.injEq,Value.slice.injEq,and_true] at e
    obtain ⟨rfl,rfl,rfl⟩ := e
    have hlm : len ≤ m := by rw [hmm]; split <;> omega
    have hs : ∀ i,i < len → (V0 i = .string (svStr (V0 i)) ∧ V1 i = .string (svStr (V1 i)) ∧ (DataW.agg [D0 i,D1 i] : DataW H) = pairD (svStr (V0 i),svStr (V1 i))) := by
      intro i hi
      obtain ⟨_,_,h3,h4⟩ := hx i (by omega)
      obtain ⟨s,e1,e3,_⟩ := DataW.trod_string Tryd.underlying9 h3
      obtain ⟨t,e2,e4,_⟩ := DataW.trod_string Tryd.underlying9 h4
      simp only [Prod.mk.injEq] at e3 e4
      simp only [List.cons.injEq,and_true] at e1 e2
      rw [e1,e2]
      rw [e3.1,e4.1]
      exact ⟨rfl,rfl,rfl⟩
    refine ⟨(List.range len).map fun i => (svStr (V0 i),svStr (V1 i)),by simp,hl, .inr ⟨(List.range (m - len)).map fun j => .agg [D0 (len + j),D1 (len + j)],?_⟩,?_⟩
    · rw [ex,List.map_map]
      dsimp only
      congr 1
      refine List.map_congr_left fun i hi => ?_
      exact (hs i (List.mem_range.1 hi)).2.2
    · obtain ⟨b,off,spot⟩ := a'
      rcases Nat.eq_zero_or_pos len with h0 | h0
      · subst h0; exact .inl rfl
      · obtain ⟨c1,c2,_⟩ := hx 0 (by omega)
        have hspot : spot = none := by simpa [Addr.add] using World.cell?_spot c1
        subst hspot
        have hb : b < W.heap.size := by simpa [Addr.add] using cell_lt c1
        refine .inr ⟨b,off,rfl,hb,fun j hj => ?_⟩
        have hj : j < len := by simpa using hj
        obtain ⟨d1,d2,_⟩ := hx j (by omega)
        obtain ⟨g1,g2,_⟩ := hs j hj
        rw [g1] at d1
        rw [g2] at d2
        rw [add_off] at d1 d2
        simp only [List.getElem?_map,List.getElem?_range hj,zz22,Option.getD_some]
        exact ⟨d1,by rw [Nat.add_assoc]; exact d2⟩
theorem vf_maxLen (W : World) (h : W.ShapedOpen Tryd.prog) : ∃ m,W.cell? ⟨3,0,none⟩ = some (.int .i64 m) :=
  cell_of_shapedOpen_int (t := 3) (zero := #[.int .i64 0]) h (of_decide_eq_true (by kernel_rfl)) (by kernel_rfl) rfl (by kernel_rfl) (by kernel_rfl) Tryd.underlying3
set_option maxRecDepth 100000 in
theorem vf_lifted (os : Os) (started : os.Started) (H : Type) (enc : TypeId × Value → H) :
    ReturnsInHanded {} Tryd.checked os 3 .any (fun w args => (Rows.varFillsSpec.pre enc Tryd.prog Tryd.f3 Rows.varFillsRow.domain false w args ∧ laidMetH Tryd.prog Rows.varFillsRow.laid w) ∧ sizedMet enc Tryd.prog Tryd.f3 (OpenSpec.ofChange Rows.varFillsSpec) false w args)
      (Rows.varFillsSpec.post enc Tryd.prog Tryd.f3 false true false false) := by
  refine returnsInHanded_of_calls vf_own started (by kernel_rfl)
    (ChangeSpec.witness_shaped (enc := enc) (C := Tryd.checked) (os := os) (X := fun w _ => laidMetH Tryd.prog Rows.varFillsRow.laid w) false (World.laidAll Tryd.prog os Rows.varFillsRow.laid) #[.string ⟨#[]⟩, .slice none 0 0] 8 (World.laidAll_os _ _ _)
      (World.shaped_of_ZipB (by kernel_rfl) (by kernel_rfl)) (by kernel_rfl) (by kernel_rfl) (by kernel_rfl)
      (by rw [MakeChecks.laidMetH_plain _ _ _ (by kernel_rfl)]; exact laidMet_laidAll _ (by kernel_rfl) (by kernel_rfl))) ?_
  intro w tape i _ hsh _ hok hpre hholds
  obtain ⟨_,_,_,fn',hfn',_,_,_,_,hval0⟩ := hok
  obtain rfl : fn' = Tryd.f3 := Option.some.inj (hfn'.symm.trans Tryd.func3)
  obtain ⟨⟨⟨ds,gs,before,hw,hc⟩,hx⟩,hz⟩ := hpre
  have hW0 := DataW.Whole.of_heap (w' := w.forCall tape i) (by rfl) hw
  have hsz0 := hz.weights hw
  have hL : laidMetH Tryd.prog Rows.varFillsRow.laid (w.forCall tape i) := hx.of_heap (by rfl)
  clear hw hx
  have hval : ∀ (j : Nat) t v,Tryd.f3.params[j]? = some t → i.args[j]? = some v → Value.okWide Tryd.prog (w.forCall tape i) .any w.heap.size t v := hval0
  clear hval0
  have hcall : Calls Tryd.prog 3 i.args (w.forCall tape i) fun e W' => ∃ v,e = .returned v ∧ Rows.varFillsSpec.post enc Tryd.prog Tryd.f3 false true false false (w.forCall tape i) i.args v W' := by
    have hsh : (w.forCall tape i).ShapedOpen Tryd.prog := hsh
    generalize w.forCall tape i = W at hsh hval hW0 hL ⊢
    generalize i.args = args at hval hW0 ⊢
    have hW' := hW0
    obtain ⟨p,q,hA0,hV,rfl,_,_⟩ := hW0
    have hA : DataW.TrodAll enc Tryd.prog W 0 (fun _ => true) true Tryd.f3.params.toList args.toList ds p := hA0
    have hsz : (DataW.weightsEach Tryd.prog (Tryd.f3.params.toList ++ []) (ds ++ gs)).all (· ≤ reachBytes) = true := hsz0
    rw [Tryd.params3] at hA hval hsz
    obtain ⟨v0,v1,d0,d1,p0,p1,rfl,rfl,rfl,h0,h1⟩ := trodAll_two hA
    obtain ⟨rfl,rfl⟩ := trodVars_none hV
    have h0k := h0
    have h1k := h1
    obtain ⟨s,rfl⟩ := okWide_string Tryd.underlying9 (hval 0 9 v0 rfl rfl)
    obtain ⟨a,len,cap,rfl⟩ := okWide_slice Tryd.underlying22 (hval 1 22 v1 rfl rfl)
    obtain ⟨fuel,hf⟩ := h1
    obtain ⟨zs,rfl,hcap,hdat,hsv⟩ := open_pairs hf
    have hmax : zs.length < 2 ^ 61 := by
      rcases hdat with rfl | ⟨spare,hd⟩
      · simp
      · have := sized_slice hsz (j := 1) (t := 22) (e := 28) rfl (congrArg some hd) Tryd.underlying22
        rw [vf_bytes28,List.length_map] at this
        unfold reachBytes at this
        omega
    have hsize : ∀ p ∈ zs,p.2.size ≤ 140737488351232 := by
      intro p hp
      rcases hdat with rfl | ⟨spare,hd⟩
      · cases hp
      · have := List.all_eq_true.1 hsz _ (DataW.weights_mem_each (t := 22) (j := 1) rfl (congrArg some hd) p.2.data.toList.length (by simp only [DataW.weights,Tryd.underlying22,List.mem_cons,List.mem_append]; exact .inr (.inl (pair_weights hp))))
        have := of_decide_eq_true this
        simpa [reachBytes] using this
    simp only [jz26] at hW'
    have hlt : ∀ x ∈ p0 ++ p1,x.block < W.heap.size := fun x hx => by simpa using hW'.lt x hx
    refine (law_calls s a cap zs W hcap hmax hsize hsv (fold_cell hL) (vf_maxLen W hsh)).mono ?_
    rintro e W' ⟨rfl,bel⟩
    refine ⟨_,rfl,_,_,_, [],p0 ++ p1, [],hW',?_,?_,?_,bel.frame _,fun h => by cases h⟩
    · exact trodAll_mk1 (shut_bool Tryd.underlying4 true)
    · exact trodAll_mk2 (Below.trod vf_laidOut (by kernel_rfl) (of_decide_eq_true (by kernel_rfl)) h0k bel (fun x hx => hlt x (by simp [hx]))) (Below.trod vf_laidOut (by kernel_rfl) (of_decide_eq_true (by kernel_rfl)) h1k bel (fun x hx => hlt x (by simp [hx])))
    · rfl
  refine hcall.mono fun e W' ⟨v,he,hp⟩ => ?_
  subst he
  exact ChangeSpec.post_blind hp
theorem varFills_row : Rows.VarFillsSaid :=
  OpenClaim.holds_of_wide 3 Tryd.f3 rfl rfl rfl rfl rfl rfl rfl ⟨rfl,rfl,rfl,rfl,rfl⟩ rfl rfl rfl rfl rfl (by kernel_rfl) Tryd.func3 (by kernel_rfl)
    (of_decide_eq_true (by kernel_rfl)) (by unfold Func.isWrapper; first | (rw [if_pos (by decide +kernel)]; kernel_rfl) | (rw [if_neg (by decide +kernel)]; exact ⟨rfl,rfl⟩))
    (fun os started H enc _ => vf_lifted os started H enc)
theorem varFills_holds : Rows.VarFillsCardSaid :=
  Claim7.holds_tied_plain_at .later [] [.data, .data, .data, .pinned, .pinned] true (true, "ac18ab923b88b930de49d88a0f7a7af708144feb0da281778f2eb9cb16086b3e") false varFills_row (fun _ h => by cases h) (by kernel_rfl) (fun _ h => by cases h) varFills_row_tie rfl ⟨rfl, rfl⟩ (by kernel_rfl) rfl
    (fun f fn hf hfn => by
      obtain rfl : f = 3 := Option.some.inj ((show Tryd.prog.funcNamed "clerestory/clerestorylaw2.VarFills" = some 3 by kernel_rfl).symm.trans hf) |>.symm
      obtain rfl : fn = Tryd.f3 := (Option.some.inj (Tryd.func3.symm.trans hfn)).symm
      exact ⟨by kernel_rfl,fun j t ht => by
        rw [Tryd.params3] at ht
        have hm : t ∈ [9,22] := by simpa using Array.mem_of_getElem? ht
        have hall : ([9,22].all fun u => !Tryd.prog.wantsStandIn u) = true := by kernel_rfl
        exact (show Tryd.prog.wantsStandIn t = false by simpa using List.all_eq_true.1 hall t hm)⟩)
    (by kernel_rfl)
#print axioms varFills_holds
end Go.Proofs.YtcclgnddbgaigaaDoor
