/- A part of the proof of VarFills: what functions of the program answer. -/
import Derived.Shelf.Strings.SlTrimAscii
import Derived.Shelf.Strings.Search3
import Derived.Shelf.Strings.Fold
import Derived.ScopeJumps
import Derived.WalkMore
import Derived.Laws.RangeAny
import Derived.LoopTactic
import Derived.Deep.LoopGhost
import Derived.RangeFuncNested
import Derived.RangeFuncBound
import Derived.RangeFuncCalls
import Derived.RangeFuncLeaves
import Derived.Shelf.Abstract
import Derived.Shelf.RegionOpen
import Derived.WalkKit
import Derived.OwnWalkIn
import Derived.TacticsInMore
import Derived.LoopNIn
import Derived.LoopIn
import Derived.Test.YtcclgnddbgaigaaDoorT24
open Nat renaming le_refl → jz18, zero_add → yz24
open List renaming length_cons → zz20, cons_append → jz22, map_nil → zz23, map_cons → yz23, length_nil → yz25, nil_append → yz27
open Option renaming map_eq_some_iff → jz20, map_some → zz22
set_option linter.all false
section
namespace Go.Proofs
open Go.Shelf
def Tryd.lays161_ren : Go.Shelf.Ren := ⟨fun | 161 => 32 | 231 => 60 | 227 => 61 | 233 => 62 | 235 => 63 | 228 => 79 | 197 => 43 | 151 => 80 | 260 => 73 | 152 => 85 | 137 => 88 | 119 => 89 | 224 => 83 | 225 => 82 | 217 => 81 | 266 => 86 | n => n,fun | 9 => 9 | 4 => 4 | 3 => 3 | 5 => 5 | 117 => 84 | 116 => 83 | 0 => 0 | 124 => 87 | 105 => 68 | 21 => 21 | 119 => 105 | 46 => 94 | 139 => 108 | 138 => 107 | n => n,fun | 3 => 4 | 4 => 5 | n => n⟩
theorem Tryd.lays161 : Go.Proofs.Lays.n161 Tryd.prog Tryd.lays161_ren := {
  mixed := by kernel_rfl
  f119 := Tryd.func89.trans (congrArg some (by kernel_rfl))
  f137 := Tryd.func88.trans (congrArg some (by kernel_rfl))
  f151 := Tryd.func80.trans (congrArg some (by kernel_rfl))
  f152 := Tryd.func85.trans (congrArg some (by kernel_rfl))
  f161 := Tryd.func32.trans (congrArg some (by kernel_rfl))
  f197 := Tryd.func43.trans (congrArg some (by kernel_rfl))
  f217 := Tryd.func81.trans (congrArg some (by kernel_rfl))
  f224 := Tryd.func83.trans (congrArg some (by kernel_rfl))
  f225 := Tryd.func82.trans (congrArg some (by kernel_rfl))
  f227 := Tryd.func61.trans (congrArg some (by kernel_rfl))
  f228 := Tryd.func79.trans (congrArg some (by kernel_rfl))
  f231 := Tryd.func60.trans (congrArg some (by kernel_rfl))
  f233 := Tryd.func62.trans (congrArg some (by kernel_rfl))
  f235 := Tryd.func63.trans (congrArg some (by kernel_rfl))
  f260 := Tryd.func73.trans (congrArg some (by kernel_rfl))
  f266 := Tryd.func86.trans (congrArg some (by kernel_rfl))
  t0 := Tryd.underlying0
  a0 := Tryd.isAgg0
  z0 := Tryd.sizeOf0
  v0 := Tryd.zeroValue0
  t3 := Tryd.underlying3
  a3 := Tryd.isAgg3
  z3 := Tryd.sizeOf3
  v3 := Tryd.zeroValue3
  t4 := Tryd.underlying4
  a4 := Tryd.isAgg4
  z4 := Tryd.sizeOf4
  v4 := Tryd.zeroValue4
  t5 := Tryd.underlying5
  a5 := Tryd.isAgg5
  z5 := Tryd.sizeOf5
  v5 := Tryd.zeroValue5
  t9 := Tryd.underlying9
  a9 := Tryd.isAgg9
  z9 := Tryd.sizeOf9
  v9 := Tryd.zeroValue9
  t21 := Tryd.underlying21
  a21 := Tryd.isAgg21
  z21 := Tryd.sizeOf21
  v21 := Tryd.zeroValue21
  t46 := Tryd.underlying94
  a46 := Tryd.isAgg94
  z46 := Tryd.sizeOf94
  v46 := Tryd.zeroValue94
  t105 := Tryd.underlying68
  a105 := Tryd.isAgg68
  z105 := Tryd.sizeOf68
  v105 := Tryd.zeroValue68
  t116 := Tryd.underlying83
  a116 := Tryd.isAgg83
  z116 := Tryd.sizeOf83
  t117 := Tryd.underlying84
  a117 := Tryd.isAgg84
  z117 := Tryd.sizeOf84
  v117 := Tryd.zeroValue84
  t119 := Tryd.underlying105
  a119 := Tryd.isAgg105
  z119 := Tryd.sizeOf105
  t124 := Tryd.underlying87
  a124 := Tryd.isAgg87
  z124 := Tryd.sizeOf87
  v124 := Tryd.zeroValue87
  t138 := Tryd.underlying107
  a138 := Tryd.isAgg107
  z138 := Tryd.sizeOf107
  v138 := Tryd.zeroValue107
  t139 := Tryd.underlying108
  a139 := Tryd.isAgg108
  z139 := Tryd.sizeOf108
  v139 := Tryd.zeroValue108
  g3 := by kernel_rfl
  g4 := by kernel_rfl }
def Tryd.lays143_ren : Go.Shelf.Ren := ⟨fun | 143 => 34 | 219 => 65 | 217 => 81 | 225 => 82 | 224 => 83 | 267 => 84 | 266 => 86 | 314 => 87 | n => n,fun | 9 => 9 | 3 => 3 | 4 => 4 | 5 => 5 | 46 => 94 | 146 => 115 | 51 => 109 | n => n,fun | 1 => 3 | n => n⟩
theorem Tryd.lays143 : Go.Proofs.Lays.n143 Tryd.prog Tryd.lays143_ren := {
  mixed := by kernel_rfl
  f143 := Tryd.func34.trans (congrArg some (by kernel_rfl))
  f217 := Tryd.func81.trans (congrArg some (by kernel_rfl))
  f219 := Tryd.func65.trans (congrArg some (by kernel_rfl))
  f224 := Tryd.func83.trans (congrArg some (by kernel_rfl))
  f225 := Tryd.func82.trans (congrArg some (by kernel_rfl))
  f266 := Tryd.func86.trans (congrArg some (by kernel_rfl))
  f267 := Tryd.func84.trans (congrArg some (by kernel_rfl))
  f314 := Tryd.func87.trans (congrArg some (by kernel_rfl))
  t3 := Tryd.underlying3
  a3 := Tryd.isAgg3
  z3 := Tryd.sizeOf3
  v3 := Tryd.zeroValue3
  t4 := Tryd.underlying4
  a4 := Tryd.isAgg4
  z4 := Tryd.sizeOf4
  v4 := Tryd.zeroValue4
  t5 := Tryd.underlying5
  a5 := Tryd.isAgg5
  z5 := Tryd.sizeOf5
  v5 := Tryd.zeroValue5
  t9 := Tryd.underlying9
  a9 := Tryd.isAgg9
  z9 := Tryd.sizeOf9
  v9 := Tryd.zeroValue9
  t46 := Tryd.underlying94
  a46 := Tryd.isAgg94
  z46 := Tryd.sizeOf94
  v46 := Tryd.zeroValue94
  t51 := Tryd.underlying109
  a51 := Tryd.isAgg109
  z51 := Tryd.sizeOf109
  v51 := Tryd.zeroValue109
  t146 := Tryd.underlying115
  a146 := Tryd.isAgg115
  z146 := Tryd.sizeOf115
  v146 := Tryd.zeroValue115
  g1 := by kernel_rfl }
end Go.Proofs
namespace Go.Dx
open Go Go.Proofs Go.Shelf
theorem Sit.below_step {S : Sit} {w1 : World} (h : Go.RowKit.Below S.w.heap.size S.w w1) : Step S { S with w := w1 } :=
  ⟨h.os,h.tape,h.output,h.size,fun b hb _ => h.block b hb,fun _ x => x,fun _ x => .inl x,fun _ x => .inl x,jz18 _,fun _ r _ x => ⟨r,x,rfl,rfl,rfl,rfl⟩⟩
theorem Sit.below_ok {S : Sit} (ok : S.ok) {w1 : World} (h : Go.RowKit.Below S.w.heap.size S.w w1) : Sit.ok { S with w := w1 } where
  rows id r x := (ok.rows id r x).mono (Sit.below_step h) ok (h.block _ (ok.blk_lt x)) rfl rfl rfl
  free := ok.free
  apart := ok.apart
  fzlt b x := Nat.lt_of_lt_of_le (ok.fzlt b x) h.size
theorem W6 {v : DV} {l : List UInt8} (h : bytesOf v = some l) : ∃ s : ByteArray,v = .sc (.string s) ∧ s.data.toList = l := by
  unfold bytesOf at h
  split at h
  · rename_i s; exact ⟨s,rfl,by simpa using h⟩
  · cases h
theorem two_args {S : Sit} {a b : Value} {cargs : Array Value} (h : VRs S [.sc a, .sc b] cargs.toList) : cargs = #[a,b] := by
  have : cargs.toList = [a,b] := by
    match cargs.toList,h with
    | [x,y],⟨h1,h2,_⟩ =>
      have h1 : x = a := h1
      have h2 : y = b := h2
      rw [h1,h2]
  exact Array.ext' (by rw [this])
theorem ans32 (args : List DV) (v : DV) (h : prim32 args = some v) (H : Heap) : Answers Tryd.prog gloV 32 args H v H := by
  unfold prim32 at h
  split at h
  · split at h
    · rename_i a b hs ht
      split at h
      · rename_i hc
        simp only [Option.some.injEq] at h
        subst h
        obtain ⟨s,rfl,rfl⟩ := W6 hs
        obtain ⟨t,rfl,rfl⟩ := W6 ht
        intro S cargs ok hg hH hv
        obtain rfl := two_args hv
        have hlen : t.size = t.data.toList.length := by simp
        refine (Any.strings_TrimLeft_laid Tryd.lays161 (by kernel_rfl) s t S.w (by omega) (fun j b hb => ?_)).mono ?_
        · have := List.all_eq_true.mp hc.1 b (List.mem_of_getElem? hb)
          simp only [decide_eq_true_eq,UInt8.lt_iff_toNat_lt] at this
          exact this
        · rintro e w' ⟨rfl,hb⟩
          exact ⟨_, { S with w := w' },rfl,rfl,hH,Sit.below_ok ok hb,Sit.below_step hb,rfl⟩
      · cases h
    · cases h
  · cases h
theorem ans34 (args : List DV) (v : DV) (h : prim34 args = some v) (H : Heap) : Answers Tryd.prog gloV 34 args H v H := by
  unfold prim34 at h
  split at h
  · split at h
    · rename_i a b hs ht
      split at h
      · rename_i hc
        simp only [Option.some.injEq] at h
        subst h
        obtain ⟨s,rfl,rfl⟩ := W6 hs
        obtain ⟨t,rfl,rfl⟩ := W6 ht
        intro S cargs ok hg hH hv
        obtain rfl := two_args hv
        have hlen : s.size = s.data.toList.length := by simp
        obtain ⟨m,hm⟩ := (hg 3 [] rfl).2 rfl
        refine (Any.strings_Index Tryd.lays143 s t m S.w (by omega) hm).mono ?_
        rintro e w' ⟨rfl,rfl⟩
        exact ⟨_,S,rfl,rfl,hH,ok,Step.refl S,rfl⟩
      · cases h
    · cases h
  · cases h
theorem ent32 : Enters Tryd.prog 32 := ⟨_,Tryd.func32,by kernel_rfl,by decide⟩
theorem ent34 : Enters Tryd.prog 34 := ⟨_,Tryd.func34,by kernel_rfl,by decide⟩
end Go.Dx
end
section
namespace Go
section
variable {P : Program} {a : Act} {w : World} {Q : Exit → Act → World → Prop}
theorem wp_scope_jump {c rest : Code} (l : Nat) (hf : findLabel c l = some rest)
    (first : c.wp P (Exit.jump l (fun a w => rest.wp P (Exit.jump l (fun _ _ => False) Q) a w) Q) a w) : (Code.scope c).wp P Q a w := by
  refine wp_scope_jumps l _ (fun _ _ => 0) hf first ?_
  intro a w h
  refine wp_mono h ?_
  intro e a' w' q
  cases e with
  | goto l' => exact q.2.elim
  | _ => exact q
end
end Go
namespace Go.Proofs
open Go.Shelf Go.RowKit Go.Lib
def Tryd.lays164_ren : Go.Shelf.Ren := ⟨fun | 164 => 21 | 197 => 43 | 239 => 44 | 260 => 73 | 274 => 74 | 275 => 75 | n => n,fun | 9 => 9 | 4 => 4 | 3 => 3 | 5 => 5 | 0 => 0 | 21 => 21 | 105 => 68 | 156 => 92 | 49 => 91 | 157 => 93 | 46 => 94 | 159 => 96 | 162 => 99 | 160 => 97 | 119 => 105 | 139 => 108 | 138 => 107 | 208 => 113 | 51 => 109 | 206 => 111 | n => n,fun | 11 => 0 | 12 => 1 | 13 => 2 | 3 => 4 | 4 => 5 | n => n⟩
theorem Tryd.lays164 : Go.Proofs.Lays.n164 Tryd.prog Tryd.lays164_ren := {
  mixed := by kernel_rfl
  f164 := Tryd.func21.trans (congrArg some (by kernel_rfl))
  f197 := Tryd.func43.trans (congrArg some (by kernel_rfl))
  f239 := Tryd.func44.trans (congrArg some (by kernel_rfl))
  f260 := Tryd.func73.trans (congrArg some (by kernel_rfl))
  f274 := Tryd.func74.trans (congrArg some (by kernel_rfl))
  f275 := Tryd.func75.trans (congrArg some (by kernel_rfl))
  t0 := Tryd.underlying0
  a0 := Tryd.isAgg0
  z0 := Tryd.sizeOf0
  v0 := Tryd.zeroValue0
  t3 := Tryd.underlying3
  a3 := Tryd.isAgg3
  z3 := Tryd.sizeOf3
  v3 := Tryd.zeroValue3
  t4 := Tryd.underlying4
  a4 := Tryd.isAgg4
  z4 := Tryd.sizeOf4
  v4 := Tryd.zeroValue4
  t5 := Tryd.underlying5
  a5 := Tryd.isAgg5
  z5 := Tryd.sizeOf5
  v5 := Tryd.zeroValue5
  t9 := Tryd.underlying9
  a9 := Tryd.isAgg9
  z9 := Tryd.sizeOf9
  v9 := Tryd.zeroValue9
  t21 := Tryd.underlying21
  a21 := Tryd.isAgg21
  z21 := Tryd.sizeOf21
  v21 := Tryd.zeroValue21
  t46 := Tryd.underlying94
  a46 := Tryd.isAgg94
  z46 := Tryd.sizeOf94
  v46 := Tryd.zeroValue94
  t49 := Tryd.underlying91
  a49 := Tryd.isAgg91
  z49 := Tryd.sizeOf91
  v49 := Tryd.zeroValue91
  t51 := Tryd.underlying109
  a51 := Tryd.isAgg109
  z51 := Tryd.sizeOf109
  v51 := Tryd.zeroValue109
  t105 := Tryd.underlying68
  a105 := Tryd.isAgg68
  z105 := Tryd.sizeOf68
  v105 := Tryd.zeroValue68
  t119 := Tryd.underlying105
  a119 := Tryd.isAgg105
  z119 := Tryd.sizeOf105
  t138 := Tryd.underlying107
  a138 := Tryd.isAgg107
  z138 := Tryd.sizeOf107
  v138 := Tryd.zeroValue107
  t139 := Tryd.underlying108
  a139 := Tryd.isAgg108
  z139 := Tryd.sizeOf108
  v139 := Tryd.zeroValue108
  t156 := Tryd.underlying92
  a156 := Tryd.isAgg92
  z156 := Tryd.sizeOf92
  t157 := Tryd.underlying93
  a157 := Tryd.isAgg93
  z157 := Tryd.sizeOf93
  v157 := Tryd.zeroValue93
  t159 := Tryd.underlying96
  a159 := Tryd.isAgg96
  z159 := Tryd.sizeOf96
  v159 := Tryd.zeroValue96
  t160 := Tryd.underlying97
  a160 := Tryd.isAgg97
  z160 := Tryd.sizeOf97
  v160 := Tryd.zeroValue97
  t162 := Tryd.underlying99
  a162 := Tryd.isAgg99
  z162 := Tryd.sizeOf99
  v162 := Tryd.zeroValue99
  t206 := Tryd.underlying111
  a206 := Tryd.isAgg111
  z206 := Tryd.sizeOf111
  v206 := Tryd.zeroValue111
  t208 := Tryd.underlying113
  a208 := Tryd.isAgg113
  z208 := Tryd.sizeOf113
  v208 := Tryd.zeroValue113
  g3 := by kernel_rfl
  g4 := by kernel_rfl
  g11 := by kernel_rfl
  g12 := by kernel_rfl
  g13 := by kernel_rfl }
set_option maxRecDepth 1000000 in
theorem simple44 (n : Nat) (m : Int) (w : World) (h1 : n < 128) (hm : 0 ≤ m) (hm2 : m < 65536) (hc : w.cell? ⟨0,n,none⟩ = some (.int .u16 m)) :
    Calls Tryd.prog 44 #[.int .i32 (n : Int)] w fun e w' => e = .returned (.int .i32 m) ∧ w' = w := by
  go_enter Tryd.func44,Tryd.ntmps44
  have h2 : ¬ ((n : Int) < 0) := by omega
  have h3 : ¬ ((1114111 : Int) < n) := by omega
  have h4 : (n : Int) < 128 := by omega
  go_wp2
  go_ret
  exact ⟨rfl,rfl⟩
set_option maxHeartbeats 8000000 in
set_option maxRecDepth 1000000 in
theorem fold_var_high (s : ByteArray) (w : World) (hs : s.size < 4294967281) (p : Nat) (hp : p < s.size) (hp2 : 128 ≤ (s[p]'hp).toNat)
    (hg : ∀ k : Nat,k < 128 → w.cell? ⟨0,k,none⟩ = some (.int .u16 (Go.Dx.foldTab.getD k 0))) :
    Calls Tryd.prog 21 #[.string s, .string ⟨#[118,97,114]⟩] w fun e w' => e = .returned (.bool false) ∧ Below w.heap.size w w' := by
  obtain ⟨M,hM⟩ : ∃ M : Nat,min (s.size : Int) 3 = (M : Int) := ⟨min s.size 3,by omega⟩
  go_enter Tryd.func21,Tryd.ntmps21
  go_wp2
  refine wp_scope_jump 0 rfl ?_
  go_wp2
  go_loopg [5] M (fun g s5 wx => w = wx ∧ ∃ i : Nat,i + g = M ∧ s5 = .int .i64 i ∧ i ≤ p)
  case atStart => exact ⟨rfl,0,by omega,rfl,by omega⟩
  case round =>
    obtain ⟨rfl,i,hig,rfl,hip⟩ := hrel
    have hMs : M ≤ s.size := by omega
    have hMt : M ≤ 3 := by omega
    cases gk with
    | zero =>
      have hiM : ¬ ((i : Int) < (M : Int)) := by omega
      obtain rfl : i = M := by omega
      have hb : ((s.size : Int) == 3) = false := beq_eq_false_iff_ne.2 (by omega)
      clear hM
      go_wp2
      simp only [Exit.jump]
      go_ret
      exact ⟨rfl,Below.refl _ _⟩
    | succ g =>
      have hiM : (i : Int) < (M : Int) := by omega
      have hisz : (i : Int) < (s.size : Int) := by omega
      have hit : (i : Int) < 3 := by omega
      clear hM
      obtain ⟨x,hx⟩ : ∃ x : UInt8,s[i]'(by omega) = x := ⟨_,rfl⟩
      obtain ⟨y,hy⟩ : ∃ y : UInt8,(⟨#[118,97,114]⟩ : ByteArray)[i]'(by show i < 3; omega) = y := ⟨_,rfl⟩
      have hy128 : y.toNat < 128 := by
        have h3 : ∀ k : Fin 3,((⟨#[118,97,114]⟩ : ByteArray)[k.1]'(by show k.1 < 3; exact k.2)).toNat < 128 := by decide
        rw [← hy]; exact h3 ⟨i,by omega⟩
      have hor : bits .or .u8 (x.toNat : Int) (y.toNat : Int) = ((x.toNat ||| y.toNat : Nat) : Int) := u8_or_nat _ _ (by have := x.toNat_lt; omega) (by have := y.toNat_lt; omega)
      by_cases hx128 : x.toNat < 128
      · have hor128 : ¬ ((128 : Int) ≤ ((x.toNat ||| y.toNat : Nat) : Int)) := by have := Nat.or_lt_two_pow (n := 7) hx128 hy128; omega
        have hpi : i ≠ p := by rintro rfl; rw [hx] at hp2; omega
        go_wp2
        all_goals (try simp only [beq_iff_eq,beq_eq_false_iff_ne,ne_eq] at *)
        all_goals first
          | (go_roundg g
             case measure => omega
             case rel => exact ⟨rfl,i + 1,by omega,by first | rfl | simp,by omega⟩)
          | (simp only [Exit.jump]
             go_ret
             exact ⟨rfl,Below.refl _ _⟩)
      · have hor128 : (128 : Int) ≤ ((x.toNat ||| y.toNat : Nat) : Int) := by have := Nat.left_le_or (n := x.toNat) (m := y.toNat); omega
        go_wp2
        go_step3
        refine ⟨rfl,?_⟩
        have hx2 : 128 ≤ x.toNat := by omega
        obtain ⟨c,rest,he,hc⟩ : ∃ (c : UInt8) (rest : List UInt8),(⟨#[118,97,114]⟩ : ByteArray).extract i 3 = ⟨⟨c :: rest⟩⟩ ∧ (c = 118 ∨ c = 97 ∨ c = 114) ∧ rest.length ≤ 2 := by
          obtain h | h | h : i = 0 ∨ i = 1 ∨ i = 2 := by omega
          · subst h; exact ⟨118, [97,114],by decide, .inl rfl,by decide⟩
          · subst h; exact ⟨97, [114],by decide, .inr (.inl rfl),by decide⟩
          · subst h; exact ⟨114, [],by decide, .inr (.inr rfl),by decide⟩
        have hs0 : 0 < (s.extract i s.size).size := by simp; omega
        have hd := decode_high (s.extract i s.size) 0 hs0 (by
          have : (s.extract i s.size)[0]'hs0 = x := by rw [← hx]; simp [ByteArray.getElem_extract]
          rw [this]; exact hx2)
        have hdl := decode_le (s.extract i s.size) 0
        clear hx hy hor hor128 hx2 hig hip hx128 hy128 hiM
        go_wp2
        generalize s.extract i s.size = s' at *
        obtain ⟨r,hr⟩ : ∃ r,(Utf8.decode s' 0).1 = r := ⟨_,rfl⟩
        rw [hr] at hd hdl
        have hnx := fun ty => run_next_any (P := Tryd.prog) w s' 0 ty hs0
        rw [hr] at hnx
        obtain ⟨d,hd0⟩ : ∃ d : Nat,c.toNat = d := ⟨_,rfl⟩
        obtain ⟨e,hde,hf2,hcd,hf1⟩ : ∃ e : Nat,d = e + 32 ∧ e ≤ 90 ∧ 65 ≤ e ∧ (Go.Dx.foldTab.getD d 0 = (e : Int) ∧ Go.Dx.foldTab.getD e 0 = (d : Int)) := by
          rcases hc.1 with h | h | h <;> subst h
          · exact ⟨86,by rw [← hd0]; rfl,by decide,by decide,by rw [← hd0]; decide⟩
          · exact ⟨65,by rw [← hd0]; rfl,by decide,by decide,by rw [← hd0]; decide⟩
          · exact ⟨82,by rw [← hd0]; rfl,by decide,by decide,by rw [← hd0]; decide⟩
        have hc0 : ∀ h,((⟨⟨c :: rest⟩⟩ : ByteArray)[0]'h).toNat = d := fun _ => hd0
        have hbel := (Below.refl w.heap.size w).alloc (jz18 _) (.stringIter s' (Utf8.decode s' 0).2)
        have hpos : 0 < w.heap.size := by
          have := hg 0 (by omega)
          rcases Nat.eq_zero_or_pos w.heap.size with h | h
          · simp only [World.cell?,Array.getElem?_eq_none (show w.heap.size ≤ 0 by omega)] at this
            cases this
          · exact h
        have hcell1 : (w.iter s' (Utf8.decode s' 0).2).cell? ⟨0,d,none⟩ = some (.int .u16 (e : Int)) := by
          rw [← hf1.1, ← hg d (by omega)]
          exact hbel.cell (p := ⟨0,d,none⟩) hpos
        subst hde
        have hcell2 : (w.iter s' (Utf8.decode s' 0).2).cell? ⟨0,e,none⟩ = some (.int .u16 ((e : Int) + 32)) := by
          rw [show (e : Int) + 32 = ((e + 32 : Nat) : Int) by omega, ← hf1.2, ← hg e (by omega)]
          exact hbel.cell (p := ⟨0,e,none⟩) hpos
        clear hg hf1 he hc hpos hd0 hp2 hp hs hisz hit hMs hMt
        go_loopg [1] 1 (fun g s1 wx => wx = w.iter s' 0 ∧ g = 1 ∧ s1 = .string ⟨⟨c :: rest⟩⟩)
        case atStart => exact ⟨rfl,rfl,rfl⟩
        case round =>
          obtain ⟨rfl,rfl,rfl⟩ := hrel
          go_wp2_with (first | (go_at_call 44; refine (simple44 (e + 32) (e : Int) _ (by omega) (by omega) (by omega) hcell1).mono ?_; rintro e' w' ⟨rfl,rfl⟩) | go_in)
          have hb1 : ((e : Int) != (e : Int) + 32) = true := by simp; omega
          have hb2 : ((e : Int) + 32 != (e : Int) + 32) = false := by simp
          have hb3 : ((e : Int) + 32 == (r : Int)) = false := beq_eq_false_iff_ne.2 (by omega)
          have hb4 : decide ((e : Int) < (r : Int)) = true := decide_eq_true (by omega)
          go_loopg [13] 2 (fun g s13 wx => wx = w.iter s' (Utf8.decode s' 0).2 ∧ ((g = 2 ∧ s13 = .int .i32 (e : Int)) ∨ (g = 1 ∧ s13 = .int .i32 ((e : Int) + 32))))
          case atStart => exact ⟨rfl, .inl ⟨rfl,rfl⟩⟩
          case round =>
            obtain ⟨rfl,⟨rfl,rfl⟩ | ⟨rfl,rfl⟩⟩ := hrel
            · go_wp2_with (first | (go_at_call 44; refine (simple44 e ((e : Int) + 32) _ (by omega) (by omega) (by omega) hcell2).mono ?_; rintro e' w' ⟨rfl,rfl⟩) | go_in)
              go_roundg 1
              case measure => omega
              case rel => exact ⟨rfl, .inr ⟨rfl,rfl⟩⟩
            · go_wp2
              simp only [Exit.jump]
              go_ret
              exact ⟨rfl,hbel⟩
end Go.Proofs
namespace Go.Dx
open Go Go.Proofs Go.Shelf
theorem glob_tab {S : Sit} (hg : Glob gloV S) (k : Nat) (hk : k < 128) : S.w.cell? ⟨0,k,none⟩ = some (.int .u16 (foldTab.getD k 0)) := by
  obtain ⟨_,b,o,hp,_,hc⟩ := (hg 0 (foldTab.map fun n => DV.sc (.int .u16 n)) rfl).1
  injection hp with hp; injection hp with hp; injection hp with hp1 hp2 _
  subst hp1; subst hp2
  obtain ⟨vs,h1,h2⟩ := hc.get
  have hl : foldTab.length = 128 := rfl
  have hk' : (foldTab.map fun n => DV.sc (.int .u16 n))[k]? = some (.sc (.int .u16 (foldTab.getD k 0))) := by
    rw [List.getElem?_map,List.getElem?_eq_getElem (by omega),List.getD_eq_getElem?_getD,List.getElem?_eq_getElem (by omega)]; rfl
  obtain ⟨c,hc1,hc2⟩ := h1.get k _ hk'
  have hc2 : c = .int .u16 (foldTab.getD k 0) := hc2
  have := h2 k c hc1
  rw [yz24] at this
  rw [this,hc2]
set_option maxRecDepth 20000 in
theorem fold_low : ∀ n : Fin 256,Lib.foldEq (UInt8.ofNat n) 118 = decide (lowB (UInt8.ofNat n) = 118) ∧ Lib.foldEq (UInt8.ofNat n) 97 = decide (lowB (UInt8.ofNat n) = 97) ∧ Lib.foldEq (UInt8.ofNat n) 114 = decide (lowB (UInt8.ofNat n) = 114) := by decide
theorem fold_low' (x : UInt8) : Lib.foldEq x 118 = decide (lowB x = 118) ∧ Lib.foldEq x 97 = decide (lowB x = 97) ∧ Lib.foldEq x 114 = decide (lowB x = 114) := by
  have := fold_low ⟨x.toNat,x.toNat_lt⟩
  simpa using this
theorem fold_var (l : List UInt8) : Lib.equalFold l [118,97,114] = decide (l.map lowB = [118,97,114]) := by
  match l with
  | [] => rfl
  | [a] => simp [Lib.equalFold]
  | [a,b] => simp [Lib.equalFold]
  | [a,b,c] =>
    have h1 := (fold_low' a).1
    have h2 := (fold_low' b).2.1
    have h3 := (fold_low' c).2.2
    simp only [Lib.equalFold,h1,h2,h3,yz23,zz23,List.cons.injEq,and_true,Bool.and_true]
    rw [Bool.eq_iff_iff]; simp
  | a :: b :: c :: d :: r => simp [Lib.equalFold]
theorem low_high {x : UInt8} (h : 128 ≤ x.toNat) : lowB x = x := by
  unfold lowB
  rw [if_neg]
  rintro ⟨_,h2⟩
  rw [UInt8.le_iff_toNat_le] at h2
  have : (90 : UInt8).toNat = 90 := rfl
  omega
theorem var_high {l : List UInt8} {p : Nat} {x : UInt8} (hx : l[p]? = some x) (h : 128 ≤ x.toNat) : ¬ l.map lowB = [118,97,114] := by
  intro e
  have h1 : (l.map lowB)[p]? = some x := by rw [List.getElem?_map,hx,zz22,low_high h]
  rw [e] at h1
  match p,h1 with
  | 0,h1 => simp at h1; subst h1; exact absurd h (by decide)
  | 1,h1 => simp at h1; subst h1; exact absurd h (by decide)
  | 2,h1 => simp at h1; subst h1; exact absurd h (by decide)
  | n + 3,h1 => simp at h1
theorem ans21 (args : List DV) (v : DV) (h : prim21 args = some v) (H : Heap) : Answers Tryd.prog gloV 21 args H v H := by
  unfold prim21 at h
  split at h
  · split at h
    · rename_i a b hs ht
      split at h
      · rename_i hc
        simp only [Option.some.injEq] at h
        subst h
        obtain ⟨s,rfl,rfl⟩ := W6 hs
        obtain ⟨t,rfl,rfl⟩ := W6 ht
        obtain ⟨hc1,hc2⟩ := hc
        have ht' : t = ⟨#[118,97,114]⟩ := by
          apply ByteArray.ext
          apply Array.ext'
          rw [hc1]
        intro S cargs ok hg hH hv
        obtain rfl := two_args hv
        subst ht'
        have hlen : s.size = s.data.toList.length := by simp
        by_cases hall : ∀ (j : Nat) b,s.data.toList[j]? = some b → b.toNat < 128
        · refine (Any.strings_EqualFold Tryd.lays164 s ⟨#[118,97,114]⟩ S.w (by omega) hall (fun j b hb => ?_)).mono ?_
          · have : b ∈ ([118,97,114] : List UInt8) := List.mem_of_getElem? hb
            simp only [List.mem_cons,List.not_mem_nil,or_false] at this
            rcases this with rfl | rfl | rfl <;> decide
          · rintro e w' ⟨rfl,rfl⟩
            refine ⟨_,S,rfl,rfl,hH,ok,Step.refl S,?_⟩
            show Value.bool (Lib.equalFold s.data.toList [118,97,114]) = _
            rw [fold_var]
        · obtain ⟨p,b,hb,hn⟩ : ∃ (p : Nat) (b : UInt8),s.data.toList[p]? = some b ∧ ¬ b.toNat < 128 := by
            apply Classical.byContradiction
            intro hne
            apply hall
            intro j b hb
            apply Classical.byContradiction
            intro hn
            exact hne ⟨j,b,hb,hn⟩
          have hp : p < s.size := by
            rw [hlen]
            rcases Nat.lt_or_ge p s.data.toList.length with x | x
            · exact x
            · rw [List.getElem?_eq_none x] at hb; cases hb
          have hsp : s[p]'hp = b := by
            have := Lib.data_getElem? s p hp
            rw [this] at hb; exact Option.some.inj hb
          refine (fold_var_high s S.w (by omega) p hp (by rw [hsp]; omega) (glob_tab hg)).mono ?_
          rintro e w' ⟨rfl,hbl⟩
          refine ⟨_, { S with w := w' },rfl,rfl,hH,Sit.below_ok ok hbl,Sit.below_step hbl,?_⟩
          show Value.bool false = _
          rw [decide_eq_false (var_high hb (by omega))]
      · cases h
    · cases h
  · cases h
theorem ent21 : Enters Tryd.prog 21 := ⟨_,Tryd.func21,by kernel_rfl,by decide⟩
end Go.Dx
end
section
namespace Go.Proofs
open Go.RowKit Go.Shelf
attribute [local go_sem] Oper.semAt_some
abbrev SvP := Nat × ByteArray × ByteArray
def svEnc (x : SvP) : Array Value := #[.int .i64 (x.1 : Int), .agg #[.string x.2.1, .string x.2.2]]
def svAt (zs : List (ByteArray × ByteArray)) (j : Nat) : SvP := (j,(zs[j]?.getD (⟨#[]⟩,⟨#[]⟩)).1,(zs[j]?.getD (⟨#[]⟩,⟨#[]⟩)).2)
def svUp (zs : List (ByteArray × ByteArray)) (k : Nat) : List SvP := (List.range' k (zs.length - k)).reverse.map (svAt zs)
theorem svUp_all (zs : List (ByteArray × ByteArray)) : svUp zs zs.length = [] := by simp [svUp]
theorem svUp_pred (zs : List (ByteArray × ByteArray)) {k : Nat} (h : k < zs.length) : svUp zs k = svUp zs (k + 1) ++ [svAt zs k] := by
  unfold svUp
  rw [show zs.length - k = (zs.length - (k + 1)) + 1 by omega,List.range'_succ]
  simp
theorem svUp_length (zs : List (ByteArray × ByteArray)) (k : Nat) : (svUp zs k).length = zs.length - k := by simp [svUp]
set_option maxRecDepth 100000 in
set_option maxHeartbeats 2000000 in
theorem back1_in (F : Fence) (n : Nat) (h76 : F.fn 76) (hro : F.round = none) (hn : 1 ≤ n) (l Bs n₀ b off cap : Nat) (zs : List (ByteArray × ByteArray)) (hreach : zs.length < 2 ^ 61) (hb : b < n₀) (hbs : Bs < n₀) (J Jx : List SvP → World → Prop)
    (hY : ∀ pre x W,J pre W → pre.length < zs.length → YieldAt F (n - 1) Tryd.prog l (svEnc x) W fun e W' =>
      (e = .returned (.bool true) ∧ J (pre ++ [x]) W' ∧ Below n₀ W W') ∨ (e = .returned (.bool false) ∧ Jx (pre ++ [x]) W'))
    (W : World) (hBs : W.cell? ⟨Bs,0,none⟩ = some (.slice (some ⟨b,off,none⟩) zs.length cap))
    (hc : ∀ j,j < zs.length → W.cell? ⟨b,off + j * 2,none⟩ = some (.string (zs[j]?.getD (⟨#[]⟩,⟨#[]⟩)).1) ∧ W.cell? ⟨b,off + j * 2 + 1,none⟩ = some (.string (zs[j]?.getD (⟨#[]⟩,⟨#[]⟩)).2)) (h0 : J [] W) :
    CallsIn F n Tryd.prog 76 #[.func (.yield l) #[] #[], .pointer (some ⟨Bs,0,none⟩)] W fun e W' => (∃ v,e = .returned v) ∧
      ((∃ ys,ys = svUp zs 0 ∧ J ys W') ∨ (∃ pre,(∃ k,k ≤ zs.length ∧ pre = svUp zs k) ∧ Jx pre W')) := by
  refine callsIn_of_wp Tryd.func76 rfl h76 ?_ hro
  simp only [Tryd.ntmps76,List.size_toArray,zz20,yz25,Nat.reduceAdd,Nat.reduceSub,Array.replicate_succ,Array.replicate_zero,List.push_toArray,List.append_toArray,yz27,jz22]
  gi_wp2
  gi_loopw [3] (fun i wr => ∃ k : Nat,k ≤ zs.length ∧ i = .int .i64 ((k : Int) - 1) ∧ J (svUp zs k) wr ∧ Below n₀ W wr)
    (fun i _ => (intOf i + 1).toNat)
  case atStart => exact ⟨zs.length,jz18 _,by simp [wrap64,IntKind.wrap],by rw [svUp_all]; exact h0,Below.refl _ _⟩
  case round =>
    obtain ⟨k,hk,rfl,hJs,hnx⟩ := hrel
    cases k with
    | succ k =>
      obtain ⟨fn,tmps,assign,body,hy,hR⟩ := hY _ (svAt zs k) wr hJs (by rw [svUp_length]; omega)
      have hcx := fun (j : Nat) (h : j < zs.length) => (hnx.cell (p := ⟨b,off + j * 2,none⟩) hb).trans (hc j h).1
      have hcy := fun (j : Nat) (h : j < zs.length) => (hnx.cell (p := ⟨b,off + j * 2 + 1,none⟩) hb).trans (hc j h).2
      have hcx' := hcx k (by omega)
      have hcy' := hcy k (by omega)
      have hBs' := (hnx.cell (p := ⟨Bs,0,none⟩) hbs).trans hBs
      simp only [svEnc,svAt] at hy
      have hk1 : ((k + 1 : Nat) : Int) - 1 = (k : Int) := by omega
      rw [hk1]
      gi_wp2
      refine hR.mono ?_
      rintro e W3 (⟨rfl,hJ3,hk3⟩ | ⟨rfl,hJx3⟩)
      · gi_wp2
        go_roundw
        case rel => exact ⟨k,by omega,by simp,by rw [svUp_pred zs (by omega)]; exact hJ3,hnx.trans hk3⟩
        case measure => simp [intOf]
      · gi_wp2
        refine bodyPost_ret (results_none rfl _ _ _) rfl ?_
        exact ⟨⟨_,rfl⟩, .inr ⟨_,⟨k,by omega,(svUp_pred _ (by omega)).symm⟩,hJx3⟩⟩
    | zero =>
      gi_wp2
      go_end0
      exact ⟨⟨_,rfl⟩, .inl ⟨_,rfl,hJs⟩⟩
set_option maxRecDepth 100000 in
set_option maxHeartbeats 1000000 in
theorem back1_nil_in (F : Fence) (n : Nat) (h76 : F.fn 76) (hro : F.round = none) (l Bs n₀ cap : Nat) (a : Option Addr) (hbs : Bs < n₀) (J : List SvP → World → Prop) (W : World) (hBs : W.cell? ⟨Bs,0,none⟩ = some (.slice a 0 cap)) (h0 : J [] W) :
    CallsIn F n Tryd.prog 76 #[.func (.yield l) #[] #[], .pointer (some ⟨Bs,0,none⟩)] W fun e W' => (∃ v,e = .returned v) ∧ J [] W' := by
  refine callsIn_of_wp Tryd.func76 rfl h76 ?_ hro
  simp only [Tryd.ntmps76,List.size_toArray,zz20,yz25,Nat.reduceAdd,Nat.reduceSub,Array.replicate_succ,Array.replicate_zero,List.push_toArray,List.append_toArray,yz27,jz22]
  gi_wp2
  gi_loopw [3] (fun i wr => i = .int .i64 (-1) ∧ J [] wr) (fun _ _ => 0)
  case atStart => exact ⟨rfl,h0⟩
  case round =>
    obtain ⟨rfl,hJs⟩ := hrel
    gi_wp2
    go_end0
    exact ⟨⟨_,rfl⟩,hJs⟩
set_option maxHeartbeats 1000000 in
theorem back_in (F : Fence) (n : Nat) (h47 : F.fn 47) (hro : F.round = none) (a : Option Addr) (len cap : Nat) (w : World) :
    CallsIn F n Tryd.prog 47 #[.slice a len cap] w fun e w' => e = .returned (.func (.func 76) #[] #[.pointer (some ⟨w.heap.size,0,none⟩)]) ∧ w' = w.alloc (.cells #[.slice a len cap] 22) := by
  refine callsIn_of_wp Tryd.func47 rfl h47 ?_ hro
  simp only [Tryd.ntmps47,List.size_toArray,zz20,yz25,Nat.reduceAdd,Nat.reduceSub,Array.replicate_succ,Array.replicate_zero,List.push_toArray,List.append_toArray,yz27,jz22]
  gi_wp2
  go_ret
  exact ⟨rfl,rfl⟩
def SvAt (n₀ : Nat) (W : World) (a : Option Addr) (zs : List (ByteArray × ByteArray)) : Prop :=
  zs = [] ∨ ∃ b off,a = some ⟨b,off,none⟩ ∧ b < n₀ ∧ ∀ j,j < zs.length → W.cell? ⟨b,off + j * 2,none⟩ = some (.string (zs[j]?.getD (⟨#[]⟩,⟨#[]⟩)).1) ∧ W.cell? ⟨b,off + j * 2 + 1,none⟩ = some (.string (zs[j]?.getD (⟨#[]⟩,⟨#[]⟩)).2)
theorem SvAt.below {n₀ : Nat} {A B : World} (h : Below n₀ A B) {a : Option Addr} {zs : List (ByteArray × ByteArray)} : SvAt n₀ A a zs → SvAt n₀ B a zs
  | .inl e => .inl e
  | .inr ⟨b,off,e,hb,hc⟩ => .inr ⟨b,off,e,hb,fun j hj => ⟨(h.cell (p := ⟨b,off + j * 2,none⟩) hb).trans (hc j hj).1,(h.cell (p := ⟨b,off + j * 2 + 1,none⟩) hb).trans (hc j hj).2⟩⟩
theorem SvAt.mono {n m : Nat} (h : n ≤ m) {A : World} {a : Option Addr} {zs : List (ByteArray × ByteArray)} : SvAt n A a zs → SvAt m A a zs
  | .inl e => .inl e
  | .inr ⟨b,off,e,hb,hc⟩ => .inr ⟨b,off,e,by omega,hc⟩
theorem back_stops (F : Fence) (n : Nat) (h76 : F.fn 76) (hro : F.round = none) (hn : 1 ≤ n) (Bs n₀ cap : Nat) (a : Option Addr) (zs : List (ByteArray × ByteArray)) (hreach : zs.length < 2 ^ 61) (w : World) (hBs : Bs < n₀) (hn₀ : n₀ ≤ w.heap.size)
    (hc : w.cell? ⟨Bs,0,none⟩ = some (.slice a zs.length cap)) (hI : SvAt n₀ w a zs) :
    SeqStopsK F n Tryd.prog 76 #[.pointer (some ⟨Bs,0,none⟩)] svEnc (Below n₀) (fun ys => ys = svUp zs 0) (fun pre => ∃ k,k ≤ zs.length ∧ pre = svUp zs k) zs.length w := fun l J Jx W hW _ _ hY h0 => by
  have hc' := (hW.cell (p := ⟨Bs,0,none⟩) (show Bs < w.heap.size by omega)).trans hc
  rcases hI.below (hW.mono hn₀) with rfl | ⟨b,off,rfl,hb,hcs⟩
  · exact (back1_nil_in F n h76 hro l Bs n₀ cap a hBs J W hc' h0).mono fun e W' ⟨he,hj⟩ => ⟨he, .inl ⟨_,rfl,hj⟩⟩
  · exact back1_in F n h76 hro hn l Bs n₀ b off cap zs hreach hb hBs J Jx hY W hc' hcs h0
end Go.Proofs
end
section
namespace Go.Proofs
open Go.RowKit Go.Shelf
attribute [local go_sem] Oper.semAt_some
def Box2 (W : World) (B : Nat) (u v : Value) : Prop := W.heap[B]? = some (.cells #[u,v] 28 (0,0))
theorem Box2.lt {W : World} {B : Nat} {u v : Value} (h : Box2 W B u v) : B < W.heap.size := (Array.getElem?_eq_some_iff.1 h).1
theorem Box2.cell {W : World} {B : Nat} {u v : Value} (h : Box2 W B u v) : W.cell? ⟨B,0,none⟩ = some u := by simp [World.cell?,show W.heap[B]? = _ from h]
theorem Box2.cell1 {W : World} {B : Nat} {u v : Value} (h : Box2 W B u v) : W.cell? ⟨B,1,none⟩ = some v := by simp [World.cell?,show W.heap[B]? = _ from h]
theorem Box2.own (W X : World) (B : Nat) (u v : Value) (row : Option Nat) (h : Box2 W B u v) (hg : W.grownBy X row) (hr : ∀ r,row = some r → ∃ o : Obj,W.heap[r]? = some o ∧ o.isCells = false) : Box2 X B u v :=
  (hg.block B h.lt (fun e' => by obtain ⟨o,ho,hc⟩ := hr B e'.symm; rw [show W.heap[B]? = _ from h] at ho; cases ho; cases hc)).trans h
theorem Boxed.under {n₀ : Nat} {W W' : World} {B : Nat} {t : TypeId} {v : Value} (h : Below n₀ W W') (hB : B < n₀) (hb : Boxed W B t v) : Boxed W' B t v := (h.block B hB).trans hb
theorem toList_inj {a b : ByteArray} (h : a.toList = b.toList) : a = b := by
  rw [ByteArray.toList_eq,ByteArray.toList_eq] at h
  exact ByteArray.ext (Array.ext' h)
set_option maxRecDepth 100000 in
set_option maxHeartbeats 4000000 in
theorem last_in (F : Fence) (n : Nat) (h25 : F.fn 25) (h47 : F.fn 47) (h76 : F.fn 76) (hro : F.round = none) (hn : 3 ≤ n) (a : Option Addr) (cap : Nat) (m : ByteArray) (zs : List (ByteArray × ByteArray)) (hreach : zs.length < 2 ^ 61) (w : World) (hI : SvAt w.heap.size w a zs) :
    CallsIn F n Tryd.prog 25 #[.slice a zs.length cap, .string m] w fun e W' =>
      ((e = .returned (.tuple #[.string ⟨#[]⟩, .bool false]) ∧ ∀ x ∈ svUp zs 0,x.2.1 ≠ m) ∨ (∃ k,k < zs.length ∧ e = .returned (.tuple #[.string (svAt zs k).2.2, .bool true]) ∧ (svAt zs k).2.1 = m ∧ ∀ x ∈ svUp zs (k + 1),x.2.1 ≠ m)) ∧ Below w.heap.size w W' := by
  have h1 : 1 ≤ n := by omega
  refine callsIn_of_wp_marks Tryd.func25 rfl h25 ?_ hro
  simp only [Tryd.ntmps25,List.size_toArray,zz20,yz25,Nat.reduceAdd,Nat.reduceSub,Array.replicate_succ,Array.replicate_zero,List.push_toArray,List.append_toArray,yz27,jz22]
  gi_wp2_with (gi_at_call 47; refine (back_in F (n - 1) h47 hro _ _ _ _).mono ?_; rintro e w' ⟨rfl,rfl⟩)
  have bM := (((Boxed.new w 9 (.string m)).alloc (.cells #[.string ⟨#[]⟩] 9)).alloc (.cells #[.bool false] 4)).alloc (.cells #[.slice a zs.length cap] 22)
  have bV := ((Boxed.new (w.alloc (.cells #[.string m] 9)) 9 (.string ⟨#[]⟩)).alloc (.cells #[.bool false] 4)).alloc (.cells #[.slice a zs.length cap] 22)
  have bO := (Boxed.new ((w.alloc (.cells #[.string m] 9)).alloc (.cells #[.string ⟨#[]⟩] 9)) 4 (.bool false)).alloc (.cells #[.slice a zs.length cap] 22)
  have bN := Boxed.new (((w.alloc (.cells #[.string m] 9)).alloc (.cells #[.string ⟨#[]⟩] 9)).alloc (.cells #[.bool false] 4)) 22 (.slice a zs.length cap)
  simp only [World.size_alloc] at bM bV bO bN
  have hB0 : Below w.heap.size w ((((w.alloc (.cells #[.string m] 9)).alloc (.cells #[.string ⟨#[]⟩] 9)).alloc (.cells #[.bool false] 4)).alloc (.cells #[.slice a zs.length cap] 22)) := ((((Below.refl _ w).alloc (jz18 _) _).alloc (by simp) _).alloc (by simp; omega) _).alloc (by simp; omega) _
  have hsz : ((((w.alloc (.cells #[.string m] 9)).alloc (.cells #[.string ⟨#[]⟩] 9)).alloc (.cells #[.bool false] 4)).alloc (.cells #[.slice a zs.length cap] 22)).heap.size = w.heap.size + 4 := by simp
  obtain ⟨W0,hW0⟩ : ∃ W0,(((w.alloc (.cells #[.string m] 9)).alloc (.cells #[.string ⟨#[]⟩] 9)).alloc (.cells #[.bool false] 4)).alloc (.cells #[.slice a zs.length cap] 22) = W0 := ⟨_,rfl⟩
  rw [hW0] at bM bV bO bN hB0 hsz ⊢
  clear hW0
  refine wpIn_rangeFunc_ownH hro h1 (gf := 76) (lb := #[.pointer (some ⟨w.heap.size + 1 + 1 + 1,0,none⟩)]) rfl h76 (enters_of Tryd.func76 (by kernel_rfl) rfl)
    (back_stops F (n - 1) h76 hro (by omega) (w.heap.size + 1 + 1 + 1) (w.heap.size + 4) cap a zs hreach W0 (by omega) (by omega) bN.cell ((hI.below hB0).mono (by omega))) belowK_t (belowK_b (by omega)) (Below.refl _ _) (fun _ => rfl)
    (fun pre W => (∀ x ∈ pre,x.2.1 ≠ m) ∧ Below (w.heap.size + 4) W0 W)
    (fun c pre W => (c = .ret ∧ ∃ ini last,pre = ini ++ [last] ∧ (∀ x ∈ ini,x.2.1 ≠ m) ∧ last.2.1 = m ∧ Boxed W (w.heap.size + 1) 9 (.string last.2.2) ∧ Boxed W (w.heap.size + 1 + 1) 4 (.bool true)) ∧ Below w.heap.size w W)
    (OwnFrom.and (ownFrom_pure _ _) (ownFrom_below (by omega) (by omega)))
    (fun c => OwnFrom.and (Own.from (fun s A B row hs hg hr => by
      obtain ⟨hc,ini,last,e1,e2,e3,e4,e5⟩ := hs
      exact ⟨hc,ini,last,e1,e2,e3,boxed_own _ _ (fun (_ : Unit) => Value.string last.2.2) () A B row e4 hg hr,boxed_own _ _ (fun (_ : Unit) => Value.bool true) () A B row e5 hg hr⟩) _) (ownFrom_below (jz18 _) (by omega)))
    ⟨by simp,Below.refl _ _⟩
    (fun x a' W => ∃ Bx,w.heap.size + 3 < Bx ∧ Box2 W Bx (.string x.2.1) (.string x.2.2) ∧ a' = { tmps := #[.slice a zs.length cap, .string m,undef, .pointer (some ⟨w.heap.size,0,none⟩), .pointer (some ⟨w.heap.size + 1,0,none⟩), .pointer (some ⟨w.heap.size + 1 + 1,0,none⟩),undef, .pointer (some ⟨Bx,0,none⟩), .slice a zs.length cap, .func (.func 76) #[] #[.pointer (some ⟨w.heap.size + 1 + 1 + 1,0,none⟩)], .int .i64 (x.1 : Int), .agg #[.string x.2.1, .string x.2.2],undef,undef,undef,undef,undef,undef],defers := [] })
    (fun x a' _ X Y row hs hg hr => by obtain ⟨Bx,h1,h2,h3⟩ := hs; exact ⟨Bx,h1,h2.own _ _ _ _ _ row hg (fun r e => (hr r e).2),h3⟩)
    ?assign ?body ?done ?stop
  case assign =>
    rintro l pre x W K ⟨hp,hB⟩ hK
    have hsW := hB.size
    dsimp only [svEnc]
    gi_wp2
    exact hK _ _ ((KeepsOthers.alloc _ _).from _) ((Below.refl _ W).alloc (by omega) _) ⟨hp,hB.alloc (by omega) _⟩ ⟨W.heap.size,by omega,World.alloc_heap_new W _,rfl⟩
  case body =>
    rintro l pre x a' W hl ⟨r,hr⟩ ⟨hp,hB⟩ ⟨Bx,hBx,bX,rfl⟩ hlt
    have cM := (Boxed.under hB (by omega) bM).cell
    have bV1 := Boxed.under hB (by omega) bV
    have bO1 := Boxed.under hB (by omega) bO
    have cV := bV1.cell
    have cO := bO1.cell
    have fV := bV1.frozen
    have fO := bO1.frozen
    have cX := bX.cell
    have cX1 := bX.cell1
    have hBw : Below w.heap.size w W := hB0.trans (hB.mono (by omega))
    gi_wp2
    · have hx : x.2.1 = m := by rename_i h; exact toList_inj (by simpa using h)
      exact ⟨(KeepsOthers.setCell _ _ _).from _ |>.trans ((KeepsOthers.setCell _ _ _).from _),⟨rfl,pre,x,rfl,hp,hx,(bV1.set _).other (by omega) _,(bO1.other (by omega) _).set _⟩,
        (hBw.setCell (p := ⟨w.heap.size + 1,0,none⟩) (by simp) _).setCell (p := ⟨w.heap.size + 1 + 1,0,none⟩) (by simp; omega) _⟩
    · have hx : x.2.1 ≠ m := by rename_i h; intro e; rw [e] at h; simp at h
      exact ⟨KeepsFrom.refl _ _,Below.refl _ _,fun p hp' => (List.mem_append.1 hp').elim (hp p) (fun e => by simp at e; subst e; exact hx),hB⟩
  case done =>
    rintro D ys W hD rfl ⟨hp,hB⟩ hK
    have bV1 := Boxed.under hB (by omega) bV
    have bO1 := Boxed.under hB (by omega) bO
    have cV := bV1.cell
    have cO := bO1.cell
    have fV := bV1.frozen
    have fO := bO1.frozen
    have hBw : Below w.heap.size w W := hB0.trans (hB.mono (by omega))
    gi_wp2
    have hK' := (KeepsOthers.setCell (W.setCell ⟨w.heap.size + 1,0,none⟩ (.string ⟨#[]⟩)) ⟨w.heap.size + 1 + 1,0,none⟩ (.bool false)).same D _ ((KeepsOthers.setCell W ⟨w.heap.size + 1,0,none⟩ (.string ⟨#[]⟩)).same D _ hK rfl) rfl
    have hg := grownBy_putObj' ((W.setCell ⟨w.heap.size + 1,0,none⟩ (.string ⟨#[]⟩)).setCell ⟨w.heap.size + 1 + 1,0,none⟩ (.bool false)) D (.deferred none)
    have bV2 := (bV1.set (.string ⟨#[]⟩)).other (B' := w.heap.size + 1 + 1) (by omega) (.bool false)
    have bO2 := (bO1.other (B' := w.heap.size + 1) (by omega) (.string ⟨#[]⟩)).set (.bool false)
    have c1 := cell_kept bV2.cell hg (fun r e => by cases e; exact ⟨_,hK',rfl⟩)
    have c2 := cell_kept bO2.cell hg (fun r e => by cases e; exact ⟨_,hK',rfl⟩)
    refine ⟨by simp, .inl ⟨_,_,rfl,run_takeDeferred hK',?_⟩⟩
    refine ⟨_,?_, .inl ⟨rfl,hp⟩,((hBw.setCell (p := ⟨w.heap.size + 1,0,none⟩) (by simp) _).setCell (p := ⟨w.heap.size + 1 + 1,0,none⟩) (by simp; omega) _).trans (belowK_b (w := w) (jz18 _) _ D _ _ (by omega) hK' rfl rfl)⟩
    simp [results,Tryd.f25,go_sem,c1,c2]
  case stop =>
    rintro D c pre W hD ⟨k,hk,rfl⟩ ⟨⟨rfl,ini,last,e1,e2,e3,bV1,bO1⟩,hB⟩ hK
    have cV := bV1.cell
    have cO := bO1.cell
    gi_wp2
    have hg := grownBy_putObj' W D (.deferred none)
    have c1 := cell_kept cV hg (fun r e => by cases e; exact ⟨_,hK,rfl⟩)
    have c2 := cell_kept cO hg (fun r e => by cases e; exact ⟨_,hK,rfl⟩)
    refine ⟨by simp, .inl ⟨_,_,rfl,run_takeDeferred hK,?_⟩⟩
    have hlt : k < zs.length := by
      rcases Nat.lt_or_ge k zs.length with h | h
      · exact h
      · obtain rfl : k = zs.length := by omega
        rw [svUp_all] at e1
        simp at e1
    rw [svUp_pred zs hlt] at e1
    obtain ⟨rfl,e5⟩ := List.append_inj' e1 rfl
    obtain rfl : svAt zs k = last := by simpa using e5
    refine ⟨_,?_, .inr ⟨k,hlt,rfl,e3,e2⟩,hB.trans (belowK_b (w := w) (jz18 _) W D _ _ (by omega) hK rfl rfl)⟩
    simp [results,Tryd.f25,go_sem,c1,c2]
end Go.Proofs
end
section
namespace Go.Dx
open Go Go.Proofs Go.RowKit Go.Shelf
theorem unsv_some : ∀ {es : List (List DV)} {l : List (List UInt8 × List UInt8)},unsv es = some l →
    ∃ zs : List (ByteArray × ByteArray),es = zs.map (fun p => [DV.sc (.string p.1),DV.sc (.string p.2)]) ∧ l = zs.map (fun p => (p.1.data.toList,p.2.data.toList))
  | [],l,h => by
    simp only [unsv,Option.some.injEq] at h
    exact ⟨[],rfl,h.symm⟩
  | e :: r,l,h => by
    unfold unsv at h
    split at h
    · cases ‹e :: r = []›
    · rename_i a b r' he
      cases he
      split at h
      · rename_i x y l' hx hy hl
        obtain ⟨zs,e1,e2⟩ := unsv_some hl
        obtain ⟨s,rfl,rfl⟩ := W6 hx
        obtain ⟨t,rfl,rfl⟩ := W6 hy
        simp only [Option.some.injEq] at h
        exact ⟨(s,t) :: zs,by simp [e1],by rw [← h,e2]; rfl⟩
      · cases h
    · cases h
theorem lastP_none {n : List UInt8} : ∀ {l : List (List UInt8 × List UInt8)},(∀ p ∈ l,p.1 ≠ n) → Z1 l n = none
  | [],_ => rfl
  | (a,b) :: r,h => by
    have hr : Z1 r n = none := lastP_none fun p hp => h p (by simp [hp])
    have ha : a ≠ n := h (a,b) (by simp)
    simp only [Z1,hr,if_neg ha]
theorem lastP_at {n v : List UInt8} {B : List (List UInt8 × List UInt8)} (hB : ∀ p ∈ B,p.1 ≠ n) : ∀ A : List (List UInt8 × List UInt8),Z1 (A ++ (n,v) :: B) n = some v
  | [] => by simp only [yz27,Z1,lastP_none hB,if_true]
  | (a,b) :: A => by simp only [jz22,Z1,lastP_at hB A]
theorem mem_svUp {zs : List (ByteArray × ByteArray)} {k j : Nat} (h1 : k ≤ j) (h2 : j < zs.length) : svAt zs j ∈ svUp zs k := by
  unfold svUp
  refine List.mem_map.2 ⟨j,?_,rfl⟩
  rw [List.mem_reverse,List.mem_range']
  exact ⟨j - k,by omega,by omega⟩
theorem svAt_fst {zs : List (ByteArray × ByteArray)} {j : Nat} (h : j < zs.length) : (svAt zs j).2 = zs[j] := by
  simp [svAt,h]
theorem pair_cells {S : Sit} {b o : Nat} {u v : Value} (h : VRcells S b o [.sc u, .sc v]) : S.w.cell? ⟨b,o,none⟩ = some u ∧ S.w.cell? ⟨b,o + 1,none⟩ = some v := by
  obtain ⟨⟨c,h1,h2⟩,⟨d,h3,h4⟩,_⟩ := h
  have h2 : c = u := h2
  have h4 : d = v := h4
  subst h2; subst h4
  exact ⟨h1,h3⟩
theorem ans25 (args : List DV) (v : DV) (h : prim25 args = some v) (H : Heap) : Answers Tryd.prog gloV 25 args H v H := by
  unfold prim25 at h
  split at h
  · split at h
    · rename_i es t l n hl hn
      split at h
      · rename_i hlen
        simp only [Option.some.injEq] at h
        subst h
        obtain ⟨zs,rfl,rfl⟩ := unsv_some hl
        obtain ⟨m,rfl,rfl⟩ := W6 hn
        intro S cargs ok hg hH hv
        obtain ⟨c,rfl,a,k,rfl,hsv⟩ : ∃ c,cargs = #[c, .string m] ∧ ∃ a k,c = .slice a zs.length k ∧ SvAt S.w.heap.size S.w a zs := by
          have hv' : ∃ c,cargs.toList = [c, .string m] ∧ VR S (.imm (zs.map (fun p => [DV.sc (.string p.1),DV.sc (.string p.2)]))) c := by
            match cargs.toList,hv with
            | [x,y],⟨h1,h2,_⟩ =>
              have h2 : y = .string m := h2
              exact ⟨x,by rw [h2],h1⟩
          obtain ⟨c,hc,_,a,k,e1,_,hx⟩ := hv'
          refine ⟨c,Array.ext' (by rw [hc]),a,k,by rw [e1,List.length_map],?_⟩
          rcases hx with hx | ⟨b,o,kk,rfl,hb,hr⟩
          · exact .inl (by simpa using hx)
          · refine .inr ⟨b,o,rfl,ok.fzlt b hb,fun j hj => ?_⟩
            obtain ⟨g1,g2⟩ := hr.get j [DV.sc (.string zs[j].1),DV.sc (.string zs[j].2)] (by simp [hj])
            have g1 : 2 = kk := g1
            subst g1
            have := pair_cells g2
            simpa [hj] using this
        have hz : zs.length < 2 ^ 61 := by simpa using hlen
        refine (callsIn_wide (n := 3)).1 ((last_in Fence.wide 3 trivial trivial trivial rfl (by omega) a k m zs hz S.w hsv).mono ?_)
        rintro e w' ⟨⟨rfl,hne⟩ | ⟨j,hj,rfl,he,hne⟩,hb⟩
        · have hq : Z1 (zs.map (fun p => (p.1.data.toList,p.2.data.toList))) m.data.toList = none := lastP_none fun p hp => by
            obtain ⟨q,hq,rfl⟩ := List.mem_map.1 hp
            obtain ⟨i,hi,rfl⟩ := List.mem_iff_getElem.1 hq
            have := hne _ (mem_svUp (zs := zs) (Nat.zero_le i) hi)
            rw [svAt_fst hi] at this
            exact fun e => this (ByteArray.ext (Array.ext' e))
          rw [hq]
          exact ⟨_, { S with w := w' },rfl,rfl,hH,Sit.below_ok ok hb,Sit.below_step hb,_,rfl,rfl,rfl,trivial⟩
        · rw [svAt_fst hj] at he
          have hq : Z1 (zs.map (fun p => (p.1.data.toList,p.2.data.toList))) m.data.toList = some zs[j].2.data.toList := by
            have hz : zs = zs.take j ++ zs[j] :: zs.drop (j + 1) := by simp
            have := lastP_at (n := m.data.toList) (v := zs[j].2.data.toList) (B := (zs.drop (j + 1)).map (fun p => (p.1.data.toList,p.2.data.toList))) (fun p hp => by
              obtain ⟨q,hq,rfl⟩ := List.mem_map.1 hp
              obtain ⟨i,hi,rfl⟩ := List.mem_iff_getElem.1 hq
              have hi' : j + 1 + i < zs.length := by simp at hi; omega
              have := hne _ (mem_svUp (zs := zs) (k := j + 1) (j := j + 1 + i) (by omega) hi')
              rw [svAt_fst hi'] at this
              simp only [List.getElem_drop]
              exact fun e => this (ByteArray.ext (Array.ext' e))) ((zs.take j).map (fun p => (p.1.data.toList,p.2.data.toList)))
            have hm : (zs.map (fun p => (p.1.data.toList,p.2.data.toList))) = (zs.take j).map (fun p => (p.1.data.toList,p.2.data.toList)) ++ (m.data.toList,zs[j].2.data.toList) :: (zs.drop (j + 1)).map (fun p => (p.1.data.toList,p.2.data.toList)) := by
              rw [← he]
              conv => lhs; rw [hz]
              simp only [List.map_append,yz23]
            rw [hm]; exact this
          rw [hq]
          refine ⟨_, { S with w := w' },rfl,rfl,hH,Sit.below_ok ok hb,Sit.below_step hb,_,rfl,?_,rfl,trivial⟩
          rw [svAt_fst hj]
          rfl
      · cases h
    · cases h
  · cases h
theorem ent25 : Enters Tryd.prog 25 := ⟨_,Tryd.func25,by kernel_rfl,by decide⟩
end Go.Dx
end
section
namespace Go.Dx
open Go Go.Proofs Go.RowKit Go.Shelf
theorem prim_ok : PrimOk Tryd.prog cfgV := by
  intro f g h
  have h : primV f = some g := h
  unfold primV at h
  split at h
  · rename_i e; subst e; cases h
    exact ⟨ent21,fun args v h H => ans21 args v h H⟩
  · split at h
    · rename_i e; subst e; cases h
      exact ⟨ent25,fun args v h H => ans25 args v h H⟩
    · split at h
      · rename_i e; subst e; cases h
        exact ⟨ent32,fun args v h H => ans32 args v h H⟩
      · split at h
        · rename_i e; subst e; cases h
          exact ⟨ent34,fun args v h H => ans34 args v h H⟩
        · cases h
theorem frz_bool {H : Heap} {n : Nat} {v : DV} {b : Bool} (h : frz H n v = some (boD b)) : v = boD b := by
  cases n with
  | zero => simp [frz] at h
  | succ n =>
    cases v <;> simp only [frz,boD] at h ⊢
    all_goals first
      | (simp only [Option.some.injEq,DV.sc.injEq] at h; rw [h])
      | cases h
      | (simp only [jz20] at h; obtain ⟨_,_,h⟩ := h; cases h)
      | (split at h <;> first | cases h | (split at h <;> first | cases h | (simp only [jz20] at h; obtain ⟨_,_,h⟩ := h; cases h)))
theorem cell_lt {w : World} {a : Addr} {v : Value} (h : w.cell? a = some v) : a.block < w.heap.size := by
  rcases Nat.lt_or_ge a.block w.heap.size with h1 | h1
  · exact h1
  · simp [World.cell?,Array.getElem?_eq_none h1] at h
def entry (W : World) : Sit := { w := W,H := [],blk := fun _ => 0,bas := fun _ => 0,cap := fun _ => 0,fz := fun b => b < W.heap.size }
theorem entry_row (W : World) (id : Nat) : (entry W).H.row id = none := by simp [entry,Heap.row]
theorem entry_ok (W : World) : (entry W).ok where
  rows := fun id r h => by rw [entry_row] at h; cases h
  free := fun id r h => by rw [entry_row] at h; cases h
  apart := fun i j r s h => by rw [entry_row] at h; cases h
  fzlt := fun b h => h
theorem entry_owned (W : World) (b : Nat) : ¬ (entry W).owned b := by
  rintro ⟨id,r,h,_⟩
  rw [entry_row] at h; cases h
theorem VRcells.sc {S : Sit} {b : Nat} : ∀ {o : Nat} {vs : List Value},(∀ j (h : j < vs.length),S.w.cell? ⟨b,o + j,none⟩ = some vs[j]) → VRcells S b o (vs.map DV.sc)
  | _, [],_ => trivial
  | o,v :: r,h => ⟨⟨v,h 0 (by simp),rfl⟩,VRcells.sc fun j hj => by have := h (j + 1) (by simp; omega); simpa [Nat.add_assoc,Nat.add_comm 1 j] using this⟩
theorem noIds_sc : ∀ vs : List Value,T8 (vs.map DV.sc) = true
  | [] => rfl
  | v :: r => by simp [T8,yz7,noIds_sc r]
theorem svs_noids : ∀ zs : List (ByteArray × ByteArray),X4 (svs (zs.map fun p => (p.1.data.toList,p.2.data.toList))) = true
  | [] => rfl
  | p :: r => by
    have := svs_noids r
    show (T8 [strD _,strD _] && X4 (svs (r.map fun p => (p.1.data.toList,p.2.data.toList)))) = true
    rw [this]; rfl
theorem law_calls (s : ByteArray) (a : Option Addr) (cap : Nat) (zs : List (ByteArray × ByteArray)) (W : World) (hcap : zs.length ≤ cap) (hz : zs.length < 2 ^ 61) (hl : ∀ p ∈ zs,p.2.size ≤ 140737488351232)
    (hs : SvAt W.heap.size W a zs) (hf : ∀ r,r < 128 → W.cell? ⟨0,r,none⟩ = some (.int .u16 (foldTab.getD r 0))) (hm : ∃ m,W.cell? ⟨3,0,none⟩ = some (.int .i64 m)) :
    Calls Tryd.prog 3 #[.string s, .slice a zs.length cap] W fun e w' => e = .returned (.bool true) ∧ Below W.heap.size W w' := by
  obtain ⟨N,hN⟩ := p3 (s := s.data.toList) (vs := zs.map fun p => (p.1.data.toList,p.2.data.toList)) (by
    intro p hp
    obtain ⟨q,hq,rfl⟩ := List.mem_map.1 hp
    have := hl q hq
    simpa using this) (by simpa using hz)
  have h1 : DP Tryd.prog cfgV N 3 [strD s.data.toList,DV.imm (svs (zs.map fun p => (p.1.data.toList,p.2.data.toList)))] = some (boD true) := hN N (jz18 _)
  unfold DP at h1
  split at h1
  · cases h1
  · rename_i v H hD
    obtain rfl := frz_bool h1
    obtain ⟨_,ha⟩ := D_ok (fun f sf h => h) prim_ok N 3 _ _ _ _ hD
    have hg : Glob gloV (entry W) := by
      intro g cs hgc
      unfold gloV at hgc
      split at hgc
      · rename_i e; subst e
        cases hgc
        have h0 := hf 0 (by decide)
        refine ⟨⟨?_,0,0,rfl,?_,?_⟩,fun h => by cases h⟩
        · exact (show (foldTab.map fun n => DV.sc (.int .u16 n)) = (foldTab.map fun n => Value.int .u16 n).map DV.sc by rw [List.map_map]; rfl) ▸ noIds_sc _
        · exact cell_lt h0
        · rw [show (foldTab.map fun n => DV.sc (.int .u16 n)) = (foldTab.map fun n => Value.int .u16 n).map DV.sc by rw [List.map_map]; rfl]
          refine VRcells.sc fun j hj => ?_
          have hj' : j < 128 := by simpa [foldTab] using hj
          rw [yz24]
          show W.cell? ⟨0,j,none⟩ = _
          rw [hf j hj',List.getElem_map]
          congr 2
          have hj2 : j < foldTab.length := by simpa using hj
          rw [List.getD_eq_getElem?_getD,List.getElem?_eq_getElem hj2]; rfl
      · split at hgc
        · rename_i e; subst e
          cases hgc
          obtain ⟨m,hm⟩ := hm
          exact ⟨⟨rfl,3,0,rfl,cell_lt hm,trivial⟩,fun _ => ⟨m,hm⟩⟩
        · cases hgc
    have hv : VRs (entry W) [strD s.data.toList, .imm (svs (zs.map fun p => (p.1.data.toList,p.2.data.toList)))] [.string s, .slice a zs.length cap] := by
      refine ⟨?_,⟨svs_noids zs,a,cap,by simp [svs],by simpa [svs] using hcap,?_⟩,trivial⟩
      · show Value.string s = Value.string _
        rfl
      · rcases hs with rfl | ⟨b,o,rfl,hb,hc⟩
        · exact .inl rfl
        · refine .inr ⟨b,o,2,rfl,hb,VRrows.ofGet fun n e he => ?_⟩
          simp only [svs,List.map_map,List.getElem?_map,jz20] at he
          obtain ⟨p,hp,rfl⟩ := he
          obtain ⟨hn,rfl⟩ := List.getElem?_eq_some_iff.1 hp
          obtain ⟨c1,c2⟩ := hc n hn
          simp only [hn,List.getElem?_eq_getElem,Option.getD_some] at c1 c2
          exact ⟨rfl,⟨_,c1,rfl⟩,⟨_,c2,rfl⟩,trivial⟩
    refine (ha (entry W) #[.string s, .slice a zs.length cap] (entry_ok W) hg rfl hv).mono ?_
    rintro e w' ⟨c,S',rfl,rfl,_,_,st,hc⟩
    have hc : c = .bool true := hc
    subst hc
    exact ⟨rfl,st.os,st.tape,st.output,st.size,fun b hb => st.frame b hb (entry_owned W b)⟩
end Go.Dx
end
