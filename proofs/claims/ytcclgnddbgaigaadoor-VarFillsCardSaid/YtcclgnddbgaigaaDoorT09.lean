/- A part of the proof of VarFills: what functions of the program answer. -/
import Derived.Lib.Index
import Derived.Lib.SlTrimSet
import Derived.Test.YtcclgnddbgaigaaDoorT08
set_option linter.all false
namespace Go.Dx
open Go
def bytesOf : DV → Option (List UInt8)
  | .sc (.string s) => some s.data.toList
  | _ => none
theorem zz5 {l : List UInt8} : bytesOf (strD l) = some l := by simp [bytesOf,strD]
def svs (l : List (List UInt8 × List UInt8)) : List (List DV) := l.map fun p => [strD p.1,strD p.2]
def unsv : List (List DV) → Option (List (List UInt8 × List UInt8))
  | [] => some []
  | [a,b] :: r => match bytesOf a,bytesOf b,unsv r with
    | some x,some y,some l => some ((x,y) :: l)
    | _,_,_ => none
  | _ => none
theorem unsv_svs : ∀ l : List (List UInt8 × List UInt8),unsv (svs l) = some l
  | [] => rfl
  | (a,b) :: r => by
    show unsv ([strD a,strD b] :: svs r) = _
    simp only [unsv,zz5,unsv_svs r]
def Z1 : List (List UInt8 × List UInt8) → List UInt8 → Option (List UInt8)
  | [],_ => none
  | (a,b) :: r,n => match Z1 r n with
    | some v => some v
    | none => if a = n then some b else none
def lastD : Option (List UInt8) → DV
  | some v => .tup [strD v,boD true]
  | none => .tup [strD [],boD false]
def lowB (b : UInt8) : UInt8 := if 65 ≤ b ∧ b ≤ 90 then b + 32 else b
def prim21 : List DV → Option DV
  | [s,t] => match bytesOf s,bytesOf t with
    | some s,some t => if t = [118,97,114] ∧ s.length < 2 ^ 31 then some (boD (decide (s.map lowB = [118,97,114]))) else none
    | _,_ => none
  | _ => none
def prim25 : List DV → Option DV
  | [.imm es,t] => match unsv es,bytesOf t with
    | some l,some n => if l.length < 2 ^ 61 then some (lastD (Z1 l n)) else none
    | _,_ => none
  | _ => none
def prim32 : List DV → Option DV
  | [s,t] => match bytesOf s,bytesOf t with
    | some s,some t => if (t.all fun b => decide (b < 128)) = true ∧ t.length < 2 ^ 31 then some (strD (Lib.trimLeftS s t)) else none
    | _,_ => none
  | _ => none
def prim34 : List DV → Option DV
  | [s,t] => match bytesOf s,bytesOf t with
    | some s,some t => if s.length < 2 ^ 31 then some (intD (Lib.index s t)) else none
    | _,_ => none
  | _ => none
def primV (f : FuncId) : Option (List DV → Option DV) := if f = 21 then some prim21 else if f = 25 then some prim25 else if f = 32 then some prim32 else if f = 34 then some prim34 else none
def foldTab : List Int := [0,1,2,3,4,5,6,7,8,9,10,11,12,13,14,15,16,17,18,19,20,21,22,23,24,25,26,27,28,29,30,31,32,33,34,35,36,37,38,39,40,41,42,43,44,45,46,47,48,49,50,51,52,53,54,55,56,57,58,59,60,61,62,63,64,97,98,99,100,101,102,103,104,105,106,107,108,109,110,111,112,113,114,115,116,117,118,119,120,121,122,91,92,93,94,95,96,65,66,67,68,69,70,71,72,73,74,8490,76,77,78,79,80,81,82,383,84,85,86,87,88,89,90,123,124,125,126,127]
def gloV (g : Nat) : Option (List DV) := if g = 0 then some (foldTab.map fun n => .sc (.int .u16 n)) else if g = 3 then some [] else none
theorem PE.prim {P : Program} {cfg : Cfg} {f : FuncId} {g : List DV → Option DV} {args : List DV} {v : DV} (hp : cfg.prim f = some g) (h : g args = some v) (hv : plain v = true) : PE P cfg f args v :=
  PE.of (DE.prim hp h) (frz_plain hv)
end Go.Dx
