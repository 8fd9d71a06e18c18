/- A part of the proof of VarFills: rules of an interpreter of the program's code, shown to answer as the model does. -/
import Derived.Test.YtcclgnddbgaigaaDoorT06
open Nat renaming le_refl → jz18, zero_add → yz24
open Bool renaming and_eq_true → zz19, false_eq_true → yz21, and_self → zz26
open List renaming length_cons → zz20, all_cons → zz21, map_nil → zz23, map_cons → yz23, length_nil → yz25, drop_zero → jz25, append_nil → jz26, take_zero → zz27, nil_append → yz27, all_nil → jz27
open Option renaming map_some → zz22
open Int renaming toNat_natCast → yz26
set_option linter.all false
section
namespace Go.Dx
open Go
def strD (l : List UInt8) : DV := .sc (.string ⟨l.toArray⟩)
def byD (b : UInt8) : DV := .sc (.int .u8 b.toNat)
def intD (n : Int) : DV := .sc (.int .i64 n)
def boD (b : Bool) : DV := .sc (.bool b)
section
variable {P : Program} {cfg : Cfg} {G : Nat → Option (List DV)}
def R4 (P : Program) (cfg : Cfg) (f : FuncId) (args : List DV) (H : Heap) (K : DV → Heap → Prop) : Prop := ∃ v H',CallE P cfg f args H v H' ∧ K v H'
theorem CallE.det {f : FuncId} {args : List DV} {H H1 H2 : Heap} {v w : DV} (h : CallE P cfg f args H v H1) (k : CallE P cfg f args H w H2) : v = w ∧ H1 = H2 := by
  have := Ev.det h k
  exact ⟨congrArg Prod.fst this,congrArg Prod.snd this⟩
theorem CallE.told {f : FuncId} {args : List DV} {H H1 : Heap} {v : DV} (h : CallE P cfg f args H v H1) (K : DV → Heap → Prop) : R4 P cfg f args H K = K v H1 := by
  apply propext
  constructor
  · rintro ⟨w,H2,h2,hk⟩
    obtain ⟨rfl,rfl⟩ := h.det h2
    exact hk
  · exact fun hk => ⟨v,H1,h,hk⟩
def DV.truth : DV → Option Bool
  | .sc (.bool b) => some b
  | .tup [] => some false
  | _ => none
def drW (P : Program) (cfg : Cfg) (d : Option Tmp) (r : List SOper) (sl : List DV) (H : Heap) (Q : DS → Prop) : DR → Prop
  | .val v H' => opsW P cfg r ⟨dput sl d v,H'⟩ Q
  | .call f args => R4 P cfg f args H fun v H' => opsW P cfg r ⟨dput sl d v,H'⟩ Q
  | .fail => False
theorem J8 {d : Option Tmp} {r : List SOper} {sl : List DV} {H H' : Heap} {Q : DS → Prop} {v : DV} : drW P cfg d r sl H Q (.val v H') = opsW P cfg r ⟨dput sl d v,H'⟩ Q := rfl
theorem H9 {d : Option Tmp} {r : List SOper} {sl : List DV} {H : Heap} {Q : DS → Prop} {f : FuncId} {args : List DV} : drW P cfg d r sl H Q (.call f args) = R4 P cfg f args H fun v H' => opsW P cfg r ⟨dput sl d v,H'⟩ Q := rfl
theorem G7 {sl : List DV} {H : Heap} {Q : DS → Prop} : opsW P cfg [] ⟨sl,H⟩ Q = Q ⟨sl,H⟩ := rfl
theorem B7 {d : Option Tmp} {op : SOp} {r : List SOper} {sl : List DV} {H : Heap} {Q : DS → Prop} :
    opsW P cfg (⟨d,op,none⟩ :: r) ⟨sl,H⟩ Q = drW P cfg d r sl H Q (dop P cfg.G op sl H) := by
  simp only [opsW,jz3,Y7,if_true]
  unfold drW
  cases dop P cfg.G op sl H <;> rfl
def Y6 (P : Program) (cfg : Cfg) (b : Bool) (d : Option Tmp) (op : SOp) (r : List SOper) (sl : List DV) (H : Heap) (Q : DS → Prop) : Option DV → Prop
  | some (.sc (.bool c)) => if c = b then drW P cfg d r sl H Q (dop P cfg.G op sl H) else opsW P cfg r ⟨dput sl d P9,H⟩ Q
  | some (.tup []) => opsW P cfg r ⟨dput sl d P9,H⟩ Q
  | _ => False
theorem B8 {d : Option Tmp} {op : SOp} {t : Nat} {b : Bool} {r : List SOper} {sl : List DV} {H : Heap} {Q : DS → Prop} :
    opsW P cfg (⟨d,op,some (t,b)⟩ :: r) ⟨sl,H⟩ Q = Y6 P cfg b d op r sl H Q sl[t]? := by
  have hb : ∀ c : Bool,(if (c == b) = true then
      (match dop P cfg.G op sl H with
      | .val v H => opsW P cfg r ⟨dput sl d v,H⟩ Q
      | .call f args => ∃ v H',CallE P cfg f args H v H' ∧ opsW P cfg r ⟨dput sl d v,H'⟩ Q
      | .fail => False)
    else opsW P cfg r ⟨dput sl d P9,H⟩ Q) = if c = b then drW P cfg d r sl H Q (dop P cfg.G op sl H) else opsW P cfg r ⟨dput sl d P9,H⟩ Q := by
    intro c
    by_cases h : c = b
    · subst h
      simp only [beq_self_eq_true,if_true]
      unfold drW
      cases dop P cfg.G op sl H <;> rfl
    · have : (c == b) = false := by simpa using h
      simp only [this,h,if_false,yz21]
  cases hx : sl[t]? with
  | none => simp [opsW,jz3,hx,Y6]
  | some x =>
    cases x with
    | sc v =>
      cases v with
      | bool c => simp only [opsW,jz3,Y7,hx,if_true]; exact hb c
      | _ => simp [opsW,jz3,hx,Y6]
    | tup cs => cases cs <;> simp [opsW,jz3,Y7,hx,Y6]
    | _ => simp [opsW,jz3,hx,Y6]
theorem C0 {b : Bool} {d : Option Tmp} {op : SOp} {r : List SOper} {sl : List DV} {H : Heap} {Q : DS → Prop} :
    Y6 P cfg b d op r sl H Q (some (boD b)) = drW P cfg d r sl H Q (dop P cfg.G op sl H) := by
  unfold Y6 boD; simp only [if_true]
theorem D8 {d : Option Tmp} {op : SOp} {r : List SOper} {sl : List DV} {H : Heap} {Q : DS → Prop} :
    Y6 P cfg true d op r sl H Q (some (boD false)) = opsW P cfg r ⟨dput sl d P9,H⟩ Q := by
  unfold Y6 boD; simp
theorem D9 {d : Option Tmp} {op : SOp} {r : List SOper} {sl : List DV} {H : Heap} {Q : DS → Prop} :
    Y6 P cfg false d op r sl H Q (some (boD true)) = opsW P cfg r ⟨dput sl d P9,H⟩ Q := by
  unfold Y6 boD; simp
theorem A2 {b c : Bool} {d : Option Tmp} {op : SOp} {r : List SOper} {sl : List DV} {H : Heap} {Q : DS → Prop}
    (h1 : c = true → Y6 P cfg b d op r sl H Q (some (boD true))) (h2 : c = false → Y6 P cfg b d op r sl H Q (some (boD false))) : Y6 P cfg b d op r sl H Q (some (boD c)) := by
  cases c with
  | true => exact h1 rfl
  | false => exact h2 rfl
theorem C2 {b : Bool} {p : Prop} {_ : Decidable p} {d : Option Tmp} {op : SOp} {r : List SOper} {sl : List DV} {H : Heap} {Q : DS → Prop}
    (h1 : p → Y6 P cfg b d op r sl H Q (some (boD true))) (h2 : ¬ p → Y6 P cfg b d op r sl H Q (some (boD false))) : Y6 P cfg b d op r sl H Q (some (boD (decide p))) :=
  A2 (fun h => h1 (of_decide_eq_true h)) (fun h => h2 (of_decide_eq_false h))
theorem C1 {b : Bool} {p : Prop} {_ : Decidable p} {d : Option Tmp} {op : SOp} {r : List SOper} {sl : List DV} {H : Heap} {Q : DS → Prop}
    (h1 : ¬ p → Y6 P cfg b d op r sl H Q (some (boD true))) (h2 : p → Y6 P cfg b d op r sl H Q (some (boD false))) : Y6 P cfg b d op r sl H Q (some (boD (!decide p))) :=
  A2 (fun h => h1 (by simpa using h)) (fun h => h2 (by simpa using h))
theorem A5 {b : Bool} {d : Option Tmp} {op : SOp} {r : List SOper} {sl : List DV} {H : Heap} {Q : DS → Prop} :
    Y6 P cfg b d op r sl H Q (some P9) = opsW P cfg r ⟨dput sl d P9,H⟩ Q := rfl
theorem D3 {sl : List DV} {H : Heap} {Q : Ex → DS → Prop} : runW P cfg .skip ⟨sl,H⟩ Q = Q .normal ⟨sl,H⟩ := rfl
theorem G6 {l : List SOper} {sl : List DV} {H : Heap} {Q : Ex → DS → Prop} : runW P cfg (.ops l) ⟨sl,H⟩ Q = opsW P cfg l ⟨sl,H⟩ fun s' => Q .normal s' := rfl
def seqK (P : Program) (cfg : Cfg) (b : SCode) (Q : Ex → DS → Prop) : Ex → DS → Prop
  | .normal,s' => runW P cfg b s' Q
  | .exit id,s' => Q (.exit id) s'
  | .ret,s' => Q .ret s'
def blockK (id : Nat) (Q : Ex → DS → Prop) : Ex → DS → Prop
  | .exit j,s' => if j = id then Q .normal s' else Q (.exit j) s'
  | .normal,s' => Q .normal s'
  | .ret,s' => Q .ret s'
theorem G4 {a b : SCode} {sl : List DV} {H : Heap} {Q : Ex → DS → Prop} : runW P cfg (.seq a b) ⟨sl,H⟩ Q = runW P cfg a ⟨sl,H⟩ (seqK P cfg b Q) := by
  simp only [runW]
  congr 1
  funext ex s'
  cases ex <;> rfl
theorem A9 {b : SCode} {Q : Ex → DS → Prop} {sl : List DV} {H : Heap} : seqK P cfg b Q .normal ⟨sl,H⟩ = runW P cfg b ⟨sl,H⟩ Q := rfl
theorem C9 {b : SCode} {Q : Ex → DS → Prop} {id : Nat} {sl : List DV} {H : Heap} : seqK P cfg b Q (.exit id) ⟨sl,H⟩ = Q (.exit id) ⟨sl,H⟩ := rfl
theorem G3 {b : SCode} {Q : Ex → DS → Prop} {sl : List DV} {H : Heap} : seqK P cfg b Q .ret ⟨sl,H⟩ = Q .ret ⟨sl,H⟩ := rfl
theorem B4 {id : Nat} {a : SCode} {sl : List DV} {H : Heap} {Q : Ex → DS → Prop} : runW P cfg (.block id a) ⟨sl,H⟩ Q = runW P cfg a ⟨sl,H⟩ (blockK id Q) := by
  simp only [runW]
  congr 1
  funext ex s'
  cases ex <;> rfl
theorem A1 {id : Nat} {Q : Ex → DS → Prop} {s : DS} : blockK id Q .normal s = Q .normal s := rfl
theorem C6 {id : Nat} {Q : Ex → DS → Prop} {s : DS} : blockK id Q .ret s = Q .ret s := rfl
theorem B2 {id j : Nat} {Q : Ex → DS → Prop} {s : DS} : blockK id Q (.exit j) s = if j = id then Q .normal s else Q (.exit j) s := rfl
theorem D4 {id : Nat} {sl : List DV} {H : Heap} {Q : Ex → DS → Prop} : runW P cfg (.exit id) ⟨sl,H⟩ Q = Q (.exit id) ⟨sl,H⟩ := rfl
theorem G5 {sl : List DV} {H : Heap} {Q : Ex → DS → Prop} : runW P cfg .ret ⟨sl,H⟩ Q = Q .ret ⟨sl,H⟩ := rfl
def condK (P : Program) (cfg : Cfg) (a b : SCode) (s : DS) (Q : Ex → DS → Prop) : DV → Prop
  | .sc (.bool t) => if t = true then runW P cfg a s Q else runW P cfg b s Q
  | _ => False
theorem D6 {c : Operand} {a b : SCode} {sl : List DV} {H : Heap} {Q : Ex → DS → Prop} : runW P cfg (.cond c a b) ⟨sl,H⟩ Q = condK P cfg a b ⟨sl,H⟩ Q (dev cfg.G sl c) := by
  simp only [runW]
  unfold condK
  split <;> simp_all
theorem C5 {a b : SCode} {s : DS} {Q : Ex → DS → Prop} : condK P cfg a b s Q (boD true) = runW P cfg a s Q := Eq.trans rfl rfl
theorem B1 {a b : SCode} {s : DS} {Q : Ex → DS → Prop} : condK P cfg a b s Q (boD false) = runW P cfg b s Q := by
  unfold condK boD; simp
theorem A7 {a b : SCode} {s : DS} {Q : Ex → DS → Prop} {c : Bool} (h1 : c = true → condK P cfg a b s Q (boD true)) (h2 : c = false → condK P cfg a b s Q (boD false)) : condK P cfg a b s Q (boD c) := by
  cases c with
  | true => exact h1 rfl
  | false => exact h2 rfl
theorem F1 {a b : SCode} {s : DS} {Q : Ex → DS → Prop} {p : Prop} {_ : Decidable p} (h1 : p → condK P cfg a b s Q (boD true)) (h2 : ¬ p → condK P cfg a b s Q (boD false)) : condK P cfg a b s Q (boD (decide p)) :=
  A7 (fun h => h1 (of_decide_eq_true h)) (fun h => h2 (of_decide_eq_false h))
theorem F0 {a b : SCode} {s : DS} {Q : Ex → DS → Prop} {p : Prop} {_ : Decidable p} (h1 : ¬ p → condK P cfg a b s Q (boD true)) (h2 : p → condK P cfg a b s Q (boD false)) : condK P cfg a b s Q (boD (!decide p)) :=
  A7 (fun h => h1 (by simpa using h)) (fun h => h2 (by simpa using h))
theorem Q7 {l : List SOper} {s s' : DS} {Q : DS → Prop} (h : s = s') : opsW P cfg l s Q = opsW P cfg l s' Q := by rw [h]
theorem Q6 {c : SCode} {s s' : DS} {Q : Ex → DS → Prop} (h : s = s') : runW P cfg c s Q = runW P cfg c s' Q := by rw [h]
theorem R2 {d : Option Tmp} {r : List SOper} {sl : List DV} {H : Heap} {Q : DS → Prop} {x y : DR} (h : x = y) : drW P cfg d r sl H Q x = drW P cfg d r sl H Q y := by rw [h]
theorem P8 {b : Bool} {d : Option Tmp} {op : SOp} {r : List SOper} {sl : List DV} {H : Heap} {Q : DS → Prop} {x y : Option DV} (h : x = y) : Y6 P cfg b d op r sl H Q x = Y6 P cfg b d op r sl H Q y := by rw [h]
theorem Q2 {a b : SCode} {s : DS} {Q : Ex → DS → Prop} {x y : DV} (h : x = y) : condK P cfg a b s Q x = condK P cfg a b s Q y := by rw [h]
theorem Q5 {b : SCode} {Q : Ex → DS → Prop} {ex ex' : Ex} {s s' : DS} (h : ex = ex') (h2 : s = s') : seqK P cfg b Q ex s = seqK P cfg b Q ex' s' := by rw [h,h2]
theorem Q3 {f : FuncId} {a a' : List DV} {H H' : Heap} {K : DV → Heap → Prop} (h : a = a') (h2 : H = H') : R4 P cfg f a H K = R4 P cfg f a' H' K := by rw [h,h2]
theorem E0 {sl : List DV} {t : Nat} {v : DV} : dput sl (some t) v = sl.set t v := rfl
theorem E1 {sl : List DV} {v : DV} : dput sl none v = sl := rfl
theorem M2 {sl : List DV} {t : Nat} : dev G sl (.tmp t) = sl.getD t P9 := rfl
theorem M3 {sl : List DV} {l : List UInt8} : dev G sl (.const (.string ⟨⟨l⟩⟩)) = strD l := rfl
theorem M5 {sl : List DV} {n : Nat} : dev G sl (.const (.int .i64 (.ofNat n))) = intD n := rfl
theorem M4 {sl : List DV} {n : Nat} : dev G sl (.const (.int .i64 (.negSucc n))) = intD (-(n + 1)) := by
  rw [← Int.negSucc_eq]; rfl
theorem I3 {sl : List DV} {n : Nat} (h : n < 256) : dev G sl (.const (.int .u8 (.ofNat n))) = byD (UInt8.ofNat n) := by
  have : (UInt8.ofNat n).toNat = n := by rw [UInt8.toNat_ofNat']; exact Nat.mod_eq_of_lt h
  unfold byD; rw [this]; rfl
theorem I4 {sl : List DV} {b : Bool} : dev G sl (.const (.bool b)) = boD b := rfl
theorem P2 {x : Operand} {sl : List DV} {H : Heap} : dop P G (.mv x) sl H = .val (dev G sl x) H := rfl
theorem E4 {x : Operand} {sl : List DV} {H : Heap} : dop P G (.ident x) sl H = .val (dev G sl x) H := rfl
theorem E6 {f : FuncId} {xs : List Operand} {sl : List DV} {H : Heap} : dop P G (.call f xs) sl H = .call f (xs.map (dev G sl)) := rfl
def pickD (H : Heap) (a b : DV) : DV → DR
  | .sc (.bool t) => .val (if t then a else b) H
  | _ => .fail
theorem I0 {c a b : Operand} {sl : List DV} {H : Heap} : dop P G (.pick c a b) sl H = pickD H (dev G sl a) (dev G sl b) (dev G sl c) := by
  simp only [dop]; unfold pickD; split <;> simp_all
theorem B5 {H : Heap} {a b : DV} {t : Bool} : pickD H a b (boD t) = .val (if t = true then a else b) H := rfl
theorem ite_boD {t a b : Bool} : (if t = true then boD a else boD b) = boD (if t = true then a else b) := by cases t <;> rfl
def binD (P : Program) (H : Heap) (op : BinOp) (t : TypeId) (x y : Operand) (v w : DV) : DR :=
  match toV? v,toV? w with
  | some a,some b => Z7 P H (do eqGuard op t x y a b; binOp op t a b)
  | _,_ => .fail
theorem M1 {op : BinOp} {t : TypeId} {x y : Operand} {sl : List DV} {H : Heap} : dop P G (.bin op t x y) sl H = binD P H op t x y (dev G sl x) (dev G sl y) := rfl
variable {H : Heap} {t : TypeId} {x y : Operand} {a b : UInt8} {m n : Int} {k l : List UInt8}
theorem eqG_int {op : BinOp} {k k' : IntKind} {m n : Int} : eqGuard op t x y (.int k m) (.int k' n) = .pure () := by
  unfold eqGuard; cases op <;> rfl
theorem eqG_str {op : BinOp} {m n : ByteArray} : eqGuard op t x y (.string m) (.string n) = .pure () := by
  unfold eqGuard; cases op <;> rfl
theorem eqG_bool {op : BinOp} {m n : Bool} : eqGuard op t x y (.bool m) (.bool n) = .pure () := by
  unfold eqGuard; cases op <;> rfl
theorem V6 {op : BinOp} {k k' : IntKind} {m n : Int} : binD P H op t x y (.sc (.int k m)) (.sc (.int k' n)) = Z7 P H (binOp op t (.int k m) (.int k' n)) := by
  simp only [binD,toV?,eqG_int]; rfl
theorem wrap_i64 {n : Int} (h1 : -(2 ^ 63) ≤ n) (h2 : n < 2 ^ 63) : IntKind.i64.wrap n = n := IntWalk.i64_in n (by omega)
theorem N8 (h1 : -(2 ^ 63) ≤ m + n) (h2 : m + n < 2 ^ 63) : binD P H .add t x y (intD m) (intD n) = .val (intD (m + n)) H := by
  rw [intD,intD,V6]
  simp only [binOp,Op.intArith,ne_eq,not_true_eq_false,if_false,wrap_i64 h1 h2]; rfl
theorem M9 (h1 : -(2 ^ 63) ≤ m - n) (h2 : m - n < 2 ^ 63) : binD P H .sub t x y (intD m) (intD n) = .val (intD (m - n)) H := by
  rw [intD,intD,V6]
  simp only [binOp,Op.intArith,ne_eq,not_true_eq_false,if_false,wrap_i64 h1 h2]; rfl
theorem N2 (h1 : -(2 ^ 63) ≤ m * n) (h2 : m * n < 2 ^ 63) : binD P H .mul t x y (intD m) (intD n) = .val (intD (m * n)) H := by
  rw [intD,intD,V6]
  simp only [binOp,Op.intArith,ne_eq,not_true_eq_false,if_false,wrap_i64 h1 h2]; rfl
theorem N3 : binD P H .lss t x y (intD m) (intD n) = .val (boD (decide (m < n))) H := by
  rw [intD,intD,V6]; simp only [binOp,Op.intCmp,ne_eq,not_true_eq_false,if_false]; rfl
theorem N4 : binD P H .leq t x y (intD m) (intD n) = .val (boD (decide (m ≤ n))) H := by
  rw [intD,intD,V6]; simp only [binOp,Op.intCmp,ne_eq,not_true_eq_false,if_false]; rfl
theorem N5 : binD P H .gtr t x y (intD m) (intD n) = .val (boD (decide (n < m))) H := by
  rw [intD,intD,V6]; simp only [binOp,Op.intCmp,ne_eq,not_true_eq_false,if_false]; rfl
theorem N6 : binD P H .geq t x y (intD m) (intD n) = .val (boD (decide (n ≤ m))) H := by
  rw [intD,intD,V6]; simp only [binOp,Op.intCmp,ne_eq,not_true_eq_false,if_false]; rfl
theorem N7 : binD P H .eql t x y (intD m) (intD n) = .val (boD (decide (m = n))) H := by
  rw [intD,intD,V6]; simp only [binOp,Op.intCmp,ne_eq,not_true_eq_false,if_false]; rfl
theorem N1 : binD P H .neq t x y (intD m) (intD n) = .val (boD (!decide (m = n))) H := by
  rw [intD,intD,V6]; simp only [binOp,Op.intCmp,ne_eq,not_true_eq_false,if_false]; rfl
theorem u8_lt : ((a.toNat : Int) < (b.toNat : Int)) = (a < b) := by
  apply propext; rw [UInt8.lt_iff_toNat_lt]; omega
theorem u8_le : ((a.toNat : Int) ≤ (b.toNat : Int)) = (a ≤ b) := by
  apply propext; rw [UInt8.le_iff_toNat_le]; omega
theorem u8_eq : ((a.toNat : Int) = (b.toNat : Int)) = (a = b) := by
  apply propext; rw [← UInt8.toNat_inj]; omega
theorem zz17 {p : Prop} [d : Decidable p] {q : Prop} [e : Decidable q] (h : p = q) : Z7 P H (pure (.bool (decide p))) = .val (boD (decide q)) H := by
  subst h
  show DR.val (.sc (.bool _)) H = _
  unfold boD
  have : @decide p d = @decide p e := decide_eq_decide.mpr Iff.rfl
  rw [this]
theorem J2 : binD P H .lss t x y (byD a) (byD b) = .val (boD (decide (a < b))) H := by
  rw [byD,byD,V6]; simp only [binOp,Op.intCmp,ne_eq,not_true_eq_false,if_false]; exact zz17 u8_lt
theorem J3 : binD P H .leq t x y (byD a) (byD b) = .val (boD (decide (a ≤ b))) H := by
  rw [byD,byD,V6]; simp only [binOp,Op.intCmp,ne_eq,not_true_eq_false,if_false]; exact zz17 u8_le
theorem J4 : binD P H .gtr t x y (byD a) (byD b) = .val (boD (decide (b < a))) H := by
  rw [byD,byD,V6]; simp only [binOp,Op.intCmp,ne_eq,not_true_eq_false,if_false]; exact zz17 u8_lt
theorem J5 : binD P H .geq t x y (byD a) (byD b) = .val (boD (decide (b ≤ a))) H := by
  rw [byD,byD,V6]; simp only [binOp,Op.intCmp,ne_eq,not_true_eq_false,if_false]; exact zz17 u8_le
theorem J6 : binD P H .eql t x y (byD a) (byD b) = .val (boD (decide (a = b))) H := by
  rw [byD,byD,V6]; simp only [binOp,Op.intCmp,ne_eq,not_true_eq_false,if_false]; exact zz17 (p := ((a.toNat : Int) = (b.toNat : Int))) u8_eq
theorem J1 : binD P H .neq t x y (byD a) (byD b) = .val (boD (!decide (a = b))) H := by
  rw [byD,byD,V6]; simp only [binOp,Op.intCmp,ne_eq,not_true_eq_false,if_false]
  have : (decide ((a.toNat : Int) = (b.toNat : Int))) = decide (a = b) := by simp only [u8_eq]
  show DR.val (.sc (.bool (!decide ((a.toNat : Int) = (b.toNat : Int))))) H = _
  rw [this]; rfl
theorem ba_toList (l : List UInt8) : (⟨l.toArray⟩ : ByteArray).toList = l := by
  simpa using ByteArray.toList_data ⟨l.toArray⟩
theorem ba_size (l : List UInt8) : (⟨l.toArray⟩ : ByteArray).size = l.length := by
  show l.toArray.size = _; simp
theorem ba_append (k l : List UInt8) : (⟨k.toArray⟩ : ByteArray) ++ ⟨l.toArray⟩ = ⟨(k ++ l).toArray⟩ := by
  apply ByteArray.ext; simp
theorem ba_get (l : List UInt8) (n : Nat) : (⟨l.toArray⟩ : ByteArray)[n]? = l[n]? := by
  by_cases h : n < l.length
  · rw [List.getElem?_eq_getElem h,getElem?_pos _ _ (by rw [ba_size]; exact h)]
    rfl
  · rw [List.getElem?_eq_none (by omega),getElem?_neg _ _ (by rw [ba_size]; exact h)]
theorem ba_extract (l : List UInt8) (a b : Nat) : (⟨l.toArray⟩ : ByteArray).extract a b = ⟨((l.take b).drop a).toArray⟩ := by
  apply ByteArray.ext; simp [ByteArray.data_extract,List.drop_take]
theorem binD_str {op : BinOp} : binD P H op t x y (strD k) (strD l) = Z7 P H (Op.stringOp op ⟨k.toArray⟩ ⟨l.toArray⟩) := by
  simp only [strD,binD,toV?,eqG_str]
  cases op <;> rfl
theorem I8 : binD P H .eql t x y (strD k) (strD l) = .val (boD (decide (k = l))) H := by
  rw [binD_str]; simp only [Op.stringOp,ba_toList]
  show DR.val (.sc (.bool (k == l))) H = _
  rw [show (k == l) = decide (k = l) from by rw [Bool.eq_iff_iff]; simp]; rfl
theorem I7 : binD P H .neq t x y (strD k) (strD l) = .val (boD (!decide (k = l))) H := by
  rw [binD_str]; simp only [Op.stringOp,ba_toList]
  show DR.val (.sc (.bool (!(k == l)))) H = _
  rw [show (k == l) = decide (k = l) from by rw [Bool.eq_iff_iff]; simp]; rfl
theorem I9 (h : k.length + l.length < 2 ^ 63) : binD P H .add t x y (strD k) (strD l) = .val (strD (k ++ l)) H := by
  rw [binD_str]; simp only [Op.stringOp,ba_size,ba_append]
  rw [if_neg (by have : IntKind.i64.max = 2 ^ 63 - 1 := by decide
                 omega)]; rfl
theorem pv_und {α : Type} {d : TypeDesc} (h : P.underlying t = some d) (f : TypeDesc → Sem α) : pv? P (underlying t >>= f) = pv? P (f d) := by
  show pv? P ((match P.underlying t with | some d => pure d | none => stuck "no such type") >>= f) = _
  rw [h]; rfl
def lenD (P : Program) (H : Heap) (ts : Array TypeId) (t : TypeId) (v : DV) : DR := match toVs? [v] with
  | some vs => match pv? P (builtin .len ts t #[] vs.toArray) with
    | some (.value v) => .val (ofV v) H
    | _ => .fail
  | none => .fail
theorem M0 {ts : Array TypeId} {x : Operand} {sl : List DV} : dop P G (.blt .len ts t [x]) sl H = lenD P H ts t (dev G sl x) := rfl
theorem K9 {t' : TypeId} (hs : P.underlying t' = some .string) : lenD P H ⟨[t']⟩ t (strD l) = .val (intD l.length) H := by
  simp only [lenD,strD,toVs?,toV?]
  have : pv? P (builtin .len ⟨[t']⟩ t #[] [Value.string ⟨l.toArray⟩].toArray) = some (.value (.int .i64 l.length)) := by
    show pv? P (((match P.underlying t' with | some d => pure d | none => stuck "no such type") >>= _) >>= _) = _
    rw [hs]
    show some (Next.value (Value.int .i64 _)) = _
    rw [ba_size]
  rw [this]; rfl
def idxD (P : Program) (H : Heap) (t : TypeId) (v w : DV) : DR := match toV? v,toV? w with
  | some a,some b => Z7 P H (Instr.index t a b)
  | _,_ => .fail
theorem E3 {x i : Operand} {sl : List DV} : dop P G (.index t x i) sl H = idxD P H t (dev G sl x) (dev G sl i) := rfl
theorem L1 (hs : P.underlying t = some .string) (h0 : 0 ≤ n) (h1 : n < l.length) : idxD P H t (strD l) (intD n) = .val (byD (l.getD n.toNat 0)) H := by
  simp only [idxD,strD,intD,toV?,Z7]
  have : pv? P (Instr.index t (.string ⟨l.toArray⟩) (.int .i64 n)) = some (.int .u8 ((l.getD n.toNat 0).toNat)) := by
    show pv? P (underlying t >>= _) = _
    rw [pv_und hs]
    simp only [if_pos h0,ba_get,List.getD_eq_getElem?_getD,List.getElem?_eq_getElem (show n.toNat < l.length by omega),Option.getD_some]
    rfl
  rw [this]; rfl
def slcD (P : Program) (H : Heap) (t : TypeId) (v : DV) (lo hi : Option DV) : DR := match toV? v,lo.map toV?,hi.map toV? with
    | some a,none,none => Z7 P H (Instr.slice t a none none none)
    | some a,some (some l),none => Z7 P H (Instr.slice t a (some l) none none)
    | some a,none,some (some h) => Z7 P H (Instr.slice t a none (some h) none)
    | some a,some (some l),some (some h) => Z7 P H (Instr.slice t a (some l) (some h) none)
    | _,_,_ => .fail
theorem C3 {x : Operand} {lo hi : Option Operand} {sl : List DV} : dop P G (.sslice t x lo hi) sl H = slcD P H t (dev G sl x) (lo.map (dev G sl)) (hi.map (dev G sl)) := by
  cases lo <;> cases hi <;> rfl
theorem bound_ok {k : IntKind} {n : Int} {y : Nat} {c : BoundsCode} (h0 : 0 ≤ n) (h1 : n ≤ y) : Instr.sliceBound (.int k n) y c = .pure n.toNat := by
  show (if 0 ≤ n ∧ n ≤ y then pure n.toNat else boundsPanic k n y c) = _
  rw [if_pos ⟨h0,h1⟩]; rfl
theorem O1 (hs : P.underlying t = some .string) (h0 : 0 ≤ n) (h1 : n ≤ l.length) : slcD P H t (strD l) (some (intD n)) none = .val (strD (l.drop n.toNat)) H := by
  simp only [slcD,strD,intD,toV?,Z7,Option.map]
  have : pv? P (Instr.slice t (.string ⟨l.toArray⟩) (some (.int .i64 n)) none none) = some (.string ⟨(l.drop n.toNat).toArray⟩) := by
    show pv? P (underlying t >>= _) = _
    rw [pv_und hs]
    simp only [Instr.sliceBounds,ba_size,yz21,if_false,Option.isSome]
    show pv? P ((Instr.sliceBound (.int .i64 n) l.length .sliceB >>= fun i => pure (i,l.length,l.length)) >>= fun x => pure (Value.string (ByteArray.extract ⟨l.toArray⟩ x.1 x.2.1))) = _
    rw [bound_ok h0 h1]
    show some (Value.string (ByteArray.extract ⟨l.toArray⟩ n.toNat l.length)) = _
    rw [ba_extract,List.take_length]
  rw [this]; rfl
theorem O2 (hs : P.underlying t = some .string) (h0 : 0 ≤ n) (h1 : n ≤ l.length) : slcD P H t (strD l) none (some (intD n)) = .val (strD (l.take n.toNat)) H := by
  simp only [slcD,strD,intD,toV?,Z7,Option.map]
  have : pv? P (Instr.slice t (.string ⟨l.toArray⟩) none (some (.int .i64 n)) none) = some (.string ⟨(l.take n.toNat).toArray⟩) := by
    show pv? P (underlying t >>= _) = _
    rw [pv_und hs]
    simp only [Instr.sliceBounds,ba_size,yz21,if_false,Option.isSome]
    show pv? P ((Instr.sliceBound (.int .i64 n) l.length .sliceAlen >>= fun h => pure (0,h,l.length)) >>= fun x => pure (Value.string (ByteArray.extract ⟨l.toArray⟩ x.1 x.2.1))) = _
    rw [bound_ok h0 h1]
    show some (Value.string (ByteArray.extract ⟨l.toArray⟩ 0 n.toNat)) = _
    rw [ba_extract,jz25]
  rw [this]; rfl
theorem G2 (hs : P.underlying t = some .string) (h0 : 0 ≤ m) (h1 : m ≤ n) (h2 : n ≤ l.length) : slcD P H t (strD l) (some (intD m)) (some (intD n)) = .val (strD ((l.take n.toNat).drop m.toNat)) H := by
  simp only [slcD,strD,intD,toV?,Z7,Option.map]
  have : pv? P (Instr.slice t (.string ⟨l.toArray⟩) (some (.int .i64 m)) (some (.int .i64 n)) none) = some (.string ⟨((l.take n.toNat).drop m.toNat).toArray⟩) := by
    show pv? P (underlying t >>= _) = _
    rw [pv_und hs]
    simp only [Instr.sliceBounds,ba_size,yz21,if_false,Option.isSome]
    show pv? P ((Instr.sliceBound (.int .i64 n) l.length .sliceAlen >>= fun h => Instr.sliceBound (.int .i64 m) h .sliceB >>= fun i => pure (i,h,l.length)) >>= fun x => pure (Value.string (ByteArray.extract ⟨l.toArray⟩ x.1 x.2.1))) = _
    rw [bound_ok (by omega) h2]
    show pv? P ((Instr.sliceBound (.int .i64 m) n.toNat .sliceB >>= fun i => pure (i,n.toNat,l.length)) >>= fun x => pure (Value.string (ByteArray.extract ⟨l.toArray⟩ x.1 x.2.1))) = _
    rw [bound_ok h0 (by omega)]
    show some (Value.string (ByteArray.extract ⟨l.toArray⟩ m.toNat n.toNat)) = _
    rw [ba_extract]
  rw [this]; rfl
def unD (P : Program) (H : Heap) (op : UnOp) (v : DV) : DR := match toV? v with
    | some a => Z7 P H (Op.unary op a)
    | none => .fail
theorem O9 {op : UnOp} {x : Operand} {sl : List DV} : dop P G (.un op x) sl H = unD P H op (dev G sl x) := rfl
theorem N9 {b : Bool} : unD P H .not (boD b) = .val (boD (!b)) H := rfl
theorem O0 (h1 : -(2 ^ 63) < n) (h2 : n ≤ 2 ^ 63) : unD P H .neg (intD n) = .val (intD (-n)) H := by
  show DR.val (.sc (.int .i64 (IntKind.i64.wrap (0 - n)))) H = _
  rw [wrap_i64 (by omega) (by omega),Int.zero_sub]; rfl
def extD (H : Heap) (i : Nat) : DV → DR
  | .tup cs => rval H (cs[i]?)
  | _ => .fail
theorem B0 {x : Operand} {i : Nat} {sl : List DV} : dop P G (.extract x i) sl H = extD H i (dev G sl x) := by
  simp only [dop]; unfold extD; split <;> simp_all
theorem L8 {i : Nat} {cs : List DV} : extD H i (.tup cs) = rval H (cs[i]?) := rfl
theorem D2 {v : DV} : rval H (some v) = .val v H := rfl
def convD (P : Program) (H : Heap) (s d : TypeId) (v : DV) : DR := match toV? v with
    | some a => Z7 P H (convert s d a)
    | none => .fail
theorem I2 {s d : TypeId} {x : Operand} {sl : List DV} : dop P G (.conv s d x) sl H = convD P H s d (dev G sl x) := rfl
theorem M7 {a b : Bool} : (boD a = boD b) = (a = b) := by
  apply propext; constructor
  · intro h; unfold boD at h; injection h with h; injection h
  · rintro rfl; rfl
theorem H0 {a b : Int} : (intD a = intD b) = (a = b) := by
  apply propext; constructor
  · intro h; unfold intD at h; injection h with h; injection h
  · rintro rfl; rfl
theorem M6 {a b : UInt8} : (byD a = byD b) = (a = b) := by
  apply propext; constructor
  · intro h; unfold byD at h; injection h with h; injection h with _ h; exact UInt8.toNat_inj.mp (Int.ofNat.inj h)
  · rintro rfl; rfl
theorem G0 {a b : List UInt8} : (strD a = strD b) = (a = b) := by
  apply propext; constructor
  · intro h; unfold strD at h; injection h with h; injection h with h; injection h with h; simpa using h
  · rintro rfl; rfl
theorem L2 {H : Heap} {l : List UInt8} : frz H W4 (strD l) = some (strD l) := rfl
theorem O7 {H : Heap} {b : UInt8} : frz H W4 (byD b) = some (byD b) := rfl
theorem L3 {H : Heap} {n : Int} : frz H W4 (intD n) = some (intD n) := rfl
theorem O8 {H : Heap} {b : Bool} : frz H W4 (boD b) = some (boD b) := rfl
def jz6 : DV → Bool
  | .sc _ => true
  | .imm es => X4 es
  | _ => false
def plain : DV → Bool
  | .sc _ => true
  | .imm es => X4 es
  | .agg cs => cs.all jz6
  | .tup cs => cs.all jz6
  | _ => false
theorem frz_plain1 {H : Heap} {n : Nat} {v : DV} (h : jz6 v = true) : frz H (n + 1) v = some v := by
  cases v <;> first | rfl | (simp [jz6] at h)
theorem frz_plains {H : Heap} {n : Nat} : ∀ {cs : List DV},cs.all jz6 = true → Q8 (frz H (n + 1)) cs = some cs
  | [],_ => rfl
  | v :: r,h => by
    simp only [zz21,zz19] at h
    simp only [Q8,frz_plain1 h.1,frz_plains h.2]
theorem frz_plain {H : Heap} {v : DV} (h : plain v = true) : frz H W4 v = some v := by
  cases v with
  | sc v => rfl
  | imm es => rfl
  | agg cs => show (Q8 (frz H 7) cs).map DV.agg = _; rw [frz_plains h]; rfl
  | tup cs => show (Q8 (frz H 7) cs).map DV.tup = _; rw [frz_plains h]; rfl
  | _ => simp [plain] at h
theorem frz_all {H : Heap} : ∀ {l : List DV},l.all plain = true → Q8 (frz H W4) l = some l
  | [],_ => rfl
  | v :: r,h => by
    simp only [zz21,zz19] at h
    simp only [Q8,frz_plain h.1,frz_all h.2]
theorem noIds_plain1 {v : DV} (h : jz6 v = true) : yz7 v = true := by
  cases v <;> first | rfl | exact h | (simp [jz6] at h)
theorem jz13 : ∀ {cs : List DV},cs.all jz6 = true → T8 cs = true
  | [],_ => rfl
  | v :: r,h => by
    simp only [zz21,zz19] at h
    simp only [T8,noIds_plain1 h.1,jz13 h.2,zz26]
theorem noIds_plain {v : DV} (h : plain v = true) : yz7 v = true := by
  cases v with
  | sc v => rfl
  | imm es => exact h
  | agg cs => exact jz13 h
  | tup cs => exact jz13 h
  | _ => simp [plain] at h
theorem noIds_all : ∀ {l : List DV},l.all plain = true → T8 l = true
  | [],_ => rfl
  | v :: r,h => by
    simp only [zz21,zz19] at h
    simp only [T8,noIds_plain h.1,noIds_all h.2,zz26]
theorem T7 {f : FuncId} {args : List DV} {v : DV} (hp : cfg.pu f = true) (ha : args.all plain = true) (h : PE P cfg f args v) (H : Heap) (K : DV → Heap → Prop) : R4 P cfg f args H K = K v H :=
  CallE.told (CallE.pure hp (frz_all ha) h (by rw [noIds_all ha]; rfl)) K
theorem fin1 {ex : Ex} (he : done? ex = true) {sl : List DV} {t : Nat} {v : DV} : (done? ex = true ∧ ∃ vs,U1 ⟨sl,H⟩ [.tmp t] = some vs ∧ frz H W4 (pack vs) = some v) = (frz H W4 (sl.getD t P9) = some v) := by
  simp only [he,true_and,U1,dres]
  apply propext; constructor
  · rintro ⟨vs,h,h2⟩; obtain rfl := Option.some.inj h; exact h2
  · exact fun h => ⟨_,rfl,h⟩
theorem fin2 {ex : Ex} (he : done? ex = true) {sl : List DV} {t u : Nat} {v : DV} : (done? ex = true ∧ ∃ vs,U1 ⟨sl,H⟩ [.tmp t,.tmp u] = some vs ∧ frz H W4 (pack vs) = some v) = (frz H W4 (.tup [sl.getD t P9,sl.getD u P9]) = some v) := by
  simp only [he,true_and,U1,dres]
  apply propext; constructor
  · rintro ⟨vs,h,h2⟩; obtain rfl := Option.some.inj h; exact h2
  · exact fun h => ⟨_,rfl,h⟩
theorem frz_tup {l : List DV} (h : l.all jz6 = true) : frz H W4 (.tup l) = some (.tup l) := frz_plain h
theorem frz_agg {l : List DV} (h : l.all jz6 = true) : frz H W4 (.agg l) = some (.agg l) := frz_plain h
theorem H4 {H : Heap} {l : List UInt8} : frz H 7 (strD l) = some (strD l) := Eq.trans rfl rfl
theorem L4 {H : Heap} {b : UInt8} : frz H 7 (byD b) = some (byD b) := Eq.trans rfl rfl
theorem H5 {H : Heap} {n : Int} : frz H 7 (intD n) = some (intD n) := Eq.trans rfl rfl
theorem L5 {H : Heap} {b : Bool} : frz H 7 (boD b) = some (boD b) := Eq.trans rfl rfl
theorem H3 {H : Heap} {l : List DV} : frz H W4 (.tup l) = (Q8 (frz H 7) l).map DV.tup := Eq.trans rfl rfl
theorem H6 {H : Heap} {l : List DV} : frz H W4 (.agg l) = (Q8 (frz H 7) l).map DV.agg := Eq.trans rfl rfl
theorem B6 {α β : Type} {f : α → Option β} : Q8 f [] = some [] := Eq.trans rfl rfl
theorem A8 {α β : Type} {f : α → Option β} {a : α} {r : List α} : Q8 f (a :: r) = (f a).bind fun b => (Q8 f r).map fun l => b :: l := by
  simp only [Q8]
  cases f a <;> cases Q8 f r <;> rfl
theorem M8 : binD P H .or t x y (byD a) (byD b) = .val (byD (a ||| b)) H := by
  rw [byD,byD,V6]; simp only [binOp,Op.intBits,ne_eq,not_true_eq_false,if_false]
  have e1 : BitVec.ofInt IntKind.u8.bits ((a.toNat : Int)) = a.toBitVec := by
    rw [BitVec.ofInt_natCast]; apply BitVec.eq_of_toNat_eq; simp [IntKind.bits]
  have e2 : BitVec.ofInt IntKind.u8.bits ((b.toNat : Int)) = b.toBitVec := by
    rw [BitVec.ofInt_natCast]; apply BitVec.eq_of_toNat_eq; simp [IntKind.bits]
  rw [e1,e2]
  show DR.val (.sc (.int .u8 (IntKind.u8.wrap ((a.toBitVec ||| b.toBitVec).toNat : Int)))) H = _
  have e3 : IntKind.u8.wrap ((a.toBitVec ||| b.toBitVec).toNat : Int) = ((a ||| b).toNat : Int) := by
    rw [show (a ||| b).toNat = (a.toBitVec ||| b.toBitVec).toNat from rfl]
    exact IntWalk.u8_in _ ⟨by omega,by have := (a.toBitVec ||| b.toBitVec).isLt; omega⟩
  rw [e3]; rfl
theorem J7 : binD P H .add t x y (byD a) (byD b) = .val (byD (a + b)) H := by
  rw [byD,byD,V6]; simp only [binOp,Op.intArith,ne_eq,not_true_eq_false,if_false]
  have e3 : IntKind.u8.wrap ((a.toNat : Int) + b.toNat) = ((a + b).toNat : Int) := by
    rw [IntKind.wrap_u8,UInt8.toNat_add]; omega
  show DR.val (.sc (.int .u8 (IntKind.u8.wrap ((a.toNat : Int) + b.toNat)))) H = _
  rw [e3]; rfl
theorem J0 : binD P H .sub t x y (byD a) (byD b) = .val (byD (a - b)) H := by
  rw [byD,byD,V6]; simp only [binOp,Op.intArith,ne_eq,not_true_eq_false,if_false]
  have e3 : IntKind.u8.wrap ((a.toNat : Int) - b.toNat) = ((a - b).toNat : Int) := by
    have := a.toNat_lt; have := b.toNat_lt
    rw [IntKind.wrap_u8,UInt8.toNat_sub]; omega
  show DR.val (.sc (.int .u8 (IntKind.u8.wrap ((a.toNat : Int) - b.toNat)))) H = _
  rw [e3]; rfl
theorem A6 {s d : TypeId} {u : TypeDesc} (hs : P.underlying s = some u) (hd : P.underlying d = some (.int .i64)) : convD P H s d (byD a) = .val (intD a.toNat) H := by
  simp only [convD,byD,toV?,Z7]
  have : pv? P (convert s d (.int .u8 a.toNat)) = some (.int .i64 a.toNat) := by
    show pv? P (underlying s >>= _) = _
    rw [pv_und hs]
    show pv? P (underlying d >>= _) = _
    rw [pv_und hd]
    have : pv? P (Conv.intToInt .i64 (a.toNat : Int)) = some (.int .i64 a.toNat) := by
      show some (Value.int .i64 (IntKind.i64.wrap a.toNat)) = _
      have := a.toNat_lt
      rw [wrap_i64 (by omega) (by omega)]
    cases u <;> exact this
  rw [this]; rfl
def minD (P : Program) (H : Heap) (ts : Array TypeId) (t : TypeId) (v w : DV) : DR := match toVs? [v,w] with
  | some vs => match pv? P (builtin .min ts t #[] vs.toArray) with
    | some (.value v) => .val (ofV v) H
    | _ => .fail
  | none => .fail
theorem L9 {ts : Array TypeId} {x y : Operand} {sl : List DV} : dop P G (.blt .min ts t [x,y]) sl H = minD P H ts t (dev G sl x) (dev G sl y) := rfl
theorem K6 {ts : Array TypeId} : minD P H ts t (intD m) (intD n) = .val (intD (if n < m then n else m)) H := rfl
def loopK (I : Nat → DS → Prop) (n : Nat) (Q : Ex → DS → Prop) : Ex → DS → Prop
  | .normal,s => ∃ m,m < n ∧ I m s
  | .exit id,s => Q (.exit id) s
  | .ret,s => Q .ret s
theorem A4 {I : Nat → DS → Prop} {n : Nat} {Q : Ex → DS → Prop} {s : DS} : loopK I n Q .normal s = ∃ m,m < n ∧ I m s := Eq.trans rfl rfl
theorem B9 {I : Nat → DS → Prop} {n id : Nat} {Q : Ex → DS → Prop} {s : DS} : loopK I n Q (.exit id) s = Q (.exit id) s := Eq.trans rfl rfl
theorem D7 {I : Nat → DS → Prop} {n : Nat} {Q : Ex → DS → Prop} {s : DS} : loopK I n Q .ret s = Q .ret s := Eq.trans rfl rfl
theorem V3 {a : SCode} {Q : Ex → DS → Prop} (I : Nat → DS → Prop) (round : ∀ n s,I n s → runW P cfg a s (loopK I n Q)) {n : Nat} {s : DS} (hI : I n s) : runW P cfg (.loop a) s Q := by
  refine runW_loop ?_
  induction n using Nat.strongRecOn generalizing s with
  | _ n ih =>
    obtain ⟨ex,s1,h1,h2⟩ := zz4 (round n s hI)
    cases ex with
    | normal =>
      obtain ⟨m,hm,hI⟩ := h2
      obtain ⟨ex,s',h3,h4⟩ := ih m hm hI
      exact ⟨ex,s',LoopE.more h1 h3,h4⟩
    | exit id => exact ⟨_,_,LoopE.out h1 (by simp),h2⟩
    | ret => exact ⟨_,_,LoopE.out h1 (by simp),h2⟩
def Hid (p : Prop) : Prop := p
theorem G9 {l : List UInt8} {n : Int} (h0 : 0 ≤ n) (h1 : n < l.length) : List.drop n.toNat (List.take (n + 1).toNat l) = [l.getD n.toNat 0] := by
  rw [show (n + 1).toNat = n.toNat + 1 by omega,List.drop_take,show n.toNat + 1 - n.toNat = 1 by omega,List.drop_eq_getElem_cons (by omega),List.getD_eq_getElem?_getD,List.getElem?_eq_getElem (by omega)]
  rfl
end
end Go.Dx
end
section
namespace Go.Dx
open Go
section
variable {P : Program} {cfg : Cfg}
theorem rval_still {H H' : Heap} {o : Option DV} {v : DV} (h : rval H o = .val v H') : H' = H := by
  cases o with
  | none => simp [rval] at h
  | some x => simp only [rval,DR.val.injEq] at h; exact h.2.symm
theorem rpure_still {H H' : Heap} {m : Sem Value} {v : DV} (h : Z7 P H m = .val v H') : H' = H := rval_still h
theorem dop_still {op : SOp} {sl : List DV} {H H' : Heap} {v : DV} (ht : op.turns = false) (h : dop P cfg.G op sl H = .val v H') : H' = H := by
  cases op <;> first
    | (simp only [SOp.turns,Bool.true_eq_false] at ht; done)
    | (simp only [dop] at h
       (repeat' split at h) <;> first
         | exact rval_still h
         | exact rpure_still h
         | (simp only [DR.val.injEq] at h; exact h.2.symm)
         | (simp at h; done)
         | (simp at h; exact h.2.symm))
theorem estep_keeps {c : U8} {o : SOper} {sl : List DV} {H H' : Heap} {v : DV} (ht : o.op.turns = false) (h : Y8 P cfg.G c o sl H = some (v,H')) : H' = H := by
  unfold Y8 at h
  split at h
  · split at h
    · split at h
      · rename_i hd
        simp only [Option.some.injEq,Prod.mk.injEq] at h
        rw [← h.2]; exact dop_still ht hd
      · rename_i f args hd
        rw [zz16 hd] at ht; cases ht
      · simp at h
    · simp only [Option.some.injEq,Prod.mk.injEq] at h; exact h.2.symm
  · simp at h
theorem dops_step {c : U8} (o : SOper) (r : List SOper) (s : DS) : dops P cfg.G c (o :: r) s = match Y8 P cfg.G c o s.sl s.H with | some (v,H) => dops P cfg.G c r ⟨dput s.sl o.dst v,H⟩ | none => none := dops_cons o r s
theorem trace_still {c : U8} : ∀ {l : List SOper} {sl : List DV} {H : Heap} {s' : DS},(l.all fun o => !o.op.turns) = true → dops P cfg.G c l ⟨sl,H⟩ = some s' →
    ∃ tr,trace P cfg.G c l sl H = some tr ∧ tr.length = l.length ∧ ∀ (j : Nat) (o : SOper) (x : List DV × DV × Heap),l[j]? = some o → tr[j]? = some x → Y8 P cfg.G c o x.1 H = some (x.2.1,H)
  | [],sl,H,s',_,_ => ⟨[],rfl,rfl,fun j o x h => by simp at h⟩
  | o :: r,sl,H,s',ha,h => by
    simp only [zz21,zz19,Bool.not_eq_true'] at ha
    rw [dops_step] at h
    cases he : Y8 P cfg.G c o sl H with
    | none => rw [he] at h; simp at h
    | some y =>
      obtain ⟨v,H'⟩ := y
      rw [he] at h
      obtain rfl := estep_keeps ha.1 he
      obtain ⟨tr,h1,h2,h3⟩ := trace_still (by simpa using ha.2) h
      refine ⟨(sl,v,H') :: tr,by simp only [trace,he,h1,zz22],by simp [h2],fun j p x hp hx => ?_⟩
      cases j with
      | zero =>
        simp only [List.getElem?_cons_zero,Option.some.injEq] at hp hx
        subst hp; subst hx
        exact he
      | succ j =>
        simp only [List.getElem?_cons_succ] at hp hx
        exact h3 j p x hp hx
theorem stages_still {l : List SOper} {tr : List (List DV × DV × Heap)} {H : Heap} (ha : (l.all fun o => !o.op.turns) = true) : Z4 l tr H = [H] := by
  unfold Z4
  have : ((l.zip tr).filter fun p => p.1.op.turns) = [] := by
    rw [List.filter_eq_nil_iff]
    intro p hp
    have hm := (List.of_mem_zip hp).1
    have := List.all_eq_true.mp ha _ hm
    simpa using this
  rw [this]; rfl
theorem steady_one {c : U8} {l : List SOper} {es : List (List Nat)} {tr : List (List DV × DV × Heap)} {H : Heap} (hl : tr.length = l.length)
    (h : ∀ (j : Nat) (o : SOper) (x : List DV × DV × Heap),l[j]? = some o → tr[j]? = some x → Y8 P cfg.G c o x.1 H = some (x.2.1,H)) : steady P cfg.G c l es tr [H] = true := by
  unfold steady
  rw [List.all_eq_true]
  intro j hj
  have hj : j < l.length := List.mem_range.mp hj
  have e1 : l[j]? = some l[j] := List.getElem?_eq_getElem hj
  have e2 : tr[j]? = some (tr[j]'(by omega)) := List.getElem?_eq_getElem (by omega)
  rw [e1,e2]
  simp only
  rw [Bool.or_eq_true]
  right
  rw [List.all_eq_true]
  intro k hk
  have hk : k < 1 := List.mem_range.mp hk
  obtain rfl : k = 0 := by omega
  simp only [List.getElem?_cons_zero]
  rw [h j _ _ e1 e2]
  simp only [same_refl,Bool.or_true]
theorem D5 {l : List (SOper × List Nat)} {sl : List DV} {H : Heap} {Q : Ex → DS → Prop} (ha : ((l.map (·.1)).all fun o => !o.op.turns) = true) (hd : drawn? (l.map (·.1)) (l.map (·.2)) = true)
    (h : opsW P cfg (l.map (·.1)) ⟨sl,H⟩ fun s' => Q .normal s') : runW P cfg (.draw l) ⟨sl,H⟩ Q := by
  obtain ⟨s',h1,h2⟩ := opsW_ok h
  refine ⟨s',h1.one fun n hn => ?_,h2⟩
  obtain ⟨tr,t1,t2,t3⟩ := trace_still ha hn
  unfold ddraw
  simp only [t1]
  rw [if_pos]
  · exact hn
  · rw [stages_still ha,hd,steady_one t2 t3]; rfl
theorem G8 {o : SOper} {e : List Nat} {r : List (SOper × List Nat)} {sl : List DV} {H : Heap} {Q : DS → Prop} : opsW P cfg (List.map (fun x => x.1) ((o,e) :: r)) ⟨sl,H⟩ Q = opsW P cfg (o :: List.map (fun x => x.1) r) ⟨sl,H⟩ Q := Eq.trans rfl rfl
theorem A3 {sl : List DV} {H : Heap} {Q : DS → Prop} : opsW P cfg (List.map (fun x : SOper × List Nat => x.1) []) ⟨sl,H⟩ Q = Q ⟨sl,H⟩ := Eq.trans rfl rfl
variable {G : Nat → Option (List DV)} {H : Heap}
theorem O3 {l : List UInt8} : DV.sc (.string ⟨⟨l⟩⟩) = strD l := Eq.trans rfl rfl
theorem O4 {n : Nat} : DV.sc (.int .i64 (.ofNat n)) = intD n := Eq.trans rfl rfl
theorem K0 {b : Bool} : DV.sc (.bool b) = boD b := Eq.trans rfl rfl
theorem F2 {l : List UInt8} : (strD l).cells = [strD l] := Eq.trans rfl rfl
theorem F5 {n : Int} : (intD n).cells = [intD n] := Eq.trans rfl rfl
theorem I5 {b : UInt8} : (byD b).cells = [byD b] := Eq.trans rfl rfl
theorem I6 {b : Bool} : (boD b).cells = [boD b] := Eq.trans rfl rfl
theorem F7 {cs : List DV} : (DV.agg cs).cells = cs := Eq.trans rfl rfl
theorem F4 {i j n : Nat} : (DV.osl i j n).cells = [DV.osl i j n] := Eq.trans rfl rfl
theorem F3 {i j n : Nat} : (DV.ptr i j n).cells = [DV.ptr i j n] := Eq.trans rfl rfl
theorem F6 {l : List (List DV)} : (DV.imm l).cells = [DV.imm l] := Eq.trans rfl rfl
theorem K1 {l : List UInt8} : (strD l).one = true := Eq.trans rfl rfl
theorem K4 {n : Int} : (intD n).one = true := Eq.trans rfl rfl
theorem O5 {b : UInt8} : (byD b).one = true := Eq.trans rfl rfl
theorem O6 {b : Bool} : (boD b).one = true := Eq.trans rfl rfl
theorem K3 {i j n : Nat} : (DV.osl i j n).one = true := Eq.trans rfl rfl
theorem K2 {i j n : Nat} : (DV.ptr i j n).one = true := Eq.trans rfl rfl
theorem K5 {l : List (List DV)} : (DV.imm l).one = true := Eq.trans rfl rfl
theorem F8 {r : Option Row} {H : Heap} : Heap.row (r :: H) 0 = r := by simp [Heap.row]
theorem F9 {r : Option Row} {H : Heap} {n : Nat} : Heap.row (r :: H) (n + 1) = Heap.row H n := by simp [Heap.row]
theorem E8 {ty : TypeId} {zero : List DV} {sl : List DV} : dop P G (.alloc ty zero) sl H = .val (.ptr H.length 0 0) (H ++ [some (Row.mk zero.length [zero] ty 0 true)]) := Eq.trans rfl rfl
def stoD (H : Heap) (n : Nat) (v w : DV) : DR := if w.cells.length = n then (match dstore H v w.cells with | some H' => .val P9 H' | none => .fail) else .fail
theorem E2 {n : Nat} {a x : Operand} {sl : List DV} : dop P G (.store n a x) sl H = stoD H n (dev G sl a) (dev G sl x) := Eq.trans rfl rfl
def stoR (H : Heap) (n id i j : Nat) (w : DV) : Option Row → DR
  | some r => (match r.es[i]? with
      | some e => if j + n ≤ e.length ∧ r.frz ≤ i ∧ w.cells.length = n ∧ w.cells.all DV.one = true then .val P9 (H.set id (some (Row.mk r.k (r.es.set i (jz16 e j w.cells)) r.ty r.frz r.soft))) else .fail
      | none => .fail)
  | none => .fail
theorem J9 {n id i j : Nat} {w : DV} : stoD H n (.ptr id i j) w = stoR H n id i j w (H.row id) := by
  by_cases hn : w.cells.length = n
  · cases hr : H.row id with
    | none => simp [stoD,dstore,stoR,hr,hn]
    | some r =>
      cases he : r.es[i]? with
      | none => simp [stoD,dstore,stoR,hr,hn,he]
      | some e =>
        simp only [stoD,dstore,stoR,hr,hn,he,if_true,true_and]
        by_cases hc : j + n ≤ e.length ∧ r.frz ≤ i ∧ w.cells.all DV.one = true
        · simp only [if_pos hc]
        · simp only [if_neg hc]
  · cases hr : H.row id with
    | none => simp [stoD,stoR,hr,hn]
    | some r =>
      cases he : r.es[i]? with
      | none => simp [stoD,stoR,hr,hn,he]
      | some e => simp [stoD,stoR,hr,hn,he]
theorem G1 {n id j k f : Nat} {w : DV} {e : List DV} {ty : TypeId} {sf : Bool} : stoR H n id 0 j w (some (Row.mk k [e] ty f sf)) =
    if j + n ≤ e.length ∧ f ≤ 0 ∧ w.cells.length = n ∧ w.cells.all DV.one = true then .val P9 (H.set id (some (Row.mk k [jz16 e j w.cells] ty f sf))) else .fail := Eq.trans rfl rfl
theorem C7 {e cs : List DV} {j : Nat} : jz16 e j cs = e.take j ++ cs ++ e.drop (j + cs.length) := Eq.trans rfl rfl
def ldR (n i j : Nat) : Option Row → Option (List DV)
  | some r => match r.es[i]? with
      | some e => if j + n ≤ e.length then some ((e.drop j).take n) else none
      | none => none
  | none => none
theorem E9 {n id i j : Nat} : dload H n (.ptr id i j) = ldR n i j (H.row id) := by
  simp only [dload,ldR]
  cases hr : H.row id with
  | none => rfl
  | some r => rfl
theorem L0 {n j k f : Nat} {e : List DV} {ty : TypeId} {sf : Bool} : ldR n 0 j (some (Row.mk k [e] ty f sf)) = if j + n ≤ e.length then some ((e.drop j).take n) else none := Eq.trans rfl rfl
theorem C4 {n : Nat} {cs : List DV} : dload H n (.iptr cs) = if n ≤ cs.length then some (cs.take n) else none := Eq.trans rfl rfl
def lodD (H : Heap) (agg : Bool) : Option (List DV) → DR
  | some cs => if agg then .val (.agg cs) H else match cs with | [v] => .val v H | _ => .fail
  | none => .fail
theorem I1 {agg : Bool} {n : Nat} {a : Operand} {sl : List DV} : dop P G (.load agg n a) sl H = lodD H agg (dload H n (dev G sl a)) := Eq.trans rfl rfl
theorem K8 {cs : List DV} : lodD H true (some cs) = .val (.agg cs) H := Eq.trans rfl rfl
theorem K7 {v : DV} : lodD H false (some [v]) = .val v H := Eq.trans rfl rfl
def bldD (H : Heap) (zero : List DV) (ps : List (Nat × Nat × DV)) : DR :=
  rval H ((dfill zero (ps.map fun p => (p.1,p.2.2.cells.take p.2.1))).bind fun cs => if ps.all fun p => p.2.2.cells.length == p.2.1 then some (.agg cs) else none)
theorem E7 {zero : List DV} {ps : List (Nat × Nat × Operand)} {sl : List DV} : dop P G (.build zero ps) sl H = bldD H zero (ps.map fun p => (p.1,p.2.1,dev G sl p.2.2)) := by
  simp only [dop,bldD,List.map_map,List.all_map]; rfl
theorem P3 {zero : List DV} {ps : List (Nat × Nat × DV)} : bldD H zero ps = rval H ((dfill zero (ps.map fun p => (p.1,p.2.2.cells.take p.2.1))).bind fun cs => if ps.all fun p => p.2.2.cells.length == p.2.1 then some (.agg cs) else none) := Eq.trans rfl rfl
theorem C8 {zero : List DV} : dfill zero [] = some zero := Eq.trans rfl rfl
theorem B3 {zero cs : List DV} {off : Nat} {r : List (Nat × List DV)} : dfill zero ((off,cs) :: r) = if off + cs.length ≤ zero.length then dfill (jz16 zero off cs) r else none := Eq.trans rfl rfl
def fadD (H : Heap) (off : Nat) : DV → DR
  | .ptr id i j => .val (.ptr id i (j + off)) H
  | .iptr cs => .val (.iptr (cs.drop off)) H
  | _ => .fail
theorem A0 {off : Nat} {x : Operand} {sl : List DV} : dop P G (.fieldAddr off x) sl H = fadD H off (dev G sl x) := by
  simp only [dop]; unfold fadD; cases dev G sl x <;> rfl
theorem L7 {off id i j : Nat} : fadD H off (.ptr id i j) = .val (.ptr id i (j + off)) H := Eq.trans rfl rfl
theorem H8 {off : Nat} {cs : List DV} : fadD H off (.iptr cs) = .val (.iptr (cs.drop off)) H := Eq.trans rfl rfl
def fldD (H : Heap) (agg : Bool) (off n : Nat) : DV → DR
  | .agg cs => if agg then .val (.agg ((cs.drop off).take n)) H else rval H (cs[off]?)
  | _ => .fail
theorem E5 {agg : Bool} {off n : Nat} {x : Operand} {sl : List DV} : dop P G (.field agg off n x) sl H = fldD H agg off n (dev G sl x) := by
  simp only [dop]; unfold fldD; cases dev G sl x <;> rfl
theorem L6 {off n : Nat} {cs : List DV} : fldD H false off n (.agg cs) = rval H (cs[off]?) := Eq.trans rfl rfl
theorem H7 {ex : Ex} (he : done? ex = true) {sl : List DV} {n t : Nat} {v : DV} : (done? ex = true ∧ ∃ vs,U1 ⟨sl,H⟩ [.cell true n t] = some vs ∧ frz H W4 (pack vs) = some v) =
    (∃ cs,dload H n (sl.getD t P9) = some cs ∧ frz H W4 (.agg cs) = some v) := by
  simp only [he,true_and,U1,dres]
  apply propext
  cases dload H n (sl.getD t P9) with
  | none => simp
  | some cs =>
    simp only [if_true,Option.some.injEq]
    constructor
    · rintro ⟨vs,h,h2⟩; subst h; exact ⟨cs,rfl,h2⟩
    · rintro ⟨cs',rfl,h2⟩; exact ⟨_,rfl,h2⟩
theorem runW_post {c : SCode} {s : DS} {Q Q1 : Ex → DS → Prop} (h : runW P cfg c s Q1) (hq : ∀ ex s,Q1 ex s → Q ex s) (hc : ∀ Q ex s',RunE P cfg c s ex s' → Q ex s' → runW P cfg c s Q) : runW P cfg c s Q := by
  obtain ⟨ex,s',h1,h2⟩ := zz4 h
  exact hc _ ex s' h1 (hq _ _ h2)
theorem zz2 {a : SCode} {s : DS} {Q Q1 : Ex → DS → Prop} (h : runW P cfg (.loop a) s Q1) (hq : ∀ ex s,Q1 ex s → Q ex s) : runW P cfg (.loop a) s Q :=
  runW_post h hq fun _ ex s' h1 h2 => ⟨ex,s',h1,h2⟩
theorem N0 {t : TypeId} {x y : Operand} {m n : Int} (h0 : 0 ≤ m) (h1 : m < 2 ^ 62) (hn : 0 < n) : binD P H .quo t x y (intD m) (intD n) = .val (intD (m / n)) H := by
  rw [intD,intD,V6]
  have h3 : m.tdiv n = m / n := Int.tdiv_eq_ediv_of_nonneg h0
  have h4 : 0 ≤ m / n := Int.ediv_nonneg h0 (by omega)
  have h5 : m / n ≤ m := Int.ediv_le_self _ h0
  have h6 : IntKind.i64.wrap (m.tdiv n) = m / n := by rw [h3]; exact wrap_i64 (by omega) (by omega)
  simp only [binOp,Op.intDiv,ne_eq,not_true_eq_false,if_false]
  rw [if_neg (by omega)]
  show DR.val (.sc (.int .i64 (IntKind.i64.wrap (m.tdiv n)))) H = _
  rw [h6]; rfl
end
end Go.Dx
end
section
namespace Go.Dx
open Go
section
variable {P : Program} {cfg : Cfg} {G : Nat → Option (List DV)} {H : Heap} {l : List UInt8} {id n i : Nat} {ty : TypeId} {f : Nat} {sf : Bool}
def bys (l : List UInt8) : List (List DV) := l.map fun b => [byD b]
theorem U3 : (bys l).length = l.length := by simp [bys]
theorem bys_get (h : i < l.length) : (bys l)[i]? = some [byD (l.getD i 0)] := by
  unfold bys
  rw [List.getElem?_map,List.getElem?_eq_getElem h,List.getD_eq_getElem?_getD,List.getElem?_eq_getElem h]; rfl
theorem bys_set {b : UInt8} : (bys l).set i [byD b] = bys (l.set i b) := by
  unfold bys; rw [List.map_set]
def csbD (H : Heap) (ty : TypeId) : DV → DR
  | .sc (.string s) => .val (.osl H.length 0 s.size) (H ++ [some { k := 1,es := s.data.toList.map fun b => [.sc (.int .u8 b.toNat)],ty := ty,soft := false }])
  | _ => .fail
theorem dop_convSB {x : Operand} {sl : List DV} : dop P G (.convSB ty x) sl H = csbD H ty (dev G sl x) := by
  simp only [dop]; unfold csbD; split <;> simp_all
theorem csb_str : csbD H ty (strD l) = .val (.osl H.length 0 l.length) (H ++ [some (Row.mk 1 (bys l) ty 0 false)]) := by
  unfold csbD strD; simp only [ba_size]; rfl
def llenD (H : Heap) (v : DV) : DR := match dlen v with | some n => .val (intD n) H | none => .fail
theorem P5 {x : Operand} {sl : List DV} : dop P G (.len x) sl H = llenD H (dev G sl x) := Eq.trans rfl rfl
theorem Y1 {off : Nat} : llenD H (.osl id off n) = .val (intD n) H := Eq.trans rfl rfl
theorem llen_nil : llenD H .nil = .val (intD 0) H := Eq.trans rfl rfl
theorem llen_imm {es : List (List DV)} : llenD H (.imm es) = .val (intD es.length) H := Eq.trans rfl rfl
def iaD (H : Heap) (k : Nat) (x i : DV) : DR := match dint i with | some n => rval H (jz8 H k x n) | none => .fail
theorem P4 {k : Nat} {x i : Operand} {sl : List DV} : dop P G (.indexAddr k x i) sl H = iaD H k (dev G sl x) (dev G sl i) := Eq.trans rfl rfl
def iaR (H : Heap) (k id off len : Nat) (i : Int) : Option Row → DR
  | some r => if 0 ≤ i ∧ i < len ∧ r.k = k ∧ off + len ≤ r.es.length then .val (.ptr id (off + i.toNat) 0) H else .fail
  | none => .fail
theorem ia_osl {k off len : Nat} {m : Int} : iaD H k (.osl id off len) (intD m) = iaR H k id off len m (H.row id) := by
  simp only [iaD,intD,dint,jz8]
  cases hr : H.row id with
  | none => rfl
  | some r =>
    simp only [iaR]
    by_cases hc : 0 ≤ m ∧ m < len ∧ r.k = k ∧ off + len ≤ r.es.length
    · rw [if_pos hc,if_pos hc]; rfl
    · rw [if_neg hc,if_neg hc]; rfl
theorem ia_bys {len : Nat} {m : Int} (h0 : 0 ≤ m) (h1 : m < len) (h2 : len ≤ l.length) : iaR H 1 id 0 len m (some (Row.mk 1 (bys l) ty f sf)) = .val (.ptr id m.toNat 0) H := by
  unfold iaR
  simp only [U3]
  rw [if_pos ⟨h0,h1,True.intro,by omega⟩,yz24]
theorem ld_bys {m : Int} (h0 : 0 ≤ m) (h : m < l.length) : ldR 1 m.toNat 0 (some (Row.mk 1 (bys l) ty f sf)) = some [byD (l.getD m.toNat 0)] := by
  unfold ldR
  simp only [bys_get (show m.toNat < l.length by omega)]
  rfl
theorem sto_bys {b : UInt8} {m : Int} (h0 : 0 ≤ m) (h : m < l.length) : stoR H 1 id m.toNat 0 (byD b) (some (Row.mk 1 (bys l) ty 0 sf)) = .val P9 (H.set id (some (Row.mk 1 (bys (l.set m.toNat b)) ty 0 sf))) := by
  unfold stoR
  simp only [bys_get (show m.toNat < l.length by omega)]
  rw [if_pos ⟨by simp,by omega,rfl,rfl⟩]
  rw [← bys_set]; rfl
def cbsD (H : Heap) (v : DV) : DR := match dlen v,Z6 H 1 v with
    | some _,some es => rval H ((Q8 (fun e => match e with | [DV.sc (.int .u8 n)] => some (UInt8.ofNat n.toNat) | _ => none) es).map fun l => DV.sc (.string ⟨l.toArray⟩))
    | _,_ => .fail
theorem dop_convBS {x : Operand} {sl : List DV} : dop P G (.convBS x) sl H = cbsD H (dev G sl x) := Eq.trans rfl rfl
theorem bys_back : ∀ l : List UInt8,Q8 (fun e => match e with | [DV.sc (.int .u8 n)] => some (UInt8.ofNat n.toNat) | _ => none) (bys l) = some l
  | [] => rfl
  | a :: r => by
    have ih := bys_back r
    show Q8 _ ([byD a] :: bys r) = _
    rw [A8,ih]
    show some (UInt8.ofNat ((a.toNat : Int).toNat) :: r) = _
    rw [yz26]; simp
theorem cbs_bys (hr : H.row id = some (Row.mk 1 (bys l) ty f sf)) (hn : n = l.length) : cbsD H (.osl id 0 n) = .val (strD l) H := by
  subst hn
  have : Z6 H 1 (.osl id 0 l.length) = some (bys l) := by
    simp only [Z6,hr,U3]
    rw [if_pos ⟨True.intro,by omega⟩,jz25,List.take_of_length_le (by rw [U3]; omega)]
  simp only [cbsD,dlen,this,bys_back]
  rfl
end
end Go.Dx
end
section
namespace Go.Dx
open Go
section
variable {P : Program} {cfg : Cfg} {G : Nat → Option (List DV)} {H L : Heap} {r : Option Row} {id n i : Nat}
theorem Y0 : Heap.row (H ++ r :: L) H.length = r := by
  unfold Heap.row
  rw [List.getElem?_append_right (jz18 _)]; simp
theorem yz17 : Heap.row (H ++ L) (H.length + n) = Heap.row L n := by
  unfold Heap.row
  rw [List.getElem?_append_right (by omega)]; simp
theorem Y4 (h : id < H.length) : Heap.row (H ++ L) id = Heap.row H id := by
  unfold Heap.row
  rw [List.getElem?_append_left h]
theorem yz9 {x : Option Row} : (H ++ r :: L).set H.length x = H ++ x :: L := by
  rw [List.set_append_right _ _ (jz18 _)]; simp
theorem set_behind {x : Option Row} : (H ++ L).set (H.length + n) x = H ++ L.set n x := by
  rw [List.set_append_right _ _ (by omega)]; simp
theorem row_lt {R : Row} (h : Heap.row H id = some R) : id < H.length := by
  unfold Heap.row at h
  apply Classical.byContradiction
  intro hn
  rw [List.getElem?_eq_none (by omega)] at h
  simp at h
def bslD (H : Heap) (ty : TypeId) (k : Nat) (zero : List DV) (x : DV) : DR :=
  if x.cells.length = k ∧ zero.length = k ∧ 1 ≤ k then .val (.osl H.length 0 1) (H ++ [some (Row.mk k [x.cells] ty 0 true)]) else .fail
theorem dop_buildOne {ty : TypeId} {k : Nat} {zero : List DV} {x : Operand} {sl : List DV} (h : (dev G sl x).cells.length = k) (hz : zero.length = k) (hk : 1 ≤ k) :
    dop P G (.buildSlice ty k zero 1 [(0,x)]) sl H = .val (.osl H.length 0 1) (H ++ [some (Row.mk k [(dev G sl x).cells] ty 0 true)]) := by
  have e1 : dfill ((List.replicate 1 zero).flatten) [(0 * k,(dev G sl x).cells)] = some (dev G sl x).cells := by
    simp only [List.replicate_one,List.flatten_cons,List.flatten_nil,jz26,Nat.zero_mul,B3,C8]
    rw [if_pos (by omega),C7]
    simp only [zz27,yz27,yz24]
    rw [List.drop_eq_nil_of_le (by omega),jz26]
  simp only [dop,yz23,zz23,e1,zz21,jz27,h,hz,beq_self_eq_true,zz26,true_and]
  rw [if_pos hk]
  have e2 : (List.map (fun i => List.take k (List.drop (i * k) (dev G sl x).cells)) (List.range 1)) = [(dev G sl x).cells] := by
    simp only [List.range_one,yz23,zz23,Nat.zero_mul,jz25]
    rw [List.take_of_length_le (by omega)]
  rw [e2]
theorem elems_one {k : Nat} {e : List DV} {ty : TypeId} {f : Nat} {sf : Bool} (hr : H.row id = some (Row.mk k [e] ty f sf)) : Z6 H k (.osl id 0 1) = some [e] := by
  simp only [Z6,hr,zz20,yz25,true_and]
  rfl
def appD (H : Heap) (ty : TypeId) (k bytes : Nat) (s x : DV) : DR := match yz10 ty k bytes H s x with
    | some (v,H') => .val v H'
    | none => .fail
theorem zz18 {ty : TypeId} {k bytes : Nat} {s x : Operand} {sl : List DV} : dop P G (.append ty k bytes s x) sl H = appD H ty k bytes (dev G sl s) (dev G sl x) := Eq.trans rfl rfl
theorem app_nil {k bytes : Nat} {e : List DV} {ty ty' : TypeId} {f : Nat} {sf : Bool} (hr : H.row id = some (Row.mk k [e] ty' f sf)) (hk : 1 ≤ k) (hb : bytes ≤ 2 ^ 47) :
    appD H ty k bytes .nil (.osl id 0 1) = .val (.osl H.length 0 1) (H ++ [some (Row.mk k [e] ty 0 true)]) := by
  simp only [appD,yz10,elems_one hr,List.isEmpty_cons,yz21,if_false,zz20,yz25]
  rw [if_pos ⟨by omega,hk⟩]
theorem app_osl {k bytes j m : Nat} {e : List DV} {es : List (List DV)} {ty ty' : TypeId} {f : Nat} {sf sf' : Bool} (hr : H.row id = some (Row.mk k [e] ty' f sf)) (ho : H.row j = some (Row.mk k es ty 0 sf')) (hm : m = es.length) (hk : 1 ≤ k)
    (hb : (m + 1) * bytes ≤ 2 ^ 47) (h1 : e.all DV.one = true) : appD H ty k bytes (.osl j 0 m) (.osl id 0 1) = .val (.osl H.length 0 (m + 1)) (H.set j none ++ [some (Row.mk k (es ++ [e]) ty 0 sf')]) := by
  subst hm
  simp only [appD,yz10,elems_one hr,ho,List.isEmpty_cons,yz21,if_false,zz20,yz25,yz24,jz25,List.take_length]
  rw [if_pos ⟨True.intro,True.intro,jz18 _,Nat.zero_le _,hb,hk,by simp [h1]⟩]
theorem jz17 {ty : TypeId} {k : Nat} {zero : List DV} {x : Operand} {sl : List DV} (hz : zero.length = k) (hk : 1 ≤ k) :
    dop P G (.buildSlice ty k zero 1 [(0,x)]) sl H = bslD H ty k zero (dev G sl x) := by
  by_cases h : (dev G sl x).cells.length = k
  · rw [dop_buildOne h hz hk,bslD,if_pos ⟨h,hz,hk⟩]
  · rw [bslD,if_neg (fun e => h e.1)]
    simp only [dop,yz23,zz23,zz21,jz27,Bool.and_true,beq_iff_eq]
    split
    · rw [if_neg (fun e => h e.1)]
    · rfl
theorem bsl_agg {ty : TypeId} {k : Nat} {zero cs : List DV} : bslD H ty k zero (.agg cs) = if cs.length = k ∧ zero.length = k ∧ 1 ≤ k then .val (.osl H.length 0 1) (H ++ [some (Row.mk k [cs] ty 0 true)]) else .fail := Eq.trans rfl rfl
def app1 (H : Heap) (ty : TypeId) (k bytes : Nat) (s : DV) (id : Nat) (_ : Option Row) : DR := appD H ty k bytes s (.osl id 0 1)
def app2 (H : Heap) (ty : TypeId) (k bytes j m : Nat) (id : Nat) (_ _ : Option Row) : DR := appD H ty k bytes (.osl j 0 m) (.osl id 0 1)
theorem app_nil1 {ty : TypeId} {k bytes : Nat} : appD H ty k bytes .nil (.osl id 0 1) = app1 H ty k bytes .nil id (H.row id) := Eq.trans rfl rfl
end
end Go.Dx
end
