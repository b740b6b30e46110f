/- The engine, part X2: the words in which a function's proposition is printed. -/
import Derived.Test.YtkaladiliikheaaGreatDoorEngZ
set_option linter.unusedVariables false
set_option linter.unusedSectionVars false
set_option linter.unusedSimpArgs false
namespace Go.Eng
open Go

noncomputable def bo [Orc] (op : BinOp) (x : Option Value) (a b : Value) : Option Value := orV x (Orc.op op a b)
def ar (op : BinOp) (a b : Value) : Option Value := match a with | .string _ => sop op a b | _ => iop op a b
noncomputable def lds1 [Orc] (v : Value) (s : S) : R := pv s (orV (ld1 v s) (ldX 1 false v s))
noncomputable def ldsN [Orc] (n : Nat) (v : Value) (s : S) : R := pv s (orV (ldN n v s) (ldX n true v s))
noncomputable def sts [Orc] (n : Nat) (a v : Value) (s : S) : R := p0 none (match v with
  | .agg c => bif Nat.beq n c.size then orS (stN c.size a v s) (stX a v s) else none
  | _ => bif Nat.beq n 1 then orS (st1 a v s) (orS (stX a v s) (stY a v s)) else none)
noncomputable def gdP (v : Value) (b : Bool) (x y : Prop) : Prop := oP (match v with | .bool c => some (c == b) | _ => some false) fun c => Bool.rec (motive := fun _ => Prop) x y c
noncomputable def ixs [Orc] (n : Nat) (v i : Value) : Option Value := orV (ixS n v i) (ixX n v i)
noncomputable def mks [Orc] (z : List Value) (by_ : Nat) (e : TypeId) (l c : Value) (s : S) : R := orR (mkZ z by_ e l c s) (mkX z by_ e l c s)
noncomputable def lns (v : Value) : Option Value := orV (lnS v) (lnX v)
noncomputable def evABox (t : TypeId) (v : Value) : Option ((Nat → Value) × Obj) := match some v with
  | some (.agg c) => some (mkP, .cells c t (0, 0))
  | some v => bif oneC v then some (mkP, .cells #[v] t (0, 0)) else none
  | none => none
noncomputable def evARow (z : List Value) (len : Nat) (e : TypeId) (vs : List (Nat × Value)) : Option ((Nat → Value) × Obj) := match bld (rep len z) vs with
  | some cs => some (mkRow z.length len cs.length, .cells cs.toArray e (0, 0))
  | none => none
noncomputable def evAMk (z : List Value) (by_ : Nat) (e : TypeId) (l c : Value) : Option ((Nat → Value) × Obj) := match some l, some c with
  | some (.int _ (.ofNat l0)), some (.int _ (.ofNat c0)) => bif Nat.ble l0 c0 && Nat.ble (c0 * by_) room && Nat.ble c0 room then some (mkRow z.length l0 (zer z c0).length, .cells (zer z c0).toArray e (0, 0)) else none
  | _, _ => none
def resC : List (Option Value) → Option (List Value)
  | [] => some []
  | x :: xs => (match x, resC xs with | some v, some l => some (v :: l) | _, _ => none)
section
variable {K : Value → S → Prop} {s : S}
@[simp] theorem rP_some (v : Value) (s : S) : rP (some (v, s)) K = K v s := rfl
@[simp] theorem rP_none : rP none K = False := rfl
theorem rP_pv {x : Option Value} : rP (pv s x) K = oP x fun v => K v s := by cases x <;> rfl
@[simp] theorem pv_some (v : Value) : pv s (some v) = some (v, s) := rfl
@[simp] theorem pv_none : pv s none = none := rfl
@[simp] theorem oP_some {α : Type} (v : α) (k : α → Prop) : oP (some v) k = k v := rfl
@[simp] theorem oP_none {α : Type} (k : α → Prop) : oP none k = False := rfl
@[simp] theorem bo_some [Orc] (op : BinOp) (v a b : Value) : bo op (some v) a b = some v := rfl
@[simp] theorem orV_some (v : Value) (y : Option Value) : orV (some v) y = some v := rfl
@[simp] theorem orV_none (y : Option Value) : orV none y = y := rfl
@[simp] theorem orS_some (v : S) (y : Option S) : orS (some v) y = some v := rfl
@[simp] theorem orS_none (y : Option S) : orS none y = y := rfl
@[simp] theorem orR_some (v : Value × S) (y : R) : orR (some v) y = some v := rfl
@[simp] theorem orR_none (y : R) : orR none y = y := rfl
@[simp] theorem Cnd_true (a b : Prop) : Cnd (.bool true) a b = a := rfl
@[simp] theorem Cnd_false (a b : Prop) : Cnd (.bool false) a b = b := rfl
theorem Cnd_bool (c : Bool) (a b : Prop) : Cnd (.bool c) a b = if c then a else b := by cases c <;> rfl
@[simp] theorem gdP_t (x y : Prop) : gdP (.bool true) true x y = y := rfl
@[simp] theorem gdP_f (x y : Prop) : gdP (.bool false) true x y = x := rfl
@[simp] theorem gdP_tf (x y : Prop) : gdP (.bool true) false x y = x := rfl
@[simp] theorem gdP_ff (x y : Prop) : gdP (.bool false) false x y = y := rfl
theorem gdP_bool (c b : Bool) (x y : Prop) : gdP (.bool c) b x y = if c == b then y else x := by cases c <;> cases b <;> rfl
end
end Go.Eng
