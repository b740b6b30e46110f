/- The engine, part A: heaps without addresses, and what each operation of the model does over them (definitions alone). -/
import Derived.Calls
set_option linter.unusedVariables false
set_option linter.unusedSectionVars false
namespace Go.Eng
open Go

/-! ### Heaps: partial maps from ids to objects; a tree -/
inductive T (α : Type) where
  | l
  | n (a : T α) (o : Option α) (b : T α)

namespace T
variable {α : Type}
noncomputable def get (t : T α) : Nat → Option α :=
  T.rec (motive := fun _ => Nat → Option α) (fun _ => none) (fun _ o _ iha ihb k => Nat.rec (motive := fun _ => Option α) o (fun k _ => Bool.rec (motive := fun _ => Option α) (ihb (Nat.div k 2)) (iha (Nat.div k 2)) (Nat.beq (Nat.mod k 2) 0)) k) t
noncomputable def putF (o : Option α) (f : Nat) : T α → Nat → T α :=
  Nat.rec (motive := fun _ => T α → Nat → T α) (fun _ _ => .l) (fun _ ih t k => T.rec (motive := fun _ => T α)
    (Nat.rec (motive := fun _ => T α) (.n .l o .l) (fun k _ => Bool.rec (motive := fun _ => T α) (.n .l none (ih .l (Nat.div k 2))) (.n (ih .l (Nat.div k 2)) none .l) (Nat.beq (Nat.mod k 2) 0)) k)
    (fun a p b _ _ => Nat.rec (motive := fun _ => T α) (.n a o b) (fun k _ => Bool.rec (motive := fun _ => T α) (.n a p (ih b (Nat.div k 2))) (.n (ih a (Nat.div k 2)) p b) (Nat.beq (Nat.mod k 2) 0)) k) t) f
noncomputable def put (o : Option α) (t : T α) (k : Nat) : T α := putF o (Nat.succ k) t k
end T
/-- The temporaries that are known. -/
abbrev KN := T Value

/-- A state: the heap; the next id, and how far the ids lie apart; what may be written: the ids from 'wa' on, 'wb' apart. -/
structure S where
  hp : T Obj
  nx : Nat
  sd : Nat
  wa : Nat
  wb : Nat

abbrev R := Option (Value × S)

noncomputable def S.get (s : S) (id : Nat) : Option Obj := s.hp.get id
noncomputable def S.set (s : S) (id : Nat) (o : Option Obj) : S := S.rec (motive := fun _ => S) (fun hp nx sd wa wb => ⟨hp.put o id, nx, sd, wa, wb⟩) s
noncomputable def S.new (s : S) (o : Obj) : S := S.rec (motive := fun _ => S) (fun hp nx sd wa wb => ⟨hp.put (some o) nx, Nat.add nx sd, sd, wa, wb⟩) s
/-- May it be written? -/
def S.own (s : S) (id : Nat) : Bool := Nat.ble s.wa id && Nat.beq (Nat.mod (Nat.sub id s.wa) s.wb) 0

noncomputable def bv (x : Option Value) (k : Value → R) : R := Option.rec (motive := fun _ => R) none k x
def bs (x : R) (k : Value → S → R) : R := match x with | some (v, s) => k v s | none => none
def b0 (x : Option S) (k : S → R) : R := match x with | some s => k s | none => none

def cnd (v : Value) (a b : R) : R := match v with | .bool true => a | .bool false => b | _ => none

noncomputable def lp (n : Nat) (body : (List Value → S → R) → List Value → S → R) (l : List Value) (s : S) : R :=
  Nat.rec (motive := fun _ => List Value → S → R) (fun _ _ => none) (fun _ ih l s => body ih l s) n l s

/-! ### The variables of a loop -/
def lm0 (l : List Value) (f : Unit → R) : R := match l with | [] => f () | _ => none
def lm1 (l : List Value) (f : Value → R) : R := match l with | [x0] => f x0 | _ => none
def lm2 (l : List Value) (f : Value → Value → R) : R := match l with | [x0, x1] => f x0 x1 | _ => none
def lm3 (l : List Value) (f : Value → Value → Value → R) : R := match l with | [x0, x1, x2] => f x0 x1 x2 | _ => none
def lm4 (l : List Value) (f : Value → Value → Value → Value → R) : R := match l with | [x0, x1, x2, x3] => f x0 x1 x2 x3 | _ => none
def lm5 (l : List Value) (f : Value → Value → Value → Value → Value → R) : R := match l with | [x0, x1, x2, x3, x4] => f x0 x1 x2 x3 x4 | _ => none
def lm6 (l : List Value) (f : Value → Value → Value → Value → Value → Value → R) : R := match l with | [x0, x1, x2, x3, x4, x5] => f x0 x1 x2 x3 x4 x5 | _ => none
def lm7 (l : List Value) (f : Value → Value → Value → Value → Value → Value → Value → R) : R := match l with | [x0, x1, x2, x3, x4, x5, x6] => f x0 x1 x2 x3 x4 x5 x6 | _ => none
def lm8 (l : List Value) (f : Value → Value → Value → Value → Value → Value → Value → Value → R) : R := match l with | [x0, x1, x2, x3, x4, x5, x6, x7] => f x0 x1 x2 x3 x4 x5 x6 x7 | _ => none
def lm9 (l : List Value) (f : Value → Value → Value → Value → Value → Value → Value → Value → Value → R) : R := match l with | [x0, x1, x2, x3, x4, x5, x6, x7, x8] => f x0 x1 x2 x3 x4 x5 x6 x7 x8 | _ => none
def lm10 (l : List Value) (f : Value → Value → Value → Value → Value → Value → Value → Value → Value → Value → R) : R := match l with | [x0, x1, x2, x3, x4, x5, x6, x7, x8, x9] => f x0 x1 x2 x3 x4 x5 x6 x7 x8 x9 | _ => none
def lm11 (l : List Value) (f : Value → Value → Value → Value → Value → Value → Value → Value → Value → Value → Value → R) : R := match l with | [x0, x1, x2, x3, x4, x5, x6, x7, x8, x9, x10] => f x0 x1 x2 x3 x4 x5 x6 x7 x8 x9 x10 | _ => none
def lm12 (l : List Value) (f : Value → Value → Value → Value → Value → Value → Value → Value → Value → Value → Value → Value → R) : R := match l with | [x0, x1, x2, x3, x4, x5, x6, x7, x8, x9, x10, x11] => f x0 x1 x2 x3 x4 x5 x6 x7 x8 x9 x10 x11 | _ => none
def lm13 (l : List Value) (f : Value → Value → Value → Value → Value → Value → Value → Value → Value → Value → Value → Value → Value → R) : R := match l with | [x0, x1, x2, x3, x4, x5, x6, x7, x8, x9, x10, x11, x12] => f x0 x1 x2 x3 x4 x5 x6 x7 x8 x9 x10 x11 x12 | _ => none
def lm14 (l : List Value) (f : Value → Value → Value → Value → Value → Value → Value → Value → Value → Value → Value → Value → Value → Value → R) : R := match l with | [x0, x1, x2, x3, x4, x5, x6, x7, x8, x9, x10, x11, x12, x13] => f x0 x1 x2 x3 x4 x5 x6 x7 x8 x9 x10 x11 x12 x13 | _ => none
def lm15 (l : List Value) (f : Value → Value → Value → Value → Value → Value → Value → Value → Value → Value → Value → Value → Value → Value → Value → R) : R := match l with | [x0, x1, x2, x3, x4, x5, x6, x7, x8, x9, x10, x11, x12, x13, x14] => f x0 x1 x2 x3 x4 x5 x6 x7 x8 x9 x10 x11 x12 x13 x14 | _ => none

/-! ### Guards -/
def gv (t : Value) (b : Bool) (x : Option Value) : Option Value := match t with | .bool c => bif c == b then x else some undef | _ => some undef
def gs (t : Value) (b : Bool) (x : R) (s : S) : R := match t with | .bool c => bif c == b then x else some (undef, s) | _ => some (undef, s)
def g0 (t : Value) (b : Bool) (x : Option S) (s : S) : Option S := match t with | .bool c => bif c == b then x else some s | _ => some s

/-! ### Values -/
def oneC : Value → Bool | .agg _ | .tuple _ => false | _ => true
def pk (c a b : Value) : Option Value := match c with | .bool true => some a | .bool false => some b | _ => none
def nlc (v : Value) : Option Value := match v with
  | .pointer (some a) => some (.pointer (some a))
  | .func (.func f) x y => some (.func (.func f) x y)
  | .iface t x => some (.iface t x)
  | _ => none
def pad (k : Nat) (v : Value) : Option Value := match v with | .pointer (some a) => some (.pointer (some ⟨a.block, a.off + k, none⟩)) | _ => none
def ixS (n : Nat) (v i : Value) : Option Value := match v, i with
  | .slice (some a) len _, .int _ (.ofNat i) => bif Nat.blt i len then some (.pointer (some ⟨a.block, a.off + i * n, none⟩)) else none
  | _, _ => none
def ixA (len n : Nat) (v i : Value) : Option Value := match v, i with
  | .pointer (some a), .int _ (.ofNat i) => bif Nat.blt i len then some (.pointer (some ⟨a.block, a.off + i * n, none⟩)) else none
  | _, _ => none
def ixT (v i : Value) : Option Value := match v, i with
  | .string b, .int _ (.ofNat i) => (b.data.toList[i]?).map fun b => .int .u8 b.toNat
  | _, _ => none
def in1 (len n : Nat) (v i : Value) : Option Value := match v, i with
  | .agg cs, .int _ (.ofNat i) => bif Nat.blt i len then cs.toList[i * n]? else none
  | _, _ => none
def sub (l : List Value) (off n : Nat) : Option (List Value) := bif Nat.ble (off + n) l.length then some ((l.drop off).take n) else none
def inN (len n : Nat) (v i : Value) : Option Value := match v, i with
  | .agg cs, .int _ (.ofNat i) => bif Nat.blt i len then (sub cs.toList (i * n) n).map fun l => .agg l.toArray else none
  | _, _ => none
def fd1 (off : Nat) (v : Value) : Option Value := match v with | .agg cs => cs.toList[off]? | _ => none
def fdN (off n : Nat) (v : Value) : Option Value := match v with | .agg cs => (sub cs.toList off n).map fun l => .agg l.toArray | _ => none
def ext (i : Nat) (v : Value) : Option Value := match v with | .tuple vs => vs.toList[i]? | _ => none
def lnS (v : Value) : Option Value := match v with | .slice _ n _ => some (.int .i64 n) | _ => none
def lnT (v : Value) : Option Value := match v with | .string b => some (.int .i64 b.size) | _ => none
def cap0 (v : Value) : Option Value := match v with | .slice none 0 0 => some (.int .i64 0) | _ => none
def maxV (a b : Value) : Option Value := match a, b with | .int k x, .int _ y => some (.int k (if y > x then y else x)) | _, _ => none
def minV (a b : Value) : Option Value := match a, b with | .int k x, .int _ y => some (.int k (if y < x then y else x)) | _, _ => none
def tya (t : Nat) (v z : Value) (ok : Bool) : Option Value := match v with
  | .nilIface => bif ok then some (.tuple #[z, .bool false]) else none
  | .iface u x => bif Nat.beq u t then some (bif ok then .tuple #[x, .bool true] else x) else bif ok then some (.tuple #[z, .bool false]) else none
  | _ => none

/-- Parts laid into zeros: 'zs' are the zeros of the places, 'ps' the parts by their places' numbers. -/
def cellsE (v : Value) : List Value := match v with | .agg c => c.toList | v => [v]
def bld (zs : List (List Value)) (ps : List (Nat × Value)) : Option (List Value) := match ps with
  | [] => some zs.flatten
  | (i, v) :: ps => (match zs[i]? with
    | some z => bif Nat.beq (cellsE v).length z.length && (cellsE v).all oneC then bld (zs.set i (cellsE v)) ps else none
    | none => none)
def rep (n : Nat) (z : List Value) : List (List Value) := match n with | 0 => [] | n + 1 => z :: rep n z
def mkA (zs : List (List Value)) (ps : List (Nat × Value)) : Option Value := match bld zs ps with | some l => some (.agg l.toArray) | none => none

/-! ### Numbers, texts, comparisons -/
def pureV (P : Sem Value) : Option Value := match P with | .pure v => some v | _ => none
def iop (op : BinOp) (a b : Value) : Option Value := match op, a, b with
  | .shl, .int k x, .int _ y | .shr, .int k x, .int _ y => pureV (Op.shift op k x .i64 y)
  | _, .int k x, .int k' y => if k = k' then (match op with
    | .add | .sub | .mul => pureV (Op.intArith op k x y)
    | .quo | .rem => if y = 0 then none else pureV (Op.intDiv op k x y)
    | .and | .or | .xor | .andNot => pureV (Op.intBits op k x y)
    | _ => pureV (Op.intCmp op x y)) else none
  | _, _, _ => none
def sop (op : BinOp) (a b : Value) : Option Value := match a, b with | .string x, .string y => pureV (Op.stringOp op x y) | _, _ => none
def uop (op : UnOp) (a : Value) : Option Value := match a with | .int _ _ | .bool _ => pureV (Op.unary op a) | _ => none
/-- A whole number (int64, int) that is not known bears a number of its own: it is written as a float, of which there are none here. -/
def cvI (k : IntKind) (a : Value) : Option Value := match a with | .int _ n => some (.int k (k.wrap n)) | .float .f64 t => (match k with | .i64 => some (.float .f64 t) | _ => none) | _ => none
def ne (x : Option Value) : Option Value := match x with | some (.bool b) => some (.bool (!b)) | _ => none
def eqI (a b : Value) : Option Value := match a, b with | .int k x, .int k' y => if k = k' then some (.bool (x == y)) else none | .float .f64 t, .float .f64 u => bif Nat.beq t u then some (.bool true) else none | _, _ => none
def eqS (a b : Value) : Option Value := match a, b with | .string x, .string y => some (.bool (x.toList == y.toList)) | _, _ => none
def eqB (a b : Value) : Option Value := match a, b with | .bool x, .bool y => some (.bool (x == y)) | _, _ => none
def eqL (a b : Value) : Option Value := match a, b with
  | .slice x _ _, .slice none _ _ => some (.bool x.isNone)
  | .slice none _ _, .slice x _ _ => some (.bool x.isNone)
  | _, _ => none
def eqM (a b : Value) : Option Value := match a, b with
  | .map x, .map none => some (.bool x.isNone)
  | .map none, .map x => some (.bool x.isNone)
  | _, _ => none
def eqC (a b : Value) : Option Value := match a, b with
  | .nilFunc, .nilFunc => some (.bool true)
  | .nilFunc, .func _ _ _ | .func _ _ _, .nilFunc => some (.bool false)
  | _, _ => none
def eqP (a b : Value) : Option Value := match a, b with
  | .pointer x, .pointer none => some (.bool x.isNone)
  | .pointer none, .pointer x => some (.bool x.isNone)
  | _, _ => none
/-- An interface value held against nil. -/
def eqF (a : Value) : Option Value := match a with
  | .nilIface => some (.bool true)
  | .iface _ _ => some (.bool false)
  | _ => none
/-- Structs of whole numbers alone. -/
def eqX (a b : Value) : Option Bool := match a, b with
  | .int k x, .int k' y => if k = k' then some (x == y) else none
  | .float .f64 t, .float .f64 u => bif Nat.beq t u then some true else none
  | _, _ => none
def eqXs : List Value → List Value → Option Bool
  | [], [] => some true
  | a :: l, b :: m => (match eqX a b with
    | some true => eqXs l m
    | some false => some false
    | none => none)
  | _, _ => none
def eqA (n : Nat) (a b : Value) : Option Value := match a, b with
  | .agg x, .agg y => bif Nat.beq x.size n then (match eqXs x.toList y.toList with | some c => some (.bool c) | none => none) else none
  | _, _ => none

/-! ### Memory -/
noncomputable def ld1 (a : Value) (s : S) : Option Value := match a with
  | .pointer (some a) => (match s.get a.block with
    | some (.cells c _ _) => c.toList[a.off]?
    | _ => none)
  | _ => none
noncomputable def ldL (id off n : Nat) (s : S) : Option (List Value) := match s.get id with
  | some (.cells c _ _) => sub c.toList off n
  | _ => none
noncomputable def ldN (n : Nat) (a : Value) (s : S) : Option Value := match a with
  | .pointer (some a) => (match ldL a.block a.off n s with | some l => some (.agg l.toArray) | none => none)
  | _ => none
def putAt (c : List Value) (off : Nat) (vs : List Value) : List Value := c.take off ++ vs ++ c.drop (off + vs.length)
noncomputable def stL (id off : Nat) (vs : List Value) (s : S) : Option S :=
  bif s.own id then (match s.get id with
    | some (.cells c e (0, 0)) => bif Nat.ble (off + vs.length) c.size && vs.all oneC then some (s.set id (some (.cells (putAt c.toList off vs).toArray e (0, 0)))) else none
    | _ => none) else none
noncomputable def st1 (a v : Value) (s : S) : Option S := match a with
  | .pointer (some a) => bif oneC v then stL a.block a.off [v] s else none
  | _ => none
noncomputable def stN (n : Nat) (a v : Value) (s : S) : Option S := match a, v with
  | .pointer (some a), .agg c => bif Nat.beq c.size n then stL a.block a.off c.toList s else none
  | _, _ => none
noncomputable def al (cs : List Value) (e : TypeId) (s : S) : R :=
  bif cs.all oneC then some (.pointer (some ⟨s.nx, 0, none⟩), s.new (.cells cs.toArray e (0, 0))) else none
noncomputable def alA (n : Nat) (v : Value) (e : TypeId) (s : S) : R := match v with
  | .agg c => bif Nat.beq c.size n then al c.toList e s else none
  | _ => none
/-- A slice's third number says what is known of its capacity: 0: it has none; n, below 'ng': its elements have n cells, and it may grow; 'ng': nothing. -/
def ng : Nat := 1000000
noncomputable def newS (n : Nat) (cs : List Value) (e : TypeId) (len : Nat) (s : S) : R :=
  bif cs.all oneC then some (.slice (some ⟨s.nx, 0, none⟩) len (bif Nat.beq cs.length 0 then 0 else n), s.new (.cells cs.toArray e (0, 0))) else none
noncomputable def mkS (z : List Value) (ps : List (Nat × Value)) (e : TypeId) (len : Nat) (s : S) : R := match bld (rep len z) ps with | some cs => newS z.length cs e len s | none => none
noncomputable def mkM (s : S) : R := some (.map (some s.nx), s.new (.map #[] 0))
def zer (z : List Value) (n : Nat) : List Value := match n with | 0 => [] | n + 1 => z ++ zer z n
def room : Nat := 140737488355328
noncomputable def mkZ (z : List Value) (by_ : Nat) (e : TypeId) (l c : Value) (s : S) : R := match l, c with
  | .int _ (.ofNat l), .int _ (.ofNat c) => bif Nat.ble l c && Nat.ble (c * by_) room && Nat.ble c room then newS z.length (zer z c) e l s else none
  | _, _ => none
def bnd (v : Option Value) (d : Nat) : Option Nat := match v with
  | none => some d
  | some (.int _ (.ofNat n)) => some n
  | _ => none
def slT (v : Value) (lo hi : Option Value) : Option Value := match v with
  | .string b => (match bnd hi b.size, bnd lo 0 with
    | some h, some l => bif Nat.ble l h && Nat.ble h b.size then some (.string (b.extract l h)) else none
    | _, _ => none)
  | _ => none
def slS (n : Nat) (v : Value) (lo hi : Option Value) : Option Value := match v with
  | .slice p len c => (match bnd hi len, bnd lo 0 with
    | some h, some l => bif Nat.ble l h && Nat.ble h len then (match p with
      | some a => bif Nat.beq c 0 || Nat.beq c n || Nat.ble ng c then some (.slice (some ⟨a.block, a.off + l * n, none⟩) (h - l) c) else none
      | none => some (.slice none 0 0)) else none
    | _, _ => none)
  | _ => none
def slZ (v : Value) (lo hi mx : Option Value) : Option Value := match v with
  | .slice p len c => (match bnd hi 1, bnd lo 0, bnd mx 1 with
    | some 0, some 0, some 0 => some (.slice p 0 0)
    | _, _, _ => none)
  | _ => none
def slA (len n : Nat) (v : Value) (lo hi : Option Value) : Option Value := match v with
  | .pointer (some a) => (match bnd hi len, bnd lo 0 with
    | some h, some l => bif Nat.blt l h && Nat.ble h len then some (.slice (some ⟨a.block, a.off + l * n, none⟩) (h - l) ng) else none
    | _, _ => none)
  | _ => none
/-- Behind a slice: so many cells 'news', 'k' elements. -/
noncomputable def grow (n by_ : Nat) (e : TypeId) (v : Value) (k : Nat) (news : List Value) (s : S) : R :=
  match v with
  | .slice p len c =>
    bif Nat.beq k 0 then some (.slice p len c, s)
    else bif Nat.beq c 0 then (bif Nat.beq len 0 && Nat.ble (k * by_) room then newS n news e k s else none)
    else (match p with
      | some a => bif Nat.beq c n && Nat.ble ((len + k) * by_) room && s.own a.block then (match s.get a.block with
        | some (.cells cs _ (0, 0)) =>
          bif Nat.ble (a.off + (len + k) * n) cs.size then
            (match stL a.block (a.off + len * n) news s with | some s' => some (.slice (some ⟨a.block, a.off, none⟩) (len + k) c, s') | none => none)
          else bif Nat.ble (a.off + len * n) cs.size then newS n ((cs.toList.drop a.off).take (len * n) ++ news) e (len + k) (s.set a.block none)
          else none
        | _ => none) else none
      | none => none)
  | _ => none
noncomputable def apS (n by_ : Nat) (e : TypeId) (v x : Value) (s : S) : R := match x with
  | .slice p k _ => bif Nat.beq k 0 then grow n by_ e v 0 [] s else (match p with
    | some a => (match ldL a.block a.off (k * n) s with | some l => grow n by_ e v k l s | none => none)
    | none => none)
  | _ => none
noncomputable def apZ (z : List Value) (by_ : Nat) (e : TypeId) (v x : Value) (s : S) : R := match x with
  | .int _ (.ofNat k) => bif Nat.ble (k * by_) room && Nat.ble k room then grow z.length by_ e v k (zer z k) s else none
  | _ => none
noncomputable def apT (e : TypeId) (v x : Value) (s : S) : R := match x with
  | .string b => grow 1 1 e v b.size (b.data.toList.map fun c => .int .u8 c.toNat) s
  | _ => none
noncomputable def cpS (n : Nat) (d x : Value) (s : S) : R := match d, x with
  | .slice pd ld _, .slice px lx _ => (match pd, px with
    | some a, some b => (match ldL b.block b.off (Nat.min lx ld * n) s with
      | some l => (match stL a.block a.off l s with | some s' => some (.int .i64 (Nat.min lx ld), s') | none => none)
      | none => none)
    | _, _ => bif Nat.beq (Nat.min lx ld) 0 then some (.int .i64 0, s) else none)
  | _, _ => none
noncomputable def clr (v : Value) (s : S) : Option S := match v with | .slice _ 0 _ => some s | _ => none
noncomputable def bytesL : List Value → Option (List UInt8)
  | [] => some []
  | .int .u8 n :: r => (match bytesL r with | some l => some (UInt8.ofNat n.toNat :: l) | none => none)
  | _ => none
noncomputable def cvB (v : Value) (s : S) : Option Value := match v with
  | .slice none _ _ => some (.string ⟨#[]⟩)
  | .slice (some a) n _ => (match ldL a.block a.off n s with
    | some l => (match bytesL l with | some b => some (.string ⟨b.toArray⟩) | none => none)
    | none => none)
  | _ => none

/-! ### Maps -/
/-- 'n': how many cells a key has, where it is a struct; none (0) else. -/
def keyE (n : Nat) (k k' : Value) : Option Bool := match n with
  | 0 => eqX k k'
  | n + 1 => (match k, k' with
    | .agg x, .agg y => bif Nat.beq x.size (n + 1) then eqXs x.toList y.toList else none
    | _, _ => none)
def findE (n : Nat) (k : Value) : List MapEntry → Option (Option (Nat × Value))
  | [] => some none
  | e :: es => (match keyE n k e.key with
    | some true => some (some (0, e.val))
    | some false => (match findE n k es with
      | some (some (i, v)) => some (some (i + 1, v))
      | some none => some none
      | none => none)
    | none => none)
/-- A key that is one. -/
def isKey (n : Nat) (k : Value) : Bool := match n, k with
  | 0, .int _ _ | 0, .float .f64 _ => true
  | n + 1, .agg x => Nat.beq x.size (n + 1) && x.toList.all fun v => match v with | .int _ _ | .float .f64 _ => true | _ => false
  | _, _ => false
noncomputable def mapAt (m : Value) (s : S) : Option (Nat × List MapEntry × Nat) := match m with
  | .map (some r) => (match s.get r with | some (.map es c) => some (r, es.toList, c) | _ => none)
  | _ => none
noncomputable def mpG (n : Nat) (m k z : Value) (ok : Bool) (s : S) : Option Value := match mapAt m s with
  | some (_, es, _) => (match (bif isKey n k then findE n k es else none) with
    | some (some (_, v)) => some (bif ok then .tuple #[v, .bool true] else v)
    | some none => some (bif ok then .tuple #[z, .bool false] else z)
    | none => none)
  | none => none
def setNth (l : List MapEntry) (i : Nat) (k v : Value) : List MapEntry := match l, i with
  | [], _ => []
  | e :: es, 0 => ⟨k, v, e.born⟩ :: es
  | e :: es, i + 1 => e :: setNth es i k v
noncomputable def mpS (n : Nat) (m k v : Value) (s : S) : Option S := match mapAt m s with
  | some (r, es, c) => bif s.own r && isKey n k then (match findE n k es with
    | some (some (i, _)) => some (s.set r (some (.map (setNth es i k v).toArray c)))
    | some none => some (s.set r (some (.map (es ++ [MapEntry.mk k v c]).toArray (c + 1))))
    | none => none) else none
  | none => none
noncomputable def mpD (n : Nat) (m k : Value) (s : S) : Option S := match mapAt m s with
  | some (r, es, c) => bif s.own r && isKey n k then (match findE n k es with
    | some (some (i, _)) => some (s.set r (some (.map (es.eraseIdx i).toArray c)))
    | some none => some (s.set r (some (.map es.toArray c)))
    | none => none) else none
  | none => none
noncomputable def lnM (m : Value) (s : S) : Option Value := match m with
  | .map none => some (.int .i64 0)
  | _ => (match mapAt m s with | some (_, es, _) => some (.int .i64 es.length) | none => none)

/-! ### Calls that only compute: nothing that was there may be written; what was made is let go -/
def flat : Nat → Value → Bool
  | _, .bool _ | _, .int _ _ | _, .string _ | _, .nilFunc | _, .nilIface | _, .pointer none => true
  | n + 1, .iface _ v => flat n v
  | n + 1, .agg cs => cs.toList.all (flat n)
  | n + 1, .tuple cs => cs.toList.all (flat n)
  | _, _ => false
/-- Values in which no id lies. -/
def noid : Nat → Value → Bool
  | _, .bool _ | _, .int _ _ | _, .string _ | _, .nilFunc | _, .nilIface | _, .pointer none | _, .float .f64 _ => true
  | n + 1, .iface _ v => noid n v
  | n + 1, .agg ⟨l⟩ => l.all (noid n)
  | n + 1, .tuple ⟨l⟩ => l.all (noid n)
  | _, _ => false
noncomputable def pc (f : S → R) (s : S) : Option Value := match f ⟨s.hp, s.nx, s.sd, s.nx, s.sd⟩ with
  | some (v, _) => bif noid 3 v then some v else none
  | none => none
noncomputable def orV (x y : Option Value) : Option Value := Option.rec (motive := fun _ => Option Value) y (fun v => some v) x
/-! ### An oracle: what comes of operations on numbers that are not known -/
class Orc where
  op : BinOp → Value → Value → Option Value
def dtI (tok : Nat → Int) : Value → Option Int
  | .float .f64 k => some (tok k)
  | .int .i64 n => some n
  | _ => none
def dtV (tok : Nat → Int) : Value → Value
  | .float .f64 k => .int .i64 (tok k)
  | v => v
def okV : Value → Bool
  | .float .f64 _ | .int _ _ | .bool _ => true
  | _ => false
end Go.Eng
