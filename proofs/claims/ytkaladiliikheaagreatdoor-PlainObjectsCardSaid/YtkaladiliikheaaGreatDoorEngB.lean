/- The engine, part B: how a state without addresses stands for a world of the model: a renaming of ids; what a step may change. -/
import Derived.Test.YtkaladiliikheaaGreatDoorEngA
set_option linter.unusedVariables false
set_option linter.unusedSectionVars false
namespace Go.Eng
open Go

/-! ### The tree is a partial map -/
theorem T.get_l {α : Type} (k : Nat) : T.get (.l : T α) k = none := rfl
theorem T.get_n0 {α : Type} (a b : T α) (o : Option α) : T.get (.n a o b) 0 = o := rfl
theorem T.get_n {α : Type} (a b : T α) (o : Option α) (k : Nat) : T.get (.n a o b) (k + 1) = if k % 2 = 0 then a.get (k / 2) else b.get (k / 2) := by
  have e : T.get (.n a o b) (k + 1) = Bool.rec (motive := fun _ => Option α) (b.get (Nat.div k 2)) (a.get (Nat.div k 2)) (Nat.beq (Nat.mod k 2) 0) := rfl
  rw [e]
  have hd : Nat.div k 2 = k / 2 := rfl
  have hm : Nat.mod k 2 = k % 2 := rfl
  rw [hd, hm]
  by_cases h : k % 2 = 0
  · rw [h]; rfl
  · have : Nat.beq (k % 2) 0 = false := by rw [Bool.eq_false_iff]; intro hh; exact h (Nat.eq_of_beq_eq_true hh)
    rw [this, if_neg h]
theorem T.get_putF {α : Type} (o : Option α) : ∀ (f : Nat) (t : T α) (k j : Nat), k < f → (T.putF o f t k).get j = if j = k then o else t.get j := by
  intro f
  induction f with
  | zero => intro t k j h; omega
  | succ f ih =>
    intro t k j h
    have key : ∀ (a b : T α) (p : Option α), (Nat.rec (motive := fun _ => T α) (.n a o b) (fun k _ => Bool.rec (motive := fun _ => T α) (.n a p (T.putF o f b (Nat.div k 2))) (.n (T.putF o f a (Nat.div k 2)) p b) (Nat.beq (Nat.mod k 2) 0)) k : T α).get j = if j = k then o else (T.n a p b).get j := by
      intro a b p
      cases k with
      | zero =>
        cases j with
        | zero => rfl
        | succ j => rw [T.get_n, if_neg (by omega)]; exact T.get_n a b o j
      | succ k =>
        show (Bool.rec (motive := fun _ => T α) (.n a p (T.putF o f b (k / 2))) (.n (T.putF o f a (k / 2)) p b) (Nat.beq (k % 2) 0) : T α).get j = _
        have h0 := ih a (k / 2)
        have h1 := ih b (k / 2)
        by_cases hk : k % 2 = 0
        · have : Nat.beq (k % 2) 0 = true := by rw [hk]; rfl
          rw [this]
          show (T.n (T.putF o f a (k / 2)) p b).get j = _
          cases j with
          | zero => rfl
          | succ j =>
            rw [T.get_n, T.get_n]
            by_cases hj : j % 2 = 0
            · rw [if_pos hj, if_pos hj, h0 _ (by omega)]
              by_cases e : j = k
              · subst e; simp
              · rw [if_neg (by omega), if_neg (by omega)]
            · rw [if_neg hj, if_neg hj, if_neg (by omega)]
        · have : Nat.beq (k % 2) 0 = false := by rw [Bool.eq_false_iff]; intro hh; exact hk (Nat.eq_of_beq_eq_true hh)
          rw [this]
          show (T.n a p (T.putF o f b (k / 2))).get j = _
          cases j with
          | zero => rfl
          | succ j =>
            rw [T.get_n, T.get_n]
            by_cases hj : j % 2 = 0
            · rw [if_pos hj, if_pos hj, if_neg (by omega)]
            · rw [if_neg hj, if_neg hj, h1 _ (by omega)]
              by_cases e : j = k
              · subst e; simp
              · rw [if_neg (by omega), if_neg (by omega)]
    cases t with
    | l =>
      refine (key .l .l none).trans ?_
      have : (T.n (.l : T α) none .l).get j = (T.l : T α).get j := by
        cases j with
        | zero => rfl
        | succ j => rw [T.get_n]; split <;> rfl
      rw [this]
    | n a p b => exact key a b p
theorem T.get_put {α : Type} (t : T α) (o : Option α) (k j : Nat) : (t.put o k).get j = if j = k then o else t.get j := T.get_putF o _ t k j (Nat.lt_succ_self k)

theorem S.get_set (s : S) (id j : Nat) (o : Option Obj) : (s.set id o).get j = if j = id then o else s.get j := T.get_put ..
theorem S.get_new (s : S) (j : Nat) (o : Obj) : (s.new o).get j = if j = s.nx then some o else s.get j := T.get_put ..

/-- The ids that are still free. -/
def S.free (s : S) (id : Nat) : Prop := ∃ i, id = s.nx + i * s.sd
theorem S.free_nx (s : S) : s.free s.nx := ⟨0, by simp⟩
theorem S.free_new {s : S} {o : Obj} {id : Nat} (h : (s.new o).free id) : s.free id := by
  obtain ⟨i, rfl⟩ := h
  refine ⟨i + 1, ?_⟩
  show s.nx + s.sd + i * s.sd = s.nx + (i + 1) * s.sd
  rw [Nat.add_mul]; omega
theorem S.free_new_ne {s : S} {o : Obj} {id : Nat} (hs : 0 < s.sd) (h : (s.new o).free id) : id ≠ s.nx := by
  obtain ⟨i, rfl⟩ := h
  show s.nx + s.sd + i * s.sd ≠ s.nx
  omega

/-! ### A renaming: of each id a block of the model, where its cells begin, and how far the capacity goes -/
structure Pl where
  block : Nat
  base : Nat
  lim : Option Nat

structure Ren where
  pl : Nat → Option Pl
instance : CoeFun Ren (fun _ => Nat → Option Pl) := ⟨Ren.pl⟩
/-- The numbers that are not known. -/
class Toks extends Orc where
  tok : Nat → Int
  ok : ∀ k, -9223372036854775808 ≤ tok k ∧ tok k < 9223372036854775808
  op_ok : ∀ o a b v, op o a b = some v → okV v = true ∧ ∃ x y, dtI tok a = some x ∧ dtI tok b = some y ∧ iop o (.int .i64 x) (.int .i64 y) = some (dtV tok v)
variable [Toks]
def Ren.tok (_ : Ren) : Nat → Int := Toks.tok
theorem Ren.ok (ρ : Ren) (k : Nat) : -9223372036854775808 ≤ ρ.tok k ∧ ρ.tok k < 9223372036854775808 := Toks.ok k

mutual
inductive VR (ρ : Ren) : Value → Value → Prop
  | bool (b : Bool) : VR ρ (.bool b) (.bool b)
  | int (k : IntKind) (n : Int) : VR ρ (.int k n) (.int k n)
  | tok (k : Nat) : VR ρ (.float .f64 k) (.int .i64 (ρ.tok k))
  | string (s : ByteArray) : VR ρ (.string s) (.string s)
  | nilP : VR ρ (.pointer none) (.pointer none)
  | ptr (id off : Nat) (pl : Pl) : ρ id = some pl → VR ρ (.pointer (some ⟨id, off, none⟩)) (.pointer (some ⟨pl.block, pl.base + off, none⟩))
  | nilS : VR ρ (.slice none 0 0) (.slice none 0 0)
  | sl (id off len c : Nat) (pl : Pl) (a' : Addr) (c' : Nat) : ρ id = some pl → len ≤ c' → (c = 0 → c' = 0) → (c' ≠ 0 → a' = ⟨pl.block, pl.base + off, none⟩) →
      (c ≠ 0 → c < ng → ∃ L, pl.lim = some L ∧ off + c' * c = L) → VR ρ (.slice (some ⟨id, off, none⟩) len c) (.slice (some a') len c')
  | sls (id k n c : Nat) (pl : Pl) : ρ id = some pl → (n : Int) = ρ.tok k → VR ρ (.complex .f32 id k) (.slice (some ⟨pl.block, pl.base, none⟩) n c)
  | sp (id m i : Nat) (pl : Pl) : ρ id = some pl → (i : Int) = ρ.tok (m / 8) → VR ρ (.complex .f64 id m) (.pointer (some ⟨pl.block, pl.base + i * (m % 8), none⟩))
  | nilM : VR ρ (.map none) (.map none)
  | map (id : Nat) (pl : Pl) : ρ id = some pl → VR ρ (.map (some id)) (.map (some pl.block))
  | nilF : VR ρ .nilFunc .nilFunc
  | func (fn : Fn) (f c f' c' : List Value) : LR ρ f f' → LR ρ c c' → VR ρ (.func fn ⟨f⟩ ⟨c⟩) (.func fn ⟨f'⟩ ⟨c'⟩)
  | nilI : VR ρ .nilIface .nilIface
  | iface (t : TypeId) (v v' : Value) : VR ρ v v' → VR ρ (.iface t v) (.iface t v')
  | agg (l l' : List Value) : LR ρ l l' → VR ρ (.agg ⟨l⟩) (.agg ⟨l'⟩)
  | tuple (l l' : List Value) : LR ρ l l' → VR ρ (.tuple ⟨l⟩) (.tuple ⟨l'⟩)
inductive LR (ρ : Ren) : List Value → List Value → Prop
  | nil : LR ρ [] []
  | cons (v v' : Value) (l l' : List Value) : VR ρ v v' → LR ρ l l' → LR ρ (v :: l) (v' :: l')
end

def Ext (ρ ρ' : Ren) : Prop := (∀ id pl, ρ id = some pl → ρ' id = some pl) ∧ ρ'.tok = ρ.tok
theorem Ext.refl (ρ : Ren) : Ext ρ ρ := ⟨fun _ _ h => h, rfl⟩
theorem Ext.trans {ρ ρ' ρ'' : Ren} (h : Ext ρ ρ') (h' : Ext ρ' ρ'') : Ext ρ ρ'' := ⟨fun id pl e => h'.1 id pl (h.1 id pl e), h'.2.trans h.2⟩

mutual
theorem VR.mono {ρ ρ' : Ren} (h : Ext ρ ρ') : ∀ {v v' : Value}, VR ρ v v' → VR ρ' v v'
  | _, _, .bool b => .bool b
  | _, _, .int k n => .int k n
  | _, _, .tok k => by rw [← h.2]; exact .tok k
  | _, _, .string s => .string s
  | _, _, .nilP => .nilP
  | _, _, .ptr id off pl e => .ptr id off pl (h.1 _ _ e)
  | _, _, .nilS => .nilS
  | _, _, .sl id off len c pl a' c' e h1 h2 h3 h4 => .sl id off len c pl a' c' (h.1 _ _ e) h1 h2 h3 h4
  | _, _, .sls id k n c pl e h1 => .sls id k n c pl (h.1 _ _ e) h1
  | _, _, .sp id m i pl e h1 => .sp id m i pl (h.1 _ _ e) h1
  | _, _, .nilM => .nilM
  | _, _, .map id pl e => .map id pl (h.1 _ _ e)
  | _, _, .nilF => .nilF
  | _, _, .func fn f c f' c' hf hc => .func fn f c f' c' (LR.mono h hf) (LR.mono h hc)
  | _, _, .nilI => .nilI
  | _, _, .iface t v v' hv => .iface t v v' (VR.mono h hv)
  | _, _, .agg l l' hl => .agg l l' (LR.mono h hl)
  | _, _, .tuple l l' hl => .tuple l l' (LR.mono h hl)
theorem LR.mono {ρ ρ' : Ren} (h : Ext ρ ρ') : ∀ {l l' : List Value}, LR ρ l l' → LR ρ' l l'
  | _, _, .nil => .nil
  | _, _, .cons v v' l l' hv hl => .cons v v' l l' (VR.mono h hv) (LR.mono h hl)
end

theorem LR.length {ρ : Ren} : ∀ {l l' : List Value}, LR ρ l l' → l.length = l'.length
  | _, _, .nil => rfl
  | _, _, .cons _ _ _ _ _ hl => by simp [LR.length hl]
theorem LR.at {ρ : Ren} : ∀ {l l' : List Value}, LR ρ l l' → ∀ (i : Nat) (v : Value), l[i]? = some v → ∃ v', l'[i]? = some v' ∧ VR ρ v v'
  | _, _, .nil, i, v, h => by simp at h
  | _, _, .cons v v' l l' hv hl, 0, u, h => ⟨v', rfl, by simp at h; exact h ▸ hv⟩
  | _, _, .cons v v' l l' hv hl, i + 1, u, h => by simpa using LR.at hl i u (by simpa using h)
theorem LR.of {ρ : Ren} : ∀ {l l' : List Value}, l.length = l'.length → (∀ (i : Nat) (v v' : Value), l[i]? = some v → l'[i]? = some v' → VR ρ v v') → LR ρ l l'
  | [], [], _, _ => .nil
  | v :: l, v' :: l', hl, h => .cons v v' l l' (h 0 v v' rfl rfl) (LR.of (by simpa using hl) fun i u u' e e' => h (i + 1) u u' (by simpa using e) (by simpa using e'))
theorem LR.append {ρ : Ren} : ∀ {l l' m m' : List Value}, LR ρ l l' → LR ρ m m' → LR ρ (l ++ m) (l' ++ m')
  | _, _, _, _, .nil, h => h
  | _, _, _, _, .cons v v' l l' hv hl, h => .cons v v' _ _ hv (LR.append hl h)
theorem LR.take {ρ : Ren} : ∀ {l l' : List Value} (n : Nat), LR ρ l l' → LR ρ (l.take n) (l'.take n)
  | _, _, 0, _ => by simp; exact .nil
  | _, _, n + 1, .nil => by simp; exact .nil
  | _, _, n + 1, .cons v v' l l' hv hl => .cons v v' _ _ hv (LR.take n hl)
theorem LR.drop {ρ : Ren} : ∀ {l l' : List Value} (n : Nat), LR ρ l l' → LR ρ (l.drop n) (l'.drop n)
  | _, _, 0, h => h
  | _, _, n + 1, .nil => by simp; exact .nil
  | _, _, n + 1, .cons v v' l l' hv hl => LR.drop n hl

omit [Toks] in
/-- Values without ids stand for themselves. -/
def cl : Nat → Value → Bool
  | _, .bool _ | _, .int _ _ | _, .string _ | _, .nilFunc | _, .nilIface | _, .pointer none | _, .slice none 0 0 | _, .map none => true
  | n + 1, .iface _ v => cl n v
  | n + 1, .agg ⟨l⟩ => l.all (cl n)
  | n + 1, .tuple ⟨l⟩ => l.all (cl n)
  | n + 1, .func _ ⟨f⟩ ⟨c⟩ => f.all (cl n) && c.all (cl n)
  | _, _ => false
theorem cl_LR {ρ : Ren} {n : Nat} (ih : ∀ v, cl n v = true → VR ρ v v) : ∀ l : List Value, l.all (cl n) = true → LR ρ l l
  | [], _ => .nil
  | v :: l, h => by
    simp only [List.all_cons, Bool.and_eq_true] at h
    exact .cons _ _ _ _ (ih v h.1) (cl_LR ih l h.2)
theorem cl_VR {ρ : Ren} : ∀ (n : Nat) (v : Value), cl n v = true → VR ρ v v := by
  intro n
  induction n with
  | zero =>
    intro v h
    match v, h with
    | .bool b, _ => exact .bool b
    | .int k n, _ => exact .int k n
    | .string s, _ => exact .string s
    | .nilFunc, _ => exact .nilF
    | .nilIface, _ => exact .nilI
    | .pointer none, _ => exact .nilP
    | .slice none 0 0, _ => exact .nilS
    | .map none, _ => exact .nilM
  | succ n ih =>
    intro v h
    match v, h with
    | .bool b, _ => exact .bool b
    | .int k n, _ => exact .int k n
    | .string s, _ => exact .string s
    | .nilFunc, _ => exact .nilF
    | .nilIface, _ => exact .nilI
    | .pointer none, _ => exact .nilP
    | .slice none 0 0, _ => exact .nilS
    | .map none, _ => exact .nilM
    | .iface t u, h => exact .iface _ _ _ (ih u h)
    | .agg ⟨l⟩, h => exact .agg _ _ (cl_LR ih l h)
    | .tuple ⟨l⟩, h => exact .tuple _ _ (cl_LR ih l h)
    | .func fn ⟨f⟩ ⟨c⟩, h =>
      have h' : (f.all (cl n) && c.all (cl n)) = true := h
      simp only [Bool.and_eq_true] at h'
      exact .func _ _ _ _ _ (cl_LR ih f h'.1) (cl_LR ih c h'.2)

theorem flat_eq_LR {ρ : Ren} {n : Nat} (ih : ∀ v v', flat n v = true → VR ρ v v' → v' = v) : ∀ {l l' : List Value}, LR ρ l l' → l.all (flat n) = true → l' = l
  | _, _, .nil, _ => rfl
  | _, _, .cons v v' l l' hv hl, h => by
    simp only [List.all_cons, Bool.and_eq_true] at h
    rw [ih v v' h.1 hv, flat_eq_LR ih hl h.2]
/-- What is flat is told by itself alone. -/
theorem flat_eq {ρ : Ren} : ∀ (n : Nat) (v v' : Value), flat n v = true → VR ρ v v' → v' = v := by
  intro n
  induction n with
  | zero =>
    intro v v' h hv
    cases hv <;> first | rfl | (simp [flat] at h)
  | succ n ih =>
    intro v v' h hv
    cases hv with
    | bool b => rfl
    | int k n => rfl
    | string s => rfl
    | nilP => rfl
    | nilF => rfl
    | nilI => rfl
    | iface t u u' hu => rw [ih u u' (by simpa [flat] using h) hu]
    | agg l l' hl => rw [flat_eq_LR ih hl (by simpa [flat] using h)]
    | tuple l l' hl => rw [flat_eq_LR ih hl (by simpa [flat] using h)]
    | ptr => simp [flat] at h
    | nilS => simp [flat] at h
    | sl => simp [flat] at h
    | sls => simp [flat] at h
    | sp => simp [flat] at h
    | nilM => simp [flat] at h
    | map => simp [flat] at h
    | func => simp [flat] at h
    | tok => simp [flat] at h
theorem flat_cl : ∀ (n : Nat) (v : Value), flat n v = true → cl n v = true := by
  intro n
  induction n with
  | zero => intro v h; match v, h with
    | .bool b, _ => rfl
    | .int k n, _ => rfl
    | .string s, _ => rfl
    | .nilFunc, _ => rfl
    | .nilIface, _ => rfl
    | .pointer none, _ => rfl
  | succ n ih => intro v h; match v, h with
    | .bool b, _ => rfl
    | .int k n, _ => rfl
    | .string s, _ => rfl
    | .nilFunc, _ => rfl
    | .nilIface, _ => rfl
    | .pointer none, _ => rfl
    | .iface t u, h => exact ih u h
    | .agg ⟨l⟩, h =>
      have h' : l.all (flat n) = true := h
      show l.all (cl n) = true
      rw [List.all_eq_true] at *; exact fun x hx => ih x (h' x hx)
    | .tuple ⟨l⟩, h =>
      have h' : l.all (flat n) = true := h
      show l.all (cl n) = true
      rw [List.all_eq_true] at *; exact fun x hx => ih x (h' x hx)
theorem oneC_eq {ρ : Ren} {v v' : Value} (h : VR ρ v v') : oneC v' = oneC v := by cases h <;> rfl
theorem LR.all1 {ρ : Ren} : ∀ {l l' : List Value}, LR ρ l l' → l'.all oneC = l.all oneC
  | _, _, .nil => rfl
  | _, _, .cons _ _ _ _ hv hl => by simp [oneC_eq hv, LR.all1 hl]

theorem noid_LR {ρ ρ' : Ren} (hx : Ext ρ ρ') {n : Nat} (ih : ∀ v v', noid n v = true → VR ρ' v v' → VR ρ v v') : ∀ {l l' : List Value}, LR ρ' l l' → l.all (noid n) = true → LR ρ l l'
  | _, _, .nil, _ => .nil
  | _, _, .cons v v' l l' hv hl, h => by
    simp only [List.all_cons, Bool.and_eq_true] at h
    exact .cons _ _ _ _ (ih v v' h.1 hv) (noid_LR hx ih hl h.2)
/-- What bears no id means the same whatever ids have come. -/
theorem noid_VR {ρ ρ' : Ren} (hx : Ext ρ ρ') : ∀ (n : Nat) (v v' : Value), noid n v = true → VR ρ' v v' → VR ρ v v' := by
  intro n
  induction n with
  | zero =>
    intro v v' h hv
    cases hv with
    | bool b => exact .bool b
    | int k n => exact .int k n
    | tok k => rw [hx.2]; exact .tok k
    | string s => exact .string s
    | nilP => exact .nilP
    | nilF => exact .nilF
    | nilI => exact .nilI
    | _ => simp [noid] at h
  | succ n ih =>
    intro v v' h hv
    cases hv with
    | bool b => exact .bool b
    | int k n => exact .int k n
    | tok k => rw [hx.2]; exact .tok k
    | string s => exact .string s
    | nilP => exact .nilP
    | nilF => exact .nilF
    | nilI => exact .nilI
    | iface t u u' hu => exact .iface _ _ _ (ih u u' h hu)
    | agg l l' hl => exact .agg _ _ (noid_LR hx ih hl h)
    | tuple l l' hl => exact .tuple _ _ (noid_LR hx ih hl h)
    | _ => simp [noid] at h

/-! ### Objects -/
inductive ER (ρ : Ren) : List MapEntry → List MapEntry → Prop
  | nil : ER ρ [] []
  | cons (e e' : MapEntry) (l l' : List MapEntry) : VR ρ e.key e'.key → VR ρ e.val e'.val → e'.born = e.born → ER ρ l l' → ER ρ (e :: l) (e' :: l')
theorem ER.mono {ρ ρ' : Ren} (h : Ext ρ ρ') : ∀ {l l' : List MapEntry}, ER ρ l l' → ER ρ' l l'
  | _, _, .nil => .nil
  | _, _, .cons e e' l l' h1 h2 h3 hl => .cons e e' l l' (h1.mono h) (h2.mono h) h3 (ER.mono h hl)

/-- The cells of an object lie in a block, from 'base' on. -/
def Lies (ρ : Ren) (base : Nat) (c C : List Value) : Prop := ∀ i v, c[i]? = some v → ∃ v', C[base + i]? = some v' ∧ VR ρ v v'

/-- The element number 'i' of a row of unknown length: 'd' everywhere, but for the places that were written. -/
def elemAt (d : List Value) : List Value → Nat → List Value
  | .tuple ⟨.float .f64 j :: vs⟩ :: r, i => if Toks.tok j = (i : Int) then vs else elemAt d r i
  | _ :: r, i => elemAt d r i
  | [], _ => d
/-- A row of unknown length: its length, its cells where nothing was written, what was written. -/
def SymR (ρ : Ren) (pl : Pl) (w : World) : List Value → Prop
  | .float .f64 k :: .tuple ⟨d⟩ :: ups => ∃ (N : Nat) (C : Array Value) (e : TypeId), (N : Int) = ρ.tok k ∧ w.heap[pl.block]? = some (.cells C e (0, 0)) ∧ pl.base + N * d.length ≤ C.size ∧
      ∀ i, i < N → LR ρ (elemAt d ups i) ((C.toList.drop (pl.base + i * d.length)).take d.length)
  | _ => False
def OR (P : Program) (ρ : Ren) (pl : Pl) (w : World) : Obj → Prop
  | .pending c e => SymR ρ pl w c.toList
  | .cells c e fr => ∃ C e' fr', w.heap[pl.block]? = some (.cells C e' fr') ∧ (fr = (0, 0) → fr' = (0, 0)) ∧ Lies ρ pl.base c.toList C.toList ∧
      ∀ L, pl.lim = some L → pl.base + L ≤ C.size ∧ c.size ≤ L
  | .map es k => ∃ es', w.heap[pl.block]? = some (.map es' k) ∧ ER ρ es.toList es'.toList
  | _ => False

theorem Lies.mono {ρ ρ' : Ren} (h : Ext ρ ρ') {base : Nat} {c C : List Value} (hl : Lies ρ base c C) : Lies ρ' base c C := fun i v e => by
  obtain ⟨v', e', hv⟩ := hl i v e
  exact ⟨v', e', hv.mono h⟩
theorem SymR.mono {ρ ρ' : Ren} (h : Ext ρ ρ') {pl : Pl} {w : World} {l : List Value} (hs : SymR ρ pl w l) : SymR ρ' pl w l := by
  unfold SymR at hs ⊢
  split at hs
  · obtain ⟨N, C, e, h1, h2, h3, h4⟩ := hs
    exact ⟨N, C, e, h1, h2, h3, fun i hi => (h4 i hi).mono h⟩
  · cases hs
theorem SymR.world {ρ : Ren} {pl : Pl} {w w' : World} (h : w'.heap[pl.block]? = w.heap[pl.block]?) {l : List Value} (hs : SymR ρ pl w l) : SymR ρ pl w' l := by
  unfold SymR at hs ⊢
  split at hs
  · obtain ⟨N, C, e, h1, h2, h3, h4⟩ := hs
    exact ⟨N, C, e, h1, h.trans h2, h3, h4⟩
  · cases hs
theorem SymR.lt {ρ : Ren} {pl : Pl} {w : World} {l : List Value} (hs : SymR ρ pl w l) : pl.block < w.heap.size := by
  unfold SymR at hs
  split at hs
  · obtain ⟨N, C, e, h1, h2, h3, h4⟩ := hs
    exact (Array.getElem?_eq_some_iff.1 h2).1
  · cases hs
theorem OR.mono {P : Program} {ρ ρ' : Ren} (h : Ext ρ ρ') {pl : Pl} {w : World} : ∀ {o : Obj}, OR P ρ pl w o → OR P ρ' pl w o
  | .pending c e, hs => SymR.mono h hs
  | .cells c e fr, ⟨C, e', fr', e1, e2, e3, e4⟩ => ⟨C, e', fr', e1, e2, e3.mono h, e4⟩
  | .map es k, ⟨es', e1, e2⟩ => ⟨es', e1, e2.mono h⟩
theorem OR.world {P : Program} {ρ : Ren} {pl : Pl} {w w' : World} (h : w'.heap[pl.block]? = w.heap[pl.block]?) : ∀ {o : Obj}, OR P ρ pl w o → OR P ρ pl w' o
  | .pending c e, hs => SymR.world h hs
  | .cells c e fr, ⟨C, e', fr', e1, e2, e3, e4⟩ => ⟨C, e', fr', h.trans e1, e2, e3, e4⟩
  | .map es k, ⟨es', e1, e2⟩ => ⟨es', h.trans e1, e2⟩
theorem OR.lt {P : Program} {ρ : Ren} {pl : Pl} {w : World} : ∀ {o : Obj}, OR P ρ pl w o → pl.block < w.heap.size
  | .pending c e, hs => SymR.lt hs
  | .cells c e fr, ⟨C, e', fr', e1, _⟩ => (Array.getElem?_eq_some_iff.1 e1).1
  | .map es k, ⟨es', e1, _⟩ => (Array.getElem?_eq_some_iff.1 e1).1

/-! ### A state stands for a world -/
structure WR (P : Program) (ρ : Ren) (s : S) (w : World) : Prop where
  obj : ∀ id o, s.get id = some o → ∃ pl, ρ id = some pl ∧ OR P ρ pl w o
  inj : ∀ i j oi oj pi pj, s.get i = some oi → s.get j = some oj → ρ i = some pi → ρ j = some pj → pi.block = pj.block → i = j
  free : ∀ id, s.free id → ρ id = none
  sd : 0 < s.sd
  glob : ∀ g, g < P.globals.size → ρ g = some ⟨g, 0, none⟩

theorem WR.free_get {P : Program} {ρ : Ren} {s : S} {w : World} (h : WR P ρ s w) {id : Nat} (hf : s.free id) : s.get id = none := by
  cases e : s.get id with
  | none => rfl
  | some o =>
    obtain ⟨pl, hp, _⟩ := h.obj id o e
    rw [h.free id hf] at hp; cases hp

/-- One or more steps: the state and the world behind stand for one another; what else the world holds has not changed. -/
structure Stp (P : Program) (ρ : Ren) (s : S) (w : World) (ρ' : Ren) (s' : S) (w' : World) : Prop where
  wr : WR P ρ' s' w'
  fre : ∀ id, s'.free id → s.free id
  sd : s'.sd = s.sd
  wa : s'.wa = s.wa
  wb : s'.wb = s.wb
  ext : Ext ρ ρ'
  only : ∀ id, ρ' id = ρ id ∨ s.free id
  gone : ∀ id, s'.get id ≠ s.get id → s.free id ∨ s.own id = true
  img : ∀ id o pl, s'.get id = some o → ρ' id = some pl → pl.block < w.heap.size → ∃ id0 o0 pl0, s.get id0 = some o0 ∧ ρ id0 = some pl0 ∧ pl0.block = pl.block ∧ (id0 ≠ id → s.own id0 = true)
  tape : w'.tape = w.tape
  os : w'.os = w.os
  output : w'.output = w.output
  size : w.heap.size ≤ w'.heap.size
  frame : ∀ b, b < w.heap.size → (∀ id o pl, s.get id = some o → s.own id = true → ρ id = some pl → pl.block ≠ b) → w'.heap[b]? = w.heap[b]?

theorem S.own_eq {s s' : S} (h : s'.wa = s.wa) (h' : s'.wb = s.wb) (id : Nat) : s'.own id = s.own id := by unfold S.own; rw [h, h']

theorem Stp.refl {P : Program} {ρ : Ren} {s : S} {w : World} (h : WR P ρ s w) : Stp P ρ s w ρ s w where
  wr := h
  fre := fun _ h => h
  sd := rfl
  wa := rfl
  wb := rfl
  ext := Ext.refl ρ
  only := fun _ => .inl rfl
  gone := fun _ h => absurd rfl h
  img := fun id o pl e1 e2 _ => ⟨id, o, pl, e1, e2, rfl, fun h => absurd rfl h⟩
  tape := rfl
  os := rfl
  output := rfl
  size := Nat.le_refl _
  frame := fun _ _ _ => rfl

theorem Stp.trans {P : Program} {ρ ρ1 ρ2 : Ren} {s s1 s2 : S} {w w1 w2 : World} (h : Stp P ρ s w ρ1 s1 w1) (k : Stp P ρ1 s1 w1 ρ2 s2 w2) : Stp P ρ s w ρ2 s2 w2 where
  wr := k.wr
  fre := fun id hf => h.fre id (k.fre id hf)
  sd := k.sd.trans h.sd
  wa := k.wa.trans h.wa
  wb := k.wb.trans h.wb
  ext := h.ext.trans k.ext
  only := fun id => by
    rcases k.only id with e | e
    · rcases h.only id with e' | e'
      · exact .inl (e.trans e')
      · exact .inr e'
    · exact .inr (h.fre id e)
  gone := fun id hg => by
    by_cases e : s2.get id = s1.get id
    · exact h.gone id (fun e' => hg (e.trans e'))
    · rcases k.gone id e with e' | e'
      · exact .inl (h.fre id e')
      · exact .inr (by rw [← S.own_eq h.wa h.wb]; exact e')
  img := fun id o pl e1 e2 hb => by
    obtain ⟨id1, o1, pl1, a1, a2, a3, a4⟩ := k.img id o pl e1 e2 (Nat.lt_of_lt_of_le hb h.size)
    obtain ⟨id0, o0, pl0, b1, b2, b3, b4⟩ := h.img id1 o1 pl1 a1 a2 (by rw [a3]; exact hb)
    refine ⟨id0, o0, pl0, b1, b2, b3.trans a3, fun hne => ?_⟩
    by_cases e : id0 = id1
    · rw [e, ← S.own_eq h.wa h.wb]; exact a4 (e ▸ hne)
    · exact b4 e
  tape := k.tape.trans h.tape
  os := k.os.trans h.os
  output := k.output.trans h.output
  size := Nat.le_trans h.size k.size
  frame := fun b hb hn => by
    refine (k.frame b (Nat.lt_of_lt_of_le hb h.size) fun id o pl e1 e2 e3 hpb => ?_).trans (h.frame b hb hn)
    obtain ⟨id0, o0, pl0, b1, b2, b3, b4⟩ := h.img id o pl e1 e3 (by rw [hpb]; exact hb)
    refine hn id0 o0 pl0 b1 ?_ b2 (b3.trans hpb)
    by_cases e : id0 = id
    · rw [e, ← S.own_eq h.wa h.wb]; exact e2
    · exact b4 e

/-- Orders that are drawn change nothing that a state tells. -/
theorem WR.world {P : Program} {ρ : Ren} {s : S} {w w' : World} (h : WR P ρ s w) (hh : ∀ id o pl, s.get id = some o → ρ id = some pl → w'.heap[pl.block]? = w.heap[pl.block]?) : WR P ρ s w' where
  obj := fun id o e => by
    obtain ⟨pl, hp, ho⟩ := h.obj id o e
    exact ⟨pl, hp, ho.world (hh id o pl e hp)⟩
  inj := h.inj
  free := h.free
  sd := h.sd
  glob := h.glob
theorem Stp.drew {P : Program} {ρ ρ' : Ren} {s s' : S} {w w' : World} (h : Stp P ρ s w ρ' s' w') : Stp P ρ s w ρ' s' { w' with drawn := w'.drawn + 1 } where
  wr := h.wr.world fun _ _ _ _ _ => rfl
  fre := h.fre
  sd := h.sd
  wa := h.wa
  wb := h.wb
  ext := h.ext
  only := h.only
  gone := h.gone
  img := h.img
  tape := h.tape
  os := h.os
  output := h.output
  size := h.size
  frame := h.frame
end Go.Eng
