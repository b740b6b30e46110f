/- The engine, part O2: calls of all kinds; an operation, whatever it is. -/
import Derived.Test.YtkaladiliikheaaGreatDoorEngO
set_option linter.unusedVariables false
set_option linter.unusedSectionVars false
set_option linter.unusedSimpArgs false
namespace Go.Eng
open Go
variable [Toks]

omit [Toks] in
noncomputable def orR (x y : R) : R := Option.rec (motive := fun _ => R) y (fun v => some v) x
theorem oj_or {P : Program} {o : Oper} {kn : KN} {s : S} {x y : R} (h1 : OJ P o kn s x) (h2 : OJ P o kn s y) : OJ P o kn s (orR x y) := by
  cases x with
  | none => exact h2
  | some v => exact h1
omit [Toks] in
def chkFnB (P : Program) (g : Nat) : Bool := match P.funcs[g]? with | some fn => fn.body.isSome && !(fn.name == "runtime.NumGoroutine") | none => false
omit [Toks] in
def methAt (P : Program) (t : Nat) (name : String) : Option Nat := match P.info? t with
  | some i => (match i.methods.find? (·.name == name) with
    | some m => (match m.path.toList, m.func, P.underlying t with
      | [], some (f, ptr), some (.pointer _) => bif ptr && chkFnB P f then some f else none
      | [], some (f, ptr), some _ => bif !ptr && chkFnB P f then some f else none
      | _, _, _ => none)
    | none => none)
  | none => none

omit [Toks] in
noncomputable def evLen (P : Program) (t : Nat) (v : Value) (s : S) : Option Value := match P.underlying t with
  | some (.slice _) => orV (lnS v) (lnX v)
  | some .string => lnT v
  | some (.map _ _) => lnM v s
  | some (.array n _) => some (.int .i64 n)
  | _ => none
omit [Toks] in
abbrev Cl := Nat → List Value → S → R
omit [Toks] in
/-- The cases stand apart from what they are applied to: so the kernel writes out none but the one that it takes. -/
abbrev BF := Program → Option Tmp → List Operand → List TypeId → KN → S → R
omit [Toks] in
noncomputable def bLen : BF := fun P d l ts kn s => match l, ts with
  | [x], [t] => bv (opv P kn x) fun v => pv s (evLen P t v s)
  | _, _ => none
omit [Toks] in
noncomputable def bApp : BF := fun P d l ts kn s => match l, ts with
  | [a, x], [t, tx] => bv (opv P kn a) fun va => bv (opv P kn x) fun vx => (match rowT P t with
    | some (e, n, by_, z) => (match P.underlying tx with
      | some (.slice _) => apS n by_ e va vx s
      | some (.int _) => apZ z by_ e va vx s
      | _ => none)
    | none => none)
  | _, _ => none
omit [Toks] in
noncomputable def bCopy : BF := fun P d l ts kn s => match l, ts with
  | [a, x], [t, tx] => bv (opv P kn a) fun va => bv (opv P kn x) fun vx => (match rowT P t with
    | some (e, n, by_, z) => cpS n va vx s
    | none => none)
  | _, _ => none
omit [Toks] in
noncomputable def bDel : BF := fun P d l ts kn s => match l, ts with
  | [m, k], [t, tk] => bv (opv P kn m) fun vm => bv (opv P kn k) fun vk => (match mapT P t with
    | some (kt, et, n, z) => p0 d (mpD n vm vk s)
    | none => none)
  | _, _ => none
omit [Toks] in
noncomputable def bMax : BF := fun P d l ts kn s => match l with
  | [x, y] => bv (opv P kn x) fun vx => bv (opv P kn y) fun vy => pv s (maxV vx vy)
  | _ => none
omit [Toks] in
noncomputable def bMin : BF := fun P d l ts kn s => match l with
  | [x, y] => bv (opv P kn x) fun vx => bv (opv P kn y) fun vy => pv s (minV vx vy)
  | _ => none
omit [Toks] in
noncomputable def bCap : BF := fun P d l ts kn s => match l, ts with
  | [x], [t] => chk (chkU P t isSliceD) (bv (opv P kn x) fun v => pv s (cap0 v))
  | _, _ => none
omit [Toks] in
noncomputable def bClr : BF := fun P d l ts kn s => match l, ts with
  | [a], [t] => (match P.underlying t with
    | some (.slice _) => bv (opv P kn a) fun va => p0 d (clr va s)
    | _ => none)
  | _, _ => none
omit [Toks] in
noncomputable def bF (b : Builtin) : BF := match b with
  | .len => bLen
  | .append => bApp
  | .copy => bCopy
  | .delete => bDel
  | .max => bMax
  | .min => bMin
  | .cap => bCap
  | .clear => bClr
  | _ => fun _ _ _ _ _ _ => none
omit [Toks] in
noncomputable def dynD (P : Program) (call : Cl) (v : Value) (l : List Value) (s : S) : R := match v with
  | .func (.func g) ⟨f⟩ ⟨c⟩ => chk (chkFnB P g) (call g (f ++ l ++ c) s)
  | _ => none
omit [Toks] in
def ivD (P : Program) (call : Cl) (name : String) (v : Value) (l : List Value) (s : S) : R := match v with
  | .iface t x => (match methAt P t name with | some g => call g (x :: l) s | none => none)
  | _ => none
omit [Toks] in
noncomputable def bl (x : Option (List Value)) (k : List Value → R) : R := Option.rec (motive := fun _ => R) none k x
omit [Toks] in
abbrev OF := Program → Cl → Option Tmp → KN → S → R
omit [Toks] in
noncomputable def cVal (x : Operand) (l : List Operand) : OF := match x with
  | .func g => fun P call d kn s => chk (chkFnB P g) (bl (ops' P kn l) fun l => call g l s)
  | x => fun P call d kn s => bv (opv P kn x) fun vx => bl (ops' P kn l) fun l => dynD P call vx l s
omit [Toks] in
noncomputable def cF (c : Callee) (l : List Operand) (ts : List TypeId) : OF := match c with
  | .builtin b => fun P call d kn s => bF b P d l ts kn s
  | .value x => cVal x l
  | .invoke x name => fun P call d kn s => bv (opv P kn x) fun vx => bl (ops' P kn l) fun l => ivD P call name vx l s
omit [Toks] in
noncomputable def opF [Orc] (op : Op) : OF := match op with
  | .move x => fun P call d kn s => pv s (opv P kn x)
  | .assign x => fun P call d kn s => pv s (opv P kn x)
  | .pick c a b => fun P call d kn s => bv (opv P kn c) fun vc => bv (opv P kn a) fun va => bv (opv P kn b) fun vb => pv s (pk vc va vb)
  | .alloc t => fun P call d kn s => (match zeroCells P t with | some cs => al cs t s | none => none)
  | .box t x => fun P call d kn s => bv (opv P kn x) fun v => evBox t v s
  | .build t ⟨ps⟩ => fun P call d kn s => (match zsOf P t, opvs P kn ps with | some zs, some vs => pv s (mkA zs vs) | _, _ => none)
  | .buildSlice t len ⟨ps⟩ => fun P call d kn s => (match rowT P t, opvs P kn ps with
    | some (e, n, by_, z), some vs => chk (Nat.ble (len * z.length) 16777216) (mkS z vs e len s)
    | _, _ => none)
  | .load t a => fun P call d kn s => bv (opv P kn a) fun v => evLd P t v s
  | .store t a x => fun P call d kn s => bv (opv P kn a) fun va => bv (opv P kn x) fun vx => p0 d (evSt P t va vx s)
  | .nilCheck x => fun P call d kn s => bv (opv P kn x) fun v => pv s (nlc v)
  | .binOp op t x y _ => fun P call d kn s => bv (opv P kn x) fun vx => bv (opv P kn y) fun vy => pv s (evBin P op t x y vx vy)
  | .unOp op _ x => fun P call d kn s => bv (opv P kn x) fun v => pv s (uop op v)
  | .convert a b x => fun P call d kn s => bv (opv P kn x) fun v => pv s (evCv P a b v)
  | .makeInterface t x => fun P call d kn s => chk (P.concrete t) (bv (opv P kn x) fun v => some (.iface t v, s))
  | .makeFunc (.func f) ⟨first⟩ ⟨cap⟩ => fun P call d kn s => bl (opvl P kn first) fun vf => bl (opvl P kn cap) fun vc => some (.func (.func f) ⟨vf⟩ ⟨vc⟩, s)
  | .makeMap _ none => fun P call d kn s => mkM s
  | .makeSlice t l c => fun P call d kn s => bv (opv P kn l) fun vl => bv (opv P kn c) fun vc => (match rowT P t with | some (e, n, by_, z) => orR (mkZ z by_ e vl vc s) (mkX z by_ e vl vc s) | none => none)
  | .slice t x lo hi mx => fun P call d kn s => bv (opv P kn x) fun v => (match opvo P kn lo, opvo P kn hi, opvo P kn mx with
    | some vlo, some vhi, some vmx => pv s (evSl P t v vlo vhi vmx)
    | _, _, _ => none)
  | .fieldAddr t x f => fun P call d kn s => bv (opv P kn x) fun v => pv s (evPad P t f v)
  | .field t x f => fun P call d kn s => bv (opv P kn x) fun v => pv s (evFd P t f v)
  | .indexAddr t x i => fun P call d kn s => bv (opv P kn x) fun v => bv (opv P kn i) fun vi => pv s (evIxA P t v vi)
  | .index t x i => fun P call d kn s => bv (opv P kn x) fun v => bv (opv P kn i) fun vi => pv s (evIx P t v vi)
  | .lookup t m k ok => fun P call d kn s => bv (opv P kn m) fun vm => bv (opv P kn k) fun vk => (match mapT P t with | some (kt, et, n, z) => pv s (mpG n vm vk z ok s) | none => (match mapTI P t with | some (kt, et, z) => pv s (mpGI P vm vk z ok s) | none => none))
  | .mapUpdate t m k x => fun P call d kn s => bv (opv P kn m) fun vm => bv (opv P kn k) fun vk => bv (opv P kn x) fun vx => (match mapT P t with | some (kt, et, n, z) => p0 d (mpS n vm vk vx s) | none => (match mapTI P t with | some (kt, et, z) => p0 d (mpSI P vm vk vx s) | none => none))
  | .typeAssert x _ t ok => fun P call d kn s => bv (opv P kn x) fun v => pv s (evTya P t v ok)
  | .extract x i => fun P call d kn s => bv (opv P kn x) fun v => pv s (ext i v)
  | .call ⟨c, ⟨l⟩, ⟨ts⟩⟩ => cF c l ts
  | _ => fun _ _ _ _ _ => none
omit [Toks] in
noncomputable def evO [Orc] (P : Program) (call : Cl) (o : Oper) (kn : KN) (s : S) : R := opF o.op P call o.dst kn s

omit [Toks] in
/-- The same, in one. -/
noncomputable def evC0 (P : Program) (call : Nat → List Value → S → R) (d : Option Tmp) (c : Call) (kn : KN) (s : S) : R := match c with
  | ⟨.builtin b, ⟨xs⟩, ⟨ts⟩⟩ => bF b P d xs ts kn s
  | ⟨.value (.func g), ⟨xs⟩, _⟩ => chk (chkFnB P g) (bl (ops' P kn xs) fun l => call g l s)
  | ⟨.value x, ⟨xs⟩, _⟩ => bv (opv P kn x) fun vx => bl (ops' P kn xs) fun l => dynD P call vx l s
  | ⟨.invoke x name, ⟨xs⟩, _⟩ => bv (opv P kn x) fun vx => bl (ops' P kn xs) fun l => ivD P call name vx l s
omit [Toks] in
noncomputable def evO0 [Orc] (P : Program) (call : Nat → List Value → S → R) (o : Oper) (kn : KN) (s : S) : R := match o.op with
  | .move x => pv s (opv P kn x)
  | .assign x => pv s (opv P kn x)
  | .pick c a b => bv (opv P kn c) fun vc => bv (opv P kn a) fun va => bv (opv P kn b) fun vb => pv s (pk vc va vb)
  | .alloc t => (match zeroCells P t with | some cs => al cs t s | none => none)
  | .box t x => bv (opv P kn x) fun v => evBox t v s
  | .build t ⟨ps⟩ => (match zsOf P t, opvs P kn ps with | some zs, some vs => pv s (mkA zs vs) | _, _ => none)
  | .buildSlice t len ⟨ps⟩ => (match rowT P t, opvs P kn ps with
    | some (e, n, by_, z), some vs => chk (Nat.ble (len * z.length) 16777216) (mkS z vs e len s)
    | _, _ => none)
  | .load t a => bv (opv P kn a) fun v => evLd P t v s
  | .store t a x => bv (opv P kn a) fun va => bv (opv P kn x) fun vx => p0 o.dst (evSt P t va vx s)
  | .nilCheck x => bv (opv P kn x) fun v => pv s (nlc v)
  | .binOp op t x y _ => bv (opv P kn x) fun vx => bv (opv P kn y) fun vy => pv s (evBin P op t x y vx vy)
  | .unOp op _ x => bv (opv P kn x) fun v => pv s (uop op v)
  | .convert a b x => bv (opv P kn x) fun v => pv s (evCv P a b v)
  | .makeInterface t x => chk (P.concrete t) (bv (opv P kn x) fun v => some (.iface t v, s))
  | .makeFunc (.func f) ⟨first⟩ ⟨cap⟩ => bl (opvl P kn first) fun vf => bl (opvl P kn cap) fun vc => some (.func (.func f) ⟨vf⟩ ⟨vc⟩, s)
  | .makeMap _ none => mkM s
  | .makeSlice t l c => bv (opv P kn l) fun vl => bv (opv P kn c) fun vc => (match rowT P t with | some (e, n, by_, z) => orR (mkZ z by_ e vl vc s) (mkX z by_ e vl vc s) | none => none)
  | .slice t x lo hi mx => bv (opv P kn x) fun v => (match opvo P kn lo, opvo P kn hi, opvo P kn mx with
    | some vlo, some vhi, some vmx => pv s (evSl P t v vlo vhi vmx)
    | _, _, _ => none)
  | .fieldAddr t x f => bv (opv P kn x) fun v => pv s (evPad P t f v)
  | .field t x f => bv (opv P kn x) fun v => pv s (evFd P t f v)
  | .indexAddr t x i => bv (opv P kn x) fun v => bv (opv P kn i) fun vi => pv s (evIxA P t v vi)
  | .index t x i => bv (opv P kn x) fun v => bv (opv P kn i) fun vi => pv s (evIx P t v vi)
  | .lookup t m k ok => bv (opv P kn m) fun vm => bv (opv P kn k) fun vk => (match mapT P t with | some (kt, et, n, z) => pv s (mpG n vm vk z ok s) | none => (match mapTI P t with | some (kt, et, z) => pv s (mpGI P vm vk z ok s) | none => none))
  | .mapUpdate t m k x => bv (opv P kn m) fun vm => bv (opv P kn k) fun vk => bv (opv P kn x) fun vx => (match mapT P t with | some (kt, et, n, z) => p0 o.dst (mpS n vm vk vx s) | none => (match mapTI P t with | some (kt, et, z) => p0 o.dst (mpSI P vm vk vx s) | none => none))
  | .typeAssert x _ t ok => bv (opv P kn x) fun v => pv s (evTya P t v ok)
  | .extract x i => bv (opv P kn x) fun v => pv s (ext i v)
  | .call c => evC0 P call o.dst c kn s
  | _ => none

section
variable {P : Program} {o : Oper} {kn : KN} {s : S} {call : Nat → List Value → S → R}
theorem chkFnB_spec {g : Nat} (h : chkFnB P g = true) : chkFn P g := by
  unfold chkFnB at h
  split at h
  · rename_i fn hf
    simp only [Bool.and_eq_true, Bool.not_eq_true'] at h
    exact ⟨fn, hf, h.1, h.2⟩
  · cases h
theorem methAt_spec {t g : Nat} {name : String} (h : methAt P t name = some g) (x : Value) (args : List Value) (w : World) : (callMethod (.iface t x) name ⟨args⟩).run P w = .ok (.enter g ⟨x :: args⟩) w := by
  have hd : 0 < Made.depth := by decide
  obtain ⟨n, hn⟩ : ∃ n, P.types.size + Made.depth = n + 1 := ⟨P.types.size + Made.depth - 1, by omega⟩
  unfold methAt at h
  split at h
  · rename_i i hi
    split at h
    · rename_i m hm
      split at h
      · rename_i f ptr e hp hf hu
        cases hc : (ptr && chkFnB P f) with
        | false => rw [hc] at h; cases h
        | true =>
          rw [hc, cond_true] at h; cases h
          simp only [Bool.and_eq_true] at hc
          have hc1 := hc.1
          subst hc1
          have hr : (method (P.types.size + Made.depth) t x name).run P w = .ok (g, x) w := by
            rw [hn]
            simp [method, typeInfo, hi, hm, hp, hf, follow, receiverAt, underlying, hu, Place.get]
          simp only [callMethod, Sem.run_bind, run_program, Result.andThen_ok, hr]
          rw [show (#[x] ++ (⟨args⟩ : Array Value)) = ⟨x :: args⟩ from Array.ext' (by simp)]
          exact run_callFunc_in (chkFnB_spec hc.2) _ w
      · rename_i f ptr d hnp hp hf hu
        cases hc : (!ptr && chkFnB P f) with
        | false => rw [hc] at h; cases h
        | true =>
          rw [hc, cond_true] at h; cases h
          simp only [Bool.and_eq_true, Bool.not_eq_true'] at hc
          have hc1 := hc.1
          subst hc1
          have hr : (method (P.types.size + Made.depth) t x name).run P w = .ok (g, x) w := by
            rw [hn]
            cases d <;> first | (exact (hnp _ rfl).elim) | simp [method, typeInfo, hi, hm, hp, hf, follow, receiverAt, underlying, hu, Place.get]
          simp only [callMethod, Sem.run_bind, run_program, Result.andThen_ok, hr]
          rw [show (#[x] ++ (⟨args⟩ : Array Value)) = ⟨x :: args⟩ from Array.ext' (by simp)]
          exact run_callFunc_in (chkFnB_spec hc.2) _ w
      · cases h
    · cases h
  · cases h
theorem oj_bl {x : Option (List Value)} {k : List Value → R} (h : ∀ l, x = some l → OJ P o kn s (k l)) : OJ P o kn s (bl x k) := by
  cases x with
  | none => exact oj_none
  | some v => exact h v rfl
theorem ov_len {t : Nat} {x : Operand} {v : Value} (ho : o.op = .call ⟨.builtin .len, #[x], #[t]⟩) (hx : opv P kn x = some v) : OV P o kn s (evLen P t v s) := by
  unfold evLen
  split
  · rename_i h; exact ov_or (ov_lnS ho (by simp [chkLen, h]) hx) (ov_lnX ho (by simp [chkLen, h]) hx)
  · rename_i h; exact ov_lnT ho (by simp [chkLen, h]) hx
  · rename_i h; exact ov_lnM ho h hx
  · rename_i h; exact ov_lenA (vx := v) ho (by simp [chkU, h])
  · exact ov_none
theorem oj_bF {b : Builtin} {l : List Operand} {ts : List TypeId} (ho : o.op = .call ⟨.builtin b, ⟨l⟩, ⟨ts⟩⟩) : OJ P o kn s (bF b P o.dst l ts kn s) := by
  unfold bF
  split
  · unfold bLen
    split
    · exact oj_bv fun v hv => oj_pv (ov_len ho hv)
    · exact oj_none
  · unfold bApp
    split
    · refine oj_bv fun va ha => oj_bv fun vx hx => ?_
      split
      · rename_i hr
        split
        · rename_i e' hu; exact OJ.ofS (os_apS ho (rowT_spec hr) ⟨e', hu⟩ ha hx)
        · rename_i k hu; exact OJ.ofS (os_apZ ho (rowT_spec hr) hu ha hx)
        · exact oj_none
      · exact oj_none
    · exact oj_none
  · unfold bCopy
    split
    · refine oj_bv fun va ha => oj_bv fun vx hx => ?_
      split
      · rename_i hr; exact OJ.ofS (os_cpS (ty := 0) ho (rowT_spec hr) ha hx)
      · exact oj_none
    · exact oj_none
  · unfold bDel
    split
    · refine oj_bv fun va ha => oj_bv fun vx hx => ?_
      split
      · rename_i hr; exact oj_p0 (os_mpD ho (mapT_spec hr) ha hx)
      · exact oj_none
    · exact oj_none
  · unfold bMax
    split
    · exact oj_bv fun vx hx => oj_bv fun vy hy => oj_pv (ov_maxV ho hx hy)
    · exact oj_none
  · unfold bMin
    split
    · exact oj_bv fun vx hx => oj_bv fun vy hy => oj_pv (ov_minV ho hx hy)
    · exact oj_none
  · unfold bCap
    split
    · exact oj_chk fun hc => oj_bv fun v hv => oj_pv (ov_cap0 ho hc hv)
    · exact oj_none
  · unfold bClr
    split
    · split
      · rename_i e hu; exact oj_bv fun va ha => oj_p0 (os_clr ho hu ha)
      · exact oj_none
    · exact oj_none
  · exact oj_none
theorem dynS_dynD (HC : ∀ f, FS P f (call f)) : DynS P (dynD P call) := by
  intro v l s r s' h
  unfold dynD at h
  split at h
  · rename_i g f c
    cases hc : chkFnB P g with
    | false => rw [hc] at h; cases h
    | true =>
      rw [hc] at h
      exact ⟨g, f, c, rfl, chkFnB_spec hc, HC g _ _ _ _ h⟩
  · cases h
theorem ivS_ivD (HC : ∀ f, FS P f (call f)) (name : String) : IvS P name (ivD P call name) := by
  intro r l s v s' h
  unfold ivD at h
  split at h
  · rename_i t x
    split at h
    · rename_i g hg
      exact ⟨t, x, g, rfl, fun x' args w => methAt_spec hg x' args w, HC g _ _ _ _ h⟩
    · cases h
  · cases h
theorem evC_eq (d : Option Tmp) (c : Callee) (l : List Operand) (ts : List TypeId) : cF c l ts P call d kn s = evC0 P call d ⟨c, ⟨l⟩, ⟨ts⟩⟩ kn s := by
  cases c with
  | builtin b => rfl
  | value x => cases x <;> rfl
  | invoke x n => rfl
theorem evO_eq : evO P call o kn s = evO0 P call o kn s := by
  unfold evO evO0
  generalize o.op = op
  cases op with
  | call c =>
    obtain ⟨c, ⟨l⟩, ⟨ts⟩⟩ := c
    exact evC_eq ..
  | makeFunc f a b => cases f <;> rfl
  | makeMap t r => cases r <;> rfl
  | _ => rfl
theorem oj_evC (HC : ∀ f, FS P f (call f)) {c : Call} (ho : o.op = .call c) : OJ P o kn s (evC0 P call o.dst c kn s) := by
  unfold evC0
  split
  · exact oj_bF ho
  · exact oj_chk fun hc => oj_bl fun l hl => oj_call ho (chkFnB_spec hc) (HC _) hl
  · exact oj_bv fun vx hx => oj_bl fun l hl => oj_dyn ho hx (dynS_dynD HC) hl
  · exact oj_bv fun vx hx => oj_bl fun l hl => oj_iv ho hx (ivS_ivD HC _) hl
/-- An operation does what it is evaluated to. -/
theorem oj_evO (HC : ∀ f, FS P f (call f)) : OJ P o kn s (evO P call o kn s) := by
  rw [evO_eq]
  unfold evO0
  split
  · rename_i x ho
    cases hx : opv P kn x with
    | none => exact oj_none
    | some v => exact oj_pv (ov_mv (.inl ho) hx)
  · rename_i x ho
    cases hx : opv P kn x with
    | none => exact oj_none
    | some v => exact oj_pv (ov_mv (.inr ho) hx)
  · rename_i ho; exact oj_bv fun vc hc => oj_bv fun va ha => oj_bv fun vb hb => oj_pv (ov_pk ho hc ha hb)
  · rename_i ho
    split
    · rename_i hz; exact OJ.ofS (os_al ho (zeroCells_spec hz))
    · exact oj_none
  · rename_i ho; exact oj_bv fun v hv => oj_box ho hv
  · rename_i ho
    split
    · rename_i hz hp
      obtain ⟨h1, h2⟩ := zsOf_spec hz
      exact oj_pv (ov_mkA ho h1 h2 hp)
    · exact oj_none
  · rename_i ho
    split
    · rename_i hz hp
      exact oj_chk fun hb => OJ.ofS (os_mkS ho (rowT_spec hz).sliceZ (ble_le hb) hp)
    · exact oj_none
  · rename_i ho; exact oj_bv fun v hv => oj_ld ho hv
  · rename_i ho; exact oj_bv fun va ha => oj_bv fun vx hx => oj_p0 (os_st ho ha hx)
  · rename_i ho; exact oj_bv fun v hv => oj_pv (ov_nlc ho hv)
  · rename_i ho; exact oj_bv fun vx hx => oj_bv fun vy hy => oj_pv (ov_bin ho hx hy)
  · rename_i ho; exact oj_bv fun v hv => oj_pv (ov_uop ho hv)
  · rename_i ho; exact oj_bv fun v hv => oj_pv (ov_cv ho hv)
  · rename_i ho; exact oj_chk fun hc => oj_bv fun v hv => OJ.ofV (ov_mi ho hc hv)
  · rename_i ho; exact oj_bl fun vf hf => oj_bl fun vc hc => OJ.ofV (ov_mf ho hf hc)
  · rename_i ho; exact OJ.ofS (os_mkM ho)
  · rename_i ho
    refine oj_bv fun vl hl => oj_bv fun vc hc => ?_
    split
    · rename_i hr; exact oj_or (OJ.ofS (os_mkZ ho (rowT_spec hr) hl hc)) (OJ.ofS (os_mkX ho (rowT_spec hr) hl hc))
    · exact oj_none
  · rename_i ho
    refine oj_bv fun v hv => ?_
    split
    · rename_i h1 h2 h3; exact oj_pv (ov_sl ho hv h1 h2 h3)
    · exact oj_none
  · rename_i ho; exact oj_bv fun v hv => oj_pv (ov_padE ho hv)
  · rename_i ho; exact oj_bv fun v hv => oj_pv (ov_fd ho hv)
  · rename_i ho; exact oj_bv fun v hv => oj_bv fun vi hi => oj_pv (ov_ixE ho hv hi)
  · rename_i ho; exact oj_bv fun v hv => oj_bv fun vi hi => oj_pv (ov_ix ho hv hi)
  · rename_i ho
    refine oj_bv fun vm hm => oj_bv fun vk hk => ?_
    split
    · rename_i hr; exact oj_pv (ov_mpG ho (mapT_spec hr) hm hk)
    · split
      · rename_i hr; exact oj_pv (ov_mpGI ho (mapTI_spec hr) hm hk)
      · exact oj_none
  · rename_i ho
    refine oj_bv fun vm hm => oj_bv fun vk hk => oj_bv fun vx hx => ?_
    split
    · rename_i hr; exact oj_p0 (os_mpS ho (mapT_spec hr) hm hk hx)
    · split
      · rename_i hr; exact oj_p0 (os_mpSI ho (mapTI_spec hr) hm hk hx)
      · exact oj_none
  · rename_i ho; exact oj_bv fun v hv => oj_pv (ov_tyaE ho hv)
  · rename_i ho; exact oj_bv fun v hv => oj_pv (ov_ext ho hv)
  · rename_i ho; exact oj_evC HC ho
  · exact oj_none
end
end Go.Eng
