/- The engine, part G: composite values; the other operations that leave the state alone. -/
import Derived.Test.YtkaladiliikheaaGreatDoorEngF
import Derived.Laws.Tables
set_option linter.unusedVariables false
set_option linter.unusedSectionVars false
set_option linter.unusedSimpArgs false
namespace Go.Eng
open Go
variable [Toks]

/-! ### Parts laid into zeros -/
theorem cellsE_eq (v : Value) : cellsE v = v.cells.toList := by cases v <;> rfl
theorem cellsE_LR {ρ : Ren} {v v' : Value} (h : VR ρ v v') : LR ρ (cellsE v) (cellsE v') := by
  cases h with
  | agg l l' hl => exact hl
  | bool b => exact .cons _ _ _ _ (.bool b) .nil
  | int k n => exact .cons _ _ _ _ (.int k n) .nil
  | tok k => exact .cons _ _ _ _ (.tok k) .nil
  | sls id k n c pl e h1 => exact .cons _ _ _ _ (.sls id k n c pl e h1) .nil
  | sp id m i pl e h1 => exact .cons _ _ _ _ (.sp id m i pl e h1) .nil
  | string s => exact .cons _ _ _ _ (.string s) .nil
  | nilP => exact .cons _ _ _ _ .nilP .nil
  | ptr id off pl e => exact .cons _ _ _ _ (.ptr id off pl e) .nil
  | nilS => exact .cons _ _ _ _ .nilS .nil
  | sl id off len c pl a' c' e h1 h2 h3 h4 => exact .cons _ _ _ _ (.sl id off len c pl a' c' e h1 h2 h3 h4) .nil
  | nilM => exact .cons _ _ _ _ .nilM .nil
  | map id pl e => exact .cons _ _ _ _ (.map id pl e) .nil
  | nilF => exact .cons _ _ _ _ .nilF .nil
  | func fn f c f' c' hf hc => exact .cons _ _ _ _ (.func fn f c f' c' hf hc) .nil
  | nilI => exact .cons _ _ _ _ .nilI .nil
  | iface t v v' hv => exact .cons _ _ _ _ (.iface t v v' hv) .nil
  | tuple l l' hl => exact .cons _ _ _ _ (.tuple l l' hl) .nil

inductive PR (ρ : Ren) : List (Nat × Value) → List (Nat × Value) → Prop
  | nil : PR ρ [] []
  | cons (i : Nat) (v v' : Value) (l l' : List (Nat × Value)) : VR ρ v v' → PR ρ l l' → PR ρ ((i, v) :: l) ((i, v') :: l')
inductive SR (ρ : Ren) : List (List Value) → List (List Value) → Prop
  | nil : SR ρ [] []
  | cons (z z' : List Value) (l l' : List (List Value)) : LR ρ z z' → SR ρ l l' → SR ρ (z :: l) (z' :: l')
theorem SR.flatten {ρ : Ren} : ∀ {l l' : List (List Value)}, SR ρ l l' → LR ρ l.flatten l'.flatten
  | _, _, .nil => .nil
  | _, _, .cons z z' l l' hz hl => by simp only [List.flatten_cons]; exact hz.append (SR.flatten hl)
theorem SR.at {ρ : Ren} : ∀ {l l' : List (List Value)}, SR ρ l l' → ∀ (i : Nat) (z : List Value), l[i]? = some z → ∃ z', l'[i]? = some z' ∧ LR ρ z z'
  | _, _, .nil, i, z, h => by simp at h
  | _, _, .cons z z' l l' hz hl, 0, u, h => ⟨z', rfl, by simp at h; exact h ▸ hz⟩
  | _, _, .cons z z' l l' hz hl, i + 1, u, h => by simpa using SR.at hl i u (by simpa using h)
theorem SR.set {ρ : Ren} : ∀ {l l' : List (List Value)}, SR ρ l l' → ∀ (i : Nat) {z z' : List Value}, LR ρ z z' → SR ρ (l.set i z) (l'.set i z')
  | _, _, .nil, i, _, _, h => by simp; exact .nil
  | _, _, .cons z z' l l' hz hl, 0, _, _, h => .cons _ _ _ _ h hl
  | _, _, .cons z z' l l' hz hl, i + 1, _, _, h => .cons _ _ _ _ hz (SR.set hl i h)
theorem bld_LR {ρ : Ren} : ∀ {ps ps' : List (Nat × Value)}, PR ρ ps ps' → ∀ {zs zs' : List (List Value)} {r : List Value}, SR ρ zs zs' → bld zs ps = some r → ∃ r', bld zs' ps' = some r' ∧ LR ρ r r'
  | _, _, .nil, zs, zs', r, hz, h => by
    simp only [bld, Option.some.injEq] at h ⊢
    subst h
    exact ⟨_, rfl, hz.flatten⟩
  | _, _, .cons i v v' l l' hv hl, zs, zs', r, hz, h => by
    simp only [bld] at h ⊢
    split at h
    · rename_i z hzi
      obtain ⟨z', e, hzz⟩ := hz.at i z hzi
      rw [e]
      cases hb : (Nat.beq (cellsE v).length z.length && (cellsE v).all oneC) with
      | false => rw [hb] at h; cases h
      | true =>
        rw [hb, cond_true] at h
        have hc := cellsE_LR hv
        have hb' : (Nat.beq (cellsE v').length z'.length && (cellsE v').all oneC) = true := by
          rw [← hc.length, ← hzz.length, hc.all1]; exact hb
        simp only [hb', cond_true]
        exact bld_LR hl (hz.set i hc) h
    · cases h

omit [Toks] in
/-- Where the places of some lengths lie. -/
def placesOf (zs : List (List Value)) (i : Nat) : Option (Nat × Nat) := match zs[i]? with
  | some z => some ((zs.take i).flatten.length, z.length)
  | none => none
theorem placesOf_set {zs : List (List Value)} {i j : Nat} {z c : List Value} (h : zs[i]? = some z) (hc : c.length = z.length) : placesOf (zs.set i c) j = placesOf zs j := by
  have hi := (List.getElem?_eq_some_iff.1 h).1
  have hlen : ∀ (l : List (List Value)) (i k : Nat) (z : List Value), l[i]? = some z → c.length = z.length → ((l.set i c).take k).flatten.length = (l.take k).flatten.length := by
    intro l
    induction l with
    | nil => intro i k z h _; simp at h
    | cons x l ih =>
      intro i k z h hcz
      cases k with
      | zero => simp
      | succ k =>
        cases i with
        | zero => simp at h; subst h; simp [hcz]
        | succ i => simp only [List.set_cons_succ, List.take_succ_cons, List.flatten_cons, List.length_append]; rw [ih i k z (by simpa using h) hcz]
  unfold placesOf
  by_cases hij : i = j
  · subst hij
    rw [List.getElem?_set_self hi, h, hlen zs i i z h hc]
    simp [hc]
  · rw [List.getElem?_set_ne hij]
    split
    · rw [hlen zs i j z h hc]
    · rfl

theorem foldl_set (off : Nat) : ∀ (vs : List Value) (k : Nat) (C : Array Value), off + k + vs.length ≤ C.size →
    ((vs.zipIdx k).foldl (fun cs (p : Value × Nat) => cs.setIfInBounds (off + p.2) p.1) C).toList = C.toList.take (off + k) ++ vs ++ C.toList.drop (off + k + vs.length) := by
  intro vs
  induction vs with
  | nil => intro k C h; simp
  | cons v vs ih =>
    intro k C h
    simp only [List.length_cons] at h
    simp only [List.zipIdx_cons, List.foldl_cons]
    rw [ih (k + 1) _ (by simp; omega), Array.toList_setIfInBounds, show off + (k + 1) = off + k + 1 from by omega]
    exact set_splice _ _ _ _ (by simp; omega)
theorem fill_step (off : Nat) (v : Value) (C : Array Value) (h : off + v.cells.size ≤ C.size) :
    (v.cells.zipIdx.foldl (fun cs (c, j) => cs.setIfInBounds (off + j) c) C).toList = C.toList.take off ++ v.cells.toList ++ C.toList.drop (off + v.cells.size) := by
  have := foldl_set off v.cells.toList 0 C (by simpa using h)
  rw [← Array.foldl_toList]
  simpa using this
theorem flatten_set : ∀ (zs : List (List Value)) (i : Nat) (z c : List Value), zs[i]? = some z → (zs.set i c).flatten = (zs.flatten.take (zs.take i).flatten.length) ++ c ++ zs.flatten.drop ((zs.take i).flatten.length + z.length) := by
  intro zs
  induction zs with
  | nil => intro i z c h; simp at h
  | cons x zs ih =>
    intro i z c h
    cases i with
    | zero => simp at h; subst h; simp
    | succ i =>
      simp only [List.set_cons_succ, List.flatten_cons, List.take_succ_cons, List.length_append]
      rw [ih i z c (by simpa using h)]
      have e1 : (x ++ zs.flatten).take (x.length + (zs.take i).flatten.length) = x ++ zs.flatten.take (zs.take i).flatten.length := by
        rw [List.take_append, List.take_of_length_le (by omega)]; congr 2; omega
      have e2 : (x ++ zs.flatten).drop (x.length + (zs.take i).flatten.length + z.length) = zs.flatten.drop ((zs.take i).flatten.length + z.length) := by
        rw [List.drop_append, List.drop_of_length_le (by omega), List.nil_append]; congr 1; omega
      rw [e1, e2]; simp
theorem fill_bld (place : Nat → Option (Nat × Nat)) : ∀ (ps : List (Nat × Value)) (zs : List (List Value)) (r : List Value) (C : Array Value), C.toList = zs.flatten → (∀ i, i < zs.length → place i = placesOf zs i) → bld zs ps = some r →
    ∃ R, Instr.fill place C ps = some R ∧ R.toList = r := by
  intro ps
  induction ps with
  | nil =>
    intro zs r C hC hp h
    simp only [bld, Option.some.injEq] at h
    exact ⟨C, rfl, hC.trans h⟩
  | cons p ps ih =>
    obtain ⟨i, v⟩ := p
    intro zs r C hC hp h
    simp only [bld] at h
    split at h
    · rename_i z hz
      cases hb : (Nat.beq (cellsE v).length z.length && (cellsE v).all oneC) with
      | false => rw [hb] at h; cases h
      | true =>
        rw [hb, cond_true] at h
        simp only [Bool.and_eq_true] at hb
        have hlen := Nat.eq_of_beq_eq_true hb.1
        rw [cellsE_eq] at hlen
        have hi := (List.getElem?_eq_some_iff.1 hz).1
        have hpl : place i = some ((zs.take i).flatten.length, z.length) := by rw [hp i hi]; simp [placesOf, hz]
        have hsz : v.cells.size = z.length := by simpa using hlen
        have hfit : (zs.take i).flatten.length + z.length ≤ C.size := by
          have : C.size = zs.flatten.length := by rw [← hC]; simp
          rw [this]
          have e : zs = zs.take i ++ z :: zs.drop (i + 1) := by
            have hz' : zs[i] = z := by rw [List.getElem?_eq_getElem hi] at hz; exact Option.some.inj hz
            rw [← hz', ← List.drop_eq_getElem_cons hi, List.take_append_drop]
          conv => rhs; rw [e]
          simp only [List.flatten_append, List.flatten_cons, List.length_append]; omega
        simp only [Instr.fill, hpl]
        rw [if_neg (by rw [hsz]; generalize (List.take i zs).flatten.length = q at hfit ⊢; simp; omega)]
        refine ih (zs.set i (cellsE v)) r _ ?_ ?_ h
        · rw [fill_step _ _ _ (by rw [hsz]; exact hfit), hC, flatten_set zs i z _ hz, cellsE_eq, hsz]
        · intro j hj
          rw [placesOf_set hz (by rw [cellsE_eq]; exact hlen)]
          exact hp j (by simpa using hj)
    · cases h

section
variable {P : Program} {o : Oper} {kn : KN} {s : S}

omit [Toks] in
noncomputable def opvs (P : Program) (kn : KN) : List (Nat × Operand) → Option (List (Nat × Value))
  | [] => some []
  | (i, x) :: l => match opv P kn x, opvs P kn l with
    | some v, some r => some ((i, v) :: r)
    | _, _ => none
theorem opvs_eval {ρ : Ren} {w : World} {act : Act} (hw : WR P ρ s w) (ht : TM ρ kn act.tmps) : ∀ {l : List (Nat × Operand)} {r : List (Nat × Value)}, opvs P kn l = some r → PR ρ r (l.map fun p => (p.1, act.eval p.2))
  | [], r, h => by cases h; exact .nil
  | (i, x) :: l, r, h => by
    simp only [opvs] at h
    split at h
    · rename_i v q hv hq
      cases h
      exact .cons i _ _ _ _ (opv_eval hw ht hv) (opvs_eval hw ht hq)
    · cases h
theorem SR_self {ρ : Ren} : ∀ (zs : List (List Value)), zs.all (fun z => z.all (cl 3)) = true → SR ρ zs zs
  | [], _ => .nil
  | z :: zs, h => by
    simp only [List.all_cons, Bool.and_eq_true] at h
    exact .cons _ _ _ _ (cl_LR (fun v hv => cl_VR 3 v hv) z h.1) (SR_self zs h.2)

/-- A struct's or an array's places, as the program has them. -/
def BuildAt (P : Program) (t : TypeId) (zs : List (List Value)) : Prop :=
  ∃ (place : Nat → Option (Nat × Nat)) (C : Array Value), C.toList = zs.flatten ∧ (∀ i, i < zs.length → place i = placesOf zs i) ∧ ∀ ps, P.built t ps = Instr.fill place C ps
theorem ov_mkA {t : Nat} {parts : Array (Nat × Operand)} {zs : List (List Value)} {ps : List (Nat × Value)} (ho : o.op = .build t parts) (hb : BuildAt P t zs) (hz : zs.all (fun z => z.all (cl 3)) = true) (hp : opvs P kn parts.toList = some ps) :
    OV P o kn s (mkA zs ps) := by
  intro ρ act w u hw ht hu
  obtain ⟨place, C, hC, hpl, hbt⟩ := hb
  unfold mkA at hu
  split at hu
  · rename_i l hl
    cases hu
    obtain ⟨l', hl', hll⟩ := bld_LR (opvs_eval hw ht hp) (SR_self zs hz) hl
    obtain ⟨R, hR, hRl⟩ := fill_bld place _ zs l' C hC hpl hl'
    refine ⟨.agg R, ?_, ?_⟩
    · have : P.built t (parts.map fun p => (p.1, act.eval p.2)).toList = some R := by
        rw [hbt, Array.toList_map]; exact hR
      simp [execOp, ho, run_build w t _ R this]
    · have : R = ⟨l'⟩ := Array.ext' (by rw [hRl])
      rw [this]; exact .agg _ _ hll
  · cases hu

theorem ov_uop {op : UnOp} {t : Nat} {x : Operand} {vx : Value} (ho : o.op = .unOp op t x) (hx : opv P kn x = some vx) : OV P o kn s (uop op vx) := by
  intro ρ act w u hw ht hu
  have h1 := opv_eval hw ht hx
  unfold uop at hu
  split at hu
  · generalize hq : act.eval x = q at *
    cases h1
    refine ⟨u, ?_, ?_⟩
    · have := pureV_run (P := P) hu w
      simp [execOp, ho, hq, this]
    · cases op <;> simp only [Op.unary, Op.intArith, Op.intBits, stuck, pureV] at hu <;> first | (cases hu; exact .int _ _) | cases hu
  · generalize hq : act.eval x = q at *
    cases h1
    refine ⟨u, ?_, ?_⟩
    · have := pureV_run (P := P) hu w
      simp [execOp, ho, hq, this]
    · cases op <;> simp only [Op.unary, stuck, pureV] at hu <;> first | (cases hu; exact .bool _) | cases hu
  · cases hu

omit [Toks] in
def isIntD (k : IntKind) : TypeDesc → Bool | .int k' => k' == k | _ => false
omit [Toks] in
def isD : TypeDesc → Bool := fun _ => true
theorem wrap_tok (n : Int) (h : -9223372036854775808 ≤ n ∧ n < 9223372036854775808) : IntKind.wrap .i64 n = n := by
  simp only [IntKind.wrap, IntKind.bits, IntKind.signed]
  simp
  omega
theorem ov_cvI {a b : Nat} {k : IntKind} {x : Operand} {vx : Value} (ho : o.op = .convert a b x) (ha : chkU P a isD = true) (hb : chkU P b (isIntD k) = true) (hx : opv P kn x = some vx) : OV P o kn s (cvI k vx) := by
  intro ρ act w u hw ht hu
  have h1 := opv_eval hw ht hx
  obtain ⟨da, hda, _⟩ := chkU_spec ha
  obtain ⟨db, hdb, hf⟩ := chkU_spec hb
  cases db <;> first | (simp [isIntD] at hf; done) | skip
  rename_i k'
  have hk : k' = k := by simpa [isIntD] using hf
  subst hk
  unfold cvI at hu
  split at hu
  · cases hu
    generalize hq : act.eval x = q at *
    cases h1
    exact ⟨_, by simp [execOp, ho, hq, convert, underlying, hda, hdb, Conv.intToInt], .int _ _⟩
  · rename_i tk
    split at hu
    · cases hu
      generalize hq : act.eval x = q at *
      cases h1
      refine ⟨.int .i64 (ρ.tok tk), ?_, .tok tk⟩
      simp [execOp, ho, hq, convert, underlying, hda, hdb, Conv.intToInt, wrap_tok _ (ρ.ok tk)]
    · cases hu
  · cases hu

theorem ov_mi {t : Nat} {x : Operand} {vx : Value} (ho : o.op = .makeInterface t x) (hc : P.concrete t = true) (hx : opv P kn x = some vx) : OV P o kn s (some (.iface t vx)) := by
  intro ρ act w u hw ht hu
  cases hu
  exact ⟨_, by simp [execOp, ho, run_makeInterface _ t _ hc], .iface _ _ _ (opv_eval hw ht hx)⟩

omit [Toks] in
noncomputable def opvl (P : Program) (kn : KN) : List Operand → Option (List Value)
  | [] => some []
  | x :: l => match opv P kn x, opvl P kn l with
    | some v, some r => some (v :: r)
    | _, _ => none
theorem opvl_eval {ρ : Ren} {w : World} {act : Act} (hw : WR P ρ s w) (ht : TM ρ kn act.tmps) : ∀ {l : List Operand} {r : List Value}, opvl P kn l = some r → LR ρ r (l.map act.eval)
  | [], r, h => by cases h; exact .nil
  | x :: l, r, h => by
    simp only [opvl] at h
    split at h
    · rename_i v q hv hq
      cases h
      exact .cons _ _ _ _ (opv_eval hw ht hv) (opvl_eval hw ht hq)
    · cases h
theorem ov_mf {f : FuncId} {first cap : Array Operand} {vf vc : List Value} (ho : o.op = .makeFunc (.func f) first cap) (hf : opvl P kn first.toList = some vf) (hc : opvl P kn cap.toList = some vc) : OV P o kn s (some (.func (.func f) ⟨vf⟩ ⟨vc⟩)) := by
  intro ρ act w u hw ht hu
  cases hu
  refine ⟨.func (.func f) ⟨first.toList.map act.eval⟩ ⟨cap.toList.map act.eval⟩, ?_, .func _ _ _ _ _ (opvl_eval hw ht hf) (opvl_eval hw ht hc)⟩
  have e : ∀ a : Array Operand, (⟨a.toList.map act.eval⟩ : Array Value) = a.map act.eval := fun a => Array.ext' (by simp)
  simp [execOp, ho, Instr.makeFunc, e]

omit [Toks] in
def isIfaceD : TypeDesc → Bool | .interface _ => true | _ => false
def chkTya (P : Program) (t : Nat) (z : Value) : Prop := (∃ d, P.underlying t = some d ∧ isIfaceD d = false) ∧ (∃ i, P.info? t = some i ∧ i.zero = some z) ∧ cl 3 z = true
theorem ov_tya {t xt : Nat} {x : Operand} {ok : Bool} {vx z : Value} (ho : o.op = .typeAssert x xt t ok) (hc : chkTya P t z) (hx : opv P kn x = some vx) : OV P o kn s (tya t vx z ok) := by
  intro ρ act w u hw ht hu
  have h1 := opv_eval hw ht hx
  obtain ⟨⟨d, hd, hdi⟩, ⟨i, hi, hz⟩, hcl⟩ := hc
  have hzv : (zeroValue t).run P w = .ok z w := by simp [zeroValue, typeInfo, hi, hz]
  have hund : (underlying t).run P w = .ok d w := run_underlying hd w
  unfold tya at hu
  split at hu
  · cases ok with
    | false => cases hu
    | true =>
      cases hu
      generalize hq : act.eval x = q at *
      cases h1
      refine ⟨.tuple #[z, .bool false], ?_, .tuple _ _ (.cons _ _ _ _ (cl_VR 3 z hcl) (.cons _ _ _ _ (.bool _) .nil))⟩
      cases d <;> first | (simp [isIfaceD] at hdi; done) | simp [execOp, ho, hq, Instr.typeAssert, hund, hzv]
  · rename_i ut ux
    generalize hq : act.eval x = q at *
    cases h1 with
    | iface t' v v' hv =>
    cases hb : Nat.beq ut t with
    | true =>
      rw [hb, cond_true] at hu
      have := Nat.eq_of_beq_eq_true hb
      subst this
      cases hu
      cases ok with
      | true =>
        refine ⟨.tuple #[v', .bool true], ?_, .tuple _ _ (.cons _ _ _ _ hv (.cons _ _ _ _ (.bool _) .nil))⟩
        cases d <;> first | (simp [isIfaceD] at hdi; done) | simp [execOp, ho, hq, Instr.typeAssert, hund]
      | false =>
        refine ⟨v', ?_, hv⟩
        cases d <;> first | (simp [isIfaceD] at hdi; done) | simp [execOp, ho, hq, Instr.typeAssert, hund]
    | false =>
      rw [hb, cond_false] at hu
      have hne : ut ≠ t := by intro h; subst h; simp at hb
      cases ok with
      | false => cases hu
      | true =>
        cases hu
        refine ⟨.tuple #[z, .bool false], ?_, .tuple _ _ (.cons _ _ _ _ (cl_VR 3 z hcl) (.cons _ _ _ _ (.bool _) .nil))⟩
        cases d <;> first | (simp [isIfaceD] at hdi; done) | simp [execOp, ho, hq, Instr.typeAssert, hund, hzv, hne]
  · cases hu
end
end Go.Eng
