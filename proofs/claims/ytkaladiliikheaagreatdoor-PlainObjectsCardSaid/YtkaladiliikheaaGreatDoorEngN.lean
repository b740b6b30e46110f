/- The engine, part N: calls. -/
import Derived.Test.YtkaladiliikheaaGreatDoorEngM2
set_option linter.unusedVariables false
set_option linter.unusedSectionVars false
set_option linter.unusedSimpArgs false
namespace Go.Eng
open Go
variable [Toks]

/-- What a call comes to: a value that is related to 'v', and a world that 's'' stands for. -/
def Post (P : Program) (ρ : Ren) (s : S) (w : World) (v : Value) (s' : S) : Ending → World → Prop := fun e w' => ∃ ρ' v', e = .returned v' ∧ VR ρ' v v' ∧ Stp P ρ s w ρ' s' w'
def EC (P : Program) (f : Nat) (l : List Value) (s : S) (v : Value) (s' : S) : Prop :=
  ∀ (ρ : Ren) (w : World) (l' : List Value), WR P ρ s w → LR ρ l l' → Calls P f ⟨l'⟩ w (Post P ρ s w v s')
/-- What a function of the engine says of a function of the program. -/
def FS (P : Program) (f : Nat) (F : List Value → S → R) : Prop := ∀ l s v s', F l s = some (v, s') → EC P f l s v s'

section
variable {P : Program} {o : Oper} {kn : KN} {s : S}

def chkFn (P : Program) (f : Nat) : Prop := ∃ fn, P.funcs[f]? = some fn ∧ fn.body.isSome = true ∧ (fn.name == "runtime.NumGoroutine") = false
theorem run_callFunc_in {f : Nat} (h : chkFn P f) (args : Array Value) (w : World) : (callFunc f args).run P w = .ok (.enter f args) w := by
  obtain ⟨fn, hf, hb, hn⟩ := h
  have h1 : fn.name ≠ "runtime.NumGoroutine" := by simpa using hn
  obtain ⟨c, hc⟩ := Option.isSome_iff_exists.1 hb
  simp [callFunc, hf, h1, hc]
/-- A call's way on. -/
theorem oj_enter {ρ : Ren} {w : World} {act : Act} {f : Nat} {l l' : List Value} {v : Value} {s' : S} {K : Act → World → Prop} {Q : Exit → Act → World → Prop}
    (he : (execOp act.eval o).run P w = .ok (.enter f ⟨l'⟩) w) (hc : EC P f l s v s') (hw : WR P ρ s w) (hl : LR ρ l l')
    (hK : ∀ ρ' v' w', Stp P ρ s w ρ' s' w' → VR ρ' v v' → K (act.put o.dst v') w') : o.wp P act w K Q := by
  unfold Oper.wp
  rw [he, Oper.upon_enter]
  refine Calls.mono (hc ρ w l' hw hl) fun e w' hp => ?_
  obtain ⟨ρ', v', rfl, hv, hs⟩ := hp
  exact hK ρ' v' w' hs hv

omit [Toks] in
/-- The operands of a call. -/
noncomputable def ops' (P : Program) (kn : KN) : List Operand → Option (List Value)
  | [] => some []
  | x :: xs => (match opv P kn x, ops' P kn xs with | some v, some l => some (v :: l) | _, _ => none)
theorem ops'_eval {ρ : Ren} {w : World} {act : Act} (hw : WR P ρ s w) (ht : TM ρ kn act.tmps) : ∀ {xs : List Operand} {l : List Value}, ops' P kn xs = some l → LR ρ l (xs.map act.eval)
  | [], _, h => by cases h; exact .nil
  | x :: xs, l, h => by
    simp only [ops'] at h
    split at h
    · rename_i v l' hv hl
      cases h
      exact .cons _ _ _ _ (opv_eval hw ht hv) (ops'_eval hw ht hl)
    · cases h
theorem exec_call {act : Act} {g : Nat} {xs : Array Operand} {ats : Array TypeId} (ho : o.op = .call { callee := .value (.func g), args := xs, argTypes := ats }) : execOp act.eval o = callFunc g (xs.map act.eval) := by
  have ef : act.eval (.func g) = .func (.func g) #[] #[] := rfl
  unfold execOp
  simp [ho, resolve, Deferred.ofValue, invoke, ef]
theorem oj_call {g : Nat} {xs : Array Operand} {ats : Array TypeId} {F : List Value → S → R} {l : List Value} (ho : o.op = .call { callee := .value (.func g), args := xs, argTypes := ats }) (hf : chkFn P g) (hF : FS P g F) (hl : ops' P kn xs.toList = some l) : OJ P o kn s (F l s) := by
  intro ρ act w v s' K Q hw ht hx hK
  refine oj_enter (l := l) (l' := xs.toList.map act.eval) ?_ (hF l s v s' hx) hw (ops'_eval hw ht hl) hK
  rw [exec_call ho, run_callFunc_in hf]
  congr 2
  apply Array.ext'; simp

/-! ### Calls that only compute -/
theorem own_fresh {s : S} {id : Nat} (h : (S.own ⟨s.hp, s.nx, s.sd, s.nx, s.sd⟩ id) = true) : s.free id := by
  unfold S.own at h
  simp only [Bool.and_eq_true] at h
  have h1 := Nat.le_of_ble_eq_true h.1
  have h2 := Nat.eq_of_beq_eq_true h.2
  refine ⟨(id - s.nx) / s.sd, ?_⟩
  have h3 : (id - s.nx) % s.sd = 0 := h2
  have := Nat.div_add_mod (id - s.nx) s.sd
  rw [h3, Nat.mul_comm] at this
  have h1' : s.nx ≤ id := h1
  omega
theorem WR.fresh {ρ : Ren} {w : World} (h : WR P ρ s w) : WR P ρ ⟨s.hp, s.nx, s.sd, s.nx, s.sd⟩ w := ⟨h.obj, h.inj, h.free, h.sd, h.glob⟩
theorem Stp.pure {ρ ρ' : Ren} {w w' : World} {s' : S} (hw : WR P ρ s w) (h : Stp P ρ ⟨s.hp, s.nx, s.sd, s.nx, s.sd⟩ w ρ' s' w') : Stp P ρ s w ρ s w' := by
  have hfr : ∀ b, b < w.heap.size → w'.heap[b]? = w.heap[b]? := fun b hb => h.frame b hb fun id o pl e ho _ => by
    have := hw.free_get (own_fresh ho)
    have e' : s.get id = some o := e
    rw [this] at e'; cases e'
  have hwr : WR P ρ s w' := hw.world fun id o pl e hp => by
    obtain ⟨pl', hp', ho⟩ := hw.obj id o e
    rw [hp] at hp'; cases hp'
    exact hfr _ ho.lt
  exact ⟨hwr, fun _ h => h, rfl, rfl, rfl, Ext.refl ρ, fun _ => .inl rfl, fun _ h => absurd rfl h, fun id o pl e1 e2 _ => ⟨id, o, pl, e1, e2, rfl, fun h => absurd rfl h⟩, h.tape, h.os, h.output, h.size, fun b hb _ => hfr b hb⟩
theorem oj_pc {g : Nat} {xs : Array Operand} {ats : Array TypeId} {F : List Value → S → R} {l : List Value} (ho : o.op = .call { callee := .value (.func g), args := xs, argTypes := ats }) (hf : chkFn P g) (hF : FS P g F) (hl : ops' P kn xs.toList = some l) :
    OJ P o kn s ((pc (F l) s).map fun v => (v, s)) := by
  intro ρ act w v s' K Q hw ht hx hK
  rw [Option.map_eq_some_iff] at hx
  obtain ⟨u, hu, he⟩ := hx
  cases he
  unfold pc at hu
  split at hu
  · rename_i v0 s1 hFl
    cases hn : noid 3 v0 with
    | false => rw [hn] at hu; cases hu
    | true =>
      rw [hn, cond_true] at hu
      cases hu
      refine oj_enter (s := ⟨s.hp, s.nx, s.sd, s.nx, s.sd⟩) (l := l) (l' := xs.toList.map act.eval) ?_ (hF l _ _ _ hFl) hw.fresh (ops'_eval hw ht hl) fun ρ' v' w' hs hv => hK ρ v' w' (hs.pure hw) (noid_VR hs.ext 3 _ _ hn hv)
      rw [exec_call ho, run_callFunc_in hf]
      congr 2
      apply Array.ext'; simp
  · cases hu
/-! ### Closures and methods -/
def DynS (P : Program) (D : Value → List Value → S → R) : Prop :=
  ∀ v l s r s', D v l s = some (r, s') → ∃ g f c, v = .func (.func g) ⟨f⟩ ⟨c⟩ ∧ chkFn P g ∧ EC P g (f ++ l ++ c) s r s'
theorem oj_dyn {x : Operand} {xs : Array Operand} {ats : Array TypeId} {D : Value → List Value → S → R} {l : List Value} {vx : Value} (ho : o.op = .call { callee := .value x, args := xs, argTypes := ats })
    (hx : opv P kn x = some vx) (hD : DynS P D) (hl : ops' P kn xs.toList = some l) : OJ P o kn s (D vx l s) := by
  intro ρ act w v s' K Q hw ht hh hK
  obtain ⟨g, f, c, rfl, hf, hec⟩ := hD _ _ _ _ _ hh
  have h1 := opv_eval hw ht hx
  generalize hq : act.eval x = q at *
  cases h1 with
  | func fn f c f' c' hf1 hc1 =>
    refine oj_enter (l := f ++ l ++ c) (l' := f' ++ xs.toList.map act.eval ++ c') ?_ hec hw ((hf1.append (ops'_eval hw ht hl)).append hc1) hK
    have : execOp act.eval o = callFunc g (⟨f'⟩ ++ xs.map act.eval ++ ⟨c'⟩) := by
      unfold execOp
      simp [ho, resolve, Deferred.ofValue, invoke, hq]
    rw [this, run_callFunc_in hf]
    congr 2
    apply Array.ext'; simp
def IvS (P : Program) (name : String) (D : Value → List Value → S → R) : Prop :=
  ∀ r l s v s', D r l s = some (v, s') → ∃ t x g, r = .iface t x ∧ (∀ (x' : Value) (args : List Value) (w : World), (callMethod (.iface t x') name ⟨args⟩).run P w = .ok (.enter g ⟨x' :: args⟩) w) ∧ EC P g (x :: l) s v s'
theorem oj_iv {x : Operand} {name : String} {xs : Array Operand} {ats : Array TypeId} {D : Value → List Value → S → R} {l : List Value} {vx : Value} (ho : o.op = .call { callee := .invoke x name, args := xs, argTypes := ats })
    (hx : opv P kn x = some vx) (hD : IvS P name D) (hl : ops' P kn xs.toList = some l) : OJ P o kn s (D vx l s) := by
  intro ρ act w v s' K Q hw ht hh hK
  obtain ⟨t, y, g, rfl, hm, hec⟩ := hD _ _ _ _ _ hh
  have h1 := opv_eval hw ht hx
  generalize hq : act.eval x = q at *
  cases h1 with
  | iface t y y' hy =>
    refine oj_enter (l := y :: l) (l' := y' :: xs.toList.map act.eval) ?_ hec hw (.cons _ _ _ _ hy (ops'_eval hw ht hl)) hK
    have e1 : (#[Value.iface t y'] ++ xs.map act.eval)[0]? = some (.iface t y') := by rw [Array.getElem?_append_left (by simp)]; rfl
    have e2 : (#[Value.iface t y'] ++ xs.map act.eval).extract 1 (#[Value.iface t y'] ++ xs.map act.eval).size = ⟨xs.toList.map act.eval⟩ := by
      apply Array.ext'
      simp only [Array.toList_extract, Array.toList_append, Array.toList_map, Array.size_append, Array.size_map, List.extract_eq_take_drop]
      simp [List.take_of_length_le]
    have : execOp act.eval o = callMethod (.iface t y') name ⟨xs.toList.map act.eval⟩ := by
      unfold execOp
      simp only [ho, resolve, hq]
      show (invoke (.fn (.method name) #[]) (#[Value.iface t y'] ++ xs.map act.eval)) = _
      unfold invoke
      simp only [e1, e2]
    rw [this, hm]
end
end Go.Eng
