/- The engine, part P: operations whose order is drawn. -/
import Derived.Test.YtkaladiliikheaaGreatDoorEngO2
set_option linter.unusedVariables false
set_option linter.unusedSectionVars false
set_option linter.unusedSimpArgs false
namespace Go.Eng
open Go
variable [Toks]

section
variable {P : Program} {ops : Array Oper} {Q : Exit → Act → World → Prop} {md : Region.Mode}

omit [Toks] in
/-- How many are not listed. -/
def left (L : Array Bool) : Nat := (L.toList.filter (!·)).length
theorem filt_set : ∀ (l : List Bool) (i : Nat), l[i]? = some false → ((l.set i true).filter (!·)).length < (l.filter (!·)).length := by
  intro l
  induction l with
  | nil => intro i hv; simp at hv
  | cons b l ih =>
    intro i hv
    cases i with
    | zero =>
      simp only [List.getElem?_cons_zero, Option.some.injEq] at hv
      subst hv
      simp
    | succ i =>
      simp only [List.getElem?_cons_succ] at hv
      have := ih i hv
      simp only [List.set_cons_succ, List.filter_cons]
      cases b <;> simp <;> omega
theorem left_set {L : Array Bool} {i : Nat} (h : L.getD i true = false) : left (L.setIfInBounds i true) < left L := by
  have hi : i < L.size := by
    by_cases hh : i < L.size
    · exact hh
    · rw [Array.getD_eq_getD_getElem?, Array.getElem?_eq_none (by omega)] at h; cases h
  unfold left
  rw [Array.toList_setIfInBounds]
  refine filt_set _ _ ?_
  rw [Array.getD_eq_getD_getElem?, Array.getElem?_eq_getElem hi] at h
  rw [Array.getElem?_toList, Array.getElem?_eq_getElem hi]
  simpa using h
theorem ready_spec {L : Array Bool} {i : Nat} (h : i ∈ Region.ready md ops L) : i < ops.size ∧ L.getD i true = false ∧ ∀ o, ops[i]? = some o → o.after.all (fun e => !Region.binds md e || L.getD e.on false) = true := by
  unfold Region.ready at h
  simp only [List.mem_filter, List.mem_range, Bool.and_eq_true, Bool.not_eq_true'] at h
  refine ⟨h.1, h.2.1, fun o ho => ?_⟩
  have := h.2.2
  rw [ho] at this
  simpa using this
theorem wpAny_inv (I : Array Bool → Act → World → Prop) (hstep : ∀ L a w i, I L a w → i ∈ Region.ready md ops L → wpOp P ops Q i (fun a w => I (L.setIfInBounds i true) a w) a w)
    (hend : ∀ L a w, I L a w → Region.ready md ops L = [] → Q .normal a w) : ∀ (fuel : Nat) (L : Array Bool) (a : Act) (w : World), left L ≤ fuel → I L a w → wpAny P md ops Q fuel L a w := by
  intro fuel
  induction fuel with
  | zero =>
    intro L a w hf hI
    have hr : Region.ready md ops L = [] := by
      cases hr : Region.ready md ops L with
      | nil => rfl
      | cons i r =>
        have h1 := ready_spec (md := md) (ops := ops) (L := L) (i := i) (by rw [hr]; exact List.mem_cons_self ..)
        have := left_set h1.2.1
        omega
    exact ⟨hr, hend L a w hI hr⟩
  | succ fuel ih =>
    intro L a w hf hI
    refine ⟨hend L a w hI, fun i hi => ?_⟩
    have h1 := left_set (ready_spec hi).2.1
    exact wpOp_mono (fun a w hI' => ih _ a w (by omega) hI') (hstep L a w i hI hi)
end

/-! ### Allocations that float -/
section
variable {P : Program} {o : Oper} {kn : KN}
/-- An allocation, in whatever world. -/
def OA (P : Program) (o : Oper) (kn : KN) (mk : Nat → Value) (obj : Obj) : Prop :=
  ∀ (ρ : Ren) (s : S) (act : Act) (w : World), WR P ρ s w → TM ρ kn act.tmps → ∃ O lim v', (execOp act.eval o).run P w = .ok (.value v') { w with heap := w.heap.push O } ∧
    (∀ ρ', Ext ρ ρ' → OR P ρ' ⟨w.heap.size, 0, lim⟩ { w with heap := w.heap.push O } obj) ∧ (∀ (ρ' : Ren) id, ρ' id = some ⟨w.heap.size, 0, lim⟩ → VR ρ' (mk id) v')
theorem oa_cells {ρ : Ren} {w : World} {cs cs' : List Value} {e e' : TypeId} (h : LR ρ cs cs') (lim : Option Nat) (hlim : ∀ L, lim = some L → L = cs.length) (ρ' : Ren) (hx : Ext ρ ρ') :
    OR P ρ' ⟨w.heap.size, 0, lim⟩ { w with heap := w.heap.push (.cells cs'.toArray e' (0, 0)) } (.cells cs.toArray e (0, 0)) :=
  ⟨cs'.toArray, e', (0, 0), by simp, fun _ => rfl, Lies.of_LR (h.mono hx), fun L hL => by
    have := hlim L hL
    have h2 := h.length
    simp; omega⟩
omit [Toks] in
def mkP (id : Nat) : Value := .pointer (some ⟨id, 0, none⟩)
theorem mkP_VR (ρ' : Ren) (id b : Nat) (lim : Option Nat) (h : ρ' id = some ⟨b, 0, lim⟩) : VR ρ' (mkP id) (.pointer (some ⟨b, 0, none⟩)) := by
  have := VR.ptr (ρ := ρ') id 0 _ h
  simpa [mkP] using this
theorem oa_al {t : Nat} {cs : List Value} (ho : o.op = .alloc t) (hz : ZeroAt P t cs) : OA P o kn mkP (.cells cs.toArray t (0, 0)) := by
  intro ρ s act w hw ht
  obtain ⟨⟨i, z, hi, hzz, hcs⟩, hcl⟩ := hz
  have hs : LR ρ cs cs := cl_LR (fun v hv => cl_VR 3 v hv) cs hcl
  refine ⟨.cells cs.toArray t (0, 0), none, .pointer (some ⟨w.heap.size, 0, none⟩), ?_, oa_cells hs none (fun L h => by cases h), fun ρ' id h => mkP_VR ρ' id _ _ h⟩
  have : z.cells = cs.toArray := Array.ext' (by simpa using hcs)
  simp [execOp, ho, Instr.alloc, zeroValue, typeInfo, hi, hzz, newVar, newRow, newObj, Sem.run, this]
theorem oa_box1 {t : Nat} {x : Operand} {vx : Value} (ho : o.op = .box t x) (hx : opv P kn x = some vx) (h1 : oneC vx = true) : OA P o kn mkP (.cells #[vx] t (0, 0)) := by
  intro ρ s act w hw ht
  have hv := opv_eval hw ht hx
  refine ⟨.cells #[act.eval x] t (0, 0), none, .pointer (some ⟨w.heap.size, 0, none⟩), ?_, oa_cells (cs := [vx]) (cs' := [act.eval x]) (.cons _ _ _ _ hv .nil) none (fun L h => by cases h), fun ρ' id h => mkP_VR ρ' id _ _ h⟩
  have h2 := cells_one ((oneC_eq hv).trans h1)
  simp [execOp, ho, Instr.box, newVar, newRow, newObj, Sem.run, h2]
theorem oa_boxA {t : Nat} {x : Operand} {c : Array Value} (ho : o.op = .box t x) (hx : opv P kn x = some (.agg c)) : OA P o kn mkP (.cells c t (0, 0)) := by
  intro ρ s act w hw ht
  have hv := opv_eval hw ht hx
  generalize hq : act.eval x = q at *
  cases hv with
  | agg l l' hl =>
    refine ⟨.cells ⟨l'⟩ t (0, 0), none, .pointer (some ⟨w.heap.size, 0, none⟩), ?_, oa_cells hl none (fun L h => by cases h), fun ρ' id h => mkP_VR ρ' id _ _ h⟩
    simp [execOp, ho, hq, Instr.box, newVar, newRow, newObj, Sem.run, Value.cells]
theorem oa_mkM {t : Nat} (ho : o.op = .makeMap t none) : OA P o kn (fun id => .map (some id)) (.map #[] 0) := by
  intro ρ s act w hw ht
  refine ⟨.map #[] 0, none, .map (some w.heap.size), ?_, fun ρ' hx => ⟨#[], by simp, .nil⟩, fun ρ' id h => ?_⟩
  · simp [execOp, ho, Instr.makeMap, newObj, Sem.run]
  · have := VR.map (ρ := ρ') id _ h
    simpa using this
end
end Go.Eng
