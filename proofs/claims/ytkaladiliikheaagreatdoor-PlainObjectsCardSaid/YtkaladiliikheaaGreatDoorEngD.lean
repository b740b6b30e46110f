/- The engine, part D: the known temporaries; what each operation that leaves the state alone does. -/
import Derived.Test.YtkaladiliikheaaGreatDoorEngC
set_option linter.unusedVariables false
set_option linter.unusedSectionVars false
namespace Go.Eng
open Go
variable [Toks]

omit [Toks] in
noncomputable def look (kn : KN) (i : Nat) : Option Value := kn.get i
omit [Toks] in
noncomputable def ins (d : Option Tmp) (v : Value) (kn : KN) : KN := Option.rec (motive := fun _ => KN) kn (fun d => kn.put (some v) d) d
theorem look_ins (d : Tmp) (v : Value) (kn : KN) (i : Nat) : look (ins (some d) v kn) i = if i = d then some v else look kn i := T.get_put ..
def TM (ρ : Ren) (kn : KN) (tmps : Array Value) : Prop := ∀ i v, look kn i = some v → ∃ v', tmps[i]? = some v' ∧ VR ρ v v'
theorem TM.mono {ρ ρ' : Ren} {kn : KN} {tmps : Array Value} (h : TM ρ kn tmps) (hx : Ext ρ ρ') : TM ρ' kn tmps := fun i v e => by
  obtain ⟨v', e', hv⟩ := h i v e
  exact ⟨v', e', hv.mono hx⟩
omit [Toks] in
def dOk (n : Nat) (d : Option Tmp) : Bool := match d with | some d => Nat.blt d n | none => true
theorem TM.put {ρ : Ren} {kn : KN} {act : Act} {v v' : Value} (h : TM ρ kn act.tmps) (hv : VR ρ v v') (d : Option Tmp) (hd : dOk act.tmps.size d = true) : TM ρ (ins d v kn) (act.put d v').tmps := by
  cases d with
  | none => exact h
  | some d =>
    have hd' : d < act.tmps.size := by simpa [dOk, Nat.blt_eq] using hd
    intro i u e
    rw [look_ins] at e
    by_cases hi : i = d
    · subst hi
      rw [if_pos rfl] at e
      cases e
      exact ⟨v', by simp [Act.put, hd'], hv⟩
    · rw [if_neg hi] at e
      obtain ⟨u', e', hu⟩ := h i u e
      refine ⟨u', ?_, hu⟩
      simp only [Act.put]
      rw [Array.getElem?_setIfInBounds_ne (fun h => hi h.symm)]; exact e'
theorem put_size (act : Act) (d : Option Tmp) (v : Value) : (act.put d v).tmps.size = act.tmps.size := by cases d <;> simp [Act.put]
theorem put_defers (act : Act) (d : Option Tmp) (v : Value) : (act.put d v).defers = act.defers := by cases d <;> rfl

omit [Toks] in
/-- What an operand is. -/
noncomputable def opv (P : Program) (kn : KN) (x : Operand) : Option Value :=
  Operand.rec (motive := fun _ => Option Value) (fun t => kn.get t) (fun v => Bool.rec (motive := fun _ => Option Value) none (some v) (cl 5 v))
    (fun g => Bool.rec (motive := fun _ => Option Value) none (some (.pointer (some ⟨g, 0, none⟩))) (Nat.blt g P.globals.size)) (fun f => some (.func (.func f) #[] #[])) x
theorem opv_eval {P : Program} {ρ : Ren} {s : S} {w : World} {kn : KN} {act : Act} (hw : WR P ρ s w) (ht : TM ρ kn act.tmps) {x : Operand} {v : Value} (h : opv P kn x = some v) : VR ρ v (act.eval x) := by
  cases x with
  | tmp t =>
    obtain ⟨v', e, hv⟩ := ht t v h
    simp only [Act.eval]
    rw [Array.getD_eq_getD_getElem?, e]; exact hv
  | const c =>
    have h' : (Bool.rec (motive := fun _ => Option Value) none (some c) (cl 5 c) : Option Value) = some v := h
    cases hc : cl 5 c with
    | false => rw [hc] at h'; cases h'
    | true => rw [hc] at h'; cases h'; exact cl_VR 5 _ hc
  | func f => cases h; exact .func _ _ _ _ _ .nil .nil
  | global g =>
    have h' : (Bool.rec (motive := fun _ => Option Value) none (some (.pointer (some ⟨g, 0, none⟩))) (Nat.blt g P.globals.size) : Option Value) = some v := h
    cases hc : Nat.blt g P.globals.size with
    | false => rw [hc] at h'; cases h'
    | true =>
      rw [hc] at h'; cases h'
      have := hw.glob g (by simpa [Nat.blt_eq] using hc)
      exact .ptr g 0 ⟨g, 0, none⟩ this

/-- An operation that computes a value and leaves the world alone. -/
def OV (P : Program) (o : Oper) (kn : KN) (s : S) (x : Option Value) : Prop :=
  ∀ (ρ : Ren) (act : Act) (w : World) (v : Value), WR P ρ s w → TM ρ kn act.tmps → x = some v → ∃ v', (execOp act.eval o).run P w = .ok (.value v') w ∧ VR ρ v v'

section
variable {P : Program} {o : Oper} {kn : KN} {s : S}

theorem ov_mv {x : Operand} {v : Value} (ho : o.op = .move x ∨ o.op = .assign x) (hx : opv P kn x = some v) : OV P o kn s (some v) := by
  intro ρ act w u hw ht hu
  cases hu
  exact ⟨_, by rcases ho with ho | ho <;> (unfold execOp; rw [ho]; rfl), opv_eval hw ht hx⟩

theorem ov_pk {c a b : Operand} {vc va vb : Value} (ho : o.op = .pick c a b) (hc : opv P kn c = some vc) (ha : opv P kn a = some va) (hb : opv P kn b = some vb) : OV P o kn s (pk vc va vb) := by
  intro ρ act w u hw ht hu
  have h1 := opv_eval hw ht hc
  have h2 := opv_eval hw ht ha
  have h3 := opv_eval hw ht hb
  unfold pk at hu
  split at hu
  · cases hu
    generalize hq : act.eval c = q at *; cases h1
    exact ⟨_, by simp [execOp, ho, hq, asBool], h2⟩
  · cases hu
    generalize hq : act.eval c = q at *; cases h1
    exact ⟨_, by simp [execOp, ho, hq, asBool], h3⟩
  · cases hu

theorem ov_nlc {x : Operand} {vx : Value} (ho : o.op = .nilCheck x) (hx : opv P kn x = some vx) : OV P o kn s (nlc vx) := by
  intro ρ act w u hw ht hu
  have h1 := opv_eval hw ht hx
  unfold nlc at hu
  split at hu
  · cases hu
    generalize hq : act.eval x = q at *
    cases h1 with
    | ptr id off pl e => exact ⟨_, by simp [execOp, ho, hq], .ptr id off pl e⟩
  · cases hu
    generalize hq : act.eval x = q at *
    cases h1 with
    | func fn f c f' c' hf hc => exact ⟨_, by simp [execOp, ho, hq], .func _ _ _ _ _ hf hc⟩
  · cases hu
    generalize hq : act.eval x = q at *
    cases h1 with
    | iface t v v' hv => exact ⟨_, by simp [execOp, ho, hq], .iface _ _ _ hv⟩
  · cases hu

omit [Toks] in
def chkField (P : Program) (t f k : Nat) : Bool := match P.underlying t with
  | some (.struct fs) => (match fs[f]? with
    | some g => Nat.beq g.offset k && (match P.info? g.type with | some i => !(Nat.beq i.size 0) | none => false)
    | none => false)
  | _ => false
theorem ov_pad {t f k : Nat} {x : Operand} {vx : Value} (ho : o.op = .fieldAddr t x f) (hc : chkField P t f k = true) (hx : opv P kn x = some vx) : OV P o kn s (pad k vx) := by
  intro ρ act w u hw ht hu
  have h1 := opv_eval hw ht hx
  unfold chkField at hc
  split at hc
  · rename_i fs hfs
    split at hc
    · rename_i g hg
      simp only [Bool.and_eq_true] at hc
      obtain ⟨hk, hc⟩ := hc
      have hk := Nat.eq_of_beq_eq_true hk
      split at hc
      · rename_i i hi
        have hz : i.size ≠ 0 := by
          intro h; rw [h] at hc; simp at hc
        unfold pad at hu
        split at hu
        · cases hu
          generalize hq : act.eval x = q at *
          cases h1 with
          | ptr id off pl e =>
            refine ⟨.pointer (some ⟨pl.block, pl.base + off + k, none⟩), ?_, ?_⟩
            · simp [execOp, ho, hq, Instr.fieldAt, underlying, hfs, hg, Instr.sureAddr, fieldPlace, sizeOf, typeInfo, hi, hz, addr_add, hk]
            · have := VR.ptr id (off + k) pl e
              rwa [← Nat.add_assoc] at this
        · cases hu
      · cases hc
    · cases hc
  · cases hc

theorem ofNat_cast (n : Nat) : Int.ofNat n = (n : Int) := rfl

omit [Toks] in
def chkSlice (P : Program) (t n : Nat) : Bool := match P.underlying t with
  | some (.slice e) => (match P.info? e with | some i => Nat.beq i.size n | none => false)
  | _ => false
theorem chkSlice_spec {t n : Nat} (h : chkSlice P t n = true) : ∃ e i, P.underlying t = some (.slice e) ∧ P.info? e = some i ∧ i.size = n := by
  unfold chkSlice at h
  split at h
  · rename_i e he
    split at h
    · rename_i i hi
      exact ⟨e, i, he, hi, Nat.eq_of_beq_eq_true h⟩
    · cases h
  · cases h
theorem blt_lt {a b : Nat} (h : Nat.blt a b = true) : a < b := by simpa [Nat.blt_eq] using h
theorem ble_le {a b : Nat} (h : Nat.ble a b = true) : a ≤ b := Nat.le_of_ble_eq_true h

theorem ov_ixS {t n : Nat} {x i : Operand} {vx vi : Value} (ho : o.op = .indexAddr t x i) (hc : chkSlice P t n = true) (hx : opv P kn x = some vx) (hi : opv P kn i = some vi) : OV P o kn s (ixS n vx vi) := by
  intro ρ act w u hw ht hu
  have h1 := opv_eval hw ht hx
  have h2 := opv_eval hw ht hi
  obtain ⟨e, info, he, hinfo, hn⟩ := chkSlice_spec hc
  unfold ixS at hu
  split at hu
  · rename_i a len c k j
    cases hb : Nat.blt j len with
    | false => rw [hb] at hu; cases hu
    | true =>
      rw [hb, cond_true] at hu; cases hu
      have hlt := blt_lt hb
      generalize hq : act.eval x = q at *
      generalize hp : act.eval i = p at *
      cases h2
      cases h1 with
      | sl id off len c pl a' c' e1 e2 e3 e4 e5 =>
        have ha : a' = ⟨pl.block, pl.base + off, none⟩ := e4 (by omega)
        refine ⟨.pointer (some ⟨pl.block, pl.base + off + j * n, none⟩), ?_, ?_⟩
        · simp [execOp, ho, hq, hp, Instr.indexAt, asIntOf, underlying, he, sizeOf, typeInfo, hinfo, hn, hlt, ha, addr_add]
        · have := VR.ptr id (off + j * n) pl e1
          rwa [← Nat.add_assoc] at this
  · cases hu

omit [Toks] in
def chkArr (P : Program) (t len n : Nat) : Bool := match P.underlying t with
  | some (.array l e) => Nat.beq l len && (match P.info? e with | some i => Nat.beq i.size n | none => false)
  | _ => false
theorem chkArr_spec {t len n : Nat} (h : chkArr P t len n = true) : ∃ e i, P.underlying t = some (.array len e) ∧ P.info? e = some i ∧ i.size = n := by
  unfold chkArr at h
  split at h
  · rename_i l e he
    simp only [Bool.and_eq_true] at h
    obtain ⟨h0, h⟩ := h
    have := Nat.eq_of_beq_eq_true h0
    subst this
    split at h
    · rename_i i hi
      exact ⟨e, i, he, hi, Nat.eq_of_beq_eq_true h⟩
    · cases h
  · cases h
theorem ov_ixA {t len n : Nat} {x i : Operand} {vx vi : Value} (ho : o.op = .indexAddr t x i) (hc : chkArr P t len n = true) (hx : opv P kn x = some vx) (hi : opv P kn i = some vi) : OV P o kn s (ixA len n vx vi) := by
  intro ρ act w u hw ht hu
  have h1 := opv_eval hw ht hx
  have h2 := opv_eval hw ht hi
  obtain ⟨e, info, he, hinfo, hn⟩ := chkArr_spec hc
  unfold ixA at hu
  split at hu
  · rename_i a k j
    cases hb : Nat.blt j len with
    | false => rw [hb] at hu; cases hu
    | true =>
      rw [hb, cond_true] at hu; cases hu
      have hlt := blt_lt hb
      generalize hq : act.eval x = q at *
      generalize hp : act.eval i = p at *
      cases h2
      cases h1 with
      | ptr id off pl e1 =>
        refine ⟨.pointer (some ⟨pl.block, pl.base + off + j * n, none⟩), ?_, ?_⟩
        · simp [execOp, ho, hq, hp, Instr.indexAt, Instr.sureAddr, asIntOf, underlying, he, sizeOf, typeInfo, hinfo, hn, hlt, addr_add]
        · have := VR.ptr id (off + j * n) pl e1
          rwa [← Nat.add_assoc] at this
  · cases hu

theorem ov_ext {x : Operand} {i : Nat} {vx : Value} (ho : o.op = .extract x i) (hx : opv P kn x = some vx) : OV P o kn s (ext i vx) := by
  intro ρ act w u hw ht hu
  have h1 := opv_eval hw ht hx
  unfold ext at hu
  split at hu
  · rename_i vs
    generalize hq : act.eval x = q at *
    cases h1 with
    | tuple l l' hl =>
      obtain ⟨v', e, hv⟩ := hl.at i u hu
      refine ⟨v', ?_, hv⟩
      have : (⟨l'⟩ : Array Value)[i]? = some v' := by simpa using e
      simp [execOp, ho, hq, Instr.extract, this]
  · cases hu

omit [Toks] in
def chkLen (P : Program) (t : Nat) (str : Bool) : Bool := match P.underlying t with
  | some .string => str
  | some (.slice _) => !str
  | _ => false
theorem ov_lnS {t : Nat} {x : Operand} {vx : Value} (ho : o.op = .call ⟨.builtin .len, #[x], #[t]⟩) (hc : chkLen P t false = true) (hx : opv P kn x = some vx) : OV P o kn s (lnS vx) := by
  intro ρ act w u hw ht hu
  have h1 := opv_eval hw ht hx
  unfold chkLen at hc
  split at hc
  · cases hc
  · rename_i e he
    unfold lnS at hu
    split at hu
    · cases hu
      generalize hq : act.eval x = q at *
      cases h1 with
      | nilS => exact ⟨.int .i64 0, by simp [execOp, ho, resolve, invoke, builtin, Builtin.len_, hq, underlying, he, goInt], .int _ _⟩
      | sl id off len c pl a' c' e1 e2 e3 e4 e5 => exact ⟨_, by simp [execOp, ho, resolve, invoke, builtin, Builtin.len_, hq, underlying, he, goInt], .int _ _⟩
    · cases hu
  · cases hc
theorem ov_lnT {t : Nat} {x : Operand} {vx : Value} (ho : o.op = .call ⟨.builtin .len, #[x], #[t]⟩) (hc : chkLen P t true = true) (hx : opv P kn x = some vx) : OV P o kn s (lnT vx) := by
  intro ρ act w u hw ht hu
  have h1 := opv_eval hw ht hx
  unfold chkLen at hc
  split at hc
  · rename_i he
    unfold lnT at hu
    split at hu
    · cases hu
      generalize hq : act.eval x = q at *
      cases h1
      exact ⟨_, by simp [execOp, ho, resolve, invoke, builtin, Builtin.len_, hq, underlying, he, goInt], .int _ _⟩
    · cases hu
  · cases hc
  · cases hc

omit [Toks] in
def isA : TypeDesc → Bool | .struct _ | .array _ _ => true | _ => false
theorem aggr {P : Program} {t : TypeId} {d : TypeDesc} {w : World} (h : P.underlying t = some d) : (isAgg t).run P w = .ok (isA d) w := by
  unfold isAgg
  simp only [Sem.run_bind, run_underlying h, Result.andThen_ok]
  cases d <;> rfl
omit [Toks] in
def chk1 (P : Program) (t : Nat) : Bool := match P.underlying t with
  | some (.struct _) | some (.array _ _) | none => false
  | some _ => (match P.info? t with | some i => Nat.beq i.size 1 | none => false)
theorem chk1_spec {t : Nat} (h : chk1 P t = true) : (∀ w, (isAgg t).run P w = .ok false w) ∧ ∃ i, P.info? t = some i ∧ i.size = 1 := by
  unfold chk1 at h
  split at h
  · cases h
  · cases h
  · cases h
  · rename_i d h1 h2 hd
    refine ⟨fun w => (aggr hd).trans ?_, ?_⟩
    · cases d <;> first | rfl | exact (h1 _ rfl).elim | exact (h2 _ _ rfl).elim
    · split at h
      · rename_i i hi; exact ⟨i, hi, Nat.eq_of_beq_eq_true h⟩
      · cases h
omit [Toks] in
def chkN (P : Program) (t n : Nat) : Bool := match P.underlying t with
  | some (.struct _) | some (.array _ _) => (match P.info? t with | some i => Nat.beq i.size n | none => false)
  | _ => false
theorem chkN_spec {t n : Nat} (h : chkN P t n = true) : (∀ w, (isAgg t).run P w = .ok true w) ∧ ∃ i, P.info? t = some i ∧ i.size = n := by
  unfold chkN at h
  split at h
  · rename_i fs hd
    refine ⟨fun w => aggr hd, ?_⟩
    split at h
    · rename_i i hi; exact ⟨i, hi, Nat.eq_of_beq_eq_true h⟩
    · cases h
  · rename_i n e hd
    refine ⟨fun w => aggr hd, ?_⟩
    split at h
    · rename_i i hi; exact ⟨i, hi, Nat.eq_of_beq_eq_true h⟩
    · cases h
  · cases h

theorem ld1_run {ρ : Ren} {w : World} (hw : WR P ρ s w) {a a' u : Value} (ha : VR ρ a a') (hu : ld1 a s = some u) {t : TypeId} (hc : chk1 P t = true) :
    ∃ u', (Instr.loadAt t a').run P w = .ok u' w ∧ VR ρ u u' := by
  obtain ⟨hagg, i, hi, hsz⟩ := chk1_spec hc
  unfold ld1 at hu
  split at hu
  · rename_i ad
    split at hu
    · rename_i c e fr hg
      cases ha with
      | ptr id off pl e1 =>
        obtain ⟨pl', hp, C, e', fr', hC, _, hl, _⟩ := hw.obj _ _ hg
        rw [e1] at hp; cases hp
        obtain ⟨u', hu', hv⟩ := hl off u hu
        refine ⟨u', ?_, hv⟩
        have hcell : w.cell? ⟨pl.block, pl.base + off, none⟩ = some u' := by rw [cell_of hC]; simpa using hu'
        simp only [Instr.loadAt, Instr.sureAddr, loadVar, Sem.run_bind, Sem.run_pure, Result.andThen_ok, hagg, Bool.false_eq_true, if_false, run_load hcell]
    · cases hu
  · cases hu
theorem ov_ld1 {t : Nat} {x : Operand} {vx : Value} (ho : o.op = .load t x) (hc : chk1 P t = true) (hx : opv P kn x = some vx) : OV P o kn s (ld1 vx s) := by
  intro ρ act w u hw ht hu
  obtain ⟨u', h1, h2⟩ := ld1_run hw (opv_eval hw ht hx) hu hc
  exact ⟨u', by simp [execOp, ho, h1], h2⟩

theorem sub_some {l r : List Value} {off n : Nat} (h : sub l off n = some r) : off + n ≤ l.length ∧ r = (l.drop off).take n := by
  unfold sub at h
  cases hb : Nat.ble (off + n) l.length with
  | false => rw [hb] at h; cases h
  | true => rw [hb, cond_true] at h; cases h; exact ⟨ble_le hb, rfl⟩
theorem Lies.load {ρ : Ren} {P : Program} {w : World} {b base off n : Nat} {c : List Value} {C : Array Value} {e : TypeId} {fr : Nat × Nat} (hC : w.heap[b]? = some (.cells C e fr)) (h : Lies ρ base c C.toList) (hn : off + n ≤ c.length) :
    ∃ l', (loadCells ⟨b, base + off, none⟩ n).run P w = .ok l'.toArray w ∧ LR ρ ((c.drop off).take n) l' := by
  rcases Nat.eq_zero_or_pos n with h0 | h0
  · subst h0
    exact ⟨[], by simp [loadCells, loadCellsFrom], by simp; exact .nil⟩
  have hlen : base + off + n ≤ C.size := by
    obtain ⟨v', e, _⟩ := h (off + n - 1) c[off + n - 1] (List.getElem?_eq_getElem (by omega))
    have := (List.getElem?_eq_some_iff.1 e).1
    simp only [Array.length_toList] at this; omega
  refine ⟨_, run_loadCells hC _ _ hlen, LR.of (by simp; omega) fun i v v' e e' => ?_⟩
  rw [List.getElem?_take, List.getElem?_drop] at e e'
  by_cases hi : i < n
  · rw [if_pos hi] at e e'
    obtain ⟨u, eu, hu⟩ := h (off + i) v e
    rw [show base + off + i = base + (off + i) from by omega, eu] at e'
    cases e'; exact hu
  · rw [if_neg hi] at e; cases e
theorem ldL_run {ρ : Ren} {w : World} (hw : WR P ρ s w) {id off n : Nat} {l : List Value} (h : ldL id off n s = some l) {pl : Pl} (hp : ρ id = some pl) :
    ∃ l', (loadCells ⟨pl.block, pl.base + off, none⟩ n).run P w = .ok l'.toArray w ∧ LR ρ l l' := by
  unfold ldL at h
  split at h
  · rename_i c e fr hg
    obtain ⟨pl', hp', C, e', fr', hC, _, hl, _⟩ := hw.obj _ _ hg
    rw [hp] at hp'; cases hp'
    obtain ⟨h1, h2⟩ := sub_some h
    rw [h2]
    exact hl.load hC h1
  · cases h
theorem ldN_run {ρ : Ren} {w : World} (hw : WR P ρ s w) {n : Nat} {a a' u : Value} (ha : VR ρ a a') (hu : ldN n a s = some u) {t : TypeId} (hc : chkN P t n = true) :
    ∃ u', (Instr.loadAt t a').run P w = .ok u' w ∧ VR ρ u u' := by
  obtain ⟨hagg, i, hi, hsz⟩ := chkN_spec hc
  unfold ldN at hu
  split at hu
  · rename_i ad
    split at hu
    · rename_i l hl
      cases hu
      cases ha with
      | ptr id off pl e1 =>
        obtain ⟨l', h1, h2⟩ := ldL_run hw hl e1
        refine ⟨.agg l'.toArray, ?_, .agg _ _ h2⟩
        simp [Instr.loadAt, Instr.sureAddr, loadVar, hagg, sizeOf, typeInfo, hi, hsz, h1]
    · cases hu
  · cases hu
theorem ov_ldN {t n : Nat} {x : Operand} {vx : Value} (ho : o.op = .load t x) (hc : chkN P t n = true) (hx : opv P kn x = some vx) : OV P o kn s (ldN n vx s) := by
  intro ρ act w u hw ht hu
  obtain ⟨u', h1, h2⟩ := ldN_run hw (opv_eval hw ht hx) hu hc
  exact ⟨u', by simp [execOp, ho, h1], h2⟩
end
end Go.Eng
