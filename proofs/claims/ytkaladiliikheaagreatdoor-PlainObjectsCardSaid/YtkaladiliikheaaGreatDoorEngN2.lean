/- The engine, part N2: rows of a length that is not known: how long, where an element lies, what it holds. -/
import Derived.Test.YtkaladiliikheaaGreatDoorEngN
set_option linter.unusedVariables false
set_option linter.unusedSectionVars false
set_option linter.unusedSimpArgs false
namespace Go.Eng
open Go
variable [Toks]

/-! ### What the oracle knows of places -/
omit [Toks] in
def yes (x : Option Value) : Bool := match x with | some (.bool true) => true | _ => false
omit [Toks] in
def no (x : Option Value) : Bool := match x with | some (.bool false) => true | _ => false
omit [Toks] in
/-- Is token 'j' a place in a row of length 'k'? -/
def inside [Orc] (j k : Nat) : Bool := yes (Orc.op .geq (.float .f64 j) (.int .i64 0)) && yes (Orc.op .lss (.float .f64 j) (.float .f64 k))
theorem geq_yes {j : Nat} (h : yes (Orc.op .geq (.float .f64 j) (.int .i64 0)) = true) : 0 ≤ Toks.tok j := by
  unfold yes at h
  split at h
  · rename_i e
    obtain ⟨_, x, y, e1, e2, e3⟩ := Toks.op_ok _ _ _ _ e
    cases e1; cases e2
    have e4 : (some (Value.bool (decide (Toks.tok j ≥ 0))) : Option Value) = some (.bool true) := e3
    simpa using e4
  · cases h
theorem lss_yes {j k : Nat} (h : yes (Orc.op .lss (.float .f64 j) (.float .f64 k)) = true) : Toks.tok j < Toks.tok k := by
  unfold yes at h
  split at h
  · rename_i e
    obtain ⟨_, x, y, e1, e2, e3⟩ := Toks.op_ok _ _ _ _ e
    cases e1; cases e2
    have e4 : (some (Value.bool (decide (Toks.tok j < Toks.tok k))) : Option Value) = some (.bool true) := e3
    simpa using e4
  · cases h
theorem leq_yes {j : Nat} {n : Int} (h : yes (Orc.op .leq (.float .f64 j) (.int .i64 n)) = true) : Toks.tok j ≤ n := by
  unfold yes at h
  split at h
  · rename_i e
    obtain ⟨_, x, y, e1, e2, e3⟩ := Toks.op_ok _ _ _ _ e
    cases e1; cases e2
    have e4 : (some (Value.bool (decide (Toks.tok j ≤ n))) : Option Value) = some (.bool true) := e3
    simpa using e4
  · cases h
theorem eql_no {j k : Nat} (h : no (Orc.op .eql (.float .f64 j) (.float .f64 k)) = true) : Toks.tok j ≠ Toks.tok k := by
  unfold no at h
  split at h
  · rename_i e
    obtain ⟨_, x, y, e1, e2, e3⟩ := Toks.op_ok _ _ _ _ e
    cases e1; cases e2
    have e4 : (some (Value.bool (Toks.tok j == Toks.tok k)) : Option Value) = some (.bool false) := e3
    simpa using e4
  · cases h
theorem inside_spec {j k : Nat} (h : inside j k = true) : ∃ i : Nat, (i : Int) = Toks.tok j ∧ ∀ n : Nat, (n : Int) = Toks.tok k → i < n := by
  unfold inside at h
  simp only [Bool.and_eq_true] at h
  have h0 := geq_yes h.1
  have h1 := lss_yes h.2
  refine ⟨(Toks.tok j).toNat, by omega, fun n hn => by omega⟩

section
variable {P : Program} {o : Oper} {kn : KN} {s : S}
omit [Toks] in
def lnX (v : Value) : Option Value := match v with | .complex .f32 _ k => some (.float .f64 k) | _ => none
theorem ov_lnX {t : Nat} {x : Operand} {vx : Value} (ho : o.op = .call ⟨.builtin .len, #[x], #[t]⟩) (hc : chkLen P t false = true) (hx : opv P kn x = some vx) : OV P o kn s (lnX vx) := by
  intro ρ act w u hw ht hu
  have h1 := opv_eval hw ht hx
  unfold chkLen at hc
  split at hc
  · cases hc
  · rename_i e he
    unfold lnX at hu
    split at hu
    · rename_i id k
      cases hu
      generalize hq : act.eval x = q at *
      cases h1 with
      | sls _ _ n c pl e1 e2 =>
        refine ⟨.int .i64 n, by simp [execOp, ho, resolve, invoke, builtin, Builtin.len_, hq, underlying, he, goInt], ?_⟩
        rw [e2]; exact .tok k
    · cases hu
  · cases hc
omit [Toks] in
def ixX [Orc] (n : Nat) (v i : Value) : Option Value := match v, i with
  | .complex .f32 id k, .float .f64 j => bif inside j k && Nat.blt n 8 then some (.complex .f64 id (8 * j + n)) else none
  | _, _ => none
theorem ov_ixX {t n : Nat} {x i : Operand} {vx vi : Value} (ho : o.op = .indexAddr t x i) (hc : chkSlice P t n = true) (hx : opv P kn x = some vx) (hi : opv P kn i = some vi) : OV P o kn s (ixX n vx vi) := by
  intro ρ act w u hw ht hu
  have h1 := opv_eval hw ht hx
  have h2 := opv_eval hw ht hi
  obtain ⟨e, info, he, hinfo, hn⟩ := chkSlice_spec hc
  unfold ixX at hu
  split at hu
  · rename_i id k j
    cases hb : (inside j k && Nat.blt n 8) with
    | false => rw [hb] at hu; cases hu
    | true =>
      rw [hb, cond_true] at hu; cases hu
      simp only [Bool.and_eq_true] at hb
      have hn8 := blt_lt hb.2
      obtain ⟨q, hq1, hq2⟩ := inside_spec hb.1
      generalize hq : act.eval x = q0 at *
      generalize hp : act.eval i = p0 at *
      cases h2
      cases h1 with
      | sls _ _ N c pl e1 e2 =>
        have hlt := hq2 N e2
        have hj : ρ.tok j = (q : Int) := hq1.symm
        refine ⟨.pointer (some ⟨pl.block, pl.base + q * n, none⟩), ?_, ?_⟩
        · simp [execOp, ho, hq, hp, hj, Instr.indexAt, asIntOf, underlying, he, sizeOf, typeInfo, hinfo, hn, hlt, addr_add]
        · have hd : (8 * j + n) / 8 = j := by omega
          have hm : (8 * j + n) % 8 = n := by omega
          have := VR.sp (ρ := ρ) id (8 * j + n) q pl e1 (by rw [hd]; exact hj.symm)
          rwa [hm] at this
  · cases hu
omit [Toks] in
/-- What stands at place 'j': what was written there last; else what stands everywhere. -/
def atX [Orc] (d : List Value) (j : Nat) : List Value → Option (List Value)
  | [] => some d
  | .tuple ⟨.float .f64 i :: vs⟩ :: r => bif Nat.beq i j then some vs else bif no (Orc.op .eql (.float .f64 i) (.float .f64 j)) then atX d j r else none
  | _ :: _ => none
theorem atX_spec {d : List Value} {j i : Nat} (hi : (i : Int) = Toks.tok j) : ∀ {ups l : List Value}, atX d j ups = some l → elemAt d ups i = l := by
  intro ups
  induction ups with
  | nil => intro l h; cases h; rfl
  | cons u r ih =>
    intro l h
    unfold atX at h
    split at h
    · rename_i e; cases e
    · rename_i q vs r' e
      cases e
      show (if Toks.tok q = (i : Int) then vs else elemAt d r i) = l
      cases hb : Nat.beq q j with
      | true =>
        rw [hb, cond_true] at h
        have := Nat.eq_of_beq_eq_true hb
        subst this
        rw [if_pos hi.symm]
        exact Option.some.inj h
      | false =>
        rw [hb, cond_false] at h
        cases hn : no (Orc.op .eql (.float .f64 q) (.float .f64 j)) with
        | false => rw [hn] at h; cases h
        | true =>
          rw [hn, cond_true] at h
          rw [if_neg (by rw [hi]; exact eql_no hn)]
          exact ih h
    · cases h
omit [Toks] in
noncomputable def symX [Orc] (id m : Nat) (s : S) : Option (List Value) := match s.get id with
  | some (.pending ⟨.float .f64 k :: .tuple ⟨d⟩ :: ups⟩ e) => bif inside (m / 8) k && Nat.beq d.length (m % 8) then atX d (m / 8) ups else none
  | _ => none
theorem symX_run {ρ : Ren} {w : World} (hw : WR P ρ s w) {id m i : Nat} {l : List Value} (h : symX id m s = some l) {pl : Pl} (hp : ρ id = some pl) (hi : (i : Int) = ρ.tok (m / 8)) :
    ∃ (C : Array Value) (e : TypeId), w.heap[pl.block]? = some (.cells C e (0, 0)) ∧ pl.base + i * (m % 8) + m % 8 ≤ C.size ∧ LR ρ l ((C.toList.drop (pl.base + i * (m % 8))).take (m % 8)) := by
  unfold symX at h
  split at h
  · rename_i k d ups e hg
    cases hb : (inside (m / 8) k && Nat.beq d.length (m % 8)) with
    | false => rw [hb] at h; cases h
    | true =>
      rw [hb, cond_true] at h
      simp only [Bool.and_eq_true] at hb
      have hd := Nat.eq_of_beq_eq_true hb.2
      obtain ⟨q, hq1, hq2⟩ := inside_spec hb.1
      have hqi : q = i := by
        have : (q : Int) = (i : Int) := hq1.trans hi.symm
        omega
      subst hqi
      obtain ⟨pl', hp', N, C, e', h1, h2, h3, h4⟩ := hw.obj _ _ hg
      rw [hp] at hp'; cases hp'
      have hlt := hq2 N h1
      rw [hd] at h3 h4
      refine ⟨C, e', h2, ?_, ?_⟩
      · have : (q + 1) * (m % 8) ≤ N * (m % 8) := Nat.mul_le_mul_right _ hlt
        rw [Nat.add_mul] at this
        omega
      · have := h4 q hlt
        rwa [atX_spec hq1 h] at this
  · cases h
omit [Toks] in
noncomputable def ldX [Orc] (n : Nat) (agg : Bool) (v : Value) (s : S) : Option Value := match v with
  | .complex .f64 id m => bif Nat.beq (m % 8) n then (match symX id m s with
    | some l => bif agg then some (.agg ⟨l⟩) else (match l with | [v] => some v | _ => none)
    | none => none) else none
  | _ => none
theorem ov_ldXN {t n : Nat} {x : Operand} {vx : Value} (ho : o.op = .load t x) (hc : chkN P t n = true) (hx : opv P kn x = some vx) : OV P o kn s (ldX n true vx s) := by
  intro ρ act w u hw ht hu
  have hv := opv_eval hw ht hx
  obtain ⟨hagg, i, hi, hsz⟩ := chkN_spec hc
  unfold ldX at hu
  split at hu
  · rename_i id m
    cases hb : Nat.beq (m % 8) n with
    | false => rw [hb] at hu; cases hu
    | true =>
      rw [hb, cond_true] at hu
      have hmn := Nat.eq_of_beq_eq_true hb
      split at hu
      · rename_i l hl
        rw [cond_true] at hu
        cases hu
        generalize hq : act.eval x = q at *
        cases hv with
        | sp _ _ j pl e1 e2 =>
          obtain ⟨C, e', h1, h2, h3⟩ := symX_run hw hl e1 e2
          have hr := run_loadCells (P := P) h1 (pl.base + j * (m % 8)) (m % 8) h2
          refine ⟨.agg _, ?_, .agg _ _ h3⟩
          rw [hmn] at hq hr ⊢
          simp [execOp, ho, hq, Instr.loadAt, Instr.sureAddr, loadVar, hagg, sizeOf, typeInfo, hi, hsz, hr]
      · cases hu
  · cases hu
theorem ov_ldX1 {t : Nat} {x : Operand} {vx : Value} (ho : o.op = .load t x) (hc : chk1 P t = true) (hx : opv P kn x = some vx) : OV P o kn s (ldX 1 false vx s) := by
  intro ρ act w u hw ht hu
  have hv := opv_eval hw ht hx
  obtain ⟨hagg, i, hi, hsz⟩ := chk1_spec hc
  unfold ldX at hu
  split at hu
  · rename_i id m
    cases hb : Nat.beq (m % 8) 1 with
    | false => rw [hb] at hu; cases hu
    | true =>
      rw [hb, cond_true] at hu
      have hmn := Nat.eq_of_beq_eq_true hb
      split at hu
      · rename_i l hl
        rw [cond_false] at hu
        split at hu
        · rename_i v
          cases hu
          generalize hq : act.eval x = q at *
          cases hv with
          | sp _ _ j pl e1 e2 =>
            obtain ⟨C, e', h1, h2, h3⟩ := symX_run hw hl e1 e2
            obtain ⟨u', g1, g2⟩ := h3.at 0 u rfl
            rw [hmn] at g1 h2
            have hcell : w.cell? ⟨pl.block, pl.base + j * 1, none⟩ = some u' := by
              rw [cell_of h1]
              rw [List.getElem?_take, if_pos Nat.zero_lt_one, List.getElem?_drop, Nat.add_zero] at g1
              simpa using g1
            refine ⟨u', ?_, g2⟩
            rw [hmn] at hq
            simp only [execOp, ho, hq, Sem.run_bind, Instr.loadAt, Instr.sureAddr, loadVar, Sem.run_pure, Result.andThen_ok, hagg, Bool.false_eq_true, if_false, run_load hcell]
        · cases hu
      · cases hu
  · cases hu
end
end Go.Eng
