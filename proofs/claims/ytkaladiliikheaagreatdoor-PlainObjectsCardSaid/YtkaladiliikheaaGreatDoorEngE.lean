/- The engine, part E: structs, slices, texts, numbers, comparisons. -/
import Derived.Test.YtkaladiliikheaaGreatDoorEngD
set_option linter.unusedVariables false
set_option linter.unusedSimpArgs false
set_option linter.unusedSectionVars false
namespace Go.Eng
open Go
variable [Toks]

section
variable {P : Program} {o : Oper} {kn : KN} {s : S}

theorem part1_run {ρ : Ren} {t off : Nat} {l l' : List Value} {u : Value} (hc : chk1 P t = true) (hl : LR ρ l l') (hu : l[off]? = some u) (w : World) :
    ∃ u', (part t ⟨l'⟩ off).run P w = .ok u' w ∧ VR ρ u u' := by
  obtain ⟨hagg, i, hi, hsz⟩ := chk1_spec hc
  obtain ⟨u', e, hv⟩ := hl.at off u hu
  refine ⟨u', ?_, hv⟩
  have : (⟨l'⟩ : Array Value)[off]? = some u' := by simpa using e
  simp [part, hagg, this]
theorem partN_run {ρ : Ren} {t off n : Nat} {l l' r : List Value} (hc : chkN P t n = true) (hl : LR ρ l l') (hr : sub l off n = some r) (w : World) :
    ∃ r', (part t ⟨l'⟩ off).run P w = .ok (.agg ⟨r'⟩) w ∧ LR ρ r r' := by
  obtain ⟨hagg, i, hi, hsz⟩ := chkN_spec hc
  obtain ⟨h1, h2⟩ := sub_some hr
  refine ⟨(l'.drop off).take n, ?_, by rw [h2]; exact (hl.drop off).take n⟩
  have e : (⟨l'⟩ : Array Value).extract off (off + n) = ⟨(l'.drop off).take n⟩ := by
    apply Array.ext'
    simp [Array.toList_extract]
  simp [part, hagg, sizeOf, typeInfo, hi, hsz, e]

omit [Toks] in
def fieldAt? (P : Program) (t f : Nat) : Option Field := match P.underlying t with
  | some (.struct fs) => fs[f]?
  | _ => none
theorem fieldAt_spec {t f : Nat} {g : Field} (h : fieldAt? P t f = some g) : ∃ fs, P.underlying t = some (.struct fs) ∧ fs[f]? = some g := by
  unfold fieldAt? at h
  split at h
  · exact ⟨_, by assumption, h⟩
  · cases h
omit [Toks] in
def chkFd1 (P : Program) (t f off : Nat) : Bool := match fieldAt? P t f with
  | some g => Nat.beq g.offset off && chk1 P g.type
  | none => false
omit [Toks] in
def chkFdN (P : Program) (t f off n : Nat) : Bool := match fieldAt? P t f with
  | some g => Nat.beq g.offset off && chkN P g.type n
  | none => false
theorem ov_fd1 {t f off : Nat} {x : Operand} {vx : Value} (ho : o.op = .field t x f) (hc : chkFd1 P t f off = true) (hx : opv P kn x = some vx) : OV P o kn s (fd1 off vx) := by
  intro ρ act w u hw ht hu
  have h1 := opv_eval hw ht hx
  unfold chkFd1 at hc
  split at hc
  · rename_i g hg
    obtain ⟨fs, h2, h3⟩ := fieldAt_spec hg
    simp only [Bool.and_eq_true] at hc
    have hoff := Nat.eq_of_beq_eq_true hc.1
    unfold fd1 at hu
    split at hu
    · generalize hq : act.eval x = q at *
      cases h1 with
      | agg l l' hl =>
        obtain ⟨u', hr, hv⟩ := part1_run hc.2 hl hu w
        refine ⟨u', ?_, hv⟩
        rw [← hoff] at hr
        simp [execOp, ho, hq, Instr.field, underlying, h2, h3, asAgg, hr]
    · cases hu
  · cases hc
theorem ov_fdN {t f off n : Nat} {x : Operand} {vx : Value} (ho : o.op = .field t x f) (hc : chkFdN P t f off n = true) (hx : opv P kn x = some vx) : OV P o kn s (fdN off n vx) := by
  intro ρ act w u hw ht hu
  have h1 := opv_eval hw ht hx
  unfold chkFdN at hc
  split at hc
  · rename_i g hg
    obtain ⟨fs, h2, h3⟩ := fieldAt_spec hg
    simp only [Bool.and_eq_true] at hc
    have hoff := Nat.eq_of_beq_eq_true hc.1
    unfold fdN at hu
    split at hu
    · rename_i cs
      generalize hq : act.eval x = q at *
      cases h1 with
      | agg l l' hl =>
        rw [Option.map_eq_some_iff] at hu
        obtain ⟨r, hr, rfl⟩ := hu
        obtain ⟨r', hr', hv⟩ := partN_run hc.2 hl hr w
        refine ⟨_, ?_, .agg _ _ hv⟩
        rw [← hoff] at hr'
        simp [execOp, ho, hq, Instr.field, underlying, h2, h3, asAgg, hr']
    · cases hu
  · cases hc

omit [Toks] in
def chkIn1 (P : Program) (t len n : Nat) : Bool := match P.underlying t with
  | some (.array l e) => Nat.beq l len && chk1 P e && (match P.info? e with | some i => Nat.beq i.size n | none => false)
  | _ => false
omit [Toks] in
def chkInN (P : Program) (t len n : Nat) : Bool := match P.underlying t with
  | some (.array l e) => Nat.beq l len && chkN P e n
  | _ => false
theorem ov_in1 {t len n : Nat} {x i : Operand} {vx vi : Value} (ho : o.op = .index t x i) (hc : chkIn1 P t len n = true) (hx : opv P kn x = some vx) (hi : opv P kn i = some vi) : OV P o kn s (in1 len n vx vi) := by
  intro ρ act w u hw ht hu
  have h1 := opv_eval hw ht hx
  have h2 := opv_eval hw ht hi
  unfold chkIn1 at hc
  split at hc
  · rename_i l e he
    simp only [Bool.and_eq_true] at hc
    obtain ⟨⟨hc0, hc1⟩, hc2⟩ := hc
    have := Nat.eq_of_beq_eq_true hc0
    subst this
    split at hc2
    · rename_i info hinfo
      have hn := Nat.eq_of_beq_eq_true hc2
      unfold in1 at hu
      split at hu
      · rename_i cs k j
        cases hb : Nat.blt j l with
        | false => rw [hb] at hu; cases hu
        | true =>
          rw [hb, cond_true] at hu
          have hlt := blt_lt hb
          generalize hq : act.eval x = q at *
          generalize hp : act.eval i = p at *
          cases h2
          cases h1 with
          | agg l1 l2 hl =>
            obtain ⟨u', hr, hv⟩ := part1_run hc1 hl hu w
            refine ⟨u', ?_, hv⟩
            simp [execOp, ho, hq, hp, Instr.index, asIntOf, underlying, he, hlt, sizeOf, typeInfo, hinfo, hn, hr]
      · cases hu
    · cases hc2
  · cases hc
theorem ov_inN {t len n : Nat} {x i : Operand} {vx vi : Value} (ho : o.op = .index t x i) (hc : chkInN P t len n = true) (hx : opv P kn x = some vx) (hi : opv P kn i = some vi) : OV P o kn s (inN len n vx vi) := by
  intro ρ act w u hw ht hu
  have h1 := opv_eval hw ht hx
  have h2 := opv_eval hw ht hi
  unfold chkInN at hc
  split at hc
  · rename_i l e he
    simp only [Bool.and_eq_true] at hc
    obtain ⟨hc0, hc1⟩ := hc
    have := Nat.eq_of_beq_eq_true hc0
    subst this
    obtain ⟨_, info, hinfo, hn⟩ := chkN_spec hc1
    unfold inN at hu
    split at hu
    · rename_i cs k j
      cases hb : Nat.blt j l with
      | false => rw [hb] at hu; cases hu
      | true =>
        rw [hb, cond_true, Option.map_eq_some_iff] at hu
        obtain ⟨r, hr, rfl⟩ := hu
        have hlt := blt_lt hb
        generalize hq : act.eval x = q at *
        generalize hp : act.eval i = p at *
        cases h2
        cases h1 with
        | agg l1 l2 hl =>
          obtain ⟨r', hr', hv⟩ := partN_run hc1 hl hr w
          refine ⟨_, ?_, .agg _ _ hv⟩
          simp [execOp, ho, hq, hp, Instr.index, asIntOf, underlying, he, hlt, sizeOf, typeInfo, hinfo, hn, hr']
    · cases hu
  · cases hc
omit [Toks] in
def chkStr (P : Program) (t : Nat) : Bool := match P.underlying t with | some .string => true | _ => false
theorem chkStr_spec {t : Nat} (h : chkStr P t = true) : P.underlying t = some .string := by
  unfold chkStr at h
  split at h
  · assumption
  · cases h
theorem ov_ixT {t : Nat} {x i : Operand} {vx vi : Value} (ho : o.op = .index t x i) (hc : chkStr P t = true) (hx : opv P kn x = some vx) (hi : opv P kn i = some vi) : OV P o kn s (ixT vx vi) := by
  intro ρ act w u hw ht hu
  have h1 := opv_eval hw ht hx
  have h2 := opv_eval hw ht hi
  have he := chkStr_spec hc
  unfold ixT at hu
  split at hu
  · rename_i b k j
    rw [Option.map_eq_some_iff] at hu
    obtain ⟨c, hcc, rfl⟩ := hu
    generalize hq : act.eval x = q at *
    generalize hp : act.eval i = p at *
    cases h1
    cases h2
    have hj := (List.getElem?_eq_some_iff.1 hcc)
    obtain ⟨hj1, hj2⟩ := hj
    have hj3 : j < b.size := by simpa using hj1
    have e : b[j]? = some c := by
      rw [getElem?_pos b j hj3]
      congr 1
    refine ⟨_, ?_, .int _ _⟩
    simp [execOp, ho, hq, hp, Instr.index, asIntOf, underlying, he, e]
  · cases hu

/-! ### Slices of slices, texts and arrays -/
omit [Toks] in
noncomputable def opvo (P : Program) (kn : KN) : Option Operand → Option (Option Value)
  | none => some none
  | some x => match opv P kn x with | some v => some (some v) | none => none
/-- A bound as the model has it. -/
def Bd (v' : Option Value) (d n : Nat) : Prop := match v' with | none => n = d | some v => ∃ k, v = .int k n
theorem opvo_bd {ρ : Ren} {act : Act} {w : World} (hw : WR P ρ s w) (ht : TM ρ kn act.tmps) {x : Option Operand} {v : Option Value} {d n : Nat} (h : opvo P kn x = some v) (hb : bnd v d = some n) : Bd (x.map act.eval) d n := by
  cases x with
  | none => cases h; cases hb; rfl
  | some y =>
    simp only [opvo] at h
    split at h
    · rename_i vy hy
      cases h
      have h1 := opv_eval hw ht hy
      unfold bnd at hb
      split at hb
      · rename_i h; cases h
      · rename_i k m h
        cases h; cases hb
        generalize hq : act.eval y = q at *
        cases h1
        exact ⟨k, by simp [hq]⟩
      · cases hb
    · cases h
theorem bounds_run {lo hi : Option Value} {len cap h l : Nat} (hh : Bd hi len h) (hl : Bd lo 0 l) (h1 : l ≤ h) (h2 : h ≤ cap) (b : Bool) (w : World) : (Instr.sliceBounds b len cap lo hi none).run P w = .ok (l, h, cap) w := by
  cases hi with
  | none =>
    cases hh
    cases lo with
    | none => cases hl; simp [Instr.sliceBounds]
    | some v => obtain ⟨k, rfl⟩ := hl; simp [Instr.sliceBounds, Instr.sliceBound, asIntOf, h1]
  | some v =>
    obtain ⟨k, rfl⟩ := hh
    cases lo with
    | none => cases hl; simp [Instr.sliceBounds, Instr.sliceBound, asIntOf, h2]
    | some v => obtain ⟨k', rfl⟩ := hl; simp [Instr.sliceBounds, Instr.sliceBound, asIntOf, h1, h2]

theorem bnd_split {x y : Option Nat} {f : Nat → Nat → Option Value} {u : Value} (h : (match x, y with | some a, some b => f a b | _, _ => none) = some u) : ∃ a b, x = some a ∧ y = some b ∧ f a b = some u := by
  split at h
  · exact ⟨_, _, rfl, rfl, h⟩
  · cases h

theorem ov_slS {t n : Nat} {x : Operand} {lo hi : Option Operand} {vx : Value} {vlo vhi : Option Value} (ho : o.op = .slice t x lo hi none) (hc : chkSlice P t n = true) (hx : opv P kn x = some vx) (hlo : opvo P kn lo = some vlo) (hhi : opvo P kn hi = some vhi) : OV P o kn s (slS n vx vlo vhi) := by
  intro ρ act w u hw ht hu
  have h1 := opv_eval hw ht hx
  obtain ⟨e, info, he, hinfo, hn⟩ := chkSlice_spec hc
  unfold slS at hu
  split at hu
  · rename_i p len c
    split at hu
    · rename_i h l hh hl
      cases hb : (Nat.ble l h && Nat.ble h len) with
      | false => rw [hb] at hu; cases hu
      | true =>
        rw [hb, cond_true] at hu
        simp only [Bool.and_eq_true] at hb
        have hlh := ble_le hb.1
        have hhl := ble_le hb.2
        have b1 := opvo_bd hw ht hhi hh
        have b2 := opvo_bd hw ht hlo hl
        generalize hq : act.eval x = q at *
        cases h1 with
        | nilS =>
          cases hu
          have hl0 : l = 0 := by omega
          have hh0 : h = 0 := by omega
          subst hl0; subst hh0
          have hr := bounds_run (P := P) (cap := 0) b1 b2 (Nat.le_refl _) (Nat.le_refl _) true w
          refine ⟨.slice none 0 0, ?_, .nilS⟩
          simp [execOp, ho, hq, Instr.sliceAt, Instr.slice, underlying, he, hr, sizeOf, typeInfo, hinfo]
        | sl id off len c pl a' c' e1 e2 e3 e4 e5 =>
          have hr := bounds_run (P := P) (cap := c') b1 b2 hlh (by omega) true w
          simp only at hu
          cases hcc : (Nat.beq c 0 || Nat.beq c n || Nat.ble ng c) with
          | false => rw [hcc] at hu; cases hu
          | true =>
            rw [hcc, cond_true] at hu
            cases hu
            refine ⟨.slice (some (if c' = l then a' else a'.add (l * n))) (h - l) (c' - l), ?_, ?_⟩
            · simp only [execOp, ho, hq, Instr.sliceAt, Instr.slice, underlying, Sem.run_bind, Sem.run_pure, Result.andThen_ok, run_program, he, hr, sizeOf, typeInfo, hinfo, hn, Option.map_none]
              split <;> rfl
            · refine .sl id (off + l * n) (h - l) c pl _ (c' - l) e1 (by omega) (fun h0 => by rw [e3 h0]; omega) (fun hne => ?_) (fun h0 hng => ?_)
              · rw [if_neg (by omega), e4 (by omega), addr_add, Nat.add_assoc]
              · have hcn : c = n := by
                  simp only [Bool.or_eq_true] at hcc
                  rcases hcc with (h' | h') | h'
                  · exact absurd (Nat.eq_of_beq_eq_true h') h0
                  · exact Nat.eq_of_beq_eq_true h'
                  · have := ble_le h'; omega
                obtain ⟨L, hL, hLc⟩ := e5 h0 hng
                refine ⟨L, hL, ?_⟩
                rw [← hLc, hcn, Nat.add_assoc, ← Nat.add_mul]
                congr 2; omega
    · cases hu
  · cases hu
end
end Go.Eng
