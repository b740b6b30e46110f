/- The engine, part H: nil tests, structs of numbers, maps that are asked; small builtins. -/
import Derived.Test.YtkaladiliikheaaGreatDoorEngG
import Derived.Laws.StructEq
set_option linter.unusedVariables false
set_option linter.unusedSectionVars false
set_option linter.unusedSimpArgs false
namespace Go.Eng
open Go
variable [Toks]

section
variable {P : Program} {o : Oper} {kn : KN} {s : S}

omit [Toks] in
def isPtrD : TypeDesc → Bool | .pointer _ => true | _ => false
theorem eqIn_p1 (d : Nat) {t e : Nat} {a : Option Addr} {w : World} (h : P.underlying t = some (.pointer e)) : (Op.equalIn (d + 1) t (.pointer a) (.pointer none)).run P w = .ok a.isNone w := by
  cases a <;> simp [Op.equalIn, underlying, h]
theorem eqIn_p2 (d : Nat) {t e : Nat} {a : Option Addr} {w : World} (h : P.underlying t = some (.pointer e)) : (Op.equalIn (d + 1) t (.pointer none) (.pointer a)).run P w = .ok a.isNone w := by
  simp [Op.equalIn, underlying, h]
theorem eqP_any {t yt : Nat} {x y : Operand} {vx vy : Value} (hc : chkU P t isPtrD = true) (hx : opv P kn x = some vx) (hy : opv P kn y = some vy) :
    (o.op = .binOp .eql t x y yt → OV P o kn s (eqP vx vy)) ∧ (o.op = .binOp .neq t x y yt → OV P o kn s (ne (eqP vx vy))) := by
  obtain ⟨d, hd, hf⟩ := chkU_spec hc
  cases d <;> first | (simp [isPtrD] at hf; done) | skip
  refine ov_eq_of hx hy fun ρ w a b u hw h1 h2 hu => ?_
  unfold eqP at hu
  split at hu
  · cases hu; cases h2
    cases h1 <;> exact ⟨_, rfl, eqIn_p1 9999 hd, fun op => by cases op <;> rfl, rfl, rfl⟩
  · cases hu; cases h1
    cases h2 <;> exact ⟨_, rfl, eqIn_p2 9999 hd, fun op => by cases op <;> rfl, rfl, rfl⟩
  · cases hu

theorem eqIn_n0 (d : Nat) {t : Nat} {ms : Array (String × TypeId)} {w : World} (h : P.underlying t = some (.interface ms)) : (Op.equalIn (d + 1) t .nilIface .nilIface).run P w = .ok true w := by
  simp [Op.equalIn, underlying, h]
theorem eqIn_n1 (d : Nat) {t u : Nat} {v : Value} {ms : Array (String × TypeId)} {w : World} (h : P.underlying t = some (.interface ms)) : (Op.equalIn (d + 1) t (.iface u v) .nilIface).run P w = .ok false w := by
  simp [Op.equalIn, underlying, h]
theorem eqIn_n2 (d : Nat) {t u : Nat} {v : Value} {ms : Array (String × TypeId)} {w : World} (h : P.underlying t = some (.interface ms)) : (Op.equalIn (d + 1) t .nilIface (.iface u v)).run P w = .ok false w := by
  simp [Op.equalIn, underlying, h]
/-- An interface value held against the literal nil. -/
theorem eqF_any {t yt : Nat} {x : Operand} {vx : Value} (hc : chkU P t isIfaceD = true) (hx : opv P kn x = some vx) :
    (o.op = .binOp .eql t x (.const .nilIface) yt → OV P o kn s (eqF vx)) ∧ (o.op = .binOp .neq t x (.const .nilIface) yt → OV P o kn s (ne (eqF vx))) := by
  obtain ⟨d, hd, hf⟩ := chkU_spec hc
  cases d <;> first | (simp [isIfaceD] at hf; done) | skip
  have hy : opv P kn (.const .nilIface) = some .nilIface := rfl
  refine ov_eq_of hx hy fun ρ w a b u hw h1 h2 hu => ?_
  cases h2
  unfold eqF at hu
  split at hu
  · cases hu; cases h1
    exact ⟨_, rfl, eqIn_n0 9999 hd, fun op => by cases op <;> simp [eqGuard], rfl, rfl⟩
  · cases hu; cases h1
    exact ⟨_, rfl, eqIn_n1 9999 hd, fun op => by cases op <;> simp [eqGuard], rfl, rfl⟩
  · cases hu
theorem eqG_any {t yt : Nat} {y : Operand} {vy : Value} (hc : chkU P t isIfaceD = true) (hy : opv P kn y = some vy) :
    (o.op = .binOp .eql t (.const .nilIface) y yt → OV P o kn s (eqF vy)) ∧ (o.op = .binOp .neq t (.const .nilIface) y yt → OV P o kn s (ne (eqF vy))) := by
  obtain ⟨d, hd, hf⟩ := chkU_spec hc
  cases d <;> first | (simp [isIfaceD] at hf; done) | skip
  have hx : opv P kn (.const .nilIface) = some .nilIface := rfl
  refine ov_eq_of hx hy fun ρ w a b u hw h1 h2 hu => ?_
  cases h1
  unfold eqF at hu
  split at hu
  · cases hu; cases h2
    exact ⟨_, rfl, eqIn_n0 9999 hd, fun op => by cases op <;> simp [eqGuard], rfl, rfl⟩
  · cases hu; cases h2
    exact ⟨_, rfl, eqIn_n2 9999 hd, fun op => by cases op <;> simp [eqGuard], rfl, rfl⟩
  · cases hu

/-! ### Structs of whole numbers -/
omit [Toks] in
def intFields (P : Program) : Nat → List Field → Bool
  | _, [] => true
  | i, f :: fs => f.name != "_" && Nat.beq f.offset i && chk1 P f.type && chkU P f.type (fun | .int _ => true | _ => false) && intFields P (i + 1) fs
omit [Toks] in
def chkInts (P : Program) (t n : Nat) : Bool := match P.underlying t with
  | some (.struct fs) => intFields P 0 fs.toList && Nat.beq fs.size n && !(P.stoodInHeld t) && !(P.eqGuardType P.depth t)
  | _ => false
theorem eqX_spec {ρ : Ren} {a b a' b' : Value} {c : Bool} (h : eqX a b = some c) (h1 : VR ρ a a') (h2 : VR ρ b b') : ∃ k m n, a' = .int k m ∧ b' = .int k n ∧ c = (m == n) := by
  unfold eqX at h
  split at h
  · split at h
    · rename_i hk
      subst hk; cases h; cases h1; cases h2
      exact ⟨_, _, _, rfl, rfl, rfl⟩
    · cases h
  · rename_i t u
    cases hb : Nat.beq t u with
    | false => rw [hb] at h; cases h
    | true =>
      rw [hb, cond_true] at h; cases h
      have := Nat.eq_of_beq_eq_true hb
      subst this
      cases h1; cases h2
      exact ⟨_, _, _, rfl, rfl, by simp⟩
  · cases h
theorem eqFields_run {ρ : Ren} (d : Nat) : ∀ (fs : List Field) (i : Nat) (X Y : List Value) (x y x' y' : List Value) (c : Bool) (w : World), intFields P i fs = true → LR ρ x x' → LR ρ y y' → X.drop i = x' → Y.drop i = y' → fs.length = x'.length → eqXs x y = some c →
    (Op.eqFields (d + 1) ⟨X⟩ ⟨Y⟩ fs).run P w = .ok c w := by
  intro fs
  induction fs with
  | nil =>
    intro i X Y x y x' y' c w hf hx hy eX eY hl h
    cases hx with
    | nil =>
      cases hy with
      | nil => simp only [eqXs, Option.some.injEq] at h; subst h; rfl
      | cons => simp [eqXs] at h
    | cons => simp at hl
  | cons f fs ih =>
    intro i X Y x y x' y' c w hf hx hy eX eY hl h
    simp only [intFields, Bool.and_eq_true] at hf
    obtain ⟨⟨⟨⟨hf1, hf2⟩, hf3⟩, hf4⟩, hf5⟩ := hf
    have hoff := Nat.eq_of_beq_eq_true hf2
    obtain ⟨hagg, _⟩ := chk1_spec hf3
    obtain ⟨dd, hdd, hdi⟩ := chkU_spec hf4
    cases hx with
    | nil => simp at hl
    | cons a a' l l' ha hl1 =>
      cases hy with
      | nil => simp [eqXs] at h
      | cons b b' m m' hb hm1 =>
        have gX : (⟨X⟩ : Array Value)[f.offset]? = some a' := by
          rw [hoff]
          have := congrArg (fun l => l[0]?) eX
          simpa using this
        have gY : (⟨Y⟩ : Array Value)[f.offset]? = some b' := by
          rw [hoff]
          have := congrArg (fun l => l[0]?) eY
          simpa using this
        simp only [eqXs] at h
        have p1 : (part f.type ⟨X⟩ f.offset).run P w = .ok a' w := by simp [part, hagg, gX]
        have p2 : (part f.type ⟨Y⟩ f.offset).run P w = .ok b' w := by simp [part, hagg, gY]
        have hn : f.name ≠ "_" := by simpa using hf1
        have hi : ∃ k, P.underlying f.type = some (.int k) := by
          cases dd <;> first | (simp at hdi; done) | exact ⟨_, hdd⟩
        obtain ⟨kk, hkk⟩ := hi
        simp only [Op.eqFields, if_pos hn, Sem.run_bind, p1, p2, Result.andThen_ok]
        split at h
        · rename_i hab
          obtain ⟨k, n1, n2, rfl, rfl, e⟩ := eqX_spec hab ha hb
          rw [run_equalIn_int w d f.type k kk n1 n2 hkk]
          simp only [Result.andThen_ok, ← e, Bool.not_true, Bool.false_eq_true, if_false]
          refine ih (i + 1) X Y l m l' m' c w hf5 hl1 hm1 ?_ ?_ (by simpa using hl) h
          · rw [← List.drop_drop, eX]; rfl
          · rw [← List.drop_drop, eY]; rfl
        · rename_i hab
          obtain ⟨k, n1, n2, rfl, rfl, e⟩ := eqX_spec hab ha hb
          cases h
          rw [run_equalIn_int w d f.type k kk n1 n2 hkk]
          simp only [Result.andThen_ok, ← e, Bool.not_false, if_true, Sem.run_pure]
        · cases h
theorem equalInts_run {ρ : Ren} {t n : Nat} (hc : chkInts P t n = true) (d : Nat) {x y x' y' : List Value} {c : Bool} (hx : LR ρ x x') (hy : LR ρ y y') (hn : x.length = n) (h : eqXs x y = some c) (w : World) :
    (Op.equalIn (d + 2) t (.agg ⟨x'⟩) (.agg ⟨y'⟩)).run P w = .ok c w ∧ ∀ (op : BinOp) (a b : Operand), (eqGuard op t a b (.agg ⟨x'⟩) (.agg ⟨y'⟩)).run P w = .ok () w := by
  unfold chkInts at hc
  split at hc
  · rename_i fs hfs
    simp only [Bool.and_eq_true, Bool.not_eq_true'] at hc
    obtain ⟨⟨⟨h1, h2⟩, h3⟩, h4⟩ := hc
    have hfo : P.fieldsOf t = fs := by simp [Program.fieldsOf, hfs]
    constructor
    · rw [run_equalIn_struct w (d + 1) t _ _ (by rw [hfo]; exact hfs) h3, hfo]
      refine eqFields_run d fs.toList 0 x' y' x y x' y' c w h1 hx hy rfl rfl ?_ h
      have := Nat.eq_of_beq_eq_true h2
      rw [← hx.length, hn]; simpa using this
    · intro op a b
      exact run_eqGuard_agg w op t a b _ _ h4
  · cases hc
theorem eqA_any {t yt n : Nat} {x y : Operand} {vx vy : Value} (hc : chkInts P t n = true) (hx : opv P kn x = some vx) (hy : opv P kn y = some vy) :
    (o.op = .binOp .eql t x y yt → OV P o kn s (eqA n vx vy)) ∧ (o.op = .binOp .neq t x y yt → OV P o kn s (ne (eqA n vx vy))) := by
  refine ov_eq_of hx hy fun ρ w a b u hw h1 h2 hu => ?_
  unfold eqA at hu
  split at hu
  · rename_i ax ay
    cases hn : Nat.beq ax.size n with
    | false => rw [hn] at hu; cases hu
    | true =>
      rw [hn, cond_true] at hu
      split at hu
      · rename_i c hcc
        cases hu
        cases h1 with
        | agg l l' hl =>
          cases h2 with
          | agg m m' hm =>
            obtain ⟨e1, e2⟩ := equalInts_run hc 9998 hl hm (Nat.eq_of_beq_eq_true hn) hcc w
            exact ⟨c, rfl, e1, fun op => e2 op x y, rfl, rfl⟩
      · cases hu
  · cases hu

/-! ### Small builtins -/
theorem ov_cap0 {t : Nat} {x : Operand} {vx : Value} (ho : o.op = .call ⟨.builtin .cap, #[x], #[t]⟩) (hc : chkU P t isSliceD = true) (hx : opv P kn x = some vx) : OV P o kn s (cap0 vx) := by
  intro ρ act w u hw ht hu
  have h1 := opv_eval hw ht hx
  obtain ⟨d, hd, hf⟩ := chkU_spec hc
  cases d <;> first | (simp [isSliceD] at hf; done) | skip
  unfold cap0 at hu
  split at hu
  · cases hu
    generalize hq : act.eval x = q at *
    cases h1
    exact ⟨.int .i64 0, by simp [execOp, ho, resolve, invoke, builtin, Builtin.cap_, hq, underlying, hd, goInt], .int _ _⟩
  · cases hu
theorem ov_lenA {t n : Nat} {x : Operand} {vx : Value} (ho : o.op = .call ⟨.builtin .len, #[x], #[t]⟩) (hc : chkU P t (fun | .array m _ => Nat.beq m n | _ => false) = true) : OV P o kn s (some (.int .i64 n)) := by
  intro ρ act w u hw ht hu
  cases hu
  obtain ⟨d, hd, hf⟩ := chkU_spec hc
  cases d <;> first | (simp at hf; done) | skip
  have := Nat.eq_of_beq_eq_true hf
  subst this
  exact ⟨_, by simp [execOp, ho, resolve, invoke, builtin, Builtin.len_, underlying, hd, goInt], .int _ _⟩
theorem ov_maxV {ts : Array TypeId} {x y : Operand} {vx vy : Value} (ho : o.op = .call ⟨.builtin .max, #[x, y], ts⟩) (hx : opv P kn x = some vx) (hy : opv P kn y = some vy) : OV P o kn s (maxV vx vy) := by
  intro ρ act w u hw ht hu
  have h1 := opv_eval hw ht hx
  have h2 := opv_eval hw ht hy
  unfold maxV at hu
  split at hu
  · cases hu
    generalize hq : act.eval x = q at *
    generalize hp : act.eval y = p at *
    cases h1; cases h2
    exact ⟨_, by simp [execOp, ho, resolve, invoke, builtin, Builtin.max_, Builtin.max2, hq, hp], .int _ _⟩
  · cases hu
theorem ov_minV {ts : Array TypeId} {x y : Operand} {vx vy : Value} (ho : o.op = .call ⟨.builtin .min, #[x, y], ts⟩) (hx : opv P kn x = some vx) (hy : opv P kn y = some vy) : OV P o kn s (minV vx vy) := by
  intro ρ act w u hw ht hu
  have h1 := opv_eval hw ht hx
  have h2 := opv_eval hw ht hy
  unfold minV at hu
  split at hu
  · cases hu
    generalize hq : act.eval x = q at *
    generalize hp : act.eval y = p at *
    cases h1; cases h2
    exact ⟨_, by simp [execOp, ho, resolve, invoke, builtin, Builtin.min_, Builtin.min2, hq, hp], .int _ _⟩
  · cases hu
theorem ov_slZ {t : Nat} {x : Operand} {lo hi : Option Operand} {mx : Operand} {vx : Value} {vlo vhi : Option Value} {vmx : Value} (ho : o.op = .slice t x lo hi (some mx)) (hc : chkU P t isSliceD = true) (hsz : ∃ e i, P.underlying t = some (.slice e) ∧ P.info? e = some i)
    (hx : opv P kn x = some vx) (hlo : opvo P kn lo = some vlo) (hhi : opvo P kn hi = some vhi) (hmx : opv P kn mx = some vmx) : OV P o kn s (slZ vx vlo vhi (some vmx)) := by
  intro ρ act w u hw ht hu
  have h1 := opv_eval hw ht hx
  have h3 := opv_eval hw ht hmx
  obtain ⟨e, i, he, hinfo⟩ := hsz
  unfold slZ at hu
  split at hu
  · rename_i p len c
    split at hu
    · rename_i hh hl hm
      cases hu
      have b1 := opvo_bd hw ht hhi hh
      have b2 := opvo_bd hw ht hlo hl
      have b3 : ∃ k, act.eval mx = .int k ((0 : Nat) : Int) := by
        unfold bnd at hm
        split at hm
        · rename_i h; cases h
        · rename_i k m h
          cases h; cases hm
          generalize hq : act.eval mx = q at *
          cases h3; exact ⟨k, rfl⟩
        · cases hm
      obtain ⟨k3, e3⟩ := b3
      have hr : ∀ (cap : Nat), (Instr.sliceBounds true len cap (lo.map act.eval) (hi.map act.eval) (some (act.eval mx))).run P w = .ok (0, 0, 0) w := by
        intro cap
        rw [e3]
        cases hi with
        | none => exact absurd b1 (by simp [Bd])
        | some y =>
          obtain ⟨k1, e1⟩ := b1
          cases lo with
          | none => simp [Instr.sliceBounds, Instr.sliceBound, asIntOf, e1]
          | some z => obtain ⟨k2, e2⟩ := b2; simp [Instr.sliceBounds, Instr.sliceBound, asIntOf, e1, e2]
      generalize hq : act.eval x = q at *
      cases h1 with
      | nilS =>
        have hr := hr 0
        refine ⟨.slice none 0 0, ?_, .nilS⟩
        simp [execOp, ho, hq, Instr.sliceAt, Instr.slice, underlying, he, hr, sizeOf, typeInfo, hinfo]
      | sl id off len c pl a' c' q1 q2 q3 q4 q5 =>
        have hr := hr c'
        refine ⟨.slice (some a') 0 0, ?_, .sl id off 0 0 pl a' 0 q1 (Nat.le_refl _) (fun _ => rfl) (fun h => absurd rfl h) (fun h => absurd rfl h)⟩
        simp [execOp, ho, hq, Instr.sliceAt, Instr.slice, underlying, he, hr, sizeOf, typeInfo, hinfo]
    · cases hu
  · cases hu
end
end Go.Eng
