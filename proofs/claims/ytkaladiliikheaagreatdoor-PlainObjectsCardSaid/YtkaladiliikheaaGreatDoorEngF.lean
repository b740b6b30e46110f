/- The engine, part F: numbers, texts, comparisons. -/
import Derived.Test.YtkaladiliikheaaGreatDoorEngE
set_option linter.unusedVariables false
set_option linter.unusedSectionVars false
set_option linter.unusedSimpArgs false
namespace Go.Eng
open Go
variable [Toks]

section
variable {P : Program} {o : Oper} {kn : KN} {s : S}

theorem pureV_run {x : Sem Value} {v : Value} (h : pureV x = some v) (w : World) : x.run P w = .ok v w := by
  unfold pureV at h
  split at h
  · cases h; rfl
  · cases h
theorem ov_of_run {op : BinOp} {t yt : Nat} {x y : Operand} {vx vy : Value} {r : Option Value} (ho : o.op = .binOp op t x y yt) (hx : opv P kn x = some vx) (hy : opv P kn y = some vy)
    (h : ∀ (ρ : Ren) (w : World) (a b u : Value), WR P ρ s w → VR ρ vx a → VR ρ vy b → r = some u → ∃ u', (do eqGuard op t x y a b; binOp op t a b : Sem Value).run P w = .ok u' w ∧ VR ρ u u') : OV P o kn s r := by
  intro ρ act w u hw ht hu
  obtain ⟨u', h1, h2⟩ := h ρ w _ _ u hw (opv_eval hw ht hx) (opv_eval hw ht hy) hu
  refine ⟨u', ?_, h2⟩
  simp only [Sem.run_bind] at h1
  simp only [execOp, ho, Sem.run_bind]
  revert h1
  generalize (eqGuard op t x y (act.eval x) (act.eval y)).run P w = q
  cases q with
  | ok a w1 =>
    simp only [Result.andThen_ok]
    intro h1; rw [h1]; rfl
  | halt a w1 => simp only [Result.andThen_halt]; intro h1; cases h1
theorem guard_int {op : BinOp} {t : Nat} {x y : Operand} {k k' : IntKind} {a b : Int} {w : World} : (eqGuard op t x y (.int k a) (.int k' b)).run P w = .ok () w := by
  cases op <;> rfl
theorem guard_str {op : BinOp} {t : Nat} {x y : Operand} {a b : ByteArray} {w : World} : (eqGuard op t x y (.string a) (.string b)).run P w = .ok () w := by
  cases op <;> rfl

theorem iop_val {op : BinOp} {t : Nat} {x y : Operand} {vx vy a b u : Value} {ρ : Ren} (h1 : VR ρ vx a) (h2 : VR ρ vy b) (hu : iop op vx vy = some u) (w : World) : ∃ u', (do eqGuard op t x y a b; binOp op t a b : Sem Value).run P w = .ok u' w ∧ VR ρ u u' := by
  unfold iop at hu
  split at hu
  · cases h1; cases h2
    refine ⟨u, ?_, ?_⟩
    · simp only [Sem.run_bind, guard_int, Result.andThen_ok]; exact pureV_run hu w
    · unfold pureV Op.shift at hu
      revert hu; split
      · rename_i v hv
        intro hu; cases hu
        split at hv
        · cases hv
        · cases hv; exact .int _ _
      · intro hu; cases hu
  · cases h1; cases h2
    refine ⟨u, ?_, ?_⟩
    · simp only [Sem.run_bind, guard_int, Result.andThen_ok]; exact pureV_run hu w
    · unfold pureV Op.shift at hu
      revert hu; split
      · rename_i v hv
        intro hu; cases hu
        split at hv
        · cases hv
        · cases hv; exact .int _ _
      · intro hu; cases hu
  · rename_i op' k m k' m' n1 n2
    cases h1; cases h2
    split at hu
    · rename_i hk
      subst hk
      have key : ∃ X : Sem Value, binOp op t (.int k m) (.int k m') = X ∧ pureV X = some u ∧ cl 0 u = true := by
        cases op
        case add =>
          have hu : pureV (Op.intArith .add k m m') = some u := hu
          refine ⟨Op.intArith .add k m m', by simp [binOp], hu, ?_⟩
          simp only [pureV, Op.intArith] at hu
          cases hu; rfl
        case sub =>
          have hu : pureV (Op.intArith .sub k m m') = some u := hu
          refine ⟨Op.intArith .sub k m m', by simp [binOp], hu, ?_⟩
          simp only [pureV, Op.intArith] at hu
          cases hu; rfl
        case mul =>
          have hu : pureV (Op.intArith .mul k m m') = some u := hu
          refine ⟨Op.intArith .mul k m m', by simp [binOp], hu, ?_⟩
          simp only [pureV, Op.intArith] at hu
          cases hu; rfl
        case quo =>
          simp only at hu
          split at hu
          · cases hu
          · rename_i hne
            refine ⟨Op.intDiv .quo k m m', by simp [binOp], hu, ?_⟩
            simp only [Op.intDiv, if_neg hne, pureV] at hu
            cases hu; rfl
        case rem =>
          simp only at hu
          split at hu
          · cases hu
          · rename_i hne
            refine ⟨Op.intDiv .rem k m m', by simp [binOp], hu, ?_⟩
            simp only [Op.intDiv, if_neg hne, pureV] at hu
            cases hu; rfl
        case and =>
          have hu : pureV (Op.intBits .and k m m') = some u := hu
          refine ⟨Op.intBits .and k m m', by simp [binOp], hu, ?_⟩
          simp only [pureV, Op.intBits] at hu
          cases hu; rfl
        case or =>
          have hu : pureV (Op.intBits .or k m m') = some u := hu
          refine ⟨Op.intBits .or k m m', by simp [binOp], hu, ?_⟩
          simp only [pureV, Op.intBits] at hu
          cases hu; rfl
        case xor =>
          have hu : pureV (Op.intBits .xor k m m') = some u := hu
          refine ⟨Op.intBits .xor k m m', by simp [binOp], hu, ?_⟩
          simp only [pureV, Op.intBits] at hu
          cases hu; rfl
        case andNot =>
          have hu : pureV (Op.intBits .andNot k m m') = some u := hu
          refine ⟨Op.intBits .andNot k m m', by simp [binOp], hu, ?_⟩
          simp only [pureV, Op.intBits] at hu
          cases hu; rfl
        case eql =>
          have hu : pureV (Op.intCmp .eql m m') = some u := hu
          refine ⟨Op.intCmp .eql m m', by simp [binOp], hu, ?_⟩
          simp only [pureV, Op.intCmp] at hu
          cases hu; rfl
        case neq =>
          have hu : pureV (Op.intCmp .neq m m') = some u := hu
          refine ⟨Op.intCmp .neq m m', by simp [binOp], hu, ?_⟩
          simp only [pureV, Op.intCmp] at hu
          cases hu; rfl
        case lss =>
          have hu : pureV (Op.intCmp .lss m m') = some u := hu
          refine ⟨Op.intCmp .lss m m', by simp [binOp], hu, ?_⟩
          simp only [pureV, Op.intCmp] at hu
          cases hu; rfl
        case leq =>
          have hu : pureV (Op.intCmp .leq m m') = some u := hu
          refine ⟨Op.intCmp .leq m m', by simp [binOp], hu, ?_⟩
          simp only [pureV, Op.intCmp] at hu
          cases hu; rfl
        case gtr =>
          have hu : pureV (Op.intCmp .gtr m m') = some u := hu
          refine ⟨Op.intCmp .gtr m m', by simp [binOp], hu, ?_⟩
          simp only [pureV, Op.intCmp] at hu
          cases hu; rfl
        case geq =>
          have hu : pureV (Op.intCmp .geq m m') = some u := hu
          refine ⟨Op.intCmp .geq m m', by simp [binOp], hu, ?_⟩
          simp only [pureV, Op.intCmp] at hu
          cases hu; rfl
        case shl => exact (n1 rfl).elim
        case shr => exact (n2 rfl).elim
      obtain ⟨X, hX, hp, hcl⟩ := key
      exact ⟨u, by simp only [Sem.run_bind, guard_int, Result.andThen_ok, hX]; exact pureV_run hp w, cl_VR 0 u hcl⟩
    · cases hu
  · cases hu

theorem ov_iop {op : BinOp} {t yt : Nat} {x y : Operand} {vx vy : Value} (ho : o.op = .binOp op t x y yt) (hx : opv P kn x = some vx) (hy : opv P kn y = some vy) : OV P o kn s (iop op vx vy) :=
  ov_of_run ho hx hy fun ρ w a b u hw h1 h2 hu => iop_val h1 h2 hu w
theorem dtI_VR {ρ : Ren} {a a' : Value} {x : Int} (h : VR ρ a a') (hx : dtI Toks.tok a = some x) : a' = .int .i64 x := by
  unfold dtI at hx
  split at hx
  · cases hx; cases h; rfl
  · cases hx; cases h; rfl
  · cases hx
theorem dtV_VR {ρ : Ren} {v u : Value} (hv : okV v = true) (h : VR ρ (dtV Toks.tok v) u) : VR ρ v u := by
  unfold okV at hv
  split at hv
  · unfold dtV at h; cases h; exact .tok _
  · exact h
  · exact h
  · cases hv
/-- What the oracle says. -/
theorem ov_orc {op : BinOp} {t yt : Nat} {x y : Operand} {vx vy : Value} (ho : o.op = .binOp op t x y yt) (hx : opv P kn x = some vx) (hy : opv P kn y = some vy) : OV P o kn s (Orc.op op vx vy) :=
  ov_of_run ho hx hy fun ρ w a b u hw h1 h2 hu => by
    obtain ⟨hok, i, j, e1, e2, e3⟩ := Toks.op_ok op vx vy u hu
    have a1 := dtI_VR h1 e1
    have a2 := dtI_VR h2 e2
    subst a1; subst a2
    obtain ⟨u', r1, r2⟩ := iop_val (P := P) (t := t) (x := x) (y := y) (VR.int (ρ := ρ) .i64 i) (VR.int .i64 j) e3 w
    exact ⟨u', r1, dtV_VR hok r2⟩
theorem ov_or {x y : Option Value} (h1 : OV P o kn s x) (h2 : OV P o kn s y) : OV P o kn s (orV x y) := by
  cases x with
  | none => exact h2
  | some v => exact h1
theorem iop_run {op : BinOp} {t : Nat} {k : IntKind} {a b : Int} {w : World} {u : Value} (h1 : op ≠ .shl) (h2 : op ≠ .shr) (h : (Op.intCmp op a b) = .pure u) (h3 : op = .eql ∨ op = .neq) : (binOp op t (.int k a) (.int k b)).run P w = .ok u w := by
  rcases h3 with rfl | rfl <;> simp [binOp, h]
theorem eqI_int {vx vy u : Value} (h : eqI vx vy = some u) {ρ : Ren} {a b : Value} (h1 : VR ρ vx a) (h2 : VR ρ vy b) : ∃ k m m', a = .int k m ∧ b = .int k m' ∧ u = .bool (m == m') := by
  unfold eqI at h
  split at h
  · split at h
    · rename_i hk
      subst hk; cases h; cases h1; cases h2
      exact ⟨_, _, _, rfl, rfl, rfl⟩
    · cases h
  · rename_i t u'
    cases hb : Nat.beq t u' with
    | false => rw [hb] at h; cases h
    | true =>
      rw [hb, cond_true] at h; cases h
      have := Nat.eq_of_beq_eq_true hb
      subst this
      cases h1; cases h2
      exact ⟨_, _, _, rfl, rfl, by simp⟩
  · cases h
theorem ov_eqI {t yt : Nat} {x y : Operand} {vx vy : Value} (ho : o.op = .binOp .eql t x y yt) (hx : opv P kn x = some vx) (hy : opv P kn y = some vy) : OV P o kn s (eqI vx vy) := by
  refine ov_of_run ho hx hy fun ρ w a b u hw h1 h2 hu => ?_
  obtain ⟨k, m, m', rfl, rfl, rfl⟩ := eqI_int hu h1 h2
  exact ⟨_, by simp [guard_int, binOp, Op.intCmp], .bool _⟩
theorem ov_neI {t yt : Nat} {x y : Operand} {vx vy : Value} (ho : o.op = .binOp .neq t x y yt) (hx : opv P kn x = some vx) (hy : opv P kn y = some vy) : OV P o kn s (ne (eqI vx vy)) := by
  refine ov_of_run ho hx hy fun ρ w a b u hw h1 h2 hu => ?_
  unfold ne at hu
  split at hu
  · rename_i c hc
    obtain ⟨k, m, m', rfl, rfl, e⟩ := eqI_int hc h1 h2
    cases e; cases hu
    exact ⟨_, by simp [guard_int, binOp, Op.intCmp]; rfl, .bool _⟩
  · cases hu
theorem ov_sop {op : BinOp} {t yt : Nat} {x y : Operand} {vx vy : Value} (ho : o.op = .binOp op t x y yt) (hx : opv P kn x = some vx) (hy : opv P kn y = some vy) : OV P o kn s (sop op vx vy) := by
  refine ov_of_run ho hx hy fun ρ w a b u hw h1 h2 hu => ?_
  unfold sop at hu
  split at hu
  · rename_i m m'
    cases h1; cases h2
    have hr := pureV_run (P := P) hu w
    have hcl : cl 0 u = true := by
      unfold pureV Op.stringOp at hu
      revert hu
      split
      · rename_i v hv
        intro hu; cases hu
        cases op <;> simp only at hv <;> first
          | (split at hv
             · cases hv
             · cases hv; rfl)
          | (cases hv; rfl)
          | cases hv
      · intro hu; cases hu
    refine ⟨u, ?_, cl_VR 0 u hcl⟩
    have hb : binOp op t (.string m) (.string m') = Op.stringOp op m m' := by cases op <;> rfl
    simp only [Sem.run_bind, guard_str, Result.andThen_ok, hb]
    exact hr
  · cases hu
theorem ov_eqS {t yt : Nat} {x y : Operand} {vx vy : Value} (ho : o.op = .binOp .eql t x y yt) (hx : opv P kn x = some vx) (hy : opv P kn y = some vy) : OV P o kn s (eqS vx vy) := by
  refine ov_of_run ho hx hy fun ρ w a b u hw h1 h2 hu => ?_
  unfold eqS at hu
  split at hu
  · cases hu; cases h1; cases h2
    exact ⟨_, by simp [guard_str, binOp, Op.stringOp], .bool _⟩
  · cases hu
theorem ov_neS {t yt : Nat} {x y : Operand} {vx vy : Value} (ho : o.op = .binOp .neq t x y yt) (hx : opv P kn x = some vx) (hy : opv P kn y = some vy) : OV P o kn s (ne (eqS vx vy)) := by
  refine ov_of_run ho hx hy fun ρ w a b u hw h1 h2 hu => ?_
  unfold ne eqS at hu
  split at hu
  · rename_i c hc
    split at hc
    · cases hc; cases hu; cases h1; cases h2
      exact ⟨_, by simp [guard_str, binOp, Op.stringOp], .bool _⟩
    · cases hc
  · cases hu

/-- '!=' of what goes by 'Op.equal'. -/
theorem ov_eq_of {t yt : Nat} {x y : Operand} {vx vy : Value} {r : Option Value} (hx : opv P kn x = some vx) (hy : opv P kn y = some vy)
    (h : ∀ (ρ : Ren) (w : World) (a b u : Value), WR P ρ s w → VR ρ vx a → VR ρ vy b → r = some u → ∃ c : Bool, u = .bool c ∧ (Op.equal t a b).run P w = .ok c w ∧ (∀ op : BinOp, (eqGuard op t x y a b).run P w = .ok () w) ∧
      binOp .eql t a b = (do pure (.bool (← Op.equal t a b))) ∧ binOp .neq t a b = (do pure (.bool (!(← Op.equal t a b))))) :
    (o.op = .binOp .eql t x y yt → OV P o kn s r) ∧ (o.op = .binOp .neq t x y yt → OV P o kn s (ne r)) := by
  constructor
  · intro ho
    refine ov_of_run ho hx hy fun ρ w a b u hw h1 h2 hu => ?_
    obtain ⟨c, rfl, he, hg, hb, _⟩ := h ρ w a b u hw h1 h2 hu
    exact ⟨_, by simp [hg, hb, he], .bool c⟩
  · intro ho
    refine ov_of_run ho hx hy fun ρ w a b u hw h1 h2 hu => ?_
    unfold ne at hu
    split at hu
    · obtain ⟨c, hc, he, hg, _, hb⟩ := h ρ w a b _ hw h1 h2 rfl
      cases hc; cases hu
      exact ⟨_, by simp [hg, hb, he], .bool _⟩
    · cases hu

omit [Toks] in
def chkU (P : Program) (t : Nat) (f : TypeDesc → Bool) : Bool := match P.underlying t with | some d => f d | none => false
theorem chkU_spec {t : Nat} {f : TypeDesc → Bool} (h : chkU P t f = true) : ∃ d, P.underlying t = some d ∧ f d = true := by
  unfold chkU at h
  split at h
  · exact ⟨_, by assumption, h⟩
  · cases h
omit [Toks] in
def isBoolD : TypeDesc → Bool | .bool => true | _ => false
omit [Toks] in
def isSliceD : TypeDesc → Bool | .slice _ => true | _ => false
omit [Toks] in
def isMapD : TypeDesc → Bool | .map _ _ => true | _ => false
omit [Toks] in
def isFuncD : TypeDesc → Bool | .func _ _ _ => true | _ => false
theorem eqIn_bool (d : Nat) {t : Nat} {a b : Bool} {w : World} (h : P.underlying t = some .bool) : (Op.equalIn (d + 1) t (.bool a) (.bool b)).run P w = .ok (a == b) w := by
  simp [Op.equalIn, underlying, h]
theorem eqIn_sl (d : Nat) {t e : Nat} {a : Option Addr} {n c m k : Nat} {w : World} (h : P.underlying t = some (.slice e)) : (Op.equalIn (d + 1) t (.slice a n c) (.slice none m k)).run P w = .ok a.isNone w := by
  cases a <;> simp [Op.equalIn, underlying, h]
theorem eqIn_ls (d : Nat) {t e : Nat} {a : Option Addr} {n c m k : Nat} {w : World} (h : P.underlying t = some (.slice e)) : (Op.equalIn (d + 1) t (.slice none m k) (.slice a n c)).run P w = .ok a.isNone w := by
  simp [Op.equalIn, underlying, h]
theorem eqIn_map (d : Nat) {t k e : Nat} {a : Option Nat} {w : World} (h : P.underlying t = some (.map k e)) : (Op.equalIn (d + 1) t (.map a) (.map none)).run P w = .ok a.isNone w := by
  cases a <;> simp [Op.equalIn, underlying, h]
theorem eqIn_pam (d : Nat) {t k e : Nat} {a : Option Nat} {w : World} (h : P.underlying t = some (.map k e)) : (Op.equalIn (d + 1) t (.map none) (.map a)).run P w = .ok a.isNone w := by
  simp [Op.equalIn, underlying, h]
theorem eqIn_f1 (d : Nat) {t : Nat} {ps rs : Array TypeId} {v : Bool} {w : World} (h : P.underlying t = some (.func ps rs v)) : (Op.equalIn (d + 1) t .nilFunc .nilFunc).run P w = .ok true w := by
  simp [Op.equalIn, underlying, h]
theorem eqIn_f2 (d : Nat) {t : Nat} {ps rs : Array TypeId} {v : Bool} {fn : Fn} {x y : Array Value} {w : World} (h : P.underlying t = some (.func ps rs v)) : (Op.equalIn (d + 1) t .nilFunc (.func fn x y)).run P w = .ok false w := by
  simp [Op.equalIn, underlying, h]
theorem eqIn_f3 (d : Nat) {t : Nat} {ps rs : Array TypeId} {v : Bool} {fn : Fn} {x y : Array Value} {w : World} (h : P.underlying t = some (.func ps rs v)) : (Op.equalIn (d + 1) t (.func fn x y) .nilFunc).run P w = .ok false w := by
  simp [Op.equalIn, underlying, h]

theorem eqB_any {t yt : Nat} {x y : Operand} {vx vy : Value} (hc : chkU P t isBoolD = true) (hx : opv P kn x = some vx) (hy : opv P kn y = some vy) :
    (o.op = .binOp .eql t x y yt → OV P o kn s (eqB vx vy)) ∧ (o.op = .binOp .neq t x y yt → OV P o kn s (ne (eqB vx vy))) := by
  obtain ⟨d, hd, hf⟩ := chkU_spec hc
  cases d <;> first | (simp [isBoolD] at hf; done) | skip
  refine ov_eq_of hx hy fun ρ w a b u hw h1 h2 hu => ?_
  unfold eqB at hu
  split at hu
  · cases hu; cases h1; cases h2
    exact ⟨_, rfl, (by first | exact eqIn_bool 9999 hd), fun op => by cases op <;> rfl, rfl, rfl⟩
  · cases hu
theorem eqL_any {t yt : Nat} {x y : Operand} {vx vy : Value} (hc : chkU P t isSliceD = true) (hx : opv P kn x = some vx) (hy : opv P kn y = some vy) :
    (o.op = .binOp .eql t x y yt → OV P o kn s (eqL vx vy)) ∧ (o.op = .binOp .neq t x y yt → OV P o kn s (ne (eqL vx vy))) := by
  obtain ⟨d, hd, hf⟩ := chkU_spec hc
  cases d <;> first | (simp [isSliceD] at hf; done) | skip
  refine ov_eq_of hx hy fun ρ w a b u hw h1 h2 hu => ?_
  unfold eqL at hu
  split at hu
  · cases hu
    cases h1 <;> cases h2 <;> exact ⟨_, rfl, (by first | exact eqIn_sl 9999 hd | exact eqIn_ls 9999 hd), fun op => by cases op <;> rfl, rfl, rfl⟩
  · cases hu
    cases h1 <;> cases h2 <;> exact ⟨_, rfl, (by first | exact eqIn_sl 9999 hd | exact eqIn_ls 9999 hd), fun op => by cases op <;> rfl, rfl, rfl⟩
  · cases hu
theorem eqM_any {t yt : Nat} {x y : Operand} {vx vy : Value} (hc : chkU P t isMapD = true) (hx : opv P kn x = some vx) (hy : opv P kn y = some vy) :
    (o.op = .binOp .eql t x y yt → OV P o kn s (eqM vx vy)) ∧ (o.op = .binOp .neq t x y yt → OV P o kn s (ne (eqM vx vy))) := by
  obtain ⟨d, hd, hf⟩ := chkU_spec hc
  cases d <;> first | (simp [isMapD] at hf; done) | skip
  refine ov_eq_of hx hy fun ρ w a b u hw h1 h2 hu => ?_
  unfold eqM at hu
  split at hu
  · cases hu
    cases h1 <;> cases h2 <;> exact ⟨_, rfl, (by first | exact eqIn_map 9999 hd | exact eqIn_pam 9999 hd), fun op => by cases op <;> rfl, rfl, rfl⟩
  · cases hu
    cases h1 <;> cases h2 <;> exact ⟨_, rfl, (by first | exact eqIn_map 9999 hd | exact eqIn_pam 9999 hd), fun op => by cases op <;> rfl, rfl, rfl⟩
  · cases hu
theorem eqC_any {t yt : Nat} {x y : Operand} {vx vy : Value} (hc : chkU P t isFuncD = true) (hx : opv P kn x = some vx) (hy : opv P kn y = some vy) :
    (o.op = .binOp .eql t x y yt → OV P o kn s (eqC vx vy)) ∧ (o.op = .binOp .neq t x y yt → OV P o kn s (ne (eqC vx vy))) := by
  obtain ⟨d, hd, hf⟩ := chkU_spec hc
  cases d <;> first | (simp [isFuncD] at hf; done) | skip
  refine ov_eq_of hx hy fun ρ w a b u hw h1 h2 hu => ?_
  unfold eqC at hu
  split at hu
  · cases hu; cases h1; cases h2
    exact ⟨_, rfl, (by first | exact eqIn_f1 9999 hd | exact eqIn_f2 9999 hd | exact eqIn_f3 9999 hd), fun op => by cases op <;> rfl, rfl, rfl⟩
  · cases hu; cases h1; cases h2
    exact ⟨_, rfl, (by first | exact eqIn_f1 9999 hd | exact eqIn_f2 9999 hd | exact eqIn_f3 9999 hd), fun op => by cases op <;> rfl, rfl, rfl⟩
  · cases hu; cases h1; cases h2
    exact ⟨_, rfl, (by first | exact eqIn_f1 9999 hd | exact eqIn_f2 9999 hd | exact eqIn_f3 9999 hd), fun op => by cases op <;> rfl, rfl, rfl⟩
  · cases hu
end
end Go.Eng
