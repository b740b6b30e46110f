/- The engine, part X: what a code comes to, told as a proposition on what stands behind it; calls by what is known of them. -/
import Derived.Test.YtkaladiliikheaaGreatDoorEngV
set_option linter.unusedVariables false
set_option linter.unusedSectionVars false
set_option linter.unusedSimpArgs false
namespace Go.Eng
open Go
variable [Toks]

/-! ### Words -/
omit [Toks] in
noncomputable def bP (b : Bool) (p : Prop) : Prop := Bool.rec (motive := fun _ => Prop) False p b
omit [Toks] in
noncomputable def oP {α : Type} (x : Option α) (k : α → Prop) : Prop := Option.rec (motive := fun _ => Prop) False k x
omit [Toks] in
noncomputable def rP (x : R) (k : Value → S → Prop) : Prop := Option.rec (motive := fun _ => Prop) False (fun p => Prod.rec (motive := fun _ => Prop) k p) x
omit [Toks] in
theorem bP_spec {b : Bool} {p : Prop} (h : bP b p) : b = true ∧ p := by
  cases b with
  | false => exact False.elim h
  | true => exact ⟨rfl, h⟩
omit [Toks] in
theorem oP_spec {α : Type} {x : Option α} {k : α → Prop} (h : oP x k) : ∃ v, x = some v ∧ k v := by
  cases x with
  | none => exact False.elim h
  | some v => exact ⟨v, rfl, h⟩
omit [Toks] in
theorem rP_spec {x : R} {k : Value → S → Prop} (h : rP x k) : ∃ v s, x = some (v, s) ∧ k v s := by
  cases x with
  | none => exact False.elim h
  | some p => exact ⟨p.1, p.2, rfl, h⟩
/-- A call that is known of. -/
def Cal (P : Program) (f : Nat) (l : List Value) (s : S) (K : Value → S → Prop) : Prop := ∃ v s', EC P f l s v s' ∧ K v s'
def Dyn (P : Program) (v : Value) (l : List Value) (s : S) (K : Value → S → Prop) : Prop := match v with
  | .func (.func g) ⟨f⟩ ⟨c⟩ => bP (chkFnB P g) (Cal P g (f ++ l ++ c) s K)
  | _ => False
def Inv (P : Program) (name : String) (v : Value) (l : List Value) (s : S) (K : Value → S → Prop) : Prop := match v with
  | .iface t x => oP (methAt P t name) fun g => Cal P g (x :: l) s K
  | _ => False
omit [Toks] in
def noCall : Nat → List Value → S → R := fun _ _ _ => none
section
variable {P : Program} {nt : Nat}
theorem fs_none {f : Nat} : FS P f (noCall f) := fun l s v s' h => by cases h
/-- One call alone. -/
noncomputable def one (g : Nat) (l : List Value) (s : S) (v : Value) (s' : S) : Nat → List Value → S → R := by
  classical exact fun f l1 s1 => if f = g ∧ l1 = l ∧ s1 = s then some (v, s') else none
theorem fs_one {g : Nat} {l : List Value} {s : S} {v : Value} {s' : S} (h : EC P g l s v s') (f : Nat) : FS P f (one g l s v s' f) := by
  intro l1 s1 v1 s1' e
  unfold one at e
  split at e
  · rename_i hc
    obtain ⟨rfl, rfl, rfl⟩ := hc
    cases e
    exact h
  · cases e
theorem one_eq {g : Nat} {l : List Value} {s : S} {v : Value} {s' : S} : one g l s v s' g l s = some (v, s') := by
  unfold one
  rw [if_pos ⟨rfl, rfl, rfl⟩]
theorem cal_of {f : Nat} {l : List Value} {s : S} {v : Value} {s' : S} {K : Value → S → Prop} (h : EC P f l s v s') (hk : K v s') : Cal P f l s K := ⟨v, s', h, hk⟩

omit [Toks] in
/-- Where ways meet: what stands behind is written once. -/
def Jn {α : Type} (r : α) (b : α → Prop) : Prop := b r

/-! ### Operations -/
noncomputable def wpC (P : Program) (o : Oper) (kn : KN) (s : S) (K : Value → S → Prop) : Prop := match o.op with
  | .call ⟨.value (.func g), ⟨xs⟩, _⟩ => bP (chkFnB P g) (oP (ops' P kn xs) fun l => Cal P g l s K)
  | .call ⟨.value x, ⟨xs⟩, _⟩ => oP (opv P kn x) fun vx => oP (ops' P kn xs) fun l => Dyn P vx l s K
  | .call ⟨.invoke x name, ⟨xs⟩, _⟩ => oP (opv P kn x) fun vx => oP (ops' P kn xs) fun l => Inv P name vx l s K
  | _ => rP (evO P noCall o kn s) K
theorem wpC_spec {o : Oper} {kn : KN} {s : S} {K : Value → S → Prop} (h : wpC P o kn s K) : ∃ v s', K v s' ∧ OJ P o kn s (some (v, s')) := by
  unfold wpC at h
  split at h
  · rename_i g xs ts ho
    obtain ⟨hc, h⟩ := bP_spec h
    obtain ⟨l, hl, v, s', hec, hk⟩ := oP_spec h
    refine ⟨v, s', hk, ?_⟩
    have := oj_evC (s := s) (kn := kn) (call := one g l s v s') (fs_one hec) ho
    have e : evC0 P (one g l s v s') o.dst ⟨.value (.func g), ⟨xs⟩, ts⟩ kn s = some (v, s') := by
      show chk (chkFnB P g) (bl (ops' P kn xs) fun l1 => one g l s v s' g l1 s) = _
      rw [hc, hl]
      exact one_eq
    rwa [e] at this
  · rename_i x xs ts hne ho
    obtain ⟨vx, hx, h⟩ := oP_spec h
    obtain ⟨l, hl, h⟩ := oP_spec h
    unfold Dyn at h
    split at h
    · rename_i g f c _
      obtain ⟨hc, v, s', hec, hk⟩ := bP_spec h
      refine ⟨v, s', hk, ?_⟩
      have := oj_evC (s := s) (kn := kn) (call := one g (f ++ l ++ c) s v s') (fs_one hec) ho
      have e : evC0 P (one g (f ++ l ++ c) s v s') o.dst ⟨.value x, ⟨xs⟩, ts⟩ kn s = some (v, s') := by
        have e1 : evC0 P (one g (f ++ l ++ c) s v s') o.dst ⟨.value x, ⟨xs⟩, ts⟩ kn s = bv (opv P kn x) fun vx => bl (ops' P kn xs) fun l1 => dynD P (one g (f ++ l ++ c) s v s') vx l1 s := by
          cases x <;> first | rfl | exact (hne _ rfl).elim
        rw [e1, hx, hl]
        show chk (chkFnB P g) (one g (f ++ l ++ c) s v s' g (f ++ l ++ c) s) = _
        rw [hc]
        exact one_eq
      rwa [e] at this
    · cases h
  · rename_i x name xs ts ho
    obtain ⟨vx, hx, h⟩ := oP_spec h
    obtain ⟨l, hl, h⟩ := oP_spec h
    unfold Inv at h
    split at h
    · rename_i t x1 _
      obtain ⟨g, hg, v, s', hec, hk⟩ := oP_spec h
      refine ⟨v, s', hk, ?_⟩
      have := oj_evC (s := s) (kn := kn) (call := one g (x1 :: l) s v s') (fs_one hec) ho
      have e : evC0 P (one g (x1 :: l) s v s') o.dst ⟨.invoke x name, ⟨xs⟩, ts⟩ kn s = some (v, s') := by
        show bv (opv P kn x) (fun vx => bl (ops' P kn xs) fun l1 => ivD P (one g (x1 :: l) s v s') name vx l1 s) = _
        rw [hx, hl]
        show (match methAt P t name with | some g1 => one g (x1 :: l) s v s' g1 (x1 :: l) s | none => none) = _
        rw [hg]
        exact one_eq
      rwa [e] at this
    · cases h
  · obtain ⟨v, s', he, hk⟩ := rP_spec h
    refine ⟨v, s', hk, ?_⟩
    have := oj_evO (P := P) (o := o) (kn := kn) (s := s) (call := noCall) fun _ => fs_none
    rwa [he] at this
noncomputable def wpS (P : Program) (l : List Oper) (o : Oper) (kn : KN) (s : S) (K : Value → S → Prop) : Prop :=
  oP (wants l o kn) fun c => Bool.rec (motive := fun _ => Prop) (K undef s) (wpC P o kn s K) c
theorem wpS_spec {ops : Array Oper} {o : Oper} {kn : KN} {s : S} {K : Value → S → Prop} (h : wpS P ops.toList o kn s K) : ∃ v s', K v s' ∧ OG P ops o kn s v s' := by
  obtain ⟨c, hc, h⟩ := oP_spec h
  cases c with
  | true =>
    obtain ⟨v, s', hk, hoj⟩ := wpC_spec h
    refine ⟨v, s', hk, fun ρ act w K Q hw ht hK => ?_⟩
    rw [if_pos (wants_run ht hc)]
    exact .inl (hoj ρ act w v s' K Q hw ht rfl hK)
  | false =>
    refine ⟨undef, s, h, fun ρ act w K Q hw ht hK => ?_⟩
    rw [if_neg (by rw [wants_run ht hc]; simp)]
    exact hK ρ undef w (Stp.refl hw) (undef_VR ρ)
/-- An operation with its guard; what stands behind a guarded one is written once. -/
noncomputable def wpSg (P : Program) (l : List Oper) (o : Oper) (kn : KN) (s : S) (K : Value → S → Prop) : Prop :=
  Option.rec (motive := fun _ => Prop) (wpS P l o kn s K) (fun _ => Jn K fun k => wpS P l o kn s k) o.guard
theorem wpSg_spec {l : List Oper} {o : Oper} {kn : KN} {s : S} {K : Value → S → Prop} (h : wpSg P l o kn s K) : wpS P l o kn s K := by
  unfold wpSg at h
  cases hg : o.guard with
  | none => rw [hg] at h; exact h
  | some g => rw [hg] at h; exact h
noncomputable def wpL (P : Program) (nt : Nat) (l : List Oper) (r : List Oper) : KN → S → (KN → S → Prop) → Prop :=
  List.rec (motive := fun _ => KN → S → (KN → S → Prop) → Prop) (fun kn s Q => Q kn s)
    (fun o _ ih kn s Q => bP (dOk nt o.dst) (wpSg P l o kn s fun v s' => ih (ins o.dst v kn) s' Q)) r

/-! ### Codes -/
/-- From (kn, s) a code comes to (e, kn', s'). -/
def Runs (P : Program) (nt : Nat) (c : Code) (kn : KN) (s : S) (e : Ex) (kn' : KN) (s' : S) : Prop :=
  ∀ (ρ : Ren) (act : Act) (w : World) (Q : Exit → Act → World → Prop), In P nt ρ kn s act w → (∀ ρ' act' w', Stp P ρ s w ρ' s' w' → In P nt ρ' kn' s' act' w' → Q e.of act' w') → c.wp P Q act w
theorem Runs.region {ops : Array Oper} {id : Nat} : ∀ (r : List Oper) (kn : KN) (s : S) (Q : KN → S → Prop), wpL P nt ops.toList r kn s Q → ∃ kn' s', Q kn' s' ∧
    ∀ (ρ : Ren) (act : Act) (w : World) (Q : Exit → Act → World → Prop), In P nt ρ kn s act w → (∀ ρ' act' w', Stp P ρ s w ρ' s' w' → In P nt ρ' kn' s' act' w' → Q .normal act' w') → wpList P ops Q r act w := by
  intro r
  induction r with
  | nil =>
    intro kn s Q h
    exact ⟨kn, s, h, fun ρ act w Q hi hQ => hQ ρ act w (Stp.refl hi.wr) hi⟩
  | cons o r ih =>
    intro kn s Q h
    obtain ⟨hd, h⟩ := bP_spec h
    obtain ⟨v, s1, h1, hog⟩ := wpS_spec (wpSg_spec h)
    obtain ⟨kn', s', hq, hr⟩ := ih _ _ _ h1
    refine ⟨kn', s', hq, fun ρ act w Q hi hQ => ?_⟩
    refine hog ρ act w _ Q hi.wr hi.tm fun ρ' v' w' hs hv => ?_
    exact hr ρ' _ w' Q (hi.put hs hv hd) fun ρ2 act2 w2 hs2 hi2 => hQ ρ2 act2 w2 (hs.trans hs2) hi2
end
end Go.Eng
