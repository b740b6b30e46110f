/- The engine, part U: the code of a function, evaluated; calls of calls: 'evF'; that the model does what it says. -/
import Derived.Test.YtkaladiliikheaaGreatDoorEngT
set_option linter.unusedVariables false
set_option linter.unusedSectionVars false
set_option linter.unusedSimpArgs false
namespace Go.Eng
open Go
variable [Toks]

omit [Toks] in
inductive Ex where
  | norm
  | exit (id : Nat)
  | ret
omit [Toks] in
def Ex.of : Ex → Exit
  | .norm => .normal
  | .exit i => .exit i
  | .ret => .ret
omit [Toks] in
abbrev RC := Option (Ex × KN × S)
omit [Toks] in
noncomputable def seqR (x : RC) (k : KN → S → RC) : RC :=
  Option.rec (motive := fun _ => RC) none (fun p => Prod.rec (motive := fun _ => RC) (fun e q => Prod.rec (motive := fun _ => RC) (fun kn s =>
    Ex.rec (motive := fun _ => RC) (k kn s) (fun i => some (.exit i, kn, s)) (some (.ret, kn, s)) e) q) p) x
theorem seqR_eq (x : RC) (k : KN → S → RC) : seqR x k = match x with
  | some (.norm, kn, s) => k kn s
  | some (.exit i, kn, s) => some (.exit i, kn, s)
  | some (.ret, kn, s) => some (.ret, kn, s)
  | none => none := by
  match x with
  | none => rfl
  | some (.norm, kn, s) => rfl
  | some (.exit i, kn, s) => rfl
  | some (.ret, kn, s) => rfl
omit [Toks] in
def blkR (id : Nat) (x : RC) : RC := match x with
  | some (.exit i, kn, s) => bif Nat.beq i id then some (.norm, kn, s) else some (.exit i, kn, s)
  | some (.norm, kn, s) => some (.norm, kn, s)
  | some (.ret, kn, s) => some (.ret, kn, s)
  | none => none
omit [Toks] in
def cndR (v : Option Value) (a b : RC) : RC := match v with | some (.bool true) => a | some (.bool false) => b | _ => none
omit [Toks] in
noncomputable def nrm (x : Option (KN × S)) : RC := Option.rec (motive := fun _ => RC) none (fun p => Prod.rec (motive := fun _ => RC) (fun kn s => some (.norm, kn, s)) p) x
theorem nrm_eq (x : Option (KN × S)) : nrm x = match x with | some (kn, s) => some (.norm, kn, s) | none => none := by
  match x with
  | none => rfl
  | some (kn, s) => rfl
omit [Toks] in
noncomputable def lpR (n : Nat) (body : KN → S → RC) : KN → S → RC :=
  Nat.rec (motive := fun _ => KN → S → RC) (fun _ _ => none) (fun _ ih kn s => seqR (body kn s) ih) n
omit [Toks] in
/-- What is done with a loop. -/
abbrev LpF := Code → (KN → S → RC) → KN → S → RC
omit [Toks] in
noncomputable def L0 (n : Nat) : LpF := fun _ F => lpR n F
omit [Toks] in
noncomputable def evK [Orc] (P : Program) (call : Nat → List Value → S → R) (nt : Nat) (L : LpF) (c : Code) : KN → S → RC :=
  Code.rec (motive := fun _ => KN → S → RC) (fun kn s => some (.norm, kn, s))
    (fun _ ops draw kn s => Bool.rec (motive := fun _ => RC) (nrm (evL P call nt ops.toList ops.toList kn s)) (nrm (evD P call nt ops.toList kn s)) draw)
    (fun _ _ iha ihb kn s => seqR (iha kn s) ihb)
    (fun x _ _ iha ihb kn s => cndR (opv P kn x) (iha kn s) (ihb kn s))
    (fun id _ ih kn s => blkR id (ih kn s))
    (fun c ih kn s => L c ih kn s)
    (fun _ _ _ _ _ _ _ _ => none)
    (fun id kn s => some (.exit id, kn, s))
    (fun _ _ _ _ => none)
    (fun _ _ _ => none) (fun _ _ _ => none)
    (fun kn s => some (.ret, kn, s))
    (fun _ _ _ => none) c
omit [Toks] in
noncomputable def resE (P : Program) (kn : KN) (s : S) : ResultVar → Option Value
  | .tmp t => look kn t
  | .cell a t => (match look kn a with
    | some v => bif aggT P t then (bif chkN P t (szOf P t) then ldN (szOf P t) v s else none) else (bif chk1 P t then ld1 v s else none)
    | none => none)
omit [Toks] in
noncomputable def resL (P : Program) (kn : KN) (s : S) : List ResultVar → Option (List Value)
  | [] => some []
  | r :: rs => (match resE P kn s r, resL P kn s rs with | some v, some l => some (v :: l) | _, _ => none)
omit [Toks] in
def tupR (x : Option (List Value)) (s : S) : R := match x with
  | some [v] => some (v, s)
  | some l => some (.tuple ⟨l⟩, s)
  | none => none
omit [Toks] in
def retR (P : Program) (rs : KN → S → Option (List Value)) (x : RC) : R := match x with
  | some (.norm, kn, s) => tupR (rs kn s) s
  | some (.ret, kn, s) => tupR (rs kn s) s
  | _ => none
omit [Toks] in
noncomputable def args (l : List Value) : Nat → KN := List.rec (motive := fun _ => Nat → KN) (fun _ => .l) (fun v _ ih i => (ih (Nat.succ i)).put (some v) i) l
omit [Toks] in
noncomputable def evFn [Orc] (P : Program) (call : Nat → List Value → S → R) (L : LpF) (f : Nat) (l : List Value) (s : S) : R := match P.funcs[f]? with
  | some fn => (match fn.body with
    | some c => bif Nat.ble l.length fn.ntmps then retR P (fun kn s => resL P kn s fn.results.toList) (evK P call fn.ntmps L c (args l 0) s) else none
    | none => none)
  | none => none
omit [Toks] in
abbrev Hook := Nat → Option (List Value → S → R)
omit [Toks] in
noncomputable def evF [Orc] (P : Program) (hook : Hook) (L : LpF) (d : Nat) : Nat → List Value → S → R :=
  Nat.rec (motive := fun _ => Nat → List Value → S → R) (fun _ _ _ => none) (fun _ ih f l s => match hook f with | some F => F l s | none => evFn P ih L f l s) d

/-! ### Numbers that are not known, over one oracle -/
omit [Toks] in
structure Vals (o : Orc) where
  tok : Nat → Int
  ok : ∀ k, -9223372036854775808 ≤ tok k ∧ tok k < 9223372036854775808
  op_ok : ∀ p a b v, o.op p a b = some v → okV v = true ∧ ∃ x y, dtI tok a = some x ∧ dtI tok b = some y ∧ iop p (.int .i64 x) (.int .i64 y) = some (dtV tok v)
omit [Toks] in
@[reducible] def Vals.toks {o : Orc} (t : Vals o) : Toks := { toOrc := o, tok := t.tok, ok := t.ok, op_ok := t.op_ok }
omit [Toks] in
@[reducible] def Vals.of (T : Toks) : Vals T.toOrc := ⟨T.tok, T.ok, T.op_ok⟩

section
variable {P : Program} {call : Nat → List Value → S → R} {nt n : Nat}
/-- A loop, behind its first entry. -/
def LW (P : Program) (c : Code) (Q : Exit → Act → World → Prop) (a : Act) (w : World) : Prop :=
  ∀ (b : Frame) (k : List Item) (cs : List Frame), ∃ e a' w', Q e a' w' ∧ Arrives P (lone (b.at a (.code c :: .inLoop c :: k)) cs w) b k cs e a' w'
theorem wp_of_LW {c : Code} {Q : Exit → Act → World → Prop} {a : Act} {w : World} (h : LW P c Q a w) : (Code.loop c).wp P Q a w := fun b k cs => by
  obtain ⟨e, a', w', hq, harr⟩ := h b k cs
  exact ⟨e, a', w', hq, .of_steps (.one step_loop) harr⟩
theorem LW_of {c : Code} {Q : Exit → Act → World → Prop} {a : Act} {w : World} (h : c.wp P (Exit.then (LW P c Q) Q) a w) : LW P c Q a w := by
  intro b k cs
  obtain ⟨e, a₁, w₁, hq, harr⟩ := h b (.inLoop c :: k) cs
  cases e with
  | normal =>
    obtain ⟨e₂, a₂, w₂, hq₂, harr₂⟩ := hq b k cs
    exact ⟨e₂, a₂, w₂, hq₂, .of_steps (Steps.trans harr (.one step_inLoop)) harr₂⟩
  | exit id => exact ⟨_, a₁, w₁, hq, .pass (x := .inLoop c) rfl (fun _ _ => .inl (by simp)) harr⟩
  | goto l => exact ⟨_, a₁, w₁, hq, .pass (x := .inLoop c) rfl (fun _ _ => .inl (by simp)) harr⟩
  | ret => exact ⟨_, a₁, w₁, hq, .pass (x := .inLoop c) rfl (fun _ _ => .inl (by simp)) harr⟩
  | panic ch => exact ⟨_, a₁, w₁, hq, .pass (x := .inLoop c) rfl (fun _ _ => .inl (by simp)) harr⟩
  | outgrown => exact ⟨_, a₁, w₁, hq, .pass (x := .inLoop c) rfl (fun _ _ => .inl (by simp)) harr⟩
/-- What a code comes to. -/
def Does (P : Program) (nt : Nat) (c : Code) (F : KN → S → RC) : Prop :=
  ∀ (kn : KN) (s : S) (e : Ex) (kn' : KN) (s' : S), F kn s = some (e, kn', s') → ∀ (ρ : Ren) (act : Act) (w : World) (Q : Exit → Act → World → Prop), In P nt ρ kn s act w →
    (∀ ρ' act' w', Stp P ρ s w ρ' s' w' → In P nt ρ' kn' s' act' w' → Q e.of act' w') → c.wp P Q act w
theorem does_none {c : Code} : Does P nt c fun _ _ => none := fun kn s e kn' s' h => by cases h
theorem does_seq {c d : Code} {F G : KN → S → RC} (hc : Does P nt c F) (hd : Does P nt d G) : Does P nt (.seq c d) fun kn s => seqR (F kn s) G := by
  intro kn s e kn' s' h ρ act w Q hi hQ
  refine wp_seq ?_
  simp only at h
  rw [seqR_eq] at h
  split at h
  · rename_i kn1 s1 h1
    exact hc kn s _ _ _ h1 ρ act w _ hi fun ρ1 a1 w1 hs1 hi1 => hd kn1 s1 _ _ _ h ρ1 a1 w1 Q hi1 fun ρ2 a2 w2 hs2 hi2 => hQ ρ2 a2 w2 (hs1.trans hs2) hi2
  · rename_i i kn1 s1 h1
    cases h
    exact hc kn s _ _ _ h1 ρ act w _ hi fun ρ1 a1 w1 hs1 hi1 => hQ ρ1 a1 w1 hs1 hi1
  · rename_i kn1 s1 h1
    cases h
    exact hc kn s _ _ _ h1 ρ act w _ hi fun ρ1 a1 w1 hs1 hi1 => hQ ρ1 a1 w1 hs1 hi1
  · cases h
theorem does_loop {c : Code} {F : KN → S → RC} (hc : Does P nt c F) : Does P nt (.loop c) fun kn s => lpR n F kn s := by
  have key : ∀ (n : Nat) (kn : KN) (s : S) (e : Ex) (kn' : KN) (s' : S), lpR n F kn s = some (e, kn', s') → ∀ (ρ : Ren) (act : Act) (w : World) (Q : Exit → Act → World → Prop), In P nt ρ kn s act w →
      (∀ ρ' act' w', Stp P ρ s w ρ' s' w' → In P nt ρ' kn' s' act' w' → Q e.of act' w') → LW P c Q act w := by
    intro n
    induction n with
    | zero => intro kn s e kn' s' h; cases h
    | succ n ih =>
      intro kn s e kn' s' h ρ act w Q hi hQ
      have h' : seqR (F kn s) (lpR n F) = some (e, kn', s') := h
      refine LW_of ?_
      rw [seqR_eq] at h'
      split at h'
      · rename_i kn1 s1 h1
        exact hc kn s _ _ _ h1 ρ act w _ hi fun ρ1 a1 w1 hs1 hi1 => ih kn1 s1 _ _ _ h' ρ1 a1 w1 Q hi1 fun ρ2 a2 w2 hs2 hi2 => hQ ρ2 a2 w2 (hs1.trans hs2) hi2
      · rename_i i kn1 s1 h1
        cases h'
        exact hc kn s _ _ _ h1 ρ act w _ hi fun ρ1 a1 w1 hs1 hi1 => hQ ρ1 a1 w1 hs1 hi1
      · rename_i kn1 s1 h1
        cases h'
        exact hc kn s _ _ _ h1 ρ act w _ hi fun ρ1 a1 w1 hs1 hi1 => hQ ρ1 a1 w1 hs1 hi1
      · cases h'
  exact fun kn s e kn' s' h ρ act w Q hi hQ => wp_of_LW (key n kn s e kn' s' h ρ act w Q hi hQ)
omit [Toks] in
/-- The code of a function does what it is evaluated to. -/
theorem does_evK {o : Orc} {ι : Type} {T : ι → Vals o} {L : LpF} (HC : ∀ i f, @FS (T i).toks P f (call f)) (HL : ∀ c F, (∀ i, @Does (T i).toks P nt c F) → ∀ i, @Does (T i).toks P nt (.loop c) (L c F))
    (hm : P.follows .mixedOrders = true) : ∀ (c : Code) (i : ι), @Does (T i).toks P nt c (@evK o P call nt L c) := by
  intro c
  induction c with
  | skip =>
    intro i kn s e kn' s' h ρ act w Q hi hQ
    letI := (T i).toks
    cases h
    exact wp_skip (hQ ρ act w (Stp.refl hi.wr) hi)
  | region id ops draw =>
    intro i kn s e kn' s' h ρ act w Q hi hQ
    letI := (T i).toks
    cases draw with
    | true =>
      have h' : nrm (evD P call nt ops.toList kn s) = some (e, kn', s') := h
      rw [nrm_eq] at h'
      split at h'
      · rename_i kn1 s1 h1
        cases h'
        exact wp_evD (HC i) hm h1 hi hQ
      · cases h'
    | false =>
      have h' : nrm (evL P call nt ops.toList ops.toList kn s) = some (e, kn', s') := h
      rw [nrm_eq] at h'
      split at h'
      · rename_i kn1 s1 h1
        cases h'
        exact wp_region_list (wpList_evL (HC i) ops _ _ _ _ _ h1 ρ act w Q hi hQ)
      · cases h'
  | seq c d ihc ihd =>
    intro i
    letI := (T i).toks
    exact does_seq (ihc i) (ihd i)
  | cond x c d ihc ihd =>
    intro i kn s e kn' s' h ρ act w Q hi hQ
    letI := (T i).toks
    have h' : cndR (opv P kn x) (evK P call nt L c kn s) (evK P call nt L d kn s) = some (e, kn', s') := h
    unfold cndR at h'
    split at h'
    · rename_i hx
      have h1 := opv_eval hi.wr hi.tm hx
      generalize hq : act.eval x = q at *
      cases h1
      exact wp_cond_true hq (ihc i kn s _ _ _ h' ρ act w Q hi hQ)
    · rename_i hx
      have h1 := opv_eval hi.wr hi.tm hx
      generalize hq : act.eval x = q at *
      cases h1
      exact wp_cond_false hq (ihd i kn s _ _ _ h' ρ act w Q hi hQ)
    · cases h'
  | block id c ih =>
    intro i kn s e kn' s' h ρ act w Q hi hQ
    letI := (T i).toks
    have h' : blkR id (evK P call nt L c kn s) = some (e, kn', s') := h
    refine wp_block ?_
    unfold blkR at h'
    split at h'
    · rename_i j kn1 s1 h1
      refine ih i kn s _ _ _ h1 ρ act w _ hi fun ρ1 a1 w1 hs1 hi1 => ?_
      cases hb : Nat.beq j id with
      | true =>
        rw [hb, cond_true] at h'; cases h'
        show if j = id then Q .normal a1 w1 else Q (.exit j) a1 w1
        rw [if_pos (Nat.eq_of_beq_eq_true hb)]
        exact hQ ρ1 a1 w1 hs1 hi1
      | false =>
        rw [hb, cond_false] at h'; cases h'
        show if j = id then Q .normal a1 w1 else Q (.exit j) a1 w1
        rw [if_neg (fun e => by subst e; simp at hb)]
        exact hQ ρ1 a1 w1 hs1 hi1
    · rename_i kn1 s1 h1
      cases h'
      exact ih i kn s _ _ _ h1 ρ act w _ hi fun ρ1 a1 w1 hs1 hi1 => hQ ρ1 a1 w1 hs1 hi1
    · rename_i kn1 s1 h1
      cases h'
      exact ih i kn s _ _ _ h1 ρ act w _ hi fun ρ1 a1 w1 hs1 hi1 => hQ ρ1 a1 w1 hs1 hi1
    · cases h'
  | loop c ih => exact HL c _ ih
  | rangeFunc f ps a b iha ihb =>
    intro i
    letI := (T i).toks
    exact does_none
  | exit id =>
    intro i kn s e kn' s' h ρ act w Q hi hQ
    letI := (T i).toks
    cases h
    exact wp_exit (hQ ρ act w (Stp.refl hi.wr) hi)
  | scope c ih =>
    intro i
    letI := (T i).toks
    exact does_none
  | label l =>
    intro i
    letI := (T i).toks
    exact does_none
  | goto l =>
    intro i
    letI := (T i).toks
    exact does_none
  | ret =>
    intro i kn s e kn' s' h ρ act w Q hi hQ
    letI := (T i).toks
    cases h
    exact wp_ret (hQ ρ act w (Stp.refl hi.wr) hi)
  | refuse why =>
    intro i
    letI := (T i).toks
    exact does_none

/-! ### Results -/
def oneRes (tmps : Array Value) : ResultVar → Sem Value
  | .tmp t => pure (tmps.getD t undef)
  | .cell a t => do loadVar t (← asAddr (tmps.getD a undef))
theorem results_eq (fn : Func) (tmps : Array Value) : results fn tmps = (do
      let vs ← fn.results.mapM (oneRes tmps)
      pure (if h : vs.size = 1 then vs[0] else .tuple vs)) := by
  unfold results
  congr 1
theorem resE_run {ρ : Ren} {kn : KN} {s : S} {act : Act} {w : World} (hw : WR P ρ s w) (ht : TM ρ kn act.tmps) {r : ResultVar} {v : Value} (h : resE P kn s r = some v) : ∃ v', (oneRes act.tmps r).run P w = .ok v' w ∧ VR ρ v v' := by
  cases r with
  | tmp t =>
    obtain ⟨v', e, hv⟩ := ht t v h
    exact ⟨v', by simp [oneRes, Array.getD_eq_getD_getElem?, e], hv⟩
  | cell a t =>
    simp only [resE] at h
    split at h
    · rename_i va ha
      obtain ⟨va', e, hva⟩ := ht a va ha
      have hl : ∃ u', (Instr.loadAt t va').run P w = .ok u' w ∧ VR ρ v u' := by
        cases hg : aggT P t with
        | true =>
          rw [hg, cond_true] at h
          cases hc : chkN P t (szOf P t) with
          | false => rw [hc] at h; cases h
          | true => rw [hc, cond_true] at h; exact ldN_run hw hva h hc
        | false =>
          rw [hg, cond_false] at h
          cases hc : chk1 P t with
          | false => rw [hc] at h; cases h
          | true => rw [hc, cond_true] at h; exact ld1_run hw hva h hc
      have hp : ∃ q, va = .pointer (some q) := by
        cases hg : aggT P t with
        | true =>
          rw [hg, cond_true] at h
          cases hc : chkN P t (szOf P t) with
          | false => rw [hc] at h; cases h
          | true =>
            rw [hc, cond_true] at h
            unfold ldN at h
            split at h
            · exact ⟨_, rfl⟩
            · cases h
        | false =>
          rw [hg, cond_false] at h
          cases hc : chk1 P t with
          | false => rw [hc] at h; cases h
          | true =>
            rw [hc, cond_true] at h
            unfold ld1 at h
            split at h
            · exact ⟨_, rfl⟩
            · cases h
      obtain ⟨u', h1, h2⟩ := hl
      obtain ⟨q, rfl⟩ := hp
      refine ⟨u', ?_, h2⟩
      cases hva with
      | ptr id off pl e1 =>
        simp only [oneRes, Array.getD_eq_getD_getElem?, e, Option.getD_some]
        exact h1
    · cases h
theorem resL_run {ρ : Ren} {kn : KN} {s : S} {act : Act} {w : World} (hw : WR P ρ s w) (ht : TM ρ kn act.tmps) : ∀ {rs : List ResultVar} {l : List Value}, resL P kn s rs = some l → ∃ l', (rs.mapM (oneRes act.tmps)).run P w = .ok l' w ∧ LR ρ l l'
  | [], l, h => by cases h; exact ⟨[], by simp, .nil⟩
  | r :: rs, l, h => by
    simp only [resL] at h
    split at h
    · rename_i v l1 hv hl
      cases h
      obtain ⟨v', h1, h2⟩ := resE_run hw ht hv
      obtain ⟨l', h3, h4⟩ := resL_run hw ht hl
      exact ⟨v' :: l', by simp [h1, h3], .cons _ _ _ _ h2 h4⟩
    · cases h
theorem look_args (l : List Value) : ∀ (k i : Nat) (v : Value), look (args l k) i = some v → ∃ j, i = k + j ∧ l[j]? = some v := by
  induction l with
  | nil => intro k i v h; cases h
  | cons u l ih =>
    intro k i v h
    have e : look ((args l (Nat.succ k)).put (some u) k) i = if i = k then some u else look (args l (Nat.succ k)) i := T.get_put ..
    have h' : look ((args l (Nat.succ k)).put (some u) k) i = some v := h
    rw [e] at h'
    by_cases hi : i = k
    · rw [if_pos hi] at h'; cases h'
      exact ⟨0, by omega, rfl⟩
    · rw [if_neg hi] at h'
      obtain ⟨j, h1, h2⟩ := ih _ _ _ h'
      exact ⟨j + 1, by omega, by simpa using h2⟩
omit [Toks] in
theorem fs_evFn {o : Orc} {ι : Type} {T : ι → Vals o} {L : LpF} (HC : ∀ i f, @FS (T i).toks P f (call f)) (HL : ∀ nt c F, (∀ i, @Does (T i).toks P nt c F) → ∀ i, @Does (T i).toks P nt (.loop c) (L c F))
    (hm : P.follows .mixedOrders = true) (f : Nat) (i : ι) : @FS (T i).toks P f (@evFn o P call L f) := by
  letI := (T i).toks
  intro l s v s' h ρ w l' hw hll
  unfold evFn at h
  split at h
  · rename_i fn hf
    split at h
    · rename_i c hb
      cases hc : Nat.ble l.length fn.ntmps with
      | false => rw [hc] at h; cases h
      | true =>
        rw [hc, cond_true] at h
        have hlen := hll.length
        have hle := ble_le hc
        have hin : In P fn.ntmps ρ (args l 0) s { tmps := ⟨l'⟩ ++ Array.replicate (fn.ntmps - (⟨l'⟩ : Array Value).size) undef, defers := [] } w := by
          refine ⟨hw, fun i u e => ?_, rfl, ?_⟩
          · obtain ⟨j, e1, e2⟩ := look_args l 0 i u e
            rw [Nat.zero_add] at e1
            subst e1
            obtain ⟨u', e', hu⟩ := hll.at i u e2
            refine ⟨u', ?_, hu⟩
            have hi := (List.getElem?_eq_some_iff.1 e').1
            show ((⟨l'⟩ : Array Value) ++ Array.replicate (fn.ntmps - (⟨l'⟩ : Array Value).size) undef)[i]? = some u'
            rw [Array.getElem?_append_left (by simpa using hi)]
            simpa using e'
          · show ((⟨l'⟩ : Array Value) ++ Array.replicate (fn.ntmps - (⟨l'⟩ : Array Value).size) undef).size = fn.ntmps
            simp; omega
        have hend : ∀ (kn : KN) (s1 : S) (e : Ex), (e = .norm ∨ e = .ret) → tupR (resL P kn s1 fn.results.toList) s1 = some (v, s') → evK P call fn.ntmps L c (args l 0) s = some (e, kn, s1) → Calls P f ⟨l'⟩ w (Post P ρ s w v s') := by
          intro kn s1 e he ht hk
          refine calls_of_wp hf hb (does_evK HC (HL fn.ntmps) hm c i (args l 0) s e kn s1 hk ρ _ w _ hin fun ρ' a' w' hs hi' => ?_)
          have hr : ∃ v', (results fn a'.tmps).run P w' = .ok v' w' ∧ VR ρ' v v' ∧ s1 = s' := by
            unfold tupR at ht
            split at ht
            · rename_i u hu
              cases ht
              obtain ⟨l2, h1, h2⟩ := resL_run hi'.wr hi'.tm hu
              cases h2 with
              | cons _ v' _ l3 hv hl3 =>
                cases hl3
                refine ⟨v', ?_, hv, rfl⟩
                rw [results_eq]
                have : (fn.results.mapM (oneRes a'.tmps)).run P w' = .ok #[v'] w' := by
                  rw [← Array.toArray_toList (xs := fn.results), List.mapM_toArray]
                  simp [h1]
                simp [this]
            · rename_i l1 hne hl1
              cases ht
              obtain ⟨l2, h1, h2⟩ := resL_run hi'.wr hi'.tm hl1
              refine ⟨.tuple ⟨l2⟩, ?_, .tuple _ _ h2, rfl⟩
              have hl2 : l2.length ≠ 1 := by
                rw [← h2.length]
                intro hh
                match l1, hh, hne with
                | [u], _, hne => exact hne u rfl
              rw [results_eq]
              have : (fn.results.mapM (oneRes a'.tmps)).run P w' = .ok ⟨l2⟩ w' := by
                rw [← Array.toArray_toList (xs := fn.results), List.mapM_toArray]
                simp [h1]
              simp [this, hl2]
            · cases ht
          obtain ⟨v', hr1, hv, rfl⟩ := hr
          rcases he with rfl | rfl
          · exact ⟨hi'.df, v', hr1, ρ', v', rfl, hv, hs⟩
          · exact ⟨hi'.df, v', hr1, ρ', v', rfl, hv, hs⟩
        unfold retR at h
        split at h
        · rename_i kn s1 hk; exact hend kn s1 _ (.inl rfl) h hk
        · rename_i kn s1 hk; exact hend kn s1 _ (.inr rfl) h hk
        · cases h
    · cases h
  · cases h
omit [Toks] in
/-- The engine is sound: over all valuations of a family. -/
theorem fs_evFs {o : Orc} {ι : Type} {T : ι → Vals o} {L : LpF} {hook : Hook} (hh : ∀ i f F, hook f = some F → @FS (T i).toks P f F) (HL : ∀ nt c F, (∀ i, @Does (T i).toks P nt c F) → ∀ i, @Does (T i).toks P nt (.loop c) (L c F))
    (hm : P.follows .mixedOrders = true) : ∀ (d : Nat) (i : ι) (f : Nat), @FS (T i).toks P f (@evF o P hook L d f) := by
  intro d
  induction d with
  | zero => intro i f l s v s' h; cases h
  | succ d ih =>
    intro i f l s v s' h
    have h' : (match hook f with | some F => F l s | none => @evFn o P (@evF o P hook L d) L f l s) = some (v, s') := h
    split at h'
    · rename_i F hF; exact hh i f F hF l s v s' h'
    · exact fs_evFn ih HL hm f i l s v s' h'
/-- The engine is sound. -/
theorem fs_evF {hook : Hook} (hh : ∀ f F, hook f = some F → FS P f F) (hm : P.follows .mixedOrders = true) (n : Nat) (d f : Nat) : FS P f (evF P hook (L0 n) d f) :=
  fs_evFs (ι := Unit) (T := fun _ => Vals.of inferInstance) (fun _ f F h => hh f F h) (fun _ _ _ hF i => does_loop (hF i)) hm d () f
end
end Go.Eng
