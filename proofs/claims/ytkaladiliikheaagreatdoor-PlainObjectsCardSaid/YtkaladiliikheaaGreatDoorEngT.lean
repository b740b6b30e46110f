/- The engine, part T: a region whose order is drawn, evaluated: 'evD', and that the model does what it says. -/
import Derived.Test.YtkaladiliikheaaGreatDoorEngS
set_option linter.unusedVariables false
set_option linter.unusedSectionVars false
set_option linter.unusedSimpArgs false
namespace Go.Eng
open Go
variable [Toks]

/-! ### What the region's own text says -/
omit [Toks] in
def usesOf (l : List Oper) (o : Oper) : List Nat := (o.op.operands.toList.filterMap fun | .tmp t => some t | _ => none) ++
  (match o.guard with | some (g, _) => (match (l[g]?).bind (·.dst) with | some t => [t] | none => []) | none => [])
omit [Toks] in
def orAll (pm : List Nat) : List Edge → Nat
  | [] => 0
  | e :: es => bif Region.binds .any e then Nat.lor (Nat.lor (pm.getD e.on 0) (Nat.shiftLeft 1 e.on)) (orAll pm es) else orAll pm es
omit [Toks] in
def masks : List Oper → List Nat → List Nat
  | [], acc => acc
  | o :: l, acc => masks l (acc ++ [orAll acc o.after.toList])
omit [Toks] in
def mvAt (l : List Oper) (i : Nat) : Bool := match l[i]? with | some o => isMv o | none => false
omit [Toks] in
def el (k : Nat) (fl : List Nat) : Bool := fl.any (Nat.beq k)
omit [Toks] in
def mvs (l : List Oper) (fl : List Nat) : List Nat := (List.range l.length).filter fun i => mvAt l i && !el i fl
omit [Toks] in
def mc (fl : List Nat) : List Oper → Nat → Nat → Nat
  | _, _, 0 => 0
  | [], _, _ + 1 => 0
  | o :: r, k, i + 1 => bif isMv o && !el k fl then mc fl r (k + 1) i + 1 else mc fl r (k + 1) i
omit [Toks] in
def loP (l : List Oper) (fl pm : List Nat) (i : Nat) : Nat := (mvs l fl).countP fun j => has (pm.getD i 0) j
omit [Toks] in
def hiP (l : List Oper) (fl pm : List Nat) (i : Nat) : Nat := (mvs l fl).countP fun j => !has (pm.getD j 0) i && !Nat.beq j i
omit [Toks] in
def fixd (l : List Oper) (fl pm : List Nat) (i : Nat) : Bool := Nat.beq (loP l fl pm i) (mc fl l 0 i) && Nat.beq (hiP l fl pm i) (mc fl l 0 i)
omit [Toks] in
/-- The allocations that float: those that are not ordered with all that may change the state. -/
def flsOf (l : List Oper) (pm : List Nat) : List Nat := (List.range l.length).filter fun i => match l[i]? with | some o => isAl o && o.guard.isNone && !fixd l [] pm i | none => false
omit [Toks] in
def gapOf (l : List Oper) (fl pm : List Nat) (f : Nat) : Nat := (mvs l fl).findIdx fun j => has (pm.getD j 0) f
omit [Toks] in
def dis (l : List Oper) (j t : Nat) : Bool := match (l[j]?).bind (·.dst) with | some d => Nat.beq d t | none => false
omit [Toks] in
def okUse (l : List Oper) (pm : List Nat) (i t : Nat) : Bool :=
  (List.range l.length).any (fun j => has (pm.getD i 0) j && dis l j t) || (List.range l.length).all fun j => !dis l j t || has (pm.getD j 0) i || Nat.beq j i
omit [Toks] in
def okAt (l : List Oper) (nt : Nat) (fl pm : List Nat) (i : Nat) : Bool := match l[i]? with
  | some o => o.after.toList.all (fun e => !Region.binds .any e || Nat.blt e.on i) && Nat.beq (pm.getD i 0) (orAll pm o.after.toList) && dOk nt o.dst &&
    (match o.dst with | some d => (List.range l.length).all fun j => Nat.beq j i || !dis l j d | none => true) && (usesOf l o).all (okUse l pm i) &&
    (!isMv o || el i fl || (fixd l fl pm i && fl.all fun f => !Nat.beq (gapOf l fl pm f) (mc fl l 0 i) || has (pm.getD i 0) f))
  | none => false
omit [Toks] in
def stat (l : List Oper) (nt : Nat) (fl pm : List Nat) : Bool := (List.range l.length).all (okAt l nt fl pm) && Nat.beq (mvs l fl).length (mc fl l 0 l.length)
omit [Toks] in
def need (l : List Oper) (fl pm : List Nat) : Bool := (List.range l.length).any fun i => match l[i]? with | some o => isRd o && !fixd l fl pm i | none => false
omit [Toks] in
def fidx (s : S) (fl : List Nat) (k : Nat) : Nat := Nat.add s.nx (Nat.mul (fl.findIdx (Nat.beq k)) s.sd)
omit [Toks] in
noncomputable def fobOf (ob : T Obj) (f : Nat) : Obj := match ob.get f with | some o => o | none => .map #[] 0
omit [Toks] in
def glOf (l : List Oper) (fl pm : List Nat) (p : Nat) : List Nat := fl.filter fun f => Nat.beq (gapOf l fl pm f) p

/-! ### The run in the order of the text; other places of what only looks -/
omit [Toks] in
noncomputable def restr (kn : KN) (us : List Nat) : KN := List.rec (motive := fun _ => KN) .l (fun t _ ih => match look kn t with | some v => ih.put (some v) t | none => ih) us
omit [Toks] in
noncomputable def p1 [Orc] (P : Program) (call : Nat → List Value → S → R) (l : List Oper) (fl : List Nat) (fid : Nat → Nat) (gl : Nat → List Nat) (r : List Oper) : Nat → Nat → KN → T Obj → S → Option (List Value × List S × KN × T Obj × S) :=
  List.rec (motive := fun _ => Nat → Nat → KN → T Obj → S → Option (List Value × List S × KN × T Obj × S)) (fun _ _ kn ob s => some ([], [s], kn, ob, s))
    (fun o _ ih k p kn ob s =>
      bif el k fl then (match evA P o (restr kn (usesOf l o)) with
        | some (mk, obj) => (match ih (Nat.succ k) p (ins o.dst (mk (fid k)) kn) (ob.put (some obj) k) s with
          | some (vs, ss, kn', ob', sf) => some (mk (fid k) :: vs, ss, kn', ob', sf)
          | none => none)
        | none => none)
      else bif isMv o then (match stepO P call l o (restr kn (usesOf l o)) (abL fid (fobOf ob) (gl p) s) with
        | some (v, s1) => (match ih (Nat.succ k) (Nat.succ p) (ins o.dst v kn) ob s1 with
          | some (vs, ss, kn', ob', sf) => some (v :: vs, s :: ss, kn', ob', sf)
          | none => none)
        | none => none)
      else (match stepO P call l o (restr kn (usesOf l o)) s with
        | some (v, s1) => (match ih (Nat.succ k) p (ins o.dst v kn) ob s1 with
          | some (vs, ss, kn', ob', sf) => some (v :: vs, ss, kn', ob', sf)
          | none => none)
        | none => none)) r
omit [Toks] in
noncomputable def tryAll [Orc] (P : Program) (call : Nat → List Value → S → R) (l : List Oper) (o : Oper) (kn : KN) (v : Value) (ss : List S) (p : Nat) (k : Nat) : Bool :=
  Nat.rec (motive := fun _ => Bool) true (fun k ih => (match ss[p + k]? with
    | some sp => (match stepO P call l o kn sp with | some (u, _) => veq 5 u v | none => false)
    | none => false) && ih) k
omit [Toks] in
noncomputable def p2 [Orc] (P : Program) (call : Nat → List Value → S → R) (l : List Oper) (fl pm : List Nat) (ss : List S) (r : List Oper) : Nat → List Value → KN → Bool :=
  List.rec (motive := fun _ => Nat → List Value → KN → Bool) (fun _ _ _ => true)
    (fun o _ ih i vs kn => match vs with
      | v :: vs => (bif isRd o && !fixd l fl pm i then tryAll P call l o (restr kn (usesOf l o)) v ss (loP l fl pm i) (hiP l fl pm i + 1 - loP l fl pm i) else true) && ih (Nat.succ i) vs (ins o.dst v kn)
      | [] => false) r
omit [Toks] in
noncomputable def evDx [Orc] (P : Program) (call : Nat → List Value → S → R) (nt : Nat) (l : List Oper) (fl pm : List Nat) (kn : KN) (s : S) : Option (KN × S) :=
  bif stat l nt fl pm then (match p1 P call l fl (fidx s fl) (glOf l fl pm) l 0 0 kn .l (s.rsv fl.length) with
    | some (vs, ss, kn', ob, sf) => (bif need l fl pm then (bif p2 P call l fl pm ss l 0 vs kn then some (kn', abL (fidx s fl) (fobOf ob) (glOf l fl pm (mvs l fl).length) sf) else none)
      else some (kn', abL (fidx s fl) (fobOf ob) (glOf l fl pm (mvs l fl).length) sf))
    | none => none) else none
omit [Toks] in
noncomputable def evD [Orc] (P : Program) (call : Nat → List Value → S → R) (nt : Nat) (l : List Oper) (kn : KN) (s : S) : Option (KN × S) := evDx P call nt l (flsOf l (masks l [])) (masks l []) kn s

/-! ### What they say -/
omit [Toks] in
noncomputable def knAt : List Oper → List Value → KN → Nat → KN
  | _, _, kn, 0 => kn
  | o :: r, v :: vs, kn, k + 1 => knAt r vs (ins o.dst v kn) k
  | _, _, kn, _ + 1 => kn
section
variable {P : Program} {call : Nat → List Value → S → R} {nt : Nat} {l : List Oper}
theorem look_restr {kn : KN} {t : Nat} {v : Value} : ∀ (us : List Nat), look (restr kn us) t = some v → t ∈ us ∧ look kn t = some v := by
  intro us
  induction us with
  | nil => intro h; cases h
  | cons u us ih =>
    intro h
    have h' : look (match look kn u with | some v => (restr kn us).put (some v) u | none => restr kn us) t = some v := h
    split at h'
    · rename_i x hx
      have e : look ((restr kn us).put (some x) u) t = if t = u then some x else look (restr kn us) t := T.get_put ..
      rw [e] at h'
      by_cases htu : t = u
      · rw [if_pos htu] at h'
        cases h'
        exact ⟨by simp [htu], by rw [htu]; exact hx⟩
      · rw [if_neg htu] at h'
        have := ih h'
        exact ⟨List.mem_cons_of_mem _ this.1, this.2⟩
    · have := ih h'
      exact ⟨List.mem_cons_of_mem _ this.1, this.2⟩
theorem look_ins' {d : Option Tmp} {v u : Value} {kn : KN} {t : Nat} (h : look (ins d v kn) t = some u) : (d = some t ∧ u = v) ∨ (d ≠ some t ∧ look kn t = some u) := by
  cases d with
  | none => exact .inr ⟨by simp, h⟩
  | some d =>
    rw [look_ins] at h
    by_cases e : t = d
    · rw [if_pos e] at h; cases h; exact .inl ⟨by rw [e], rfl⟩
    · rw [if_neg e] at h; exact .inr ⟨fun h' => e (Option.some.inj h').symm, h⟩
theorem look_knAt {t : Nat} {v : Value} : ∀ (r : List Oper) (vs : List Value) (kn : KN) (k : Nat), look (knAt r vs kn k) t = some v →
    (∃ j, j < k ∧ (r[j]?).bind (·.dst) = some t ∧ vs[j]? = some v) ∨ (look kn t = some v ∧ (r.length ≤ vs.length → ∀ j, j < k → (r[j]?).bind (·.dst) ≠ some t))
  | r, vs, kn, 0, h => .inr ⟨by cases r <;> cases vs <;> exact h, fun _ j hj => by omega⟩
  | o :: r, v' :: vs, kn, k + 1, h => by
    rcases look_knAt r vs (ins o.dst v' kn) k h with ⟨j, h1, h2, h3⟩ | ⟨h1, h2⟩
    · exact .inl ⟨j + 1, by omega, h2, h3⟩
    · rcases look_ins' h1 with ⟨e1, e2⟩ | ⟨e1, e2⟩
      · exact .inl ⟨0, by omega, by simpa using e1, by simp [e2]⟩
      · refine .inr ⟨e2, fun hl j hj => ?_⟩
        cases j with
        | zero => simpa using e1
        | succ j => simpa using h2 (by simpa using hl) j (by omega)
  | [], vs, kn, k + 1, h => .inr ⟨h, fun _ j _ => by simp⟩
  | o :: r, [], kn, k + 1, h => .inr ⟨h, fun hl => by simp at hl⟩
theorem abL_congr {fid : Nat → Nat} {fob fob' : Nat → Obj} : ∀ (r : List Nat) (s : S), (∀ f ∈ r, fob f = fob' f) → abL fid fob r s = abL fid fob' r s
  | [], s, _ => rfl
  | f :: r, s, h => by
    simp only [abL]
    rw [h f (List.mem_cons_self ..)]
    exact abL_congr r _ fun g hg => h g (List.mem_cons_of_mem _ hg)
/-- What an operation of the run did. -/
structure Did (P : Program) (call : Nat → List Value → S → R) (l : List Oper) (fl : List Nat) (fid : Nat → Nat) (gl : Nat → List Nat) (o : Oper) (k p : Nat) (kf : KN) (v : Value) (ss : List S) (m : Nat) (ob' : T Obj) : Prop where
  flo : el k fl = true → ∃ mk obj, evA P o kf = some (mk, obj) ∧ v = mk (fid k) ∧ ob'.get k = some obj
  oth : el k fl = false → ∃ sa sb obx, ss[m]? = some sa ∧ ss[if isMv o then m + 1 else m]? = some sb ∧ (∀ f, f < k → obx.get f = ob'.get f) ∧ stepO P call l o kf (if isMv o then abL fid (fobOf obx) (gl (p + m)) sa else sa) = some (v, sb)
theorem p1_spec {fl : List Nat} {fid : Nat → Nat} {gl : Nat → List Nat} : ∀ (r : List Oper) (k p : Nat) (kn : KN) (ob : T Obj) (s : S) (vs : List Value) (ss : List S) (kn' : KN) (ob' : T Obj) (sf : S), p1 P call l fl fid gl r k p kn ob s = some (vs, ss, kn', ob', sf) →
    vs.length = r.length ∧ ss[0]? = some s ∧ ss[mc fl r k r.length]? = some sf ∧ kn' = knAt r vs kn r.length ∧ (∀ f, f < k → ob'.get f = ob.get f) ∧
    ∀ (i : Nat) (o : Oper), r[i]? = some o → ∃ v, vs[i]? = some v ∧ Did P call l fl fid gl o (k + i) p (restr (knAt r vs kn i) (usesOf l o)) v ss (mc fl r k i) ob' := by
  intro r
  induction r with
  | nil =>
    intro k p kn ob s vs ss kn' ob' sf h
    cases h
    exact ⟨rfl, rfl, rfl, rfl, fun _ _ => rfl, fun i o h => by simp at h⟩
  | cons o r ih =>
    intro k p kn ob s vs ss kn' ob' sf h
    have h' : (bif el k fl then (match evA P o (restr kn (usesOf l o)) with
        | some (mk, obj) => (match p1 P call l fl fid gl r (Nat.succ k) p (ins o.dst (mk (fid k)) kn) (ob.put (some obj) k) s with
          | some (vs, ss, kn', ob', sf) => some (mk (fid k) :: vs, ss, kn', ob', sf)
          | none => none)
        | none => none)
      else bif isMv o then (match stepO P call l o (restr kn (usesOf l o)) (abL fid (fobOf ob) (gl p) s) with
        | some (v, s1) => (match p1 P call l fl fid gl r (Nat.succ k) (Nat.succ p) (ins o.dst v kn) ob s1 with
          | some (vs, ss, kn', ob', sf) => some (v :: vs, s :: ss, kn', ob', sf)
          | none => none)
        | none => none)
      else (match stepO P call l o (restr kn (usesOf l o)) s with
        | some (v, s1) => (match p1 P call l fl fid gl r (Nat.succ k) p (ins o.dst v kn) ob s1 with
          | some (vs, ss, kn', ob', sf) => some (v :: vs, ss, kn', ob', sf)
          | none => none)
        | none => none)) = some (vs, ss, kn', ob', sf) := h
    cases he : el k fl with
    | true =>
      rw [he, cond_true] at h'
      split at h'
      · rename_i mk obj hev
        split at h'
        · rename_i vs1 ss1 kn1 ob1 sf1 hp
          cases h'
          obtain ⟨a1, a2, a3, a4, a5, a6⟩ := ih _ _ _ _ _ _ _ _ _ _ hp
          have hmc : ∀ i, mc fl (o :: r) k (i + 1) = mc fl r (k + 1) i := fun i => by simp [mc, he]
          refine ⟨by simp [a1], a2, ?_, ?_, fun f hf => ?_, ?_⟩
          · rw [List.length_cons, hmc]; exact a3
          · rw [a4, List.length_cons]; rfl
          · rw [a5 f (by omega), T.get_put, if_neg (by omega)]
          · intro i o' hi
            cases i with
            | zero =>
              simp only [List.getElem?_cons_zero, Option.some.injEq] at hi
              subst hi
              refine ⟨_, rfl, ⟨fun _ => ⟨mk, obj, hev, rfl, ?_⟩, fun hf => ?_⟩⟩
              · rw [Nat.add_zero, a5 k (by omega), T.get_put, if_pos rfl]
              · rw [Nat.add_zero, he] at hf; cases hf
            | succ i =>
              simp only [List.getElem?_cons_succ] at hi
              obtain ⟨u, b1, b2⟩ := a6 i o' hi
              rw [show Nat.succ k + i = k + (i + 1) from by omega] at b2
              exact ⟨u, by simpa using b1, by rw [hmc]; exact b2⟩
        · cases h'
      · cases h'
    | false =>
      rw [he, cond_false] at h'
      cases hm : isMv o with
      | true =>
        rw [hm, cond_true] at h'
        split at h'
        · rename_i v s1 hst
          split at h'
          · rename_i vs1 ss1 kn1 ob1 sf1 hp
            cases h'
            obtain ⟨a1, a2, a3, a4, a5, a6⟩ := ih _ _ _ _ _ _ _ _ _ _ hp
            have hmc : ∀ i, mc fl (o :: r) k (i + 1) = mc fl r (k + 1) i + 1 := fun i => by simp [mc, he, hm]
            refine ⟨by simp [a1], rfl, ?_, ?_, fun f hf => a5 f (by omega), ?_⟩
            · rw [List.length_cons, hmc]; simpa using a3
            · rw [a4, List.length_cons]; rfl
            · intro i o' hi
              cases i with
              | zero =>
                simp only [List.getElem?_cons_zero, Option.some.injEq] at hi
                subst hi
                refine ⟨_, rfl, ⟨fun hf => ?_, fun _ => ⟨s, s1, ob, rfl, ?_, fun f hf => (a5 f (by omega)).symm, ?_⟩⟩⟩
                · rw [Nat.add_zero, he] at hf; cases hf
                · rw [hm]; simp [mc, a2]
                · rw [hm, if_pos rfl]; exact hst
              | succ i =>
                simp only [List.getElem?_cons_succ] at hi
                obtain ⟨u, b1, b2, b3⟩ := a6 i o' hi
                rw [show Nat.succ k + i = k + (i + 1) from by omega] at b2 b3
                refine ⟨u, by simpa using b1, ⟨b2, fun hf => ?_⟩⟩
                obtain ⟨sa, sb, obx, c1, c2, c3, c4⟩ := b3 hf
                rw [hmc]
                refine ⟨sa, sb, obx, by simpa using c1, ?_, c3, ?_⟩
                · cases hm' : isMv o' <;> rw [hm'] at c2 <;> simpa using c2
                · rw [show p + (mc fl r (k + 1) i + 1) = Nat.succ p + mc fl r (k + 1) i from by omega]; exact c4
          · cases h'
        · cases h'
      | false =>
        rw [hm, cond_false] at h'
        split at h'
        · rename_i v s1 hst
          split at h'
          · rename_i vs1 ss1 kn1 ob1 sf1 hp
            cases h'
            have hs1 := kp_stepO hm _ _ hst
            subst hs1
            obtain ⟨a1, a2, a3, a4, a5, a6⟩ := ih _ _ _ _ _ _ _ _ _ _ hp
            have hmc : ∀ i, mc fl (o :: r) k (i + 1) = mc fl r (k + 1) i := fun i => by simp [mc, hm]
            refine ⟨by simp [a1], a2, ?_, ?_, fun f hf => a5 f (by omega), ?_⟩
            · rw [List.length_cons, hmc]; exact a3
            · rw [a4, List.length_cons]; rfl
            · intro i o' hi
              cases i with
              | zero =>
                simp only [List.getElem?_cons_zero, Option.some.injEq] at hi
                subst hi
                refine ⟨_, rfl, ⟨fun hf => ?_, fun _ => ⟨s1, s1, ob, by simpa [mc] using a2, ?_, fun f hf => (a5 f (by omega)).symm, ?_⟩⟩⟩
                · rw [Nat.add_zero, he] at hf; cases hf
                · rw [hm]; simpa [mc] using a2
                · rw [hm, if_neg (by simp)]; exact hst
              | succ i =>
                simp only [List.getElem?_cons_succ] at hi
                obtain ⟨u, b1, b2⟩ := a6 i o' hi
                rw [show Nat.succ k + i = k + (i + 1) from by omega] at b2
                exact ⟨u, by simpa using b1, by rw [hmc]; exact b2⟩
          · cases h'
        · cases h'
theorem tryAll_spec {o : Oper} {kn : KN} {v : Value} {ss : List S} {p : Nat} : ∀ (k : Nat), tryAll P call l o kn v ss p k = true → ∀ q, p ≤ q → q < p + k → ∃ sp s', ss[q]? = some sp ∧ stepO P call l o kn sp = some (v, s') := by
  intro k
  induction k with
  | zero => intro _ q h1 h2; omega
  | succ k ih =>
    intro h q h1 h2
    have h' : ((match ss[p + k]? with
      | some sp => (match stepO P call l o kn sp with | some (u, _) => veq 5 u v | none => false)
      | none => false) && tryAll P call l o kn v ss p k) = true := h
    simp only [Bool.and_eq_true] at h'
    by_cases hq : q = p + k
    · subst hq
      have h3 := h'.1
      split at h3
      · rename_i sp hsp
        split at h3
        · rename_i u s' hu
          have := veq_eq 5 u v h3
          subst this
          exact ⟨sp, s', hsp, hu⟩
        · cases h3
      · cases h3
    · exact ih h'.2 q h1 (by omega)
theorem p2_spec {fl pm : List Nat} {ss : List S} : ∀ (r : List Oper) (k : Nat) (vs : List Value) (kn : KN), p2 P call l fl pm ss r k vs kn = true →
    ∀ (i : Nat) (o : Oper) (v : Value), r[i]? = some o → vs[i]? = some v → isRd o = true → fixd l fl pm (k + i) = false → tryAll P call l o (restr (knAt r vs kn i) (usesOf l o)) v ss (loP l fl pm (k + i)) (hiP l fl pm (k + i) + 1 - loP l fl pm (k + i)) = true := by
  intro r
  induction r with
  | nil => intro k vs kn h i o v hi; simp at hi
  | cons o r ih =>
    intro k vs kn h i o' v hi hv hrd hfx
    cases vs with
    | nil => simp at hv
    | cons u vs =>
      have h' : ((bif isRd o && !fixd l fl pm k then tryAll P call l o (restr kn (usesOf l o)) u ss (loP l fl pm k) (hiP l fl pm k + 1 - loP l fl pm k) else true) && p2 P call l fl pm ss r (Nat.succ k) vs (ins o.dst u kn)) = true := h
      simp only [Bool.and_eq_true] at h'
      cases i with
      | zero =>
        simp only [List.getElem?_cons_zero, Option.some.injEq] at hi hv
        subst hi; subst hv
        have h3 := h'.1
        rw [hrd] at h3
        simp only [Nat.add_zero] at hfx ⊢
        rw [hfx] at h3
        exact h3
      | succ i =>
        simp only [List.getElem?_cons_succ] at hi hv
        have := ih (Nat.succ k) vs _ h'.2 i o' v hi hv hrd (by rw [show Nat.succ k + i = k + (i + 1) from by omega]; exact hfx)
        rw [show Nat.succ k + i = k + (i + 1) from by omega] at this
        exact this
theorem has_lor (a b j : Nat) : has (Nat.lor a b) j = (has a j || has b j) := Nat.testBit_or a b j
theorem has_shift (k j : Nat) : has (Nat.shiftLeft 1 k) j = decide (k = j) := by
  have : Nat.shiftLeft 1 k = 2 ^ k := by
    show 1 <<< k = 2 ^ k
    rw [Nat.shiftLeft_eq, Nat.one_mul]
  rw [this]
  exact Nat.testBit_two_pow
theorem has_zero (j : Nat) : has 0 j = false := Nat.zero_testBit j
theorem orAll_has {pm : List Nat} {j : Nat} : ∀ (es : List Edge), has (orAll pm es) j = true → ∃ e ∈ es, Region.binds .any e = true ∧ (e.on = j ∨ has (pm.getD e.on 0) j = true) := by
  intro es
  induction es with
  | nil => intro h; rw [orAll, has_zero] at h; cases h
  | cons e es ih =>
    intro h
    rw [orAll] at h
    cases hb : Region.binds .any e with
    | false =>
      rw [hb, cond_false] at h
      obtain ⟨e', he, h2⟩ := ih h
      exact ⟨e', List.mem_cons_of_mem _ he, h2⟩
    | true =>
      rw [hb, cond_true, has_lor, has_lor, has_shift] at h
      simp only [Bool.or_eq_true, decide_eq_true_eq] at h
      rcases h with (h | h) | h
      · exact ⟨e, List.mem_cons_self .., hb, .inr h⟩
      · exact ⟨e, List.mem_cons_self .., hb, .inl h⟩
      · obtain ⟨e', he, h2⟩ := ih h
        exact ⟨e', List.mem_cons_of_mem _ he, h2⟩
theorem dis_iff {j t : Nat} : dis l j t = true ↔ (l[j]?).bind (·.dst) = some t := by
  unfold dis
  split
  · rename_i d hd
    rw [hd]
    constructor
    · intro h; rw [Nat.eq_of_beq_eq_true h]
    · intro h; cases h; simp
  · rename_i hd
    rw [hd]; simp
theorem dis_lt {j t : Nat} (h : dis l j t = true) : j < l.length := by
  rw [dis_iff] at h
  by_cases hj : j < l.length
  · exact hj
  · rw [List.getElem?_eq_none (by omega)] at h; cases h
structure OkAt (l : List Oper) (nt : Nat) (fl pm : List Nat) (i : Nat) (o : Oper) : Prop where
  edge : ∀ e ∈ o.after, Region.binds .any e = true → e.on < i
  pres : pm.getD i 0 = orAll pm o.after.toList
  dok : dOk nt o.dst = true
  uniq : ∀ d, o.dst = some d → ∀ j, dis l j d = true → j = i
  uses : ∀ t ∈ usesOf l o, okUse l pm i t = true
  mvf : isMv o = true → el i fl = false → fixd l fl pm i = true ∧ ∀ f ∈ fl, gapOf l fl pm f = mc fl l 0 i → has (pm.getD i 0) f = true
theorem okAt_spec {fl pm : List Nat} {i : Nat} {o : Oper} (h : okAt l nt fl pm i = true) (hi : l[i]? = some o) : OkAt l nt fl pm i o := by
  unfold okAt at h
  rw [hi] at h
  simp only [Bool.and_eq_true, List.all_eq_true] at h
  obtain ⟨⟨⟨⟨⟨h1, h2⟩, h3⟩, h4⟩, h5⟩, h6⟩ := h
  refine ⟨fun e he hb => ?_, Nat.eq_of_beq_eq_true h2, h3, fun d hd j hj => ?_, h5, fun hm hel => ?_⟩
  · have := h1 e (by simpa using he)
    rw [hb] at this
    exact blt_lt (by simpa using this)
  · rw [hd] at h4
    simp only [List.all_eq_true, List.mem_range, Bool.or_eq_true, Bool.not_eq_true'] at h4
    rcases h4 j (dis_lt hj) with h | h
    · exact Nat.eq_of_beq_eq_true h
    · rw [hj] at h; cases h
  · rw [hm, hel] at h6
    simp only [Bool.not_true, Bool.or_self, Bool.false_or, Bool.and_eq_true, List.all_eq_true, Bool.or_eq_true, Bool.not_eq_true'] at h6
    refine ⟨h6.1, fun f hf hg => ?_⟩
    rcases h6.2 f hf with h | h
    · rw [hg] at h; simp at h
    · exact h
theorem el_iff {k : Nat} {fl : List Nat} : el k fl = true ↔ k ∈ fl := by
  unfold el
  rw [List.any_eq_true]
  constructor
  · rintro ⟨x, hx, h⟩; rw [Nat.eq_of_beq_eq_true h]; exact hx
  · intro h; exact ⟨k, h, by simp⟩
theorem mem_mvs {fl : List Nat} {i : Nat} : i ∈ mvs l fl ↔ ∃ o, l[i]? = some o ∧ isMv o = true ∧ el i fl = false := by
  unfold mvs
  rw [List.mem_filter, List.mem_range]
  unfold mvAt
  constructor
  · rintro ⟨h1, h2⟩
    simp only [Bool.and_eq_true, Bool.not_eq_true'] at h2
    rw [List.getElem?_eq_getElem h1] at h2 ⊢
    exact ⟨_, rfl, h2.1, h2.2⟩
  · rintro ⟨o, ho, hm, he⟩
    rw [ho, he]
    exact ⟨(List.getElem?_eq_some_iff.1 ho).1, by simpa using hm⟩
theorem mem_flsOf {pm : List Nat} {i : Nat} (h : i ∈ flsOf l pm) : ∃ o, l[i]? = some o ∧ isAl o = true ∧ o.guard = none := by
  unfold flsOf at h
  rw [List.mem_filter] at h
  have h2 := h.2
  split at h2
  · rename_i o ho
    simp only [Bool.and_eq_true, Option.isNone_iff_eq_none] at h2
    exact ⟨o, ho, h2.1.1, h2.1.2⟩
  · cases h2
theorem findIdx_eq {k : Nat} {fl : List Nat} (h : k ∈ fl) : fl.findIdx (Nat.beq k) < fl.length ∧ fl[fl.findIdx (Nat.beq k)]? = some k := by
  have h1 : fl.findIdx (Nat.beq k) < fl.length := List.findIdx_lt_length_of_exists ⟨k, h, by simp⟩
  refine ⟨h1, ?_⟩
  have h2 := List.findIdx_getElem (w := h1)
  rw [List.getElem?_eq_getElem h1]
  rw [← Nat.eq_of_beq_eq_true h2]
/-- A drawn region does what it is evaluated to. -/
theorem wp_evD (HC : ∀ f, FS P f (call f)) (hm : P.follows .mixedOrders = true) {ops : Array Oper} {id : Nat} {kn kn' : KN} {s s' : S} (h : evD P call nt ops.toList kn s = some (kn', s')) {ρ : Ren} {act : Act} {w : World} {Q : Exit → Act → World → Prop}
    (hi : In P nt ρ kn s act w) (hQ : ∀ ρ' act' w', Stp P ρ s w ρ' s' w' → In P nt ρ' kn' s' act' w' → Q .normal act' w') : (Code.region id ops true).wp P Q act w := by
  unfold evD at h
  generalize hpm : masks ops.toList [] = pm at h
  have hflm : ∀ i, i ∈ flsOf ops.toList pm → ∃ o, ops.toList[i]? = some o ∧ isAl o = true ∧ o.guard = none := fun i h => mem_flsOf h
  have hfln : (flsOf ops.toList pm).Nodup := List.Pairwise.filter _ List.nodup_range
  generalize flsOf ops.toList pm = fl at h hflm hfln
  unfold evDx at h
  cases hs : stat ops.toList nt fl pm with
  | false => rw [hs] at h; cases h
  | true =>
    rw [hs, cond_true] at h
    split at h
    · rename_i vs ss kn1 ob sf hp
      have hout : kn1 = kn' ∧ abL (fidx s fl) (fobOf ob) (glOf ops.toList fl pm (mvs ops.toList fl).length) sf = s' ∧ (need ops.toList fl pm = true → p2 P call ops.toList fl pm ss ops.toList 0 vs kn = true) := by
        cases hn : need ops.toList fl pm with
        | false => rw [hn, cond_false] at h; cases h; exact ⟨rfl, rfl, fun h => by cases h⟩
        | true =>
          rw [hn, cond_true] at h
          cases h2 : p2 P call ops.toList fl pm ss ops.toList 0 vs kn with
          | false => rw [h2] at h; cases h
          | true => rw [h2] at h; cases h; exact ⟨rfl, rfl, fun _ => rfl⟩
      obtain ⟨rfl, hsf, hp2⟩ := hout
      obtain ⟨a1, a2, a3, a4, _, a5⟩ := p1_spec _ _ _ _ _ _ _ _ _ _ _ hp
      simp only [Nat.zero_add] at a5
      unfold stat at hs
      simp only [Bool.and_eq_true, List.all_eq_true, List.mem_range] at hs
      have hlast := Nat.eq_of_beq_eq_true hs.2
      have hat : ∀ i o, ops.toList[i]? = some o → OkAt ops.toList nt fl pm i o := fun i o ho => okAt_spec (hs.1 i (List.getElem?_eq_some_iff.1 ho).1) ho
      have hl : ∀ i : Nat, ops[i]? = ops.toList[i]? := fun i => by simp
      have hdst : ∀ j, Draw.dst ops j = (ops.toList[j]?).bind (·.dst) := fun j => by unfold Draw.dst; rw [hl]
      let D : Draw P ops kn s nt := ⟨fun i => vs.getD i undef, fun p => ss.getD p s, mvs ops.toList fl, fun i => pm.getD i 0, fun i => match ops.toList[i]? with | some o => restr (knAt ops.toList vs kn i) (usesOf ops.toList o) | none => .l,
        fl, fidx s fl, fobOf ob, gapOf ops.toList fl pm, fl.length⟩
      have hst : ∀ p sa, ss[p]? = some sa → D.st p = sa := fun p sa e => by show ss.getD p s = sa; rw [List.getD_eq_getElem?_getD, e]; rfl
      have hval : ∀ i v, vs[i]? = some v → D.val i = v := fun i v e => by show vs.getD i undef = v; rw [List.getD_eq_getElem?_getD, e]; rfl
      have hkf : ∀ i o, ops.toList[i]? = some o → D.kf i = restr (knAt ops.toList vs kn i) (usesOf ops.toList o) := fun i o e => by
        show (match ops.toList[i]? with | some o => _ | none => _) = _
        rw [e]
      have hpre : ∀ i, D.pre i = pm.getD i 0 := fun i => rfl
      have hmv : D.mv = mvs ops.toList fl := rfl
      have hlo : ∀ i, D.lo i = loP ops.toList fl pm i := fun i => rfl
      have hhi : ∀ i, D.hi i = hiP ops.toList fl pm i := fun i => rfl
      have hab : ∀ p, D.ab p = abL (fidx s fl) (fobOf ob) (glOf ops.toList fl pm p) (D.st p) := fun p => rfl
      have hfl : D.fl = fl := rfl
      have hfid : ∀ i, D.fid i = fidx s fl i := fun i => rfl
      have hfob : ∀ i, D.fob i = fobOf ob i := fun i => rfl
      have hgap : ∀ i, D.gap i = gapOf ops.toList fl pm i := fun i => rfl
      have hq : D.q = fl.length := rfl
      clear_value D
      have hprelt : ∀ i j, i < ops.toList.length → has (pm.getD i 0) j = true → j < i := by
        intro i
        induction i using Nat.strongRecOn with
        | ind i ih =>
          intro j hi hj
          have ho := List.getElem?_eq_getElem hi
          have hA := hat i _ ho
          rw [hA.pres] at hj
          obtain ⟨e, he, hb, hor⟩ := orAll_has _ hj
          have he' := hA.edge e (by simpa using he) hb
          rcases hor with rfl | hor
          · exact he'
          · have := ih e.on he' j (by omega) hor
            omega
      have hpos : ∀ i p, fixd ops.toList fl pm i = true → D.lo i ≤ p → p ≤ D.hi i → p = mc fl ops.toList 0 i := fun i p hf h1 h2 => by
        unfold fixd at hf
        simp only [Bool.and_eq_true] at hf
        have f1 := Nat.eq_of_beq_eq_true hf.1
        have f2 := Nat.eq_of_beq_eq_true hf.2
        rw [hlo, f1] at h1
        rw [hhi, f2] at h2
        omega
      have hok : D.Ok := by
        refine ⟨by rw [hq]; exact hst 0 _ a2, ?_, fun i o e ho => (hat i o (by rw [← hl]; exact ho)).edge e, ?_, ?_, ?_, fun i o ho => (hat i o (by rw [← hl]; exact ho)).dok, ?_, ?_, ?_, ?_, by rw [hfl]; exact hfln, ?_, ?_, ?_⟩
        · rw [hmv]; exact List.Pairwise.filter _ List.nodup_range
        · intro i o j ho hj
          rw [hl] at ho
          rw [hpre, (hat i o ho).pres] at hj
          obtain ⟨e, he, h2⟩ := orAll_has _ hj
          exact ⟨e, by simpa using he, by rw [hpre]; exact h2⟩
        · intro i o p ho hnf hlop hhip
          rw [hl] at ho
          rw [hfl] at hnf
          have hel : el i fl = false := by rw [Bool.eq_false_iff]; intro hh; exact hnf (el_iff.1 hh)
          obtain ⟨v, b1, bb⟩ := a5 i o ho
          obtain ⟨sa, sb, obx, b2, b3, b5, b4⟩ := bb.oth hel
          simp only [Nat.zero_add] at b4
          rw [hval i v b1, hkf i o ho]
          have hA := hat i o ho
          cases hm' : isMv o with
          | true =>
            obtain ⟨hf, hg⟩ := hA.mvf hm' hel
            have hp := hpos i p hf hlop hhip
            subst hp
            have him : i ∈ D.mv := by rw [hmv]; exact mem_mvs.2 ⟨o, ho, hm', hel⟩
            rw [if_pos him, if_pos him]
            rw [hm', if_pos rfl] at b3 b4
            have hlt := (List.getElem?_eq_some_iff.1 ho).1
            rw [abL_congr (fob' := fobOf ob) _ _ (fun f hf => by
              unfold glOf at hf
              rw [List.mem_filter] at hf
              have := hprelt i f hlt (hg f hf.1 (Nat.eq_of_beq_eq_true hf.2))
              unfold fobOf
              rw [b5 f this])] at b4
            rw [hab, hst _ _ b2, hst _ _ b3]
            exact og_stepO HC b4
          | false =>
            have hnm : ¬ i ∈ D.mv := fun hh => by
              rw [hmv] at hh
              obtain ⟨o', ho', hmm, _⟩ := mem_mvs.1 hh
              rw [ho] at ho'; cases ho'
              rw [hm'] at hmm; cases hmm
            rw [if_neg hnm, if_neg hnm]
            rw [hm', if_neg (by simp)] at b4
            cases hr : isRd o with
            | false => exact og_stepO HC (ind_stepO hm' hr _ (D.st p) _ _ b4)
            | true =>
              have hsb := kp_stepO hm' _ _ b4
              subst hsb
              cases hf : fixd ops.toList fl pm i with
              | true =>
                have hp := hpos i p hf hlop hhip
                subst hp
                rw [hst _ _ b2]
                exact og_stepO HC b4
              | false =>
                have hn : need ops.toList fl pm = true := by
                  unfold need
                  rw [List.any_eq_true]
                  refine ⟨i, List.mem_range.2 (List.getElem?_eq_some_iff.1 ho).1, ?_⟩
                  rw [ho]
                  simp [hr, hf]
                have h3 := p2_spec _ _ _ _ (hp2 hn) i o v ho b1 hr (by rw [Nat.zero_add]; exact hf)
                rw [Nat.zero_add] at h3
                rw [hlo] at hlop
                rw [hhi] at hhip
                obtain ⟨sp, s2, c1, c2⟩ := tryAll_spec _ h3 p hlop (by omega)
                rw [hst _ _ c1]
                have := kp_stepO hm' _ _ c2
                subst this
                exact og_stepO HC c2
        · intro i t v hlt hlk
          have hlt' : i < ops.toList.length := by simpa using hlt
          have ho := List.getElem?_eq_getElem hlt'
          rw [hkf i _ ho] at hlk
          obtain ⟨hus, hlk⟩ := look_restr _ hlk
          have hA := hat i _ ho
          have hu := hA.uses t hus
          unfold okUse at hu
          simp only [Bool.or_eq_true, List.any_eq_true, List.all_eq_true, List.mem_range, Bool.and_eq_true, Bool.not_eq_true'] at hu
          have huq : ∀ j k, dis ops.toList j t = true → dis ops.toList k t = true → j = k := fun j k hj hk => by
            have hkl := dis_lt hk
            have hk2 := hat k _ (List.getElem?_eq_getElem hkl)
            rw [dis_iff, List.getElem?_eq_getElem hkl] at hk
            exact hk2.uniq t hk j hj
          rcases look_knAt _ _ _ _ hlk with ⟨j, h1, h2, h3⟩ | ⟨h1, h2⟩
          · rcases hu with ⟨k, hk, hk1, hk2⟩ | hall
            · have : k = j := huq k j hk2 (dis_iff.2 h2)
              subst this
              exact .inl ⟨k, by rw [hpre]; exact hk1, by rw [hdst]; exact h2, (hval _ _ h3).symm⟩
            · exfalso
              have hjl := dis_lt (dis_iff.2 h2)
              rcases hall j hjl with (h | h) | h
              · rw [dis_iff.2 h2] at h; cases h
              · have := hprelt j i hjl h; omega
              · have := Nat.eq_of_beq_eq_true h; omega
          · refine .inr ⟨h1, fun j hj => ?_⟩
            rw [hdst] at hj
            have hjl := dis_lt (dis_iff.2 hj)
            rcases hu with ⟨k, hk, hk1, hk2⟩ | hall
            · exfalso
              have := hprelt i k hlt' hk1
              exact h2 (by rw [a1]; exact Nat.le_refl _) k this (dis_iff.1 hk2)
            · rcases hall j hjl with (h | h) | h
              · rw [dis_iff.2 hj] at h; cases h
              · exact .inl (by rw [hpre]; exact h)
              · exact .inr (Nat.eq_of_beq_eq_true h)
        · intro i j d hi hj
          rw [hdst] at hi hj
          have hjl := dis_lt (dis_iff.2 hj)
          have hk2 := hat j _ (List.getElem?_eq_getElem hjl)
          rw [List.getElem?_eq_getElem hjl] at hj
          exact hk2.uniq d hj i (dis_iff.2 hi)
        · intro i o ho hf
          rw [hl] at ho
          rw [hfl] at hf
          obtain ⟨o', ho', _, hg⟩ := hflm i hf
          rw [ho] at ho'; cases ho'
          obtain ⟨v, b1, bb⟩ := a5 i o ho
          obtain ⟨mk, obj, c1, c2, c3⟩ := bb.flo (el_iff.2 hf)
          refine ⟨hg, mk, ?_, ?_⟩
          · rw [hkf i o ho, hfob]
            have : fobOf ob i = obj := by unfold fobOf; rw [c3]
            rw [this]
            exact oa_evA c1
          · rw [hval i v b1, hfid]; exact c2
        · intro i hf
          rw [hfl] at hf
          rw [hfid, hq]
          exact ⟨_, (findIdx_eq hf).1, rfl⟩
        · intro i j hi' hj' he
          rw [hfl] at hi' hj'
          rw [hfid, hfid] at he
          have e1 : s.nx + fl.findIdx (Nat.beq i) * s.sd = s.nx + fl.findIdx (Nat.beq j) * s.sd := he
          have e2 := Nat.eq_of_mul_eq_mul_right hi.wr.sd (Nat.add_left_cancel e1)
          have e3 := (findIdx_eq hi').2
          rw [e2, (findIdx_eq hj').2] at e3
          exact (Option.some.inj e3).symm
        · intro i hf hmm
          rw [hfl] at hf
          rw [hmv] at hmm
          obtain ⟨_, _, _, he⟩ := mem_mvs.1 hmm
          rw [el_iff.2 hf] at he; cases he
        · intro i p hmm hlop hhip f hf hg
          rw [hmv] at hmm
          rw [hfl] at hf
          rw [hgap] at hg
          obtain ⟨o, ho, hm', hel⟩ := mem_mvs.1 hmm
          obtain ⟨hfx, hgg⟩ := (hat i o ho).mvf hm' hel
          have hp := hpos i p hfx hlop hhip
          rw [hpre]
          exact hgg f hf (by rw [hg]; exact hp)
        · intro f hf
          rw [hgap, hmv]
          exact List.findIdx_le_length
      have hfin : D.ab D.mv.length = s' := by
        rw [hab, hmv, hst _ sf (by rw [hlast]; exact a3)]
        exact hsf
      refine Draw.wp hok hm kn1 (fun i hi => ?_) (fun i hi => ?_) (fun t v hlk => ?_) hi fun ρ' act' w' h1 h2 => ?_
      · rw [hmv] at hi
        obtain ⟨o, ho, _⟩ := mem_mvs.1 hi
        have := (List.getElem?_eq_some_iff.1 ho).1
        simpa using this
      · rw [hfl] at hi
        obtain ⟨o, ho, _⟩ := hflm i hi
        have := (List.getElem?_eq_some_iff.1 ho).1
        simpa using this
      · rw [a4] at hlk
        rcases look_knAt _ _ _ _ hlk with ⟨j, h1, h2, h3⟩ | ⟨h1, h2⟩
        · exact .inl ⟨j, by rw [hdst]; exact h2, (hval _ _ h3).symm⟩
        · refine .inr ⟨h1, fun j hj => ?_⟩
          rw [hdst] at hj
          exact h2 (by rw [a1]; exact Nat.le_refl _) j (dis_lt (dis_iff.2 hj)) hj
      · rw [hfin] at h1 h2
        exact hQ ρ' act' w' h1 h2
    · cases h
end
end Go.Eng
