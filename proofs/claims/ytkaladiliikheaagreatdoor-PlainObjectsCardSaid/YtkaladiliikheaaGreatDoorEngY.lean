/- The engine, part Y: regions whose order is drawn, told as propositions: calls in them, too. -/
import Derived.Test.YtkaladiliikheaaGreatDoorEngX
set_option linter.unusedVariables false
set_option linter.unusedSectionVars false
set_option linter.unusedSimpArgs false
namespace Go.Eng
open Go
variable [Toks]
section
variable {P : Program} {nt : Nat}
theorem wpS_nomv {l : List Oper} {o : Oper} {kn : KN} {s : S} {K : Value → S → Prop} (hm : isMv o = false) (h : wpS P l o kn s K) : ∃ v s', stepO P noCall l o kn s = some (v, s') ∧ K v s' := by
  obtain ⟨c, hc, h⟩ := oP_spec h
  rw [stepO_eq, hc]
  cases c with
  | false => exact ⟨undef, s, rfl, h⟩
  | true =>
    have h' : wpC P o kn s K := h
    unfold wpC at h'
    split at h'
    · rename_i ho; simp [isMv, ho] at hm
    · rename_i ho; simp [isMv, ho] at hm
    · rename_i ho; simp [isMv, ho] at hm
    · obtain ⟨v, s', e, hk⟩ := rP_spec h'
      exact ⟨v, s', e, hk⟩
noncomputable def p1w (P : Program) (l : List Oper) (fl : List Nat) (fid : Nat → Nat) (gl : Nat → List Nat) (r : List Oper) : Nat → Nat → KN → T Obj → S → (List Value → List S → KN → T Obj → S → Prop) → Prop :=
  List.rec (motive := fun _ => Nat → Nat → KN → T Obj → S → (List Value → List S → KN → T Obj → S → Prop) → Prop) (fun _ _ kn ob s K => K [] [s] kn ob s)
    (fun o _ ih k p kn ob s K =>
      Bool.rec (motive := fun _ => Prop)
        (Bool.rec (motive := fun _ => Prop)
          (wpSg P l o (restr kn (usesOf l o)) s fun v s1 => ih (Nat.succ k) p (ins o.dst v kn) ob s1 fun vs ss kn' ob' sf => K (v :: vs) ss kn' ob' sf)
          (wpSg P l o (restr kn (usesOf l o)) (abL fid (fobOf ob) (gl p) s) fun v s1 => ih (Nat.succ k) (Nat.succ p) (ins o.dst v kn) ob s1 fun vs ss kn' ob' sf => K (v :: vs) (s :: ss) kn' ob' sf) (isMv o))
        (oP (evA P o (restr kn (usesOf l o))) fun x => ih (Nat.succ k) p (ins o.dst (x.1 (fid k)) kn) (ob.put (some x.2) k) s fun vs ss kn' ob' sf => K (x.1 (fid k) :: vs) ss kn' ob' sf) (el k fl)) r
/-- What an operation of the run did. -/
structure DidR (P : Program) (ops : Array Oper) (fl : List Nat) (fid : Nat → Nat) (gl : Nat → List Nat) (o : Oper) (k p : Nat) (kf : KN) (v : Value) (ss : List S) (m : Nat) (ob' : T Obj) : Prop where
  flo : el k fl = true → ∃ mk obj, evA P o kf = some (mk, obj) ∧ v = mk (fid k) ∧ ob'.get k = some obj
  oth : el k fl = false → ∃ sa sb obx, ss[m]? = some sa ∧ ss[if isMv o then m + 1 else m]? = some sb ∧ (∀ f, f < k → obx.get f = ob'.get f) ∧
    (if isMv o then OG P ops o kf (abL fid (fobOf obx) (gl (p + m)) sa) v sb else stepO P noCall ops.toList o kf sa = some (v, sb))
theorem p1w_spec {ops : Array Oper} {fl : List Nat} {fid : Nat → Nat} {gl : Nat → List Nat} : ∀ (r : List Oper) (k p : Nat) (kn : KN) (ob : T Obj) (s : S) (K : List Value → List S → KN → T Obj → S → Prop), p1w P ops.toList fl fid gl r k p kn ob s K →
    ∃ vs ss kn' ob' sf, K vs ss kn' ob' sf ∧ vs.length = r.length ∧ ss[0]? = some s ∧ ss[mc fl r k r.length]? = some sf ∧ kn' = knAt r vs kn r.length ∧ (∀ f, f < k → ob'.get f = ob.get f) ∧
    ∀ (i : Nat) (o : Oper), r[i]? = some o → ∃ v, vs[i]? = some v ∧ DidR P ops fl fid gl o (k + i) p (restr (knAt r vs kn i) (usesOf ops.toList o)) v ss (mc fl r k i) ob' := by
  intro r
  induction r with
  | nil =>
    intro k p kn ob s K h
    exact ⟨[], [s], kn, ob, s, h, rfl, rfl, rfl, rfl, fun _ _ => rfl, fun i o h => by simp at h⟩
  | cons o r ih =>
    intro k p kn ob s K h
    have h' : Bool.rec (motive := fun _ => Prop)
        (Bool.rec (motive := fun _ => Prop)
          (wpSg P ops.toList o (restr kn (usesOf ops.toList o)) s fun v s1 => p1w P ops.toList fl fid gl r (Nat.succ k) p (ins o.dst v kn) ob s1 fun vs ss kn' ob' sf => K (v :: vs) ss kn' ob' sf)
          (wpSg P ops.toList o (restr kn (usesOf ops.toList o)) (abL fid (fobOf ob) (gl p) s) fun v s1 => p1w P ops.toList fl fid gl r (Nat.succ k) (Nat.succ p) (ins o.dst v kn) ob s1 fun vs ss kn' ob' sf => K (v :: vs) (s :: ss) kn' ob' sf) (isMv o))
        (oP (evA P o (restr kn (usesOf ops.toList o))) fun x => p1w P ops.toList fl fid gl r (Nat.succ k) p (ins o.dst (x.1 (fid k)) kn) (ob.put (some x.2) k) s fun vs ss kn' ob' sf => K (x.1 (fid k) :: vs) ss kn' ob' sf) (el k fl) := h
    cases he : el k fl with
    | true =>
      rw [he] at h'
      obtain ⟨⟨mk, obj⟩, hev, h2⟩ := oP_spec h'
      obtain ⟨vs, ss, kn', ob', sf, hK, a1, a2, a3, a4, a5, a6⟩ := ih _ _ _ _ _ _ h2
      have hmc : ∀ i, mc fl (o :: r) k (i + 1) = mc fl r (k + 1) i := fun i => by simp [mc, he]
      refine ⟨_, _, _, _, _, hK, by simp [a1], a2, ?_, ?_, fun f hf => ?_, ?_⟩
      · rw [List.length_cons, hmc]; exact a3
      · rw [a4, List.length_cons]; rfl
      · rw [a5 f (by omega), T.get_put, if_neg (by omega)]
      · intro i o' hi
        cases i with
        | zero =>
          simp only [List.getElem?_cons_zero, Option.some.injEq] at hi
          subst hi
          refine ⟨_, rfl, ⟨fun _ => ⟨mk, obj, hev, rfl, ?_⟩, fun hf => ?_⟩⟩
          · rw [Nat.add_zero, a5 k (by omega), T.get_put, if_pos rfl]
          · rw [Nat.add_zero, he] at hf; cases hf
        | succ i =>
          simp only [List.getElem?_cons_succ] at hi
          obtain ⟨u, b1, b2⟩ := a6 i o' hi
          rw [show Nat.succ k + i = k + (i + 1) from by omega] at b2
          exact ⟨u, by simpa using b1, by rw [hmc]; exact b2⟩
    | false =>
      rw [he] at h'
      cases hm : isMv o with
      | true =>
        rw [hm] at h'
        obtain ⟨v, s1, h2, hog⟩ := wpS_spec (wpSg_spec h')
        obtain ⟨vs, ss, kn', ob', sf, hK, a1, a2, a3, a4, a5, a6⟩ := ih _ _ _ _ _ _ h2
        have hmc : ∀ i, mc fl (o :: r) k (i + 1) = mc fl r (k + 1) i + 1 := fun i => by simp [mc, he, hm]
        refine ⟨_, _, _, _, _, hK, by simp [a1], rfl, ?_, ?_, fun f hf => a5 f (by omega), ?_⟩
        · rw [List.length_cons, hmc]; simpa using a3
        · rw [a4, List.length_cons]; rfl
        · intro i o' hi
          cases i with
          | zero =>
            simp only [List.getElem?_cons_zero, Option.some.injEq] at hi
            subst hi
            refine ⟨_, rfl, ⟨fun hf => ?_, fun _ => ⟨s, s1, ob, rfl, ?_, fun f hf => (a5 f (by omega)).symm, ?_⟩⟩⟩
            · rw [Nat.add_zero, he] at hf; cases hf
            · rw [hm]; simp [mc, a2]
            · rw [hm, if_pos rfl]; exact hog
          | succ i =>
            simp only [List.getElem?_cons_succ] at hi
            obtain ⟨u, b1, b2, b3⟩ := a6 i o' hi
            rw [show Nat.succ k + i = k + (i + 1) from by omega] at b2 b3
            refine ⟨u, by simpa using b1, ⟨b2, fun hf => ?_⟩⟩
            obtain ⟨sa, sb, obx, c1, c2, c3, c4⟩ := b3 hf
            rw [hmc]
            refine ⟨sa, sb, obx, by simpa using c1, ?_, c3, ?_⟩
            · cases hm' : isMv o' <;> rw [hm'] at c2 <;> simpa using c2
            · rw [show p + (mc fl r (k + 1) i + 1) = Nat.succ p + mc fl r (k + 1) i from by omega]; exact c4
      | false =>
        rw [hm] at h'
        obtain ⟨v, s1, hst, h2⟩ := wpS_nomv hm (wpSg_spec h')
        have hs1 := kp_stepO hm _ _ hst
        subst hs1
        obtain ⟨vs, ss, kn', ob', sf, hK, a1, a2, a3, a4, a5, a6⟩ := ih _ _ _ _ _ _ h2
        have hmc : ∀ i, mc fl (o :: r) k (i + 1) = mc fl r (k + 1) i := fun i => by simp [mc, hm]
        refine ⟨_, _, _, _, _, hK, by simp [a1], a2, ?_, ?_, fun f hf => a5 f (by omega), ?_⟩
        · rw [List.length_cons, hmc]; exact a3
        · rw [a4, List.length_cons]; rfl
        · intro i o' hi
          cases i with
          | zero =>
            simp only [List.getElem?_cons_zero, Option.some.injEq] at hi
            subst hi
            refine ⟨_, rfl, ⟨fun hf => ?_, fun _ => ⟨s1, s1, ob, by simpa [mc] using a2, ?_, fun f hf => (a5 f (by omega)).symm, ?_⟩⟩⟩
            · rw [Nat.add_zero, he] at hf; cases hf
            · rw [hm]; simpa [mc] using a2
            · rw [hm, if_neg (by simp)]; exact hst
          | succ i =>
            simp only [List.getElem?_cons_succ] at hi
            obtain ⟨u, b1, b2⟩ := a6 i o' hi
            rw [show Nat.succ k + i = k + (i + 1) from by omega] at b2
            exact ⟨u, by simpa using b1, by rw [hmc]; exact b2⟩
/-- What only looks gives the same wherever else it may stand. -/
noncomputable def tryW (P : Program) (l : List Oper) (o : Oper) (kn : KN) (v : Value) (ss : List S) (p : Nat) (k : Nat) : Prop :=
  Nat.rec (motive := fun _ => Prop) True (fun k ih => (oP ss[p + k]? fun sp => wpS P l o kn sp fun u _ => u = v) ∧ ih) k
noncomputable def p2w (P : Program) (l : List Oper) (fl pm : List Nat) (ss : List S) (Q : Prop) (r : List Oper) : Nat → List Value → KN → Prop :=
  List.rec (motive := fun _ => Nat → List Value → KN → Prop) (fun _ _ _ => Q)
    (fun o _ ih i vs kn => List.rec (motive := fun _ => Prop) False (fun v vs _ => Bool.rec (motive := fun _ => Prop) (ih (Nat.succ i) vs (ins o.dst v kn))
      (tryW P l o (restr kn (usesOf l o)) v ss (loP l fl pm i) (hiP l fl pm i + 1 - loP l fl pm i) ∧ ih (Nat.succ i) vs (ins o.dst v kn)) (isRd o && !fixd l fl pm i)) vs) r
theorem tryW_spec {l : List Oper} {o : Oper} {kn : KN} {v : Value} {ss : List S} {p : Nat} (hm : isMv o = false) : ∀ (k : Nat), tryW P l o kn v ss p k → ∀ q, p ≤ q → q < p + k → ∃ sp s', ss[q]? = some sp ∧ stepO P noCall l o kn sp = some (v, s') := by
  intro k
  induction k with
  | zero => intro _ q h1 h2; omega
  | succ k ih =>
    intro h q h1 h2
    have h' : (oP ss[p + k]? fun sp => wpS P l o kn sp fun u _ => u = v) ∧ tryW P l o kn v ss p k := h
    by_cases hq : q = p + k
    · subst hq
      obtain ⟨sp, hsp, h3⟩ := oP_spec h'.1
      obtain ⟨u, s', hu, rfl⟩ := wpS_nomv hm h3
      exact ⟨sp, s', hsp, hu⟩
    · exact ih h'.2 q h1 (by omega)
omit [Toks] in
theorem rd_nomv {o : Oper} (h : isRd o = true) : isMv o = false := by
  unfold isRd at h
  unfold isMv
  split at h
  · rename_i e; rw [e]
  · rename_i e; rw [e]
  · rename_i e; rw [e]
  · cases h
theorem p2w_spec {l : List Oper} {fl pm : List Nat} {ss : List S} {Q : Prop} : ∀ (r : List Oper) (k : Nat) (vs : List Value) (kn : KN), p2w P l fl pm ss Q r k vs kn → vs.length = r.length → Q ∧
    ∀ (i : Nat) (o : Oper) (v : Value), r[i]? = some o → vs[i]? = some v → isRd o = true → fixd l fl pm (k + i) = false → tryW P l o (restr (knAt r vs kn i) (usesOf l o)) v ss (loP l fl pm (k + i)) (hiP l fl pm (k + i) + 1 - loP l fl pm (k + i)) := by
  intro r
  induction r with
  | nil => exact fun k vs kn h _ => ⟨h, fun i o v hi => by simp at hi⟩
  | cons o r ih =>
    intro k vs kn h hlen
    cases vs with
    | nil => simp at hlen
    | cons u vs =>
      have h' : Bool.rec (motive := fun _ => Prop) (p2w P l fl pm ss Q r (Nat.succ k) vs (ins o.dst u kn))
        (tryW P l o (restr kn (usesOf l o)) u ss (loP l fl pm k) (hiP l fl pm k + 1 - loP l fl pm k) ∧ p2w P l fl pm ss Q r (Nat.succ k) vs (ins o.dst u kn)) (isRd o && !fixd l fl pm k) := h
      have hrest : p2w P l fl pm ss Q r (Nat.succ k) vs (ins o.dst u kn) := by
        cases hb : (isRd o && !fixd l fl pm k) with
        | false => rw [hb] at h'; exact h'
        | true => rw [hb] at h'; exact h'.2
      obtain ⟨hq, hall⟩ := ih _ _ _ hrest (by simpa using hlen)
      refine ⟨hq, fun i o' v hi hv hrd hfx => ?_⟩
      cases i with
      | zero =>
        simp only [List.getElem?_cons_zero, Option.some.injEq] at hi hv
        subst hi; subst hv
        simp only [Nat.add_zero] at hfx ⊢
        rw [hrd, hfx] at h'
        exact h'.1
      | succ i =>
        simp only [List.getElem?_cons_succ] at hi hv
        have := hall i o' v hi hv hrd (by rw [show Nat.succ k + i = k + (i + 1) from by omega]; exact hfx)
        rw [show Nat.succ k + i = k + (i + 1) from by omega] at this
        exact this
omit [Toks] in
noncomputable def rsvL (fl : List Nat) (s : S) : S := List.rec (motive := fun _ => S) s (fun _ _ _ => s.rsv fl.length) fl
omit [Toks] in
theorem rsvL_eq (fl : List Nat) (s : S) : rsvL fl s = s.rsv fl.length := by
  cases fl with
  | nil =>
    obtain ⟨hp, nx, sd, wa, wb⟩ := s
    show (⟨hp, nx, sd, wa, wb⟩ : S) = ⟨hp, nx + 0 * sd, sd, wa, wb⟩
    rw [Nat.zero_mul, Nat.add_zero]
  | cons f r => rfl
noncomputable def wpDx (P : Program) (nt : Nat) (l : List Oper) (fl pm : List Nat) (kn : KN) (s : S) (Q : KN → S → Prop) : Prop :=
  bP (stat l nt fl pm) (p1w P l fl (fidx s fl) (glOf l fl pm) l 0 0 kn .l (rsvL fl s) fun vs ss kn' ob sf =>
    Bool.rec (motive := fun _ => Prop) (Q kn' (abL (fidx s fl) (fobOf ob) (glOf l fl pm (mvs l fl).length) sf))
      (p2w P l fl pm ss (Q kn' (abL (fidx s fl) (fobOf ob) (glOf l fl pm (mvs l fl).length) sf)) l 0 vs kn) (need l fl pm))
noncomputable def wpD (P : Program) (nt : Nat) (l : List Oper) (kn : KN) (s : S) (Q : KN → S → Prop) : Prop := wpDx P nt l (flsOf l (masks l [])) (masks l []) kn s Q
/-- A drawn region does what its proposition says. -/
theorem runs_wpD (hm : P.follows .mixedOrders = true) {ops : Array Oper} {id : Nat} {kn : KN} {s : S} {Q : KN → S → Prop} (h : wpD P nt ops.toList kn s Q) : ∃ kn' s', Q kn' s' ∧ Runs P nt (.region id ops true) kn s .norm kn' s' := by
  unfold wpD at h
  generalize hpm : masks ops.toList [] = pm at h
  have hflm : ∀ i, i ∈ flsOf ops.toList pm → ∃ o, ops.toList[i]? = some o ∧ isAl o = true ∧ o.guard = none := fun i h => mem_flsOf h
  have hfln : (flsOf ops.toList pm).Nodup := List.Pairwise.filter _ List.nodup_range
  generalize flsOf ops.toList pm = fl at h hflm hfln
  unfold wpDx at h
  obtain ⟨hs, h⟩ := bP_spec h
  rw [rsvL_eq] at h
  obtain ⟨vs, ss, kn1, ob, sf, hfinal, a1, a2, a3, a4, _, a5⟩ := p1w_spec _ _ _ _ _ _ _ h
  have hout : Q kn1 (abL (fidx s fl) (fobOf ob) (glOf ops.toList fl pm (mvs ops.toList fl).length) sf) ∧ (need ops.toList fl pm = true → ∀ (i : Nat) (o : Oper) (v : Value), ops.toList[i]? = some o → vs[i]? = some v → isRd o = true → fixd ops.toList fl pm (0 + i) = false → tryW P ops.toList o (restr (knAt ops.toList vs kn i) (usesOf ops.toList o)) v ss (loP ops.toList fl pm (0 + i)) (hiP ops.toList fl pm (0 + i) + 1 - loP ops.toList fl pm (0 + i))) := by
    cases hn : need ops.toList fl pm with
    | false => rw [hn] at hfinal; exact ⟨hfinal, fun h => by cases h⟩
    | true =>
      rw [hn] at hfinal
      obtain ⟨c1, c2⟩ := p2w_spec _ _ _ _ hfinal a1
      exact ⟨c1, fun _ => c2⟩
  obtain ⟨hQ0, hp2⟩ := hout
  refine ⟨kn1, _, hQ0, fun ρ act w Q' hi hQ => ?_⟩
  simp only [Nat.zero_add] at a5
  unfold stat at hs
  simp only [Bool.and_eq_true, List.all_eq_true, List.mem_range] at hs
  have hlast := Nat.eq_of_beq_eq_true hs.2
  have hat : ∀ i o, ops.toList[i]? = some o → OkAt ops.toList nt fl pm i o := fun i o ho => okAt_spec (hs.1 i (List.getElem?_eq_some_iff.1 ho).1) ho
  have hl : ∀ i : Nat, ops[i]? = ops.toList[i]? := fun i => by simp
  have hdst : ∀ j, Draw.dst ops j = (ops.toList[j]?).bind (·.dst) := fun j => by unfold Draw.dst; rw [hl]
  let D : Draw P ops kn s nt := ⟨fun i => vs.getD i undef, fun p => ss.getD p s, mvs ops.toList fl, fun i => pm.getD i 0, fun i => match ops.toList[i]? with | some o => restr (knAt ops.toList vs kn i) (usesOf ops.toList o) | none => .l,
    fl, fidx s fl, fobOf ob, gapOf ops.toList fl pm, fl.length⟩
  have hst : ∀ p sa, ss[p]? = some sa → D.st p = sa := fun p sa e => by show ss.getD p s = sa; rw [List.getD_eq_getElem?_getD, e]; rfl
  have hval : ∀ i v, vs[i]? = some v → D.val i = v := fun i v e => by show vs.getD i undef = v; rw [List.getD_eq_getElem?_getD, e]; rfl
  have hkf : ∀ i o, ops.toList[i]? = some o → D.kf i = restr (knAt ops.toList vs kn i) (usesOf ops.toList o) := fun i o e => by
    show (match ops.toList[i]? with | some o => _ | none => _) = _
    rw [e]
  have hpre : ∀ i, D.pre i = pm.getD i 0 := fun i => rfl
  have hmv : D.mv = mvs ops.toList fl := rfl
  have hlo : ∀ i, D.lo i = loP ops.toList fl pm i := fun i => rfl
  have hhi : ∀ i, D.hi i = hiP ops.toList fl pm i := fun i => rfl
  have hab : ∀ p, D.ab p = abL (fidx s fl) (fobOf ob) (glOf ops.toList fl pm p) (D.st p) := fun p => rfl
  have hfl : D.fl = fl := rfl
  have hfid : ∀ i, D.fid i = fidx s fl i := fun i => rfl
  have hfob : ∀ i, D.fob i = fobOf ob i := fun i => rfl
  have hgap : ∀ i, D.gap i = gapOf ops.toList fl pm i := fun i => rfl
  have hq : D.q = fl.length := rfl
  clear_value D
  have hprelt : ∀ i j, i < ops.toList.length → has (pm.getD i 0) j = true → j < i := by
    intro i
    induction i using Nat.strongRecOn with
    | ind i ih =>
      intro j hi hj
      have ho := List.getElem?_eq_getElem hi
      have hA := hat i _ ho
      rw [hA.pres] at hj
      obtain ⟨e, he, hb, hor⟩ := orAll_has _ hj
      have he' := hA.edge e (by simpa using he) hb
      rcases hor with rfl | hor
      · exact he'
      · have := ih e.on he' j (by omega) hor
        omega
  have hpos : ∀ i p, fixd ops.toList fl pm i = true → D.lo i ≤ p → p ≤ D.hi i → p = mc fl ops.toList 0 i := fun i p hf h1 h2 => by
    unfold fixd at hf
    simp only [Bool.and_eq_true] at hf
    have f1 := Nat.eq_of_beq_eq_true hf.1
    have f2 := Nat.eq_of_beq_eq_true hf.2
    rw [hlo, f1] at h1
    rw [hhi, f2] at h2
    omega
  have hok : D.Ok := by
    refine ⟨by rw [hq]; exact hst 0 _ a2, ?_, fun i o e ho => (hat i o (by rw [← hl]; exact ho)).edge e, ?_, ?_, ?_, fun i o ho => (hat i o (by rw [← hl]; exact ho)).dok, ?_, ?_, ?_, ?_, by rw [hfl]; exact hfln, ?_, ?_, ?_⟩
    · rw [hmv]; exact List.Pairwise.filter _ List.nodup_range
    · intro i o j ho hj
      rw [hl] at ho
      rw [hpre, (hat i o ho).pres] at hj
      obtain ⟨e, he, h2⟩ := orAll_has _ hj
      exact ⟨e, by simpa using he, by rw [hpre]; exact h2⟩
    · intro i o p ho hnf hlop hhip
      rw [hl] at ho
      rw [hfl] at hnf
      have hel : el i fl = false := by rw [Bool.eq_false_iff]; intro hh; exact hnf (el_iff.1 hh)
      obtain ⟨v, b1, bb⟩ := a5 i o ho
      obtain ⟨sa, sb, obx, b2, b3, b5, b4⟩ := bb.oth hel
      simp only [Nat.zero_add] at b4
      rw [hval i v b1, hkf i o ho]
      have hA := hat i o ho
      cases hm' : isMv o with
      | true =>
        obtain ⟨hf, hg⟩ := hA.mvf hm' hel
        have hp := hpos i p hf hlop hhip
        subst hp
        have him : i ∈ D.mv := by rw [hmv]; exact mem_mvs.2 ⟨o, ho, hm', hel⟩
        rw [if_pos him, if_pos him]
        rw [hm', if_pos rfl] at b3
        rw [hm', if_pos rfl] at b4
        have hlt := (List.getElem?_eq_some_iff.1 ho).1
        rw [abL_congr (fob' := fobOf ob) _ _ (fun f hf => by
          unfold glOf at hf
          rw [List.mem_filter] at hf
          have := hprelt i f hlt (hg f hf.1 (Nat.eq_of_beq_eq_true hf.2))
          unfold fobOf
          rw [b5 f this])] at b4
        rw [hab, hst _ _ b2, hst _ _ b3]
        exact b4
      | false =>
        have hnm : ¬ i ∈ D.mv := fun hh => by
          rw [hmv] at hh
          obtain ⟨o', ho', hmm, _⟩ := mem_mvs.1 hh
          rw [ho] at ho'; cases ho'
          rw [hm'] at hmm; cases hmm
        rw [if_neg hnm, if_neg hnm]
        rw [hm', if_neg (by simp)] at b4
        cases hr : isRd o with
        | false => exact og_stepO (fun _ => fs_none) (ind_stepO hm' hr _ (D.st p) _ _ b4)
        | true =>
          have hsb := kp_stepO hm' _ _ b4
          subst hsb
          cases hf : fixd ops.toList fl pm i with
          | true =>
            have hp := hpos i p hf hlop hhip
            subst hp
            rw [hst _ _ b2]
            exact og_stepO (fun _ => fs_none) b4
          | false =>
            have hn : need ops.toList fl pm = true := by
              unfold need
              rw [List.any_eq_true]
              refine ⟨i, List.mem_range.2 (List.getElem?_eq_some_iff.1 ho).1, ?_⟩
              rw [ho]
              simp [hr, hf]
            have h3 := hp2 hn i o v ho b1 hr (by rw [Nat.zero_add]; exact hf)
            rw [Nat.zero_add] at h3
            rw [hlo] at hlop
            rw [hhi] at hhip
            obtain ⟨sp, s2, c1, c2⟩ := tryW_spec hm' _ h3 p hlop (by omega)
            rw [hst _ _ c1]
            have := kp_stepO hm' _ _ c2
            subst this
            exact og_stepO (fun _ => fs_none) c2
    · intro i t v hlt hlk
      have hlt' : i < ops.toList.length := by simpa using hlt
      have ho := List.getElem?_eq_getElem hlt'
      rw [hkf i _ ho] at hlk
      obtain ⟨hus, hlk⟩ := look_restr _ hlk
      have hA := hat i _ ho
      have hu := hA.uses t hus
      unfold okUse at hu
      simp only [Bool.or_eq_true, List.any_eq_true, List.all_eq_true, List.mem_range, Bool.and_eq_true, Bool.not_eq_true'] at hu
      have huq : ∀ j k, dis ops.toList j t = true → dis ops.toList k t = true → j = k := fun j k hj hk => by
        have hkl := dis_lt hk
        have hk2 := hat k _ (List.getElem?_eq_getElem hkl)
        rw [dis_iff, List.getElem?_eq_getElem hkl] at hk
        exact hk2.uniq t hk j hj
      rcases look_knAt _ _ _ _ hlk with ⟨j, h1, h2, h3⟩ | ⟨h1, h2⟩
      · rcases hu with ⟨k, hk, hk1, hk2⟩ | hall
        · have : k = j := huq k j hk2 (dis_iff.2 h2)
          subst this
          exact .inl ⟨k, by rw [hpre]; exact hk1, by rw [hdst]; exact h2, (hval _ _ h3).symm⟩
        · exfalso
          have hjl := dis_lt (dis_iff.2 h2)
          rcases hall j hjl with (h | h) | h
          · rw [dis_iff.2 h2] at h; cases h
          · have := hprelt j i hjl h; omega
          · have := Nat.eq_of_beq_eq_true h; omega
      · refine .inr ⟨h1, fun j hj => ?_⟩
        rw [hdst] at hj
        have hjl := dis_lt (dis_iff.2 hj)
        rcases hu with ⟨k, hk, hk1, hk2⟩ | hall
        · exfalso
          have := hprelt i k hlt' hk1
          exact h2 (by rw [a1]; exact Nat.le_refl _) k this (dis_iff.1 hk2)
        · rcases hall j hjl with (h | h) | h
          · rw [dis_iff.2 hj] at h; cases h
          · exact .inl (by rw [hpre]; exact h)
          · exact .inr (Nat.eq_of_beq_eq_true h)
    · intro i j d hi hj
      rw [hdst] at hi hj
      have hjl := dis_lt (dis_iff.2 hj)
      have hk2 := hat j _ (List.getElem?_eq_getElem hjl)
      rw [List.getElem?_eq_getElem hjl] at hj
      exact hk2.uniq d hj i (dis_iff.2 hi)
    · intro i o ho hf
      rw [hl] at ho
      rw [hfl] at hf
      obtain ⟨o', ho', _, hg⟩ := hflm i hf
      rw [ho] at ho'; cases ho'
      obtain ⟨v, b1, bb⟩ := a5 i o ho
      obtain ⟨mk, obj, c1, c2, c3⟩ := bb.flo (el_iff.2 hf)
      refine ⟨hg, mk, ?_, ?_⟩
      · rw [hkf i o ho, hfob]
        have : fobOf ob i = obj := by unfold fobOf; rw [c3]
        rw [this]
        exact oa_evA c1
      · rw [hval i v b1, hfid]; exact c2
    · intro i hf
      rw [hfl] at hf
      rw [hfid, hq]
      exact ⟨_, (findIdx_eq hf).1, rfl⟩
    · intro i j hi' hj' he
      rw [hfl] at hi' hj'
      rw [hfid, hfid] at he
      have e1 : s.nx + fl.findIdx (Nat.beq i) * s.sd = s.nx + fl.findIdx (Nat.beq j) * s.sd := he
      have e2 := Nat.eq_of_mul_eq_mul_right hi.wr.sd (Nat.add_left_cancel e1)
      have e3 := (findIdx_eq hi').2
      rw [e2, (findIdx_eq hj').2] at e3
      exact (Option.some.inj e3).symm
    · intro i hf hmm
      rw [hfl] at hf
      rw [hmv] at hmm
      obtain ⟨_, _, _, he⟩ := mem_mvs.1 hmm
      rw [el_iff.2 hf] at he; cases he
    · intro i p hmm hlop hhip f hf hg
      rw [hmv] at hmm
      rw [hfl] at hf
      rw [hgap] at hg
      obtain ⟨o, ho, hm', hel⟩ := mem_mvs.1 hmm
      obtain ⟨hfx, hgg⟩ := (hat i o ho).mvf hm' hel
      have hp := hpos i p hfx hlop hhip
      rw [hpre]
      exact hgg f hf (by rw [hg]; exact hp)
    · intro f hf
      rw [hgap, hmv]
      exact List.findIdx_le_length
  have hfin : D.ab D.mv.length = abL (fidx s fl) (fobOf ob) (glOf ops.toList fl pm (mvs ops.toList fl).length) sf := by
    rw [hab, hmv, hst _ sf (by rw [hlast]; exact a3)]
  refine Draw.wp hok hm kn1 (fun i hi => ?_) (fun i hi => ?_) (fun t v hlk => ?_) hi fun ρ' act' w' h1 h2 => ?_
  · rw [hmv] at hi
    obtain ⟨o, ho, _⟩ := mem_mvs.1 hi
    have := (List.getElem?_eq_some_iff.1 ho).1
    simpa using this
  · rw [hfl] at hi
    obtain ⟨o, ho, _⟩ := hflm i hi
    have := (List.getElem?_eq_some_iff.1 ho).1
    simpa using this
  · rw [a4] at hlk
    rcases look_knAt _ _ _ _ hlk with ⟨j, h1, h2, h3⟩ | ⟨h1, h2⟩
    · exact .inl ⟨j, by rw [hdst]; exact h2, (hval _ _ h3).symm⟩
    · refine .inr ⟨h1, fun j hj => ?_⟩
      rw [hdst] at hj
      exact h2 (by rw [a1]; exact Nat.le_refl _) j (dis_lt (dis_iff.2 hj)) hj
  · rw [hfin] at h1 h2
    exact hQ ρ' act' w' h1 h2
end
end Go.Eng
