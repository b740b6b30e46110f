/- The engine, part R: operations in their order; the law of a region whose order is drawn. -/
import Derived.Test.YtkaladiliikheaaGreatDoorEngQ2
set_option linter.unusedVariables false
set_option linter.unusedSectionVars false
set_option linter.unusedSimpArgs false
namespace Go.Eng
open Go
variable [Toks]

/-- What holds between two operations. -/
structure In (P : Program) (nt : Nat) (ρ : Ren) (kn : KN) (s : S) (act : Act) (w : World) : Prop where
  wr : WR P ρ s w
  tm : TM ρ kn act.tmps
  df : act.defers = []
  nt : act.tmps.size = nt

omit [Toks] in
noncomputable def wants (l : List Oper) (o : Oper) (kn : KN) : Option Bool := match o.guard with
  | none => some true
  | some (j, b) => (match (l[j]?).bind (·.dst) with
    | some d => (match look kn d with
      | some (.bool c) => some (c == b)
      | some _ => some false
      | none => none)
    | none => none)
omit [Toks] in
noncomputable def stepO [Orc] (P : Program) (call : Nat → List Value → S → R) (l : List Oper) (o : Oper) (kn : KN) (s : S) : R :=
  Option.rec (motive := fun _ => R) none (fun c => Bool.rec (motive := fun _ => R) (some (undef, s)) (evO P call o kn s) c) (wants l o kn)
theorem stepO_eq (P : Program) (call : Nat → List Value → S → R) (l : List Oper) (o : Oper) (kn : KN) (s : S) : stepO P call l o kn s = match wants l o kn with
  | some true => evO P call o kn s
  | some false => some (undef, s)
  | none => none := by
  unfold stepO
  match wants l o kn with
  | none => rfl
  | some true => rfl
  | some false => rfl
omit [Toks] in
noncomputable def evL [Orc] (P : Program) (call : Nat → List Value → S → R) (nt : Nat) (l : List Oper) (r : List Oper) : KN → S → Option (KN × S) :=
  List.rec (motive := fun _ => KN → S → Option (KN × S)) (fun kn s => some (kn, s))
    (fun o _ ih kn s => Bool.rec (motive := fun _ => Option (KN × S)) none
      (Option.rec (motive := fun _ => Option (KN × S)) none (fun p => Prod.rec (motive := fun _ => Option (KN × S)) (fun v s' => ih (ins o.dst v kn) s') p) (stepO P call l o kn s)) (dOk nt o.dst)) r
theorem evL_cons (P : Program) (call : Nat → List Value → S → R) (nt : Nat) (l : List Oper) (o : Oper) (r : List Oper) (kn : KN) (s : S) : evL P call nt l (o :: r) kn s =
    bif dOk nt o.dst then (match stepO P call l o kn s with | some (v, s') => evL P call nt l r (ins o.dst v kn) s' | none => none) else none := by
  have e : evL P call nt l (o :: r) kn s = Bool.rec (motive := fun _ => Option (KN × S)) none
      (Option.rec (motive := fun _ => Option (KN × S)) none (fun p => Prod.rec (motive := fun _ => Option (KN × S)) (fun v s' => evL P call nt l r (ins o.dst v kn) s') p) (stepO P call l o kn s)) (dOk nt o.dst) := rfl
  rw [e]
  cases dOk nt o.dst with
  | false => rfl
  | true =>
    match stepO P call l o kn s with
    | none => rfl
    | some (v, s') => rfl

section
variable {P : Program} {call : Nat → List Value → S → R} {nt : Nat}
theorem In.put {ρ ρ' : Ren} {kn : KN} {s s' : S} {act : Act} {w w' : World} {v v' : Value} {d : Option Tmp} (h : In P nt ρ kn s act w) (hs : Stp P ρ s w ρ' s' w') (hv : VR ρ' v v') (hd : dOk nt d = true) : In P nt ρ' (ins d v kn) s' (act.put d v') w' :=
  ⟨hs.wr, (h.tm.mono hs.ext).put hv d (by rw [h.nt]; exact hd), (put_defers ..).trans h.df, (put_size ..).trans h.nt⟩
theorem wants_run {ρ : Ren} {kn : KN} {act : Act} {ops : Array Oper} {o : Oper} {c : Bool} (ht : TM ρ kn act.tmps) (h : wants ops.toList o kn = some c) : Region.wanted o (yielded ops act.tmps) = c := by
  unfold wants at h
  unfold Region.wanted
  split at h
  · rename_i hg
    rw [hg]
    simpa using h
  · rename_i j b hg
    rw [hg]
    split at h
    · rename_i d hj
      have hj' : (ops[j]?).bind (·.dst) = some d := by simpa using hj
      split at h
      · rename_i c0 hl
        obtain ⟨v', e, hv⟩ := ht d _ hl
        cases hv
        have : yielded ops act.tmps j = some c0 := by
          unfold yielded
          rw [hj']
          simp only [Option.bind_some, e]
        simp only [this]
        cases h
        simp
      · rename_i u hnb hl
        obtain ⟨v', e, hv⟩ := ht d _ hl
        have : yielded ops act.tmps j = none := by
          unfold yielded
          rw [hj']
          simp only [Option.bind_some, e]
          cases hv <;> first | rfl | exact (hnb _ rfl).elim
        simp only [this]
        cases h
        simp
      · cases h
    · cases h
/-- An operation of a region, its guard too. -/
def OG (P : Program) (ops : Array Oper) (o : Oper) (kn : KN) (s : S) (v : Value) (s' : S) : Prop :=
  ∀ (ρ : Ren) (act : Act) (w : World) (K : Act → World → Prop) (Q : Exit → Act → World → Prop), WR P ρ s w → TM ρ kn act.tmps →
    (∀ ρ' v' w', Stp P ρ s w ρ' s' w' → VR ρ' v v' → K (act.put o.dst v') w') → if Region.wanted o (yielded ops act.tmps) then o.wp P act w K Q ∨ (o.asks P act w ∧ LetsOut Q) else K (act.put o.dst undef) w
theorem og_stepO (HC : ∀ f, FS P f (call f)) {ops : Array Oper} {o : Oper} {kn : KN} {s s' : S} {v : Value} (h : stepO P call ops.toList o kn s = some (v, s')) : OG P ops o kn s v s' := by
  intro ρ act w K Q hw ht hK
  rw [stepO_eq] at h
  split at h
  · rename_i hwn
    rw [if_pos (wants_run ht hwn)]
    exact .inl (oj_evO HC ρ act w v s' K Q hw ht h hK)
  · rename_i hwn
    rw [if_neg (by rw [wants_run ht hwn]; simp)]
    cases h
    exact hK ρ undef w (Stp.refl hw) (undef_VR ρ)
  · cases h
theorem wpList_evL (HC : ∀ f, FS P f (call f)) (ops : Array Oper) : ∀ (r : List Oper) (kn : KN) (s : S) (kn' : KN) (s' : S), evL P call nt ops.toList r kn s = some (kn', s') →
    ∀ (ρ : Ren) (act : Act) (w : World) (Q : Exit → Act → World → Prop), In P nt ρ kn s act w → (∀ ρ' act' w', Stp P ρ s w ρ' s' w' → In P nt ρ' kn' s' act' w' → Q .normal act' w') → wpList P ops Q r act w := by
  intro r
  induction r with
  | nil =>
    intro kn s kn' s' h ρ act w Q hi hQ
    cases h
    exact hQ ρ act w (Stp.refl hi.wr) hi
  | cons o r ih =>
    intro kn s kn' s' h ρ act w Q hi hQ
    have h' := h
    rw [evL_cons] at h'
    cases hd : dOk nt o.dst with
    | false => rw [hd] at h'; cases h'
    | true =>
      rw [hd, cond_true] at h'
      split at h'
      · rename_i v s1 hst
        refine og_stepO HC hst ρ act w _ Q hi.wr hi.tm fun ρ' v' w' hs hv => ?_
        exact ih _ _ _ _ h' ρ' _ w' Q (hi.put hs hv hd) fun ρ2 act2 w2 hs2 hi2 => hQ ρ2 act2 w2 (hs.trans hs2) hi2
      · cases h'
end

/-! ### The law of drawn orders -/
omit [Toks] in
def has (m j : Nat) : Bool := Nat.testBit m j
omit [Toks] in
def cnt (mv : List Nat) (L : Array Bool) : Nat := mv.countP fun j => L.getD j false
/-- What is known of a region: the value of each operation; the states, one behind each that may change it; which these are; behind which an operation stands; what an operation may look at. 'fl': allocations that float, the ids set aside for them, their objects, ahead of which change each comes into the state. -/
structure Draw (P : Program) (ops : Array Oper) (kn : KN) (s : S) (nt : Nat) where
  val : Nat → Value
  st : Nat → S
  mv : List Nat
  pre : Nat → Nat
  kf : Nat → KN
  fl : List Nat
  fid : Nat → Nat
  fob : Nat → Obj
  gap : Nat → Nat
  q : Nat
namespace Draw
variable {P : Program} {ops : Array Oper} {kn : KN} {s : S} {nt : Nat}
omit [Toks] in
def dst (ops : Array Oper) (j : Nat) : Option Tmp := (ops[j]?).bind (·.dst)
omit [Toks] in
noncomputable def ab (D : Draw P ops kn s nt) (p : Nat) : S := abL D.fid D.fob (D.fl.filter fun f => Nat.beq (D.gap f) p) (D.st p)
omit [Toks] in
def lo (D : Draw P ops kn s nt) (i : Nat) : Nat := D.mv.countP fun j => has (D.pre i) j
omit [Toks] in
def hi (D : Draw P ops kn s nt) (i : Nat) : Nat := D.mv.countP fun j => !has (D.pre j) i && !Nat.beq j i
omit [Toks] in
structure Ok (D : Draw P ops kn s nt) : Prop where
  st0 : D.st 0 = s.rsv D.q
  nodup : D.mv.Nodup
  edge : ∀ (i : Nat) (o : Oper) (e : Edge), ops[i]? = some o → e ∈ o.after → Region.binds .any e = true → e.on < i
  pres : ∀ (i : Nat) (o : Oper) (j : Nat), ops[i]? = some o → has (D.pre i) j = true → ∃ e ∈ o.after, Region.binds .any e = true ∧ (e.on = j ∨ has (D.pre e.on) j = true)
  hop : ∀ (i : Nat) (o : Oper) (p : Nat), ops[i]? = some o → ¬ i ∈ D.fl → D.lo i ≤ p → p ≤ D.hi i → OG P ops o (D.kf i) (if i ∈ D.mv then D.ab p else D.st p) (D.val i) (D.st (if i ∈ D.mv then p + 1 else p))
  hkn : ∀ (i t : Nat) (v : Value), i < ops.size → look (D.kf i) t = some v → (∃ j, has (D.pre i) j = true ∧ dst ops j = some t ∧ v = D.val j) ∨ (look kn t = some v ∧ ∀ j, dst ops j = some t → has (D.pre j) i = true ∨ j = i)
  dok : ∀ (i : Nat) (o : Oper), ops[i]? = some o → dOk nt o.dst = true
  uniq : ∀ (i j : Nat) (d : Tmp), dst ops i = some d → dst ops j = some d → i = j
  hfl : ∀ (i : Nat) (o : Oper), ops[i]? = some o → i ∈ D.fl → o.guard = none ∧ ∃ mk, OA P o (D.kf i) mk (D.fob i) ∧ D.val i = mk (D.fid i)
  hfid : ∀ i, i ∈ D.fl → ∃ k, k < D.q ∧ D.fid i = Nat.add s.nx (Nat.mul k s.sd)
  hinj : ∀ i j, i ∈ D.fl → j ∈ D.fl → D.fid i = D.fid j → i = j
  flnd : D.fl.Nodup
  fldis : ∀ i, i ∈ D.fl → ¬ i ∈ D.mv
  hgap : ∀ (i p : Nat), i ∈ D.mv → D.lo i ≤ p → p ≤ D.hi i → ∀ f, f ∈ D.fl → D.gap f = p → has (D.pre i) f = true
  gaple : ∀ f, f ∈ D.fl → D.gap f ≤ D.mv.length

/-- Behind the listed ones. -/
structure DI (D : Draw P ops kn s nt) (ρ0 : Ren) (w0 : World) (L : Array Bool) (act : Act) (w : World) : Prop where
  size : L.size = ops.size
  clo : ∀ (i : Nat) (o : Oper) (e : Edge), ops[i]? = some o → L.getD i false = true → e ∈ o.after → Region.binds .any e = true → L.getD e.on false = true
  ex : ∃ ρ, Stp P ρ0 s w0 ρ (D.st (cnt D.mv L)) w ∧ (∀ (j : Nat) (d : Tmp), dst ops j = some d → L.getD j false = true → ∃ v', act.tmps[d]? = some v' ∧ VR ρ (D.val j) v') ∧
    (∀ (t : Nat) (v : Value), look kn t = some v → (∀ j, L.getD j false = true → dst ops j ≠ some t) → ∃ v', act.tmps[t]? = some v' ∧ VR ρ v v') ∧
    (∀ f, f ∈ D.fl → L.getD f false = false → ρ (D.fid f) = none ∧ cnt D.mv L ≤ D.gap f) ∧
    Pd P D.fid D.fob w0.heap.size ρ (D.st (cnt D.mv L)) w (fun f => f ∈ D.fl ∧ L.getD f false = true ∧ cnt D.mv L ≤ D.gap f)
  nf : ∀ id, (D.st (cnt D.mv L)).free id → (s.rsv D.q).free id
  df : act.defers = []
  nt : act.tmps.size = nt

theorem set_iff {L : Array Bool} {i j : Nat} (hi : i < L.size) : (L.setIfInBounds i true).getD j false = true ↔ j = i ∨ L.getD j false = true := by
  by_cases h : j = i
  · subst h; simp [hi]
  · simp only [h, false_or]
    rw [getD_set_ne false (fun e => h e.symm)]
theorem set_false {L : Array Bool} {i j : Nat} (hi : i < L.size) (h : (L.setIfInBounds i true).getD j false = false) : j ≠ i ∧ L.getD j false = false := by
  constructor
  · intro e
    have := (set_iff hi (j := j)).2 (.inl e)
    rw [h] at this; cases this
  · cases hb : L.getD j false with
    | false => rfl
    | true =>
      have := (set_iff hi (j := j)).2 (.inr hb)
      rw [h] at this; cases this
theorem getD_flip {L : Array Bool} {i : Nat} (hi : i < L.size) (a b : Bool) : L.getD i a = L.getD i b := by
  simp [hi]

variable {D : Draw P ops kn s nt} {ρ0 : Ren} {w0 : World} {L : Array Bool} {act : Act} {w : World}
theorem DI.sub (hok : D.Ok) (hd : DI D ρ0 w0 L act w) : ∀ (i : Nat) (o : Oper), ops[i]? = some o → (∀ e ∈ o.after, Region.binds .any e = true → L.getD e.on false = true) → ∀ j, has (D.pre i) j = true → L.getD j false = true := by
  intro i
  induction i using Nat.strongRecOn with
  | ind i ih =>
    intro o ho hall j hj
    obtain ⟨e, he, hb, hor⟩ := hok.pres i o j ho hj
    have hl := hall e he hb
    rcases hor with rfl | hor
    · exact hl
    · have hlt := hok.edge i o e ho he hb
      have hsz : e.on < ops.size := by
        have := (Array.getElem?_eq_some_iff.1 ho).1
        omega
      exact ih e.on hlt ops[e.on] (Array.getElem?_eq_getElem hsz) (fun e' he' hb' => hd.clo e.on _ e' (Array.getElem?_eq_getElem hsz) hl he' hb') j hor
theorem cnt_set_mem {i : Nat} (hi : i < L.size) (hL : L.getD i false = false) : ∀ (mv : List Nat), mv.Nodup → cnt mv (L.setIfInBounds i true) = if i ∈ mv then cnt mv L + 1 else cnt mv L := by
  intro mv
  induction mv with
  | nil => intro _; simp [cnt]
  | cons a mv ih =>
    intro hn
    simp only [List.nodup_cons] at hn
    have ih' := ih hn.2
    unfold cnt at ih' ⊢
    simp only [List.countP_cons]
    by_cases ha : a = i
    · subst ha
      have e1 : (L.setIfInBounds a true).getD a false = true := (set_iff hi).2 (.inl rfl)
      rw [if_neg hn.1] at ih'
      rw [ih', e1, hL]
      simp
    · have e1 : (L.setIfInBounds i true).getD a false = L.getD a false := getD_set_ne false (fun e => ha e.symm)
      rw [ih', e1]
      have : (i ∈ a :: mv) ↔ i ∈ mv := ⟨fun h => (List.mem_cons.1 h).resolve_left fun e => ha e.symm, List.mem_cons_of_mem _⟩
      simp only [this]
      split <;> omega
theorem fid_free (hok : D.Ok) {f : Nat} (hf : f ∈ D.fl) : s.free (D.fid f) := by
  obtain ⟨k, _, e⟩ := hok.hfid f hf
  exact ⟨k, e⟩
theorem fid_not (hok : D.Ok) (hsd : 0 < s.sd) {f : Nat} (hf : f ∈ D.fl) : ¬ (s.rsv D.q).free (D.fid f) := by
  obtain ⟨k, hk, e⟩ := hok.hfid f hf
  rw [e]
  exact S.rsv_not hsd hk
/-- What was made before, behind one more operation. -/
theorem DI.put (hok : D.Ok) (hd : DI D ρ0 w0 L act w) {i : Nat} {o : Oper} (hi : i < L.size) (ho : ops[i]? = some o) (hall : ∀ e ∈ o.after, Region.binds .any e = true → L.getD e.on false = true)
    {ρ ρ' : Ren} {w' : World} {v' : Value} (hx : Ext ρ ρ') (h1 : ∀ (j : Nat) (d : Tmp), dst ops j = some d → L.getD j false = true → ∃ v', act.tmps[d]? = some v' ∧ VR ρ (D.val j) v')
    (h2 : ∀ (t : Nat) (v : Value), look kn t = some v → (∀ j, L.getD j false = true → dst ops j ≠ some t) → ∃ v', act.tmps[t]? = some v' ∧ VR ρ v v') (hv : VR ρ' (D.val i) v')
    (hst : Stp P ρ0 s w0 ρ' (D.st (cnt D.mv (L.setIfInBounds i true))) w') (hf1 : ∀ f, f ∈ D.fl → (L.setIfInBounds i true).getD f false = false → ρ' (D.fid f) = none ∧ cnt D.mv (L.setIfInBounds i true) ≤ D.gap f)
    (hpd : Pd P D.fid D.fob w0.heap.size ρ' (D.st (cnt D.mv (L.setIfInBounds i true))) w' (fun f => f ∈ D.fl ∧ (L.setIfInBounds i true).getD f false = true ∧ cnt D.mv (L.setIfInBounds i true) ≤ D.gap f))
    (hnf : ∀ id, (D.st (cnt D.mv (L.setIfInBounds i true))).free id → (s.rsv D.q).free id) : DI D ρ0 w0 (L.setIfInBounds i true) (act.put o.dst v') w' := by
  refine ⟨by simpa using hd.size, ?_, ⟨ρ', hst, ?_, ?_, hf1, hpd⟩, hnf, (put_defers ..).trans hd.df, (put_size ..).trans hd.nt⟩
  · intro k o' e hk hL he hb
    rw [set_iff hi] at hL ⊢
    right
    rcases hL with rfl | hL
    · rw [ho] at hk; cases hk
      exact hall e he hb
    · exact hd.clo k o' e hk hL he hb
  · intro j d hdj hL
    rw [set_iff hi] at hL
    by_cases hji : j = i
    · subst hji
      have hdo : o.dst = some d := by simpa [dst, ho] using hdj
      have hdk := hok.dok j o ho
      rw [hdo] at hdk ⊢
      have hd' : d < act.tmps.size := by rw [hd.nt]; simpa [dOk, Nat.blt_eq] using hdk
      exact ⟨v', by simp [Act.put, hd'], hv⟩
    · obtain ⟨u', e', hu⟩ := h1 j d hdj (hL.resolve_left hji)
      refine ⟨u', ?_, hu.mono hx⟩
      cases hdo : o.dst with
      | none => exact e'
      | some d2 =>
        have hne : d2 ≠ d := fun h => by
          subst h
          exact hji (hok.uniq j i d2 hdj (by simpa [dst, ho] using hdo))
        simp only [Act.put]
        rw [Array.getElem?_setIfInBounds_ne hne]; exact e'
  · intro t v hk hno
    obtain ⟨u', e', hu⟩ := h2 t v hk fun j hL => hno j ((set_iff hi).2 (.inr hL))
    refine ⟨u', ?_, hu.mono hx⟩
    cases hdo : o.dst with
    | none => exact e'
    | some d2 =>
      have hne : d2 ≠ t := fun h => by
        subst h
        exact hno i ((set_iff hi).2 (.inl rfl)) (by simpa [dst, ho] using hdo)
      simp only [Act.put]
      rw [Array.getElem?_setIfInBounds_ne hne]; exact e'
theorem DI.step (hok : D.Ok) (hsd : 0 < s.sd) {Q : Exit → Act → World → Prop} (hd : DI D ρ0 w0 L act w) {i : Nat} (hr : i ∈ Region.ready .any ops L) : wpOp P ops Q i (fun a w => DI D ρ0 w0 (L.setIfInBounds i true) a w) act w := by
  obtain ⟨hlt, hLi, hall⟩ := ready_spec hr
  have hi : i < L.size := by rw [hd.size]; exact hlt
  have hLf : L.getD i false = false := by rw [getD_flip hi false true]; exact hLi
  have ho : ops[i]? = some ops[i] := Array.getElem?_eq_getElem hlt
  generalize hoo : ops[i] = o at ho
  have hall' : ∀ e ∈ o.after, Region.binds .any e = true → L.getD e.on false = true := by
    have := hall o ho
    rw [Array.all_eq_true_iff_forall_mem] at this
    intro e he hb
    have h2 := this e he
    rw [hb] at h2
    simpa using h2
  have hsub := hd.sub hok i o ho hall'
  obtain ⟨ρ, hst, h1, h2, h3, h4⟩ := hd.ex
  have hlo : D.lo i ≤ cnt D.mv L := List.countP_mono_left fun j _ h => hsub j h
  have hhi : cnt D.mv L ≤ D.hi i := List.countP_mono_left fun j _ h => by
    simp only [Bool.and_eq_true, Bool.not_eq_true']
    constructor
    · cases hp : has (D.pre j) i with
      | false => rfl
      | true =>
        exfalso
        have hjs : j < ops.size := by
          by_cases hh : j < L.size
          · rw [← hd.size]; exact hh
          · simp [Array.getElem?_eq_none (by omega : L.size ≤ j)] at h
        have := hd.sub hok j ops[j] (Array.getElem?_eq_getElem hjs) (fun e he hb => hd.clo j _ e (Array.getElem?_eq_getElem hjs) h he hb) i hp
        rw [hLf] at this; cases this
    · rw [Bool.eq_false_iff]
      intro hb
      have := Nat.eq_of_beq_eq_true hb
      subst this
      rw [hLf] at h; cases h
  have htm : TM ρ (D.kf i) act.tmps := by
    intro t v hl
    rcases hok.hkn i t v hlt hl with ⟨j, hj, hdj, rfl⟩ | ⟨hk, hj⟩
    · exact h1 j t hdj (hsub j hj)
    · refine h2 t v hk fun j hL hdj => ?_
      rcases hj j hdj with hp | rfl
      · have hjs : j < ops.size := by
          by_cases hh : j < L.size
          · rw [← hd.size]; exact hh
          · simp [Array.getElem?_eq_none (by omega : L.size ≤ j)] at hL
        have := hd.sub hok j ops[j] (Array.getElem?_eq_getElem hjs) (fun e he hb => hd.clo j _ e (Array.getElem?_eq_getElem hjs) hL he hb) i hp
        rw [hLf] at this; cases this
      · rw [hLf] at hL; cases hL
  have hcnt := cnt_set_mem hi hLf D.mv hok.nodup
  unfold wpOp
  rw [ho]
  by_cases hifl : i ∈ D.fl
  · -- an allocation that floats
    obtain ⟨hg, mk, hoa, hval⟩ := hok.hfl i o ho hifl
    obtain ⟨O, lim, v', hrun, hor, hvr⟩ := hoa ρ _ act w hst.wr htm
    have hwn : Region.wanted o (yielded ops act.tmps) = true := by simp [Region.wanted, hg]
    show if Region.wanted o (yielded ops act.tmps) = true then _ else _
    rw [if_pos hwn]
    refine .inl ?_
    unfold Oper.wp
    rw [hrun]
    show DI D ρ0 w0 (L.setIfInBounds i true) (act.put o.dst v') _
    have hnm := hok.fldis i hifl
    rw [if_neg hnm] at hcnt
    obtain ⟨f1, f2⟩ := h3 i hifl hLf
    have hx : Ext ρ (upd ρ (D.fid i) ⟨w.heap.size, 0, lim⟩) := ext_upd f1
    have hnot : ¬ (D.st (cnt D.mv L)).free (D.fid i) := fun h => fid_not hok hsd hifl (hd.nf _ h)
    have hpend := hst.pend O lim (fid_free hok hifl) hnot f1
    refine hd.put hok hi ho hall' hx h1 h2 (by rw [hval]; exact hvr _ _ (upd_self ..)) (by rw [hcnt]; exact hpend) (fun f hf hLf' => ?_) ?_ (by rw [hcnt]; exact hd.nf)
    · obtain ⟨g1, g2⟩ := set_false hi hLf'
      obtain ⟨e1, e2⟩ := h3 f hf g2
      rw [hcnt]
      refine ⟨?_, e2⟩
      show (if D.fid f = D.fid i then _ else ρ (D.fid f)) = none
      rw [if_neg (fun e => g1 (hok.hinj f i hf hifl e))]; exact e1
    · rw [hcnt]
      have hup : ∀ f, f ∈ D.fl → f ≠ i → (upd ρ (D.fid i) ⟨w.heap.size, 0, lim⟩) (D.fid f) = ρ (D.fid f) := fun f hf hne => by
        show (if D.fid f = D.fid i then _ else ρ (D.fid f)) = _
        rw [if_neg (fun e => hne (hok.hinj f i hf hifl e))]
      have hin : ∀ j q, (D.st (cnt D.mv L)).get j = some q → (upd ρ (D.fid i) ⟨w.heap.size, 0, lim⟩) j = ρ j ∧ ∃ pj, ρ j = some pj ∧ pj.block < w.heap.size := fun j q ej => by
        obtain ⟨pj, hp, hoj⟩ := hst.wr.obj j q ej
        have hne : j ≠ D.fid i := fun e => by rw [e, f1] at hp; cases hp
        refine ⟨?_, pj, hp, hoj.lt⟩
        show (if j = D.fid i then _ else ρ j) = ρ j
        rw [if_neg hne]
      have hold : ∀ f, f ∈ D.fl ∧ (L.setIfInBounds i true).getD f false = true ∧ cnt D.mv L ≤ D.gap f → f ≠ i → f ∈ D.fl ∧ L.getD f false = true ∧ cnt D.mv L ≤ D.gap f := fun f hf hne => ⟨hf.1, ((set_iff hi).1 hf.2.1).resolve_left hne, hf.2.2⟩
      refine ⟨fun f hf => ?_, fun f g hf hg pf pg e1 e2 hb => ?_⟩
      · by_cases hfi : f = i
        · subst hfi
          refine ⟨⟨w.heap.size, 0, lim⟩, upd_self .., hor _ hx, hst.size, fun j q pj ej hj hb => ?_⟩
          obtain ⟨a1, pj', a2, a3⟩ := hin j q ej
          rw [a1, a2] at hj
          rw [← Option.some.inj hj] at hb
          have hb' : pj'.block = w.heap.size := hb
          omega
        · obtain ⟨pl, b1, b2, b3, b4⟩ := h4.ob f (hold f hf hfi)
          refine ⟨pl, by rw [hup f hf.1 hfi]; exact b1, (b2.mono hx).world (push_get _ _ _ b2.lt), b3, fun j q pj ej hj hb => ?_⟩
          obtain ⟨a1, _⟩ := hin j q ej
          rw [a1] at hj
          exact b4 j q pj ej hj hb
      · by_cases hfi : f = i <;> by_cases hgi : g = i
        · rw [hfi, hgi]
        · exfalso
          subst hfi
          rw [upd_self] at e1; cases e1
          obtain ⟨pl, b1, b2, _⟩ := h4.ob g (hold g hg hgi)
          rw [hup g hg.1 hgi, b1] at e2
          rw [← Option.some.inj e2] at hb
          have := b2.lt
          have hb' : w.heap.size = pl.block := hb
          omega
        · exfalso
          subst hgi
          rw [upd_self] at e2; cases e2
          obtain ⟨pl, b1, b2, _⟩ := h4.ob f (hold f hf hfi)
          rw [hup f hf.1 hfi, b1] at e1
          rw [← Option.some.inj e1] at hb
          have := b2.lt
          have hb' : pl.block = w.heap.size := hb
          omega
        · rw [hup f hf.1 hfi] at e1
          rw [hup g hg.1 hgi] at e2
          exact h4.ds f g (hold f hf hfi) (hold g hg hgi) _ _ e1 e2 hb
  · have hhop := hok.hop i o _ ho hifl hlo hhi
    by_cases himv : i ∈ D.mv
    · -- one that may change the state: what it stands behind comes into the state
      rw [if_pos himv] at hcnt hhop
      rw [if_pos himv] at hhop
      have hfil : ∀ f, f ∈ (D.fl.filter fun f => Nat.beq (D.gap f) (cnt D.mv L)) → f ∈ D.fl ∧ D.gap f = cnt D.mv L := fun f hf => by
        rw [List.mem_filter] at hf
        exact ⟨hf.1, Nat.eq_of_beq_eq_true hf.2⟩
      have hgp : ∀ f, f ∈ D.fl → D.gap f = cnt D.mv L → L.getD f false = true := fun f hf hg => hsub f (hok.hgap i _ himv hlo hhi f hf hg)
      obtain ⟨a1, a2⟩ := Pd.absorb (fun f g hf hg => hok.hinj f g hf.1 hg.1) (D.fl.filter fun f => Nat.beq (D.gap f) (cnt D.mv L)) _ _ (fun f hf => hf) hst h4 (fun f hf => by
        obtain ⟨b1, b2⟩ := hfil f hf
        exact ⟨⟨b1, hgp f b1 b2, by omega⟩, fid_free hok b1, fun h => fid_not hok hsd b1 (hd.nf _ h)⟩) (List.Pairwise.filter _ hok.flnd)
      refine hhop ρ act w _ Q a1.wr htm fun ρ' v' w' hs hv => ?_
      have hnof : ∀ f, f ∈ D.fl → ¬ (D.ab (cnt D.mv L)).free (D.fid f) := fun f hf h => fid_not hok hsd hf (hd.nf _ ((abL_free _ _ _).1 h))
      refine hd.put hok hi ho hall' hs.ext h1 h2 hv (by rw [hcnt]; exact a1.trans hs) (fun f hf hLf' => ?_) ?_ ?_
      · obtain ⟨g1, g2⟩ := set_false hi hLf'
        obtain ⟨e1, e2⟩ := h3 f hf g2
        rw [hcnt]
        refine ⟨?_, ?_⟩
        · rcases hs.only (D.fid f) with e | e
          · rw [e]; exact e1
          · exact absurd e (hnof f hf)
        · rcases Nat.lt_or_ge (cnt D.mv L) (D.gap f) with h | h
          · exact h
          · have := hgp f hf (Nat.le_antisymm h e2)
            rw [g2] at this; cases this
      · rw [hcnt]
        refine (Pd.step a2 hs).sub fun f hf => ?_
        have hne : f ≠ i := fun e => hifl (e ▸ hf.1)
        refine ⟨⟨hf.1, ((set_iff hi).1 hf.2.1).resolve_left hne, by have := hf.2.2; omega⟩, fun h => ?_⟩
        have := (hfil f h).2
        have := hf.2.2
        omega
      · rw [hcnt]
        exact fun id h => hd.nf id ((abL_free _ _ _).1 (hs.fre id h))
    · rw [if_neg himv] at hcnt hhop
      rw [if_neg himv] at hhop
      refine hhop ρ act w _ Q hst.wr htm fun ρ' v' w' hs hv => ?_
      refine hd.put hok hi ho hall' hs.ext h1 h2 hv (by rw [hcnt]; exact hst.trans hs) (fun f hf hLf' => ?_) ?_ ?_
      · obtain ⟨g1, g2⟩ := set_false hi hLf'
        obtain ⟨e1, e2⟩ := h3 f hf g2
        rw [hcnt]
        refine ⟨?_, e2⟩
        rcases hs.only (D.fid f) with e | e
        · rw [e]; exact e1
        · exact absurd (hd.nf _ e) (fid_not hok hsd hf)
      · rw [hcnt]
        refine (Pd.step h4 hs).sub fun f hf => ?_
        have hne : f ≠ i := fun e => hifl (e ▸ hf.1)
        exact ⟨hf.1, ((set_iff hi).1 hf.2.1).resolve_left hne, hf.2.2⟩
      · rw [hcnt]
        exact fun id h => hd.nf id (hs.fre id h)
theorem DI.all (hok : D.Ok) (hd : DI D ρ0 w0 L act w) (hr : Region.ready .any ops L = []) : ∀ i, i < ops.size → L.getD i false = true := by
  intro i
  induction i using Nat.strongRecOn with
  | ind i ih =>
    intro hi
    cases h : L.getD i false with
    | true => rfl
    | false =>
      exfalso
      have : i ∈ Region.ready .any ops L := by
        rw [mem_ready]
        refine ⟨by rw [getD_flip (by rw [hd.size]; exact hi) true false]; exact h, ops[i], Array.getElem?_eq_getElem hi, fun e he hb => ?_⟩
        have := hok.edge i _ e (Array.getElem?_eq_getElem hi) he hb
        exact ih e.on this (by omega)
      rw [hr] at this; cases this
/-- The law. -/
theorem wp (hok : D.Ok) {Q : Exit → Act → World → Prop} {id : Nat} (hm : P.follows .mixedOrders = true) (kn' : KN) (hmv : ∀ i ∈ D.mv, i < ops.size) (hflt : ∀ i ∈ D.fl, i < ops.size)
    (hkn : ∀ t v, look kn' t = some v → (∃ j, dst ops j = some t ∧ v = D.val j) ∨ (look kn t = some v ∧ ∀ j, dst ops j ≠ some t))
    (hi : In P nt ρ0 kn s act w) (hQ : ∀ ρ' act' w', Stp P ρ0 s w ρ' (D.ab D.mv.length) w' → In P nt ρ' kn' (D.ab D.mv.length) act' w' → Q .normal act' w') : (Code.region id ops true).wp P Q act w := by
  refine wp_region_any hm ?_
  refine wpAny_inv (DI D ρ0 w) (fun L a w i hI hr => hI.step hok hi.wr.sd hr) ?_ _ _ _ _ ?_ ?_
  · intro L a w2 hI hr
    have hall := hI.all hok hr
    obtain ⟨ρ, hst, h1, h2, h3, h4⟩ := hI.ex
    have hc : cnt D.mv L = D.mv.length := by
      unfold cnt
      rw [List.countP_eq_length]
      exact fun i hi => hall i (hmv i hi)
    have hnf := hI.nf
    rw [hc] at hst h4 hnf
    have hfil : ∀ f, f ∈ (D.fl.filter fun f => Nat.beq (D.gap f) D.mv.length) → f ∈ D.fl ∧ D.gap f = D.mv.length := fun f hf => by
      rw [List.mem_filter] at hf
      exact ⟨hf.1, Nat.eq_of_beq_eq_true hf.2⟩
    obtain ⟨a1, a2⟩ := Pd.absorb (fun f g hf hg => hok.hinj f g hf.1 hg.1) (D.fl.filter fun f => Nat.beq (D.gap f) D.mv.length) _ _ (fun f hf => hf) hst h4 (fun f hf => by
      obtain ⟨b1, b2⟩ := hfil f hf
      exact ⟨⟨b1, hall f (hflt f b1), by omega⟩, fid_free hok b1, fun h => fid_not hok hi.wr.sd b1 (hnf _ h)⟩) (List.Pairwise.filter _ hok.flnd)
    refine hQ ρ a w2 a1 ⟨a1.wr, ?_, hI.df, hI.nt⟩
    intro t v hl
    rcases hkn t v hl with ⟨j, hdj, rfl⟩ | ⟨hk, hno⟩
    · refine h1 j t hdj (hall j ?_)
      by_cases hh : j < ops.size
      · exact hh
      · simp [dst, Array.getElem?_eq_none (by omega : ops.size ≤ j)] at hdj
    · exact h2 t v hk fun j _ => hno j
  · unfold left
    simp
  · have hno : ∀ j, (Array.replicate ops.size false).getD j false = false := fun j => by
      by_cases hj : j < ops.size
      · simp [hj]
      · simp [hj]
    have hc : cnt D.mv (Array.replicate ops.size false) = 0 := by
      unfold cnt
      rw [List.countP_eq_zero]
      intro j _
      rw [hno]; simp
    refine ⟨by simp, fun i o e _ h => (by rw [hno] at h; cases h), ⟨ρ0, ?_, fun j d _ h => (by rw [hno] at h; cases h), fun t v hk _ => hi.tm t v hk, fun f hf _ => ⟨hi.wr.free _ (fid_free hok hf), by rw [hc]; omega⟩, ?_⟩, ?_, hi.df, hi.nt⟩
    · rw [hc, hok.st0]
      exact ((Stp.refl hi.wr).rsv D.q).drew
    · exact ⟨fun f hf => (by have := hf.2.1; rw [hno] at this; cases this), fun f g hf => (by have := hf.2.1; rw [hno] at this; cases this)⟩
    · rw [hc, hok.st0]
      exact fun _ h => h
end Draw
end Go.Eng
