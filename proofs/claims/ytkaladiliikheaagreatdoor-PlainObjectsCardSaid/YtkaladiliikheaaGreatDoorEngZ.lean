/- The engine, part Z: codes and functions, told as propositions. -/
import Derived.Test.YtkaladiliikheaaGreatDoorEngY
set_option linter.unusedVariables false
set_option linter.unusedSectionVars false
set_option linter.unusedSimpArgs false
namespace Go.Eng
open Go
variable [Toks]
section
variable {P : Program} {nt : Nat}
/-! ### What stands behind a place where ways meet, as a function of what is still wanted there -/
omit [Toks] in
def JT : Nat → Type
  | 0 => S → Prop
  | n + 1 => Value → JT n
omit [Toks] in
def NT : Nat → Type
  | 0 => S → Nat
  | n + 1 => Value → NT n
omit [Toks] in
def apJ : (n : Nat) → JT n → List Value → S → Prop
  | 0, k, [], s => k s
  | n + 1, k, v :: l, s => apJ n (k v) l s
  | _, _, _, _ => False
omit [Toks] in
def apN : (n : Nat) → NT n → List Value → S → Nat
  | 0, k, [], s => k s
  | n + 1, k, v :: l, s => apN n (k v) l s
  | _, _, _, _ => 0
omit [Toks] in
def cuJ : (n : Nat) → (List Value → S → Prop) → JT n
  | 0, f => fun s => f [] s
  | n + 1, f => fun v => cuJ n fun l s => f (v :: l) s
omit [Toks] in
def allV : (n : Nat) → (List Value → Prop) → Prop
  | 0, p => p []
  | n + 1, p => ∀ v, allV n fun l => p (v :: l)
omit [Toks] in
theorem apJ_cuJ : ∀ (n : Nat) (f : List Value → S → Prop) (l : List Value) (s : S), apJ n (cuJ n f) l s → f l s
  | 0, f, [], s, h => h
  | n + 1, f, v :: l, s, h => apJ_cuJ n (fun l s => f (v :: l) s) l s h
  | 0, f, _ :: _, s, h => False.elim h
  | n + 1, f, [], s, h => False.elim h
omit [Toks] in
theorem apJ_len : ∀ (n : Nat) (k : JT n) (l : List Value) (s : S), apJ n k l s → l.length = n
  | 0, k, [], s, h => rfl
  | n + 1, k, v :: l, s, h => by simp [apJ_len n (k v) l s h]
  | 0, k, _ :: _, s, h => False.elim h
  | n + 1, k, [], s, h => False.elim h
omit [Toks] in
theorem allV_spec : ∀ (n : Nat) (p : List Value → Prop) (l : List Value), allV n p → l.length = n → p l
  | 0, p, [], h, _ => h
  | n + 1, p, v :: l, h, e => allV_spec n (fun l => p (v :: l)) l (h v) (by simpa using e)
  | 0, p, _ :: _, h, e => by simp at e
  | n + 1, p, [], h, e => by simp at e
omit [Toks] in
noncomputable def knL (us : List Nat) (kn : KN) : Option (List Value) :=
  List.rec (motive := fun _ => Option (List Value)) (some []) (fun t _ ih => Option.rec (motive := fun _ => Option (List Value)) none (fun v => Option.rec (motive := fun _ => Option (List Value)) none (fun l => some (v :: l)) ih) (look kn t)) us
omit [Toks] in
noncomputable def mkK (us : List Nat) : List Value → KN :=
  List.rec (motive := fun _ => List Value → KN) (fun _ => .l) (fun t _ ih l => List.rec (motive := fun _ => KN) .l (fun v l _ => (ih l).put (some v) t) l) us
omit [Toks] in
theorem knL_cons (t : Nat) (us : List Nat) (kn : KN) : knL (t :: us) kn = match look kn t, knL us kn with | some v, some l => some (v :: l) | _, _ => none := by
  have e : knL (t :: us) kn = Option.rec (motive := fun _ => Option (List Value)) none (fun v => Option.rec (motive := fun _ => Option (List Value)) none (fun l => some (v :: l)) (knL us kn)) (look kn t) := rfl
  rw [e]
  cases look kn t <;> cases knL us kn <;> rfl
omit [Toks] in
theorem knL_len : ∀ {us : List Nat} {kn : KN} {l : List Value}, knL us kn = some l → l.length = us.length
  | [], kn, l, h => by cases h; rfl
  | t :: us, kn, l, h => by
    rw [knL_cons] at h
    split at h
    · rename_i v l1 h1 h2
      cases h
      simp [knL_len h2]
    · cases h
omit [Toks] in
theorem look_mkK : ∀ {us : List Nat} {kn : KN} {l : List Value} {t : Nat} {v : Value}, knL us kn = some l → look (mkK us l) t = some v → look kn t = some v
  | [], kn, l, t, v, h, hl => by cases hl
  | u :: us, kn, l, t, v, h, hl => by
    rw [knL_cons] at h
    split at h
    · rename_i w l1 h1 h2
      cases h
      have e : look ((mkK us l1).put (some w) u) t = if t = u then some w else look (mkK us l1) t := T.get_put ..
      have hl' : look ((mkK us l1).put (some w) u) t = some v := hl
      rw [e] at hl'
      by_cases htu : t = u
      · rw [if_pos htu] at hl'
        cases hl'
        rw [htu]; exact h1
      · rw [if_neg htu] at hl'
        exact look_mkK h2 hl'
    · cases h
omit [Toks] in
theorem knL_append : ∀ {us vs : List Nat} {kn : KN} {l m : List Value}, knL us kn = some l → knL vs kn = some m → knL (us ++ vs) kn = some (l ++ m)
  | [], vs, kn, l, m, h1, h2 => by cases h1; exact h2
  | t :: us, vs, kn, l, m, h1, h2 => by
    rw [knL_cons] at h1
    split at h1
    · rename_i v l1 e1 e2
      cases h1
      rw [List.cons_append, knL_cons, e1, knL_append e2 h2]
      rfl
    · cases h1
theorem Runs.less {c : Code} {kn k0 kn' : KN} {s s' : S} {e : Ex} (h : Runs P nt c k0 s e kn' s') (hk : ∀ t v, look k0 t = some v → look kn t = some v) : Runs P nt c kn s e kn' s' :=
  fun ρ act w Q hi hQ => h ρ act w Q ⟨hi.wr, fun t v e => hi.tm t v (hk t v e), hi.df, hi.nt⟩ hQ
omit [Toks] in
def Cnd (v : Value) (a b : Prop) : Prop := match v with | .bool true => a | .bool false => b | _ => False
omit [Toks] in
noncomputable def exP (e : Ex) (a : Prop) (b : Nat → Prop) (c : Prop) : Prop := Ex.rec (motive := fun _ => Prop) a b c e
/-- 'U': what is still wanted where ways meet, and at the heads of loops, by their places in the code. -/
noncomputable def wpK (P : Program) (U : Nat → Option (List Nat × List Nat)) (nt : Nat) (c : Code) : Nat → KN → S → (Ex → KN → S → Prop) → Prop :=
  Code.rec (motive := fun _ => Nat → KN → S → (Ex → KN → S → Prop) → Prop)
    (fun _ kn s Q => Q .norm kn s)
    (fun _ ops draw _ kn s Q => Bool.rec (motive := fun _ => Prop) (wpL P nt ops.toList ops.toList kn s (Q .norm))
      (wpD P nt ops.toList kn s (Q .norm)) draw)
    (fun _ _ iha ihb p kn s Q => Option.rec (motive := fun _ => Prop)
      (iha (2 * p) kn s fun e kn' s' => exP e (ihb (2 * p + 1) kn' s' Q) (fun i => Q (.exit i) kn' s') (Q .ret kn' s'))
      (fun u => Jn (cuJ u.1.length fun ys s' => ihb (2 * p + 1) (mkK u.1 ys) s' Q) fun k =>
        iha (2 * p) kn s fun e kn' s' => exP e (oP (knL u.1 kn') fun ys => apJ u.1.length k ys s') (fun i => Q (.exit i) kn' s') (Q .ret kn' s')) (U p))
    (fun x _ _ iha ihb p kn s Q => oP (opv P kn x) fun v => Cnd v (iha (2 * p) kn s Q) (ihb (2 * p + 1) kn s Q))
    (fun id _ ih p kn s Q => ih (2 * p) kn s fun e kn' s' => exP e (Q .norm kn' s') (fun i => Bool.rec (motive := fun _ => Prop) (Q (.exit i) kn' s') (Q .norm kn' s') (Nat.beq i id)) (Q .ret kn' s'))
    (fun _ ih p kn s Q => oP (U p) fun u => oP (knL u.1 kn) fun xs => oP (knL u.2 kn) fun fs => ∃ (I : JT u.1.length) (μ : NT u.1.length), apJ u.1.length I xs s ∧
      allV u.1.length fun ys => ∀ s, apJ u.1.length I ys s → ih (2 * p) (mkK (u.1 ++ u.2) (ys ++ fs)) s fun e kn' s' =>
        exP e (oP (knL u.2 kn') fun gs => oP (knL u.1 kn') fun zs => gs = fs ∧ apJ u.1.length I zs s' ∧ apN u.1.length μ zs s' < apN u.1.length μ ys s) (fun i => Q (.exit i) kn' s') (Q .ret kn' s'))
    (fun _ _ _ _ _ _ _ _ _ _ => False)
    (fun id _ kn s Q => Q (.exit id) kn s)
    (fun _ _ _ _ _ _ => False)
    (fun _ _ _ _ _ => False) (fun _ _ _ _ _ => False)
    (fun _ kn s Q => Q .ret kn s)
    (fun _ _ _ _ _ => False) c
/-- What the propositions say is so. -/
theorem runs_wpK (hm : P.follows .mixedOrders = true) {U : Nat → Option (List Nat × List Nat)} : ∀ (c : Code) (p : Nat) (kn : KN) (s : S) (Q : Ex → KN → S → Prop), wpK P U nt c p kn s Q → ∃ e kn' s', Q e kn' s' ∧ Runs P nt c kn s e kn' s' := by
  intro c
  induction c with
  | skip => exact fun p kn s Q h => ⟨.norm, kn, s, h, fun ρ act w Q hi hQ => wp_skip (hQ ρ act w (Stp.refl hi.wr) hi)⟩
  | region id ops draw =>
    intro p kn s Q h
    cases draw with
    | false =>
      have h' : wpL P nt ops.toList ops.toList kn s (Q .norm) := h
      obtain ⟨kn', s', hq, hr⟩ := Runs.region (id := id) _ _ _ _ h'
      exact ⟨.norm, kn', s', hq, fun ρ act w Q hi hQ => wp_region_list (hr ρ act w Q hi hQ)⟩
    | true =>
      have h' : wpD P nt ops.toList kn s (Q .norm) := h
      obtain ⟨kn', s', hq, hr⟩ := runs_wpD (id := id) hm h'
      exact ⟨.norm, kn', s', hq, hr⟩
  | seq a b iha ihb =>
    intro p kn s Q h
    have key : ∀ (R : KN → S → Prop), (∀ kn' s', R kn' s' → ∃ e kn2 s2, Q e kn2 s2 ∧ Runs P nt b kn' s' e kn2 s2) →
        wpK P U nt a (2 * p) kn s (fun e kn' s' => exP e (R kn' s') (fun i => Q (.exit i) kn' s') (Q .ret kn' s')) → ∃ e kn' s', Q e kn' s' ∧ Runs P nt (.seq a b) kn s e kn' s' := by
      intro R hR h1
      obtain ⟨e1, kn1, s1, h2, r1⟩ := iha _ _ _ _ h1
      cases e1 with
      | norm =>
        obtain ⟨e2, kn2, s2, h3, r2⟩ := hR _ _ h2
        exact ⟨e2, kn2, s2, h3, fun ρ act w Q' hi hQ => wp_seq (r1 ρ act w _ hi fun ρ1 a1 w1 hs1 hi1 => r2 ρ1 a1 w1 Q' hi1 fun ρ2 a2 w2 hs2 hi2 => hQ ρ2 a2 w2 (hs1.trans hs2) hi2)⟩
      | exit i => exact ⟨.exit i, kn1, s1, h2, fun ρ act w Q' hi hQ => wp_seq (r1 ρ act w _ hi fun ρ1 a1 w1 hs1 hi1 => hQ ρ1 a1 w1 hs1 hi1)⟩
      | ret => exact ⟨.ret, kn1, s1, h2, fun ρ act w Q' hi hQ => wp_seq (r1 ρ act w _ hi fun ρ1 a1 w1 hs1 hi1 => hQ ρ1 a1 w1 hs1 hi1)⟩
    have h' : Option.rec (motive := fun _ => Prop)
      (wpK P U nt a (2 * p) kn s fun e kn' s' => exP e (wpK P U nt b (2 * p + 1) kn' s' Q) (fun i => Q (.exit i) kn' s') (Q .ret kn' s'))
      (fun u => Jn (cuJ u.1.length fun ys s' => wpK P U nt b (2 * p + 1) (mkK u.1 ys) s' Q) fun k =>
        wpK P U nt a (2 * p) kn s fun e kn' s' => exP e (oP (knL u.1 kn') fun ys => apJ u.1.length k ys s') (fun i => Q (.exit i) kn' s') (Q .ret kn' s')) (U p) := h
    cases hu : U p with
    | none =>
      rw [hu] at h'
      exact key _ (fun kn' s' h2 => ihb _ _ _ _ h2) h'
    | some u =>
      rw [hu] at h'
      refine key (fun kn' s' => oP (knL u.1 kn') fun ys => apJ u.1.length (cuJ u.1.length fun ys s' => wpK P U nt b (2 * p + 1) (mkK u.1 ys) s' Q) ys s') (fun kn' s' h2 => ?_) h'
      obtain ⟨ys, hys, h3⟩ := oP_spec h2
      obtain ⟨e2, kn2, s2, h4, r2⟩ := ihb _ _ _ _ (apJ_cuJ _ _ _ _ h3)
      exact ⟨e2, kn2, s2, h4, r2.less fun t v e => look_mkK hys e⟩
  | cond x a b iha ihb =>
    intro p kn s Q h
    have h' : oP (opv P kn x) fun v => Cnd v (wpK P U nt a (2 * p) kn s Q) (wpK P U nt b (2 * p + 1) kn s Q) := h
    obtain ⟨v, hv, h1⟩ := oP_spec h'
    unfold Cnd at h1
    split at h1
    · obtain ⟨e, kn', s', hq, hr⟩ := iha _ _ _ _ h1
      refine ⟨e, kn', s', hq, fun ρ act w Q' hi hQ => ?_⟩
      have h2 := opv_eval hi.wr hi.tm hv
      generalize hq' : act.eval x = q at *
      cases h2
      exact wp_cond_true hq' (hr ρ act w Q' hi hQ)
    · obtain ⟨e, kn', s', hq, hr⟩ := ihb _ _ _ _ h1
      refine ⟨e, kn', s', hq, fun ρ act w Q' hi hQ => ?_⟩
      have h2 := opv_eval hi.wr hi.tm hv
      generalize hq' : act.eval x = q at *
      cases h2
      exact wp_cond_false hq' (hr ρ act w Q' hi hQ)
    · cases h1
  | block id c ih =>
    intro p kn s Q h
    obtain ⟨e, kn', s', hq, hr⟩ := ih _ _ _ _ h
    cases e with
    | norm => exact ⟨.norm, kn', s', hq, fun ρ act w Q' hi hQ => wp_block (hr ρ act w _ hi fun ρ1 a1 w1 hs1 hi1 => hQ ρ1 a1 w1 hs1 hi1)⟩
    | ret => exact ⟨.ret, kn', s', hq, fun ρ act w Q' hi hQ => wp_block (hr ρ act w _ hi fun ρ1 a1 w1 hs1 hi1 => hQ ρ1 a1 w1 hs1 hi1)⟩
    | exit j =>
      have hq' : Bool.rec (motive := fun _ => Prop) (Q (.exit j) kn' s') (Q .norm kn' s') (Nat.beq j id) := hq
      cases hb : Nat.beq j id with
      | true =>
        rw [hb] at hq'
        refine ⟨.norm, kn', s', hq', fun ρ act w Q' hi hQ => wp_block (hr ρ act w _ hi fun ρ1 a1 w1 hs1 hi1 => ?_)⟩
        show if j = id then Q' .normal a1 w1 else Q' (.exit j) a1 w1
        rw [if_pos (Nat.eq_of_beq_eq_true hb)]
        exact hQ ρ1 a1 w1 hs1 hi1
      | false =>
        rw [hb] at hq'
        refine ⟨.exit j, kn', s', hq', fun ρ act w Q' hi hQ => wp_block (hr ρ act w _ hi fun ρ1 a1 w1 hs1 hi1 => ?_)⟩
        show if j = id then Q' .normal a1 w1 else Q' (.exit j) a1 w1
        rw [if_neg (fun e => by subst e; simp at hb)]
        exact hQ ρ1 a1 w1 hs1 hi1
  | loop c ih =>
    intro p kn s Q h
    obtain ⟨u, hu, h⟩ := oP_spec h
    obtain ⟨xs, hxs, h⟩ := oP_spec h
    obtain ⟨fs, hfs, I, μ, h0, hstep⟩ := oP_spec h
    have hap : ∀ (ys : List Value) (kn : KN), knL u.1 kn = some ys → knL u.2 kn = some fs → knL (u.1 ++ u.2) kn = some (ys ++ fs) := fun ys kn h1 h2 => knL_append h1 h2
    have key : ∀ (m : Nat) (ys : List Value) (s : S), apN u.1.length μ ys s = m → apJ u.1.length I ys s → ∃ e kn' s', Q e kn' s' ∧
        ∀ (kn : KN) (ρ : Ren) (act : Act) (w : World) (Q : Exit → Act → World → Prop), knL u.1 kn = some ys → knL u.2 kn = some fs → In P nt ρ kn s act w → (∀ ρ' act' w', Stp P ρ s w ρ' s' w' → In P nt ρ' kn' s' act' w' → Q e.of act' w') → LW P c Q act w := by
      intro m
      induction m using Nat.strongRecOn with
      | ind m ihm =>
        intro ys s hm' hI
        have h1 := allV_spec _ _ ys hstep (apJ_len _ _ _ _ hI) s hI
        obtain ⟨e, kn1, s1, hq, hr⟩ := ih _ _ _ _ h1
        cases e with
        | norm =>
          obtain ⟨gs, hgs, hq⟩ := oP_spec hq
          obtain ⟨zs, hzs, rfl, hI2, hlt⟩ := oP_spec hq
          obtain ⟨e2, kn2, s2, hq2, hr2⟩ := ihm _ (by rw [← hm']; exact hlt) zs s1 rfl hI2
          refine ⟨e2, kn2, s2, hq2, fun kn ρ act w Q' hk hk2 hi hQ => LW_of ?_⟩
          exact (hr.less fun t v e => look_mkK (hap _ _ hk hk2) e) ρ act w _ hi fun ρ1 a1 w1 hs1 hi1 => hr2 kn1 ρ1 a1 w1 Q' hzs hgs hi1 fun ρ2 a2 w2 hs2 hi2 => hQ ρ2 a2 w2 (hs1.trans hs2) hi2
        | exit i => exact ⟨.exit i, kn1, s1, hq, fun kn ρ act w Q' hk hk2 hi hQ => LW_of ((hr.less fun t v e => look_mkK (hap _ _ hk hk2) e) ρ act w _ hi fun ρ1 a1 w1 hs1 hi1 => hQ ρ1 a1 w1 hs1 hi1)⟩
        | ret => exact ⟨.ret, kn1, s1, hq, fun kn ρ act w Q' hk hk2 hi hQ => LW_of ((hr.less fun t v e => look_mkK (hap _ _ hk hk2) e) ρ act w _ hi fun ρ1 a1 w1 hs1 hi1 => hQ ρ1 a1 w1 hs1 hi1)⟩
    obtain ⟨e, kn', s', hq, hr⟩ := key _ xs s rfl h0
    exact ⟨e, kn', s', hq, fun ρ act w Q' hi hQ => wp_of_LW (hr kn ρ act w Q' hxs hfs hi hQ)⟩
  | rangeFunc f ps a b iha ihb => exact fun p kn s Q h => False.elim h
  | exit id => exact fun p kn s Q h => ⟨.exit id, kn, s, h, fun ρ act w Q hi hQ => wp_exit (hQ ρ act w (Stp.refl hi.wr) hi)⟩
  | scope c ih => exact fun p kn s Q h => False.elim h
  | label l => exact fun p kn s Q h => False.elim h
  | goto l => exact fun p kn s Q h => False.elim h
  | ret => exact fun p kn s Q h => ⟨.ret, kn, s, h, fun ρ act w Q hi hQ => wp_ret (hQ ρ act w (Stp.refl hi.wr) hi)⟩
  | refuse why => exact fun p kn s Q h => False.elim h

/-! ### Functions -/
noncomputable def wpF (P : Program) (U : Nat → Option (List Nat × List Nat)) (f : Nat) (l : List Value) (s : S) (K : Value → S → Prop) : Prop :=
  oP (P.funcs[f]?) fun fn => oP fn.body fun c => bP (Nat.ble l.length fn.ntmps) (wpK P U fn.ntmps c 1 (args l 0) s fun e kn s' =>
    exP e (rP (tupR (resL P kn s' fn.results.toList) s') K) (fun _ => False) (rP (tupR (resL P kn s' fn.results.toList) s') K))
theorem ec_of_runs {f : Nat} {fn : Func} {c : Code} {l : List Value} {s : S} (hf : P.funcs[f]? = some fn) (hb : fn.body = some c) (hle : l.length ≤ fn.ntmps) {e : Ex} {kn : KN} {s1 s' : S} {v : Value}
    (he : e = .norm ∨ e = .ret) (ht : tupR (resL P kn s1 fn.results.toList) s1 = some (v, s')) (hr : Runs P fn.ntmps c (args l 0) s e kn s1) : EC P f l s v s' := by
  intro ρ w l' hw hll
  have hlen := hll.length
  have hin : In P fn.ntmps ρ (args l 0) s { tmps := ⟨l'⟩ ++ Array.replicate (fn.ntmps - (⟨l'⟩ : Array Value).size) undef, defers := [] } w := by
    refine ⟨hw, fun i u e => ?_, rfl, ?_⟩
    · obtain ⟨j, e1, e2⟩ := look_args l 0 i u e
      rw [Nat.zero_add] at e1
      subst e1
      obtain ⟨u', e', hu⟩ := hll.at i u e2
      refine ⟨u', ?_, hu⟩
      have hi := (List.getElem?_eq_some_iff.1 e').1
      show ((⟨l'⟩ : Array Value) ++ Array.replicate (fn.ntmps - (⟨l'⟩ : Array Value).size) undef)[i]? = some u'
      rw [Array.getElem?_append_left (by simpa using hi)]
      simpa using e'
    · show ((⟨l'⟩ : Array Value) ++ Array.replicate (fn.ntmps - (⟨l'⟩ : Array Value).size) undef).size = fn.ntmps
      simp; omega
  refine calls_of_wp hf hb (hr ρ _ w _ hin fun ρ' a' w' hs hi' => ?_)
  have hres : ∃ v', (results fn a'.tmps).run P w' = .ok v' w' ∧ VR ρ' v v' ∧ s1 = s' := by
    unfold tupR at ht
    split at ht
    · rename_i u hu
      cases ht
      obtain ⟨l2, h1, h2⟩ := resL_run hi'.wr hi'.tm hu
      cases h2 with
      | cons _ v' _ l3 hv hl3 =>
        cases hl3
        refine ⟨v', ?_, hv, rfl⟩
        rw [results_eq]
        have : (fn.results.mapM (oneRes a'.tmps)).run P w' = .ok #[v'] w' := by
          rw [← Array.toArray_toList (xs := fn.results), List.mapM_toArray]
          simp [h1]
        simp [this]
    · rename_i l1 hne hl1
      cases ht
      obtain ⟨l2, h1, h2⟩ := resL_run hi'.wr hi'.tm hl1
      refine ⟨.tuple ⟨l2⟩, ?_, .tuple _ _ h2, rfl⟩
      have hl2 : l2.length ≠ 1 := by
        rw [← h2.length]
        intro hh
        match l1, hh, hne with
        | [u], _, hne => exact hne u rfl
      rw [results_eq]
      have : (fn.results.mapM (oneRes a'.tmps)).run P w' = .ok ⟨l2⟩ w' := by
        rw [← Array.toArray_toList (xs := fn.results), List.mapM_toArray]
        simp [h1]
      simp [this, hl2]
    · cases ht
  obtain ⟨v', hr1, hv, rfl⟩ := hres
  rcases he with rfl | rfl
  · exact ⟨hi'.df, v', hr1, ρ', v', rfl, hv, hs⟩
  · exact ⟨hi'.df, v', hr1, ρ', v', rfl, hv, hs⟩
theorem cal_wpF (hm : P.follows .mixedOrders = true) {U : Nat → Option (List Nat × List Nat)} {f : Nat} {l : List Value} {s : S} {K : Value → S → Prop} (h : wpF P U f l s K) : Cal P f l s K := by
  obtain ⟨fn, hf, h⟩ := oP_spec h
  obtain ⟨c, hb, h⟩ := oP_spec h
  obtain ⟨hle, h⟩ := bP_spec h
  obtain ⟨e, kn, s1, hq, hr⟩ := runs_wpK hm _ _ _ _ _ h
  cases e with
  | norm =>
    obtain ⟨v, s', ht, hk⟩ := rP_spec hq
    exact ⟨v, s', ec_of_runs hf hb (ble_le hle) (.inl rfl) ht hr, hk⟩
  | ret =>
    obtain ⟨v, s', ht, hk⟩ := rP_spec hq
    exact ⟨v, s', ec_of_runs hf hb (ble_le hle) (.inr rfl) ht hr, hk⟩
  | exit i => exact False.elim hq
end
end Go.Eng
