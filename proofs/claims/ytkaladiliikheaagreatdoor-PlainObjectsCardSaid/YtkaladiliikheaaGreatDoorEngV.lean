/- The engine, part V: closed runs in whatever state; values known by heart; from a run to what a row asks. -/
import Derived.Test.YtkaladiliikheaaGreatDoorEngU
import Derived.ChangeSame
set_option linter.unusedVariables false
set_option linter.unusedSectionVars false
set_option linter.unusedSimpArgs false
namespace Go.Eng
open Go
variable [Toks]

omit [Toks] in
/-- Nothing is there. -/
def emp (g : Nat) : S := ⟨.l, g, 1, g, 1⟩
section
variable {P : Program}
theorem noid_any {ρ ρ' : Ren} {n : Nat} {v v' : Value} (h : noid n v = true) (hv : VR ρ' v v') : VR ρ v v' := by
  have e : ∀ r : Ren, Ext ⟨fun _ => none⟩ r := fun r => ⟨fun _ _ h => (by cases h), rfl⟩
  exact (noid_VR (e ρ') n v v' h hv).mono (e ρ)
theorem noid_anyL {ρ ρ' : Ren} {n : Nat} : ∀ {l l' : List Value}, l.all (noid n) = true → LR ρ' l l' → LR ρ l l'
  | [], _, _, .nil => .nil
  | v :: l, _, h, .cons _ v' _ l' hv hl => by
    simp only [List.all_cons, Bool.and_eq_true] at h
    exact .cons _ _ _ _ (noid_any h.1 hv) (noid_anyL h.2 hl)
theorem emp_get (g id : Nat) : (emp g).get id = none := rfl
theorem emp_WR {g : Nat} (hg : P.globals.size ≤ g) (w : World) : WR P ⟨fun id => if id < P.globals.size then some ⟨id, 0, none⟩ else none⟩ (emp g) w := by
  refine ⟨fun id o e => (by rw [emp_get] at e; cases e), fun i j oi oj pi pj e => (by rw [emp_get] at e; cases e), fun id hf => ?_, Nat.zero_lt_one, fun k hk => ?_⟩
  · obtain ⟨i, e⟩ := hf
    have e' : id = g + i * 1 := e
    show (if id < P.globals.size then _ else none) = none
    rw [if_neg (by omega)]
  · show (if k < P.globals.size then _ else none) = _
    rw [if_pos hk]
theorem emp_frame {g : Nat} {ρ ρ' : Ren} {s' : S} {w w' : World} (h : Stp P ρ (emp g) w ρ' s' w') : ∀ b, b < w.heap.size → w'.heap[b]? = w.heap[b]? := fun b hb => h.frame b hb fun id o pl e => (by rw [emp_get] at e; cases e)
/-- A run over nothing is a run over anything: what it made is let go. -/
theorem ec_closed {f n m g : Nat} {l : List Value} {v : Value} {s1 : S} {F : List Value → S → R} (hF : FS P f F) (hg : P.globals.size ≤ g) (hl : l.all (noid n) = true) (hv : noid m v = true) (h : F l (emp g) = some (v, s1)) (s : S) : EC P f l s v s := by
  intro ρ w l' hw hll
  refine Calls.mono (hF l _ v s1 h _ w l' (emp_WR hg w) (noid_anyL hl hll)) fun e w' hp => ?_
  obtain ⟨ρ', v', rfl, hv', hs⟩ := hp
  have hfr := emp_frame hs
  have hwr : WR P ρ s w' := hw.world fun id o pl e hp => by
    obtain ⟨pl', hp', ho⟩ := hw.obj id o e
    rw [hp] at hp'; cases hp'
    exact hfr _ ho.lt
  exact ⟨ρ, v', rfl, noid_any hv hv', hwr, fun _ h => h, rfl, rfl, rfl, Ext.refl ρ, fun _ => .inl rfl, fun _ h => absurd rfl h, fun id o pl e1 e2 _ => ⟨id, o, pl, e1, e2, rfl, fun h => absurd rfl h⟩, hs.tape, hs.os, hs.output, hs.size, fun b hb _ => hfr b hb⟩
theorem ec_as {f : Nat} {l l1 : List Value} {s s' : S} {v v1 : Value} (h : EC P f l1 s v1 s') (hl : ∀ (ρ : Ren) (l' : List Value), LR ρ l l' → LR ρ l1 l') (hv : ∀ (ρ : Ren) (v' : Value), VR ρ v1 v' → VR ρ v v') : EC P f l s v s' := by
  intro ρ w l' hw hll
  refine Calls.mono (h ρ w l' hw (hl ρ l' hll)) fun e w' hp => ?_
  obtain ⟨ρ', v', e1, e2, e3⟩ := hp
  exact ⟨ρ', v', e1, hv ρ' v' e2, e3⟩
/-- A number that is not known is the number that it stands for. -/
def dtk : Value → Value
  | .float .f64 k => .int .i64 (Toks.tok k)
  | v => v
theorem dtk_VR {ρ : Ren} {v v' : Value} (h : VR ρ v v') : VR ρ (dtk v) v' := by
  cases h with
  | tok k => exact .int .i64 (Toks.tok k)
  | bool b => exact .bool b
  | int k n => exact .int k n
  | string s => exact .string s
  | nilP => exact .nilP
  | ptr id off pl e => exact .ptr id off pl e
  | nilS => exact .nilS
  | sl id off len c pl a' c' e h1 h2 h3 h4 => exact .sl id off len c pl a' c' e h1 h2 h3 h4
  | sls id k n c pl e h1 => exact .sls id k n c pl e h1
  | sp id m i pl e h1 => exact .sp id m i pl e h1
  | nilM => exact .nilM
  | map id pl e => exact .map id pl e
  | nilF => exact .nilF
  | func fn f c f' c' h1 h2 => exact .func fn f c f' c' h1 h2
  | nilI => exact .nilI
  | iface t v v' h => exact .iface t v v' h
  | agg l l' h => exact .agg l l' h
  | tuple l l' h => exact .tuple l l' h
theorem dtk_LR {ρ : Ren} : ∀ {l l' : List Value}, LR ρ l l' → LR ρ (l.map dtk) l'
  | _, _, .nil => .nil
  | _, _, .cons v v' l l' hv hl => .cons _ _ _ _ (dtk_VR hv) (dtk_LR hl)
theorem tok_VR {ρ : Ren} {k : Nat} {v' : Value} (h : VR ρ (.int .i64 (Toks.tok k)) v') : VR ρ (.float .f64 k) v' := by
  cases h
  exact .tok k
omit [Toks] in
/-- What is known by heart of a function. -/
def memo : List (List Value × Value) → (List Value → S → R) → List Value → S → R
  | [], F, l, s => F l s
  | (a, v) :: t, F, l, s => bif leq (veq 5) a l then some (v, s) else memo t F l s
theorem fs_memo {f : Nat} {F : List Value → S → R} (hF : FS P f F) : ∀ (t : List (List Value × Value)), (∀ x ∈ t, ∀ s, EC P f x.1 s x.2 s) → FS P f (memo t F)
  | [], _ => hF
  | (a, v) :: t, h => by
    intro l s u s' e
    have e' : (bif leq (veq 5) a l then some (v, s) else memo t F l s) = some (u, s') := e
    cases hb : leq (veq 5) a l with
    | true =>
      rw [hb, cond_true] at e'
      cases e'
      have := leq_eq (veq_eq 5) hb
      subst this
      exact h (a, _) (List.mem_cons_self ..) _
    | false =>
      rw [hb, cond_false] at e'
      exact fs_memo hF t (fun x hx => h x (List.mem_cons_of_mem _ hx)) l s u s' e'
/-- From a run to what a row asks. -/
theorem walk_of {f g : Nat} {F : List Value → S → R} {l l' : List Value} {b : Bool} {s1 : S} (hF : FS P f F) (hg : P.globals.size ≤ g) (h : F l (emp g) = some (.bool b, s1)) (hl : ∀ ρ : Ren, LR ρ l l') (w : World) :
    Calls P f ⟨l'⟩ w fun e w' => e = .returned (.bool b) ∧ w.keptBut w' (fun _ => False) := by
  refine Calls.mono (hF l _ _ _ h _ w l' (emp_WR hg w) (hl _)) fun e w' hp => ?_
  obtain ⟨ρ', v', rfl, hv, hs⟩ := hp
  cases hv
  refine ⟨rfl, hs.os, hs.output, fun i hi => ?_⟩
  rw [emp_frame hs i hi]
  cases w.heap[i]? with
  | none => rfl
  | some o =>
    cases o with
    | cells c t fr => exact ⟨rfl, rfl, rfl, fun _ _ => rfl⟩
    | map es c => exact .inr ⟨rfl, rfl⟩
    | _ => rfl
end
end Go.Eng
