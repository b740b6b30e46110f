/- The engine, part W: loops of a count that is not known: a round that changes nothing but its index. -/
import Derived.Test.YtkaladiliikheaaGreatDoorEngV
set_option linter.unusedVariables false
set_option linter.unusedSectionVars false
set_option linter.unusedSimpArgs false
namespace Go.Eng
open Go

/-! ### What an elder renaming knows of a value -/
section
variable [Toks]
mutual
theorem VR.back {ρ ρ' : Ren} (h : Ext ρ ρ') : ∀ {v v0 v' : Value}, VR ρ v v0 → VR ρ' v v' → VR ρ v v'
  | _, _, _, .bool b, .bool _ => .bool b
  | _, _, _, .int k n, .int _ _ => .int k n
  | _, _, _, .tok k, .tok _ => by rw [h.2]; exact .tok k
  | _, _, _, .string s, .string _ => .string s
  | _, _, _, .nilP, .nilP => .nilP
  | _, _, _, .ptr id off pl e, .ptr _ _ pl' e' => by
    rw [h.1 _ _ e] at e'
    cases e'
    exact .ptr id off _ e
  | _, _, _, .nilS, .nilS => .nilS
  | _, _, _, .sl id off len c pl a c' e h1 h2 h3 h4, .sl _ _ _ _ pl' a' c'' e' g1 g2 g3 g4 => by
    rw [h.1 _ _ e] at e'
    cases e'
    exact .sl id off len c _ a' c'' e g1 g2 g3 g4
  | _, _, _, .sls id k n c pl e h1, .sls _ _ n' c' pl' e' g1 => by
    rw [h.1 _ _ e] at e'
    cases e'
    exact .sls id k n' c' _ e (by rw [← h.2]; exact g1)
  | _, _, _, .sp id m i pl e h1, .sp _ _ i' pl' e' g1 => by
    rw [h.1 _ _ e] at e'
    cases e'
    exact .sp id m i' _ e (by rw [← h.2]; exact g1)
  | _, _, _, .nilM, .nilM => .nilM
  | _, _, _, .map id pl e, .map _ pl' e' => by
    rw [h.1 _ _ e] at e'
    cases e'
    exact .map id _ e
  | _, _, _, .nilF, .nilF => .nilF
  | _, _, _, .func fn f c f' c' hf hc, .func _ _ _ f2 c2 gf gc => .func fn f c f2 c2 (LR.back h hf gf) (LR.back h hc gc)
  | _, _, _, .nilI, .nilI => .nilI
  | _, _, _, .iface t v v' hv, .iface _ _ v2 gv => .iface t v v2 (VR.back h hv gv)
  | _, _, _, .agg l l' hl, .agg _ l2 gl => .agg l l2 (LR.back h hl gl)
  | _, _, _, .tuple l l' hl, .tuple _ l2 gl => .tuple l l2 (LR.back h hl gl)
theorem LR.back {ρ ρ' : Ren} (h : Ext ρ ρ') : ∀ {l l0 l' : List Value}, LR ρ l l0 → LR ρ' l l' → LR ρ l l'
  | _, _, _, .nil, .nil => .nil
  | _, _, _, .cons v v0 l l0 hv hl, .cons _ v' _ l' gv gl => .cons v v' l l' (VR.back h hv gv) (LR.back h hl gl)
end
end

/-! ### What does not speak of two tokens -/
def nk (i j k : Nat) : Bool := !(Nat.beq k i) && !(Nat.beq k j)
theorem nk_ne {i j k : Nat} (h : nk i j k = true) : k ≠ i ∧ k ≠ j := by
  unfold nk at h
  simp only [Bool.and_eq_true, Bool.not_eq_true'] at h
  exact ⟨fun e => by subst e; simp at h, fun e => by subst e; simp at h⟩
def noI (i j : Nat) : Nat → Value → Bool
  | _, .bool _ | _, .int _ _ | _, .string _ | _, .nilFunc | _, .nilIface | _, .pointer _ | _, .slice _ _ _ | _, .map _ => true
  | _, .float .f64 k => nk i j k
  | _, .complex .f32 _ k => nk i j k
  | _, .complex .f64 _ m => nk i j (m / 8)
  | n + 1, .iface _ v => noI i j n v
  | n + 1, .agg ⟨l⟩ => l.all (noI i j n)
  | n + 1, .tuple ⟨l⟩ => l.all (noI i j n)
  | n + 1, .func _ ⟨f⟩ ⟨c⟩ => f.all (noI i j n) && c.all (noI i j n)
  | _, _ => false
/-- The same, quick for what is met most. -/
def noIf (i j : Nat) (v : Value) : Bool := match v with
  | .int _ _ => true
  | .pointer _ => true
  | .slice _ _ _ => true
  | .bool _ => true
  | v => noI i j 6 v
theorem noIf_spec {i j : Nat} {v : Value} (h : noIf i j v = true) : noI i j 6 v = true := by
  unfold noIf at h
  split at h <;> first | rfl | exact h
noncomputable def allL (p : Value → Bool) (l : List Value) : Bool := List.rec (motive := fun _ => Bool) true (fun v _ ih => Bool.rec (motive := fun _ => Bool) false ih (p v)) l
theorem allL_spec {i j : Nat} : ∀ {l : List Value}, allL (noIf i j) l = true → l.all (noI i j 6) = true := by
  intro l
  induction l with
  | nil => intro _; rfl
  | cons v l ih =>
    intro h
    have h' : Bool.rec (motive := fun _ => Bool) false (allL (noIf i j) l) (noIf i j v) = true := h
    cases hv : noIf i j v with
    | false => rw [hv] at h'; cases h'
    | true =>
      rw [hv] at h'
      rw [List.all_cons, noIf_spec hv, ih h']; rfl
noncomputable def noIO (i j : Nat) : Obj → Bool
  | .cells ⟨c⟩ _ _ => allL (noIf i j) c
  | .pending ⟨c⟩ _ => c.all (noI i j 6)
  | .map ⟨es⟩ _ => es.all fun e => noI i j 6 e.key && noI i j 6 e.val
  | _ => false
noncomputable def allT {α : Type} (p : α → Bool) (t : T α) : Bool :=
  T.rec (motive := fun _ => Bool) true (fun _ o _ iha ihb => Bool.rec (motive := fun _ => Bool) false (Bool.rec (motive := fun _ => Bool) false (Option.rec (motive := fun _ => Bool) true p o) iha) ihb) t
theorem allT_n {α : Type} (p : α → Bool) (a b : T α) (o : Option α) : allT p (.n a o b) = (allT p b && (allT p a && (match o with | some v => p v | none => true))) := by
  have e : allT p (.n a o b) = Bool.rec (motive := fun _ => Bool) false (Bool.rec (motive := fun _ => Bool) false (Option.rec (motive := fun _ => Bool) true p o) (allT p a)) (allT p b) := rfl
  rw [e]
  cases allT p b <;> cases allT p a <;> cases o <;> rfl
theorem allT_get {α : Type} {p : α → Bool} : ∀ {t : T α} {k : Nat} {v : α}, allT p t = true → t.get k = some v → p v = true := by
  intro t
  induction t with
  | l => intro k v _ h; rw [T.get_l] at h; cases h
  | n a o b iha ihb =>
    intro k v h hg
    rw [allT_n] at h
    simp only [Bool.and_eq_true] at h
    obtain ⟨hb, ha, ho⟩ := h
    cases k with
    | zero => rw [T.get_n0] at hg; subst hg; exact ho
    | succ k =>
      rw [T.get_n] at hg
      split at hg
      · exact iha ha hg
      · exact ihb hb hg

section
variable {o : Orc} (T T' : Vals o) {i j : Nat}
/-- They differ in two tokens at most. -/
def Near (T T' : Vals o) (i j : Nat) : Prop := ∀ k, k ≠ i → k ≠ j → T.tok k = T'.tok k
variable {T T'}
theorem near_LR (hn : Near T T' i j) {ρ : Ren} {n : Nat} (ih : ∀ v v', noI i j n v = true → @VR T.toks ρ v v' → @VR T'.toks ρ v v') : ∀ {l l' : List Value}, @LR T.toks ρ l l' → l.all (noI i j n) = true → @LR T'.toks ρ l l' := by
  intro l
  induction l with
  | nil => intro l' hl _; cases hl; exact @LR.nil T'.toks ρ
  | cons v l ihl =>
    intro l' hl h
    simp only [List.all_cons, Bool.and_eq_true] at h
    cases hl with
    | cons _ v' _ l' hv hl => exact @LR.cons T'.toks ρ _ _ _ _ (ih v v' h.1 hv) (ihl hl h.2)
theorem near_VR (hn : Near T T' i j) {ρ : Ren} : ∀ (n : Nat) (v v' : Value), noI i j n v = true → @VR T.toks ρ v v' → @VR T'.toks ρ v v' := by
  have htok : ∀ k, nk i j k = true → T.tok k = T'.tok k := fun k h => hn k (nk_ne h).1 (nk_ne h).2
  letI := T'.toks
  intro n
  induction n with
  | zero =>
    intro v v' h hv
    cases hv with
    | bool b => exact .bool b
    | int k n => exact .int k n
    | tok k =>
      have e : @Ren.tok T.toks ρ k = @Ren.tok T'.toks ρ k := htok k (by simpa [noI] using h)
      rw [e]; exact .tok k
    | string s => exact .string s
    | nilP => exact .nilP
    | ptr id off pl e => exact .ptr id off pl e
    | nilS => exact .nilS
    | sl id off len c pl a' c' e h1 h2 h3 h4 => exact .sl id off len c pl a' c' e h1 h2 h3 h4
    | sls id k n c pl e h1 => exact .sls id k n c pl e (h1.trans (htok k (by simpa [noI] using h)))
    | sp id m q pl e h1 => exact .sp id m q pl e (h1.trans (htok _ (by simpa [noI] using h)))
    | nilM => exact .nilM
    | map id pl e => exact .map id pl e
    | nilF => exact .nilF
    | nilI => exact .nilI
    | _ => simp [noI] at h
  | succ n ih =>
    intro v v' h hv
    cases hv with
    | bool b => exact .bool b
    | int k n => exact .int k n
    | tok k =>
      have e : @Ren.tok T.toks ρ k = @Ren.tok T'.toks ρ k := htok k (by simpa [noI] using h)
      rw [e]; exact .tok k
    | string s => exact .string s
    | nilP => exact .nilP
    | ptr id off pl e => exact .ptr id off pl e
    | nilS => exact .nilS
    | sl id off len c pl a' c' e h1 h2 h3 h4 => exact .sl id off len c pl a' c' e h1 h2 h3 h4
    | sls id k n c pl e h1 => exact .sls id k n c pl e (h1.trans (htok k (by simpa [noI] using h)))
    | sp id m q pl e h1 => exact .sp id m q pl e (h1.trans (htok _ (by simpa [noI] using h)))
    | nilM => exact .nilM
    | map id pl e => exact .map id pl e
    | nilF => exact .nilF
    | func fn f c f' c' hf hc =>
      have h' : (f.all (noI i j n) && c.all (noI i j n)) = true := h
      simp only [Bool.and_eq_true] at h'
      exact .func fn f c f' c' (near_LR hn ih hf h'.1) (near_LR hn ih hc h'.2)
    | nilI => exact .nilI
    | iface t u u' hu => exact .iface _ _ _ (ih u u' h hu)
    | agg l l' hl => exact .agg _ _ (near_LR hn ih hl h)
    | tuple l l' hl => exact .tuple _ _ (near_LR hn ih hl h)
theorem near_elem (hn : Near T T' i j) (d : List Value) (q : Nat) : ∀ ups : List Value, ups.all (noI i j 6) = true → @elemAt T.toks d ups q = @elemAt T'.toks d ups q := by
  intro ups
  induction ups with
  | nil => intro _; rfl
  | cons u r ih =>
    intro h
    simp only [List.all_cons, Bool.and_eq_true] at h
    have h2 := ih h.2
    by_cases hu : ∃ (k : Nat) (vs : List Value), u = .tuple ⟨.float .f64 k :: vs⟩
    · obtain ⟨k, vs, rfl⟩ := hu
      have h3 : ((Value.float .f64 k :: vs).all (noI i j 5)) = true := h.1
      simp only [List.all_cons, Bool.and_eq_true] at h3
      have e : T.tok k = T'.tok k := hn k (nk_ne (by simpa [noI] using h3.1)).1 (nk_ne (by simpa [noI] using h3.1)).2
      show (if T.tok k = (q : Int) then vs else @elemAt T.toks d r q) = (if T'.tok k = (q : Int) then vs else @elemAt T'.toks d r q)
      rw [e, h2]
    · have e1 : ∀ (X : Toks), @elemAt X d (u :: r) q = @elemAt X d r q := by
        intro X
        unfold elemAt
        split
        · rename_i k vs r' he
          injection he with e3 e4
          exact absurd ⟨_, _, e3⟩ hu
        · rename_i u' r' hno he
          injection he with e3 e4
          subst e4
          conv => lhs; unfold elemAt
        · rename_i he; cases he
      rw [e1, e1, h2]
theorem elem_all {d : List Value} {q : Nat} {X : Toks} : ∀ {ups : List Value}, d.all (noI i j 5) = true → ups.all (noI i j 6) = true → (@elemAt X d ups q).all (noI i j 5) = true := by
  intro ups hd
  induction ups with
  | nil => intro _; exact hd
  | cons u r ih =>
    intro h
    simp only [List.all_cons, Bool.and_eq_true] at h
    unfold elemAt
    split
    · rename_i k vs r' he
      injection he with e1 e2
      subst e1 e2
      have h3 : ((Value.float .f64 k :: vs).all (noI i j 5)) = true := h.1
      simp only [List.all_cons, Bool.and_eq_true] at h3
      split
      · exact h3.2
      · exact ih h.2
    · rename_i u' r' hno he
      injection he with e1 e2
      subst e2
      exact ih h.2
    · rename_i he; cases he
theorem near_OR (hn : Near T T' i j) {P : Program} {ρ : Ren} {pl : Pl} {w : World} {x : Obj} (hx : noIO i j x = true) (h : @OR T.toks P ρ pl w x) : @OR T'.toks P ρ pl w x := by
  letI := T'.toks
  cases x with
  | cells c e fr =>
    obtain ⟨C, e', fr', e1, e2, e3, e4⟩ := h
    obtain ⟨c⟩ := c
    refine ⟨C, e', fr', e1, e2, fun q v hq => ?_, e4⟩
    obtain ⟨v', g1, g2⟩ := e3 q v hq
    have hx' : c.all (noI i j 6) = true := allL_spec hx
    rw [List.all_eq_true] at hx'
    exact ⟨v', g1, near_VR hn 6 v v' (hx' v (List.mem_of_getElem? hq)) g2⟩
  | pending c e =>
    obtain ⟨c⟩ := c
    have hx' : c.all (noI i j 6) = true := hx
    have h' : @SymR T.toks ρ pl w c := h
    show @SymR T'.toks ρ pl w c
    unfold SymR at h'
    split at h'
    · rename_i k d ups
      simp only [List.all_cons, Bool.and_eq_true] at hx'
      obtain ⟨g1, g2, g3⟩ := hx'
      have gk : T.tok k = T'.tok k := hn k (nk_ne (by simpa [noI] using g1)).1 (nk_ne (by simpa [noI] using g1)).2
      have gd : d.all (noI i j 5) = true := g2
      obtain ⟨N, C, e', h1, h2, h3, h4⟩ := h'
      refine ⟨N, C, e', h1.trans gk, h2, h3, fun q hq => ?_⟩
      rw [← near_elem hn d q ups g3]
      exact near_LR hn (near_VR hn 5) (h4 q hq) (elem_all gd g3)
    · cases h'
  | map es k =>
    obtain ⟨es', e1, e2⟩ := h
    obtain ⟨es⟩ := es
    refine ⟨es', e1, ?_⟩
    have hx' : (es.all fun e => noI i j 6 e.key && noI i j 6 e.val) = true := hx
    have key : ∀ (l l' : List MapEntry), @ER T.toks ρ l l' → (l.all fun e => noI i j 6 e.key && noI i j 6 e.val) = true → @ER T'.toks ρ l l' := by
      intro l l' hl
      induction hl with
      | nil => intro _; exact .nil
      | cons e e' l l' h1 h2 h3 _ ih =>
        intro ha
        simp only [List.all_cons, Bool.and_eq_true] at ha
        exact .cons _ _ _ _ (near_VR hn 6 _ _ ha.1.1 h1) (near_VR hn 6 _ _ ha.1.2 h2) h3 (ih (by simpa using ha.2))
    exact key _ _ e2 hx'
  | _ => cases h
theorem near_WR (hn : Near T T' i j) {P : Program} {ρ : Ren} {s : S} {w : World} (hs : allT (noIO i j) s.hp = true) (h : @WR T.toks P ρ s w) : @WR T'.toks P ρ s w :=
  @WR.mk T'.toks P ρ s w (fun id x e => by
    obtain ⟨pl, hp, ho⟩ := @WR.obj T.toks _ _ _ _ h id x e
    exact ⟨pl, hp, near_OR hn (allT_get hs e) ho⟩) (@WR.inj T.toks _ _ _ _ h) (@WR.free T.toks _ _ _ _ h) (@WR.sd T.toks _ _ _ _ h) (@WR.glob T.toks _ _ _ _ h)
theorem near_TM (hn : Near T T' i j) {ρ : Ren} {kn : KN} {tmps : Array Value} (hk : allT (noI i j 6) kn = true) (h : @TM T.toks ρ kn tmps) : @TM T'.toks ρ kn tmps := fun t v e => by
  obtain ⟨v', e', hv⟩ := h t v e
  exact ⟨v', e', near_VR hn 6 v v' (allT_get hk e) hv⟩
/-- A step that leaves state and renaming as they are. -/
theorem near_Stp {P : Program} {ρ : Ren} {s : S} {w w' : World} (h : @Stp T.toks P ρ s w ρ s w') (hw : @WR T'.toks P ρ s w') : @Stp T'.toks P ρ s w ρ s w' :=
  by
  letI := T.toks
  exact @Stp.mk T'.toks P ρ s w ρ s w' hw h.fre h.sd h.wa h.wb ⟨fun _ _ h => h, rfl⟩ h.only h.gone h.img h.tape h.os h.output h.size h.frame
end

/-! ### The rule -/
/-- All that the one knows the other knows, too. -/
def subK : KN → KN → Bool
  | .l, _ => true
  | .n a o b, .l => o.isNone && subK a .l && subK b .l
  | .n a o b, .n a' o' b' => (match o, o' with | none, _ => true | some v, some v' => veq 5 v v' | some _, none => false) && subK a a' && subK b b'
theorem subK_look [Toks] : ∀ {k k' : KN} {t : Nat} {v : Value}, subK k k' = true → look k t = some v → look k' t = some v := by
  intro k
  induction k with
  | l => intro k' t v _ h; cases h
  | n a o b iha ihb =>
    intro k' t v h hl
    cases k' with
    | l =>
      simp only [subK, Bool.and_eq_true] at h
      obtain ⟨⟨ho, ha⟩, hb⟩ := h
      exfalso
      cases t with
      | zero =>
        have : o = some v := hl
        rw [this] at ho; cases ho
      | succ t =>
        have e : look (.n a o b) (t + 1) = if t % 2 = 0 then look a (t / 2) else look b (t / 2) := T.get_n ..
        rw [e] at hl
        split at hl
        · have := iha ha hl; cases this
        · have := ihb hb hl; cases this
    | n a' o' b' =>
      simp only [subK, Bool.and_eq_true] at h
      obtain ⟨⟨ho, ha⟩, hb⟩ := h
      cases t with
      | zero =>
        have e : o = some v := hl
        subst e
        show o' = some v
        split at ho
        · rename_i e1; cases e1
        · rename_i v1 v2 e1
          cases e1
          exact congrArg some (veq_eq 5 _ _ ho).symm
        · cases ho
      | succ t =>
        have e : look (.n a o b) (t + 1) = if t % 2 = 0 then look a (t / 2) else look b (t / 2) := T.get_n ..
        have e' : look (.n a' o' b') (t + 1) = if t % 2 = 0 then look a' (t / 2) else look b' (t / 2) := T.get_n ..
        rw [e] at hl
        rw [e']
        by_cases h2 : t % 2 = 0
        · rw [if_pos h2] at hl ⊢
          exact iha ha hl
        · rw [if_neg h2] at hl ⊢
          exact ihb hb hl
/-- The temporaries that a code assigns. -/
def asg : Code → List Nat
  | .region _ ⟨ops⟩ _ => ops.filterMap (·.dst)
  | .seq a b => asg a ++ asg b
  | .cond _ a b => asg a ++ asg b
  | .block _ c => asg c
  | .loop c => asg c
  | .scope c => asg c
  | _ => []
/-- The temporary that a loop's first test compares with something. -/
def ixOf : Code → Option Nat
  | .seq a _ => ixOf a
  | .region _ ⟨ops⟩ _ => ops.findSome? fun o => match o.op with | .binOp .lss _ (.tmp t) _ _ => some t | _ => none
  | _ => none
noncomputable def forget (kn : KN) : List Nat → KN
  | [] => kn
  | t :: l => (forget kn l).put none t
theorem look_forget {kn : KN} {t : Nat} {v : Value} : ∀ {l : List Nat}, look (forget kn l) t = some v → look kn t = some v := by
  intro l
  induction l with
  | nil => intro h; exact h
  | cons u l ih =>
    intro h
    have e : look ((forget kn l).put none u) t = if t = u then none else look (forget kn l) t := T.get_put ..
    have h' : look ((forget kn l).put none u) t = some v := h
    rw [e] at h'
    split at h'
    · cases h'
    · exact ih h'
noncomputable def lpT (i j len : Nat) (t : Nat) (F : KN → S → RC) (kn0 : KN) (s : S) : RC :=
  bif allT (noI i j 6) kn0 && (look kn0 t).isNone && allT (noIO i j) s.hp then (match F (kn0.put (some (.float .f64 i)) t) ⟨s.hp, s.nx, s.sd, s.nx, s.sd⟩ with
    | some (.norm, kn1, _) => bif subK (kn0.put (some (.float .f64 j)) t) kn1 then (match F (kn0.put (some (.float .f64 len)) t) s with
      | some (.norm, _, _) => none
      | r => r) else none
    | _ => none) else none
noncomputable def lpX (i j len : Nat) (c : Code) (F : KN → S → RC) (kn : KN) (s : S) : RC := match ixOf c with
  | some t => (match look kn t with
    | some (.int .i64 0) => lpT i j len t F (forget kn (t :: asg c)) s
    | _ => none)
  | none => none
noncomputable def orC (x y : RC) : RC := Option.rec (motive := fun _ => RC) y (fun v => some v) x
noncomputable def LX (n i j len : Nat) : LpF := fun c F kn s => orC (lpR n F kn s) (lpX i j len c F kn s)

/-- A family of valuations: in the one number 'z' (from 0 on, below 'n') the token 'i' is z, 'j' is z + 1, and 'len' is n. -/
structure Fam (o : Orc) (i j len : Nat) where
  n : Nat
  val : Fin n → Vals o
  atI : ∀ z, (val z).tok i = (z.val : Int)
  atJ : ∀ z, (val z).tok j = (z.val : Int) + 1
  atL : ∀ z, (val z).tok len = (n : Int)
  near : ∀ z z', Near (val z) (val z') i j
section
variable {o : Orc} {i j len : Nat} {P : Program} {nt : Nat}
theorem TM_put {X : Toks} {ρ : Ren} {kn : KN} {tmps : Array Value} {t : Nat} {v v' : Value} (h : @TM X ρ kn tmps) (ht : tmps[t]? = some v') (hv : @VR X ρ v v') : @TM X ρ (kn.put (some v) t) tmps := by
  intro u x hx
  have e : look (kn.put (some v) t) u = if u = t then some v else look kn u := T.get_put ..
  rw [e] at hx
  split at hx
  · rename_i hu
    subst hu
    cases hx
    exact ⟨v', ht, hv⟩
  · exact h u x hx
theorem does_lpX (A : Fam o i j len) {c : Code} {F : KN → S → RC} (hc : ∀ z, @Does (A.val z).toks P nt c F) (z0 : Fin A.n) : @Does (A.val z0).toks P nt (.loop c) (lpX i j len c F) := by
  letI := (A.val z0).toks
  intro kn s e kn' s' h ρ act w Q hi hQ
  unfold lpX at h
  split at h
  · rename_i t ht
    split at h
    · rename_i hlk
      obtain ⟨kn0, hkn0⟩ : ∃ k, k = forget kn (t :: asg c) := ⟨_, rfl⟩
      rw [← hkn0] at h
      unfold lpT at h
      cases hb : (allT (noI i j 6) kn0 && (look kn0 t).isNone && allT (noIO i j) s.hp) with
      | false => rw [hb] at h; cases h
      | true =>
        rw [hb, cond_true] at h
        simp only [Bool.and_eq_true] at hb
        obtain ⟨⟨hk0, hkt⟩, hs0⟩ := hb
        split at h
        · rename_i kn1 s1 hF1
          cases hsub : subK (kn0.put (some (.float .f64 j)) t) kn1 with
          | false => rw [hsub] at h; cases h
          | true =>
            rw [hsub, cond_true] at h
            have hF2 : F (kn0.put (some (.float .f64 len)) t) s = some (e, kn', s') := by
              split at h
              · cases h
              · exact h
            -- what holds ahead of round number z
            have key : ∀ (m : Nat) (q : Nat), q + m = A.n → ∀ (a1 : Act) (w1 : World), @WR (A.val z0).toks P ρ s w1 → @TM (A.val z0).toks ρ kn0 a1.tmps → a1.tmps[t]? = some (.int .i64 (q : Int)) → a1.defers = [] → a1.tmps.size = nt →
                @Stp (A.val z0).toks P ρ s w ρ s w1 → LW P c Q a1 w1 := by
              intro m
              induction m with
              | zero =>
                intro q hq a1 w1 g1 g2 g3 g4 g5 g6
                have hqn : q = A.n := by omega
                refine LW_of (hc z0 _ _ _ _ _ hF2 ρ a1 w1 _ ⟨g1, TM_put g2 g3 ?_, g4, g5⟩ fun ρ2 a2 w2 hs2 hi2 => ?_)
                · have : @Ren.tok (A.val z0).toks ρ len = (q : Int) := by rw [hqn]; exact A.atL z0
                  rw [← this]
                  exact @VR.tok (A.val z0).toks ρ len
                · have hres := hQ ρ2 a2 w2 (@Stp.trans (A.val z0).toks _ _ _ _ _ _ _ _ _ _ g6 hs2) hi2
                  have hne : e ≠ .norm := by
                    intro e0
                    subst e0
                    rw [hF2] at h
                    simp at h
                  cases e with
                  | norm => exact absurd rfl hne
                  | exit k => exact hres
                  | ret => exact hres
              | succ m ih =>
                intro q hq a1 w1 g1 g2 g3 g4 g5 g6
                have hlt : q < A.n := by omega
                have hn1 := A.near z0 ⟨q, hlt⟩
                have hn2 := A.near ⟨q, hlt⟩ z0
                have w1z : @WR (A.val ⟨q, hlt⟩).toks P ρ s w1 := near_WR hn1 hs0 g1
                have tmz := near_TM hn1 hk0 g2
                refine LW_of (hc ⟨q, hlt⟩ _ _ _ _ _ hF1 ρ a1 w1 _ (@In.mk (A.val ⟨q, hlt⟩).toks _ _ _ _ _ _ _ (@WR.fresh (A.val ⟨q, hlt⟩).toks _ _ _ _ w1z) (TM_put tmz g3 ?_) g4 g5) fun ρ2 a2 w2 hs2 hi2 => ?_)
                · have : @Ren.tok (A.val ⟨q, hlt⟩).toks ρ i = (q : Int) := A.atI ⟨q, hlt⟩
                  rw [← this]
                  exact @VR.tok (A.val ⟨q, hlt⟩).toks ρ i
                · have hp := @Stp.pure (A.val ⟨q, hlt⟩).toks _ _ _ _ _ _ _ w1z hs2
                  have hwr0 : @WR (A.val z0).toks P ρ s w2 := near_WR hn2 hs0 (@Stp.wr (A.val ⟨q, hlt⟩).toks _ _ _ _ _ _ _ hp)
                  have hlook : ∀ u v, look (kn0.put (some (.float .f64 j)) t) u = some v → look kn1 u = some v := fun u v hu => subK_look hsub hu
                  have hj : look kn1 t = some (.float .f64 j) := by
                    refine hlook t _ ?_
                    have e1 : look (kn0.put (some (.float .f64 j)) t) t = if t = t then some (.float .f64 j) else look kn0 t := T.get_put ..
                    rw [e1, if_pos rfl]
                  have htm0 : @TM (A.val z0).toks ρ kn0 a2.tmps := by
                    intro u v hu
                    have hut : u ≠ t := by
                      intro e1
                      subst e1
                      rw [hu] at hkt; cases hkt
                    have hu1 : look kn1 u = some v := by
                      refine hlook u v ?_
                      have e1 : look (kn0.put (some (.float .f64 j)) t) u = if u = t then some (.float .f64 j) else look kn0 u := T.get_put ..
                      rw [e1, if_neg hut]; exact hu
                    obtain ⟨v', e2, hv⟩ := @In.tm (A.val ⟨q, hlt⟩).toks _ _ _ _ _ _ _ hi2 u v hu1
                    -- what was known ahead of the round stands for the same by the elder renaming
                    obtain ⟨v0, e0, hv0⟩ := g2 u v hu
                    exact ⟨v', e2, near_VR hn2 6 v v' (allT_get hk0 hu) (@VR.back (A.val ⟨q, hlt⟩).toks _ _ (@Stp.ext (A.val ⟨q, hlt⟩).toks _ _ _ _ _ _ _ hs2) _ _ _ (near_VR hn1 6 v v0 (allT_get hk0 hu) hv0) hv)⟩
                  obtain ⟨v', e2, hv⟩ := @In.tm (A.val ⟨q, hlt⟩).toks _ _ _ _ _ _ _ hi2 t _ hj
                  have hnum : v' = .int .i64 ((q + 1 : Nat) : Int) := by
                    cases hv with
                    | tok k =>
                      have : @Ren.tok (A.val ⟨q, hlt⟩).toks ρ2 j = (q : Int) + 1 := A.atJ ⟨q, hlt⟩
                      rw [this]; rfl
                  subst hnum
                  exact ih (q + 1) (by omega) a2 w2 hwr0 htm0 e2 (@In.df (A.val ⟨q, hlt⟩).toks _ _ _ _ _ _ _ hi2) (@In.nt (A.val ⟨q, hlt⟩).toks _ _ _ _ _ _ _ hi2) (@Stp.trans (A.val z0).toks _ _ _ _ _ _ _ _ _ _ g6 (near_Stp hp hwr0))
            have hlk0 : act.tmps[t]? = some (.int .i64 ((0 : Nat) : Int)) := by
              obtain ⟨v', e1, hv⟩ := hi.tm t _ hlk
              cases hv
              exact e1
            refine wp_of_LW (key A.n 0 (by omega) act w hi.wr (fun u v hu => ?_) hlk0 hi.df hi.nt (@Stp.refl (A.val z0).toks _ _ _ _ hi.wr))
            rw [hkn0] at hu
            exact hi.tm u v (look_forget hu)
        · cases h
    · cases h
  · cases h
theorem does_LX (A : Fam o i j len) (n : Nat) {c : Code} {F : KN → S → RC} (hc : ∀ z, @Does (A.val z).toks P nt c F) (z0 : Fin A.n) : @Does (A.val z0).toks P nt (.loop c) (LX n i j len c F) := by
  letI := (A.val z0).toks
  intro kn s e kn' s' h
  have h' : orC (lpR n F kn s) (lpX i j len c F kn s) = some (e, kn', s') := h
  cases hx : lpR n F kn s with
  | none =>
    rw [hx] at h'
    exact does_lpX A hc z0 kn s e kn' s' h'
  | some r =>
    rw [hx] at h'
    cases h'
    exact does_loop (hc z0) kn s e kn' s' hx
/-- The engine is sound, its rule for loops of unknown count taken in. -/
theorem fs_evX (A : Fam o i j len) {hook : Hook} (hh : ∀ z f F, hook f = some F → @FS (A.val z).toks P f F) (hm : P.follows .mixedOrders = true) (n d : Nat) (z : Fin A.n) (f : Nat) : @FS (A.val z).toks P f (@evF o P hook (LX n i j len) d f) :=
  fs_evFs hh (fun _ _ _ hF z => does_LX A n hF z) hm d z f
end
end Go.Eng
