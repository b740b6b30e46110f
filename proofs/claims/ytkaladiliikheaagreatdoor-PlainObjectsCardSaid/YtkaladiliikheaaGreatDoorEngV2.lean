/- The engine, part V2: a run cut in two: what is known by heart of a call in a state that is written out. -/
import Derived.Test.YtkaladiliikheaaGreatDoorEngV
set_option linter.unusedVariables false
set_option linter.unusedSectionVars false
set_option linter.unusedSimpArgs false
namespace Go.Eng
open Go
variable [Toks]
omit [Toks] in
def enEq : List MapEntry → List MapEntry → Bool
  | [], [] => true
  | a :: l, b :: m => veq 5 a.key b.key && veq 5 a.val b.val && Nat.beq a.born b.born && enEq l m
  | _, _ => false
omit [Toks] in
def objEq : Obj → Obj → Bool
  | .cells ⟨a⟩ e (f, g), .cells ⟨b⟩ e' (f', g') => leq (veq 5) a b && Nat.beq e e' && Nat.beq f f' && Nat.beq g g'
  | .map ⟨a⟩ k, .map ⟨b⟩ k' => enEq a b && Nat.beq k k'
  | _, _ => false
theorem enEq_eq : ∀ {l m : List MapEntry}, enEq l m = true → l = m
  | [], [], _ => rfl
  | a :: l, b :: m, h => by
    simp only [enEq, Bool.and_eq_true] at h
    obtain ⟨⟨⟨h1, h2⟩, h3⟩, h4⟩ := h
    obtain ⟨k, v, n⟩ := a
    obtain ⟨k', v', n'⟩ := b
    have := veq_eq 5 _ _ h1
    have := veq_eq 5 _ _ h2
    have := Nat.eq_of_beq_eq_true h3
    have := enEq_eq h4
    simp_all
  | [], _ :: _, h => by simp [enEq] at h
  | _ :: _, [], h => by simp [enEq] at h
theorem objEq_eq {x y : Obj} (h : objEq x y = true) : x = y := by
  unfold objEq at h
  split at h
  · simp only [Bool.and_eq_true] at h
    obtain ⟨⟨⟨h1, h2⟩, h3⟩, h4⟩ := h
    rw [leq_eq (veq_eq 5) h1, Nat.eq_of_beq_eq_true h2, Nat.eq_of_beq_eq_true h3, Nat.eq_of_beq_eq_true h4]
  · simp only [Bool.and_eq_true] at h
    rw [enEq_eq h.1, Nat.eq_of_beq_eq_true h.2]
  · cases h
omit [Toks] in
def subT : T Obj → T Obj → Bool
  | .l, _ => true
  | .n a o b, .l => o.isNone && subT a .l && subT b .l
  | .n a o b, .n a' o' b' => (match o, o' with | none, _ => true | some v, some v' => objEq v v' | some _, none => false) && subT a a' && subT b b'
theorem subT_get : ∀ {k k' : T Obj} {t : Nat} {v : Obj}, subT k k' = true → k.get t = some v → k'.get t = some v := by
  intro k
  induction k with
  | l => intro k' t v _ h; cases h
  | n a o b iha ihb =>
    intro k' t v h hl
    cases k' with
    | l =>
      simp only [subT, Bool.and_eq_true] at h
      obtain ⟨⟨ho, ha⟩, hb⟩ := h
      exfalso
      cases t with
      | zero =>
        have : o = some v := hl
        rw [this] at ho; cases ho
      | succ t =>
        rw [T.get_n] at hl
        split at hl
        · have := iha ha hl; cases this
        · have := ihb hb hl; cases this
    | n a' o' b' =>
      simp only [subT, Bool.and_eq_true] at h
      obtain ⟨⟨ho, ha⟩, hb⟩ := h
      cases t with
      | zero =>
        have e : o = some v := hl
        subst e
        show o' = some v
        split at ho
        · rename_i e1; cases e1
        · rename_i v1 v2 e1
          cases e1
          exact congrArg some (objEq_eq ho).symm
        · cases ho
      | succ t =>
        rw [T.get_n] at hl ⊢
        by_cases h2 : t % 2 = 0
        · rw [if_pos h2] at hl ⊢
          exact iha ha hl
        · rw [if_neg h2] at hl ⊢
          exact ihb hb hl
omit [Toks] in
/-- The run ends as it is written out, but for what is let go. -/
def chkLit (s : S) (v : Value) (s' : S) (r : R) : Bool := match r with
  | some (u, s1) => veq 5 u v && subT s'.hp s1.hp && subT s.hp s'.hp && Nat.beq s'.nx s1.nx && Nat.beq s'.sd s1.sd && Nat.beq s'.wa s1.wa && Nat.beq s'.wb s1.wb
  | none => false
theorem ec_lit {P : Program} {f : Nat} {F : List Value → S → R} {l : List Value} {s s' : S} {v : Value} (hF : FS P f F) (h : chkLit s v s' (F l s) = true) : EC P f l s v s' := by
  unfold chkLit at h
  split at h
  · rename_i u s1 he
    simp only [Bool.and_eq_true] at h
    obtain ⟨⟨⟨⟨⟨⟨h1, h2⟩, h3⟩, h4⟩, h5⟩, h6⟩, h7⟩ := h
    have hu := veq_eq 5 _ _ h1
    subst hu
    have h4 := Nat.eq_of_beq_eq_true h4
    have h5 := Nat.eq_of_beq_eq_true h5
    have h6 := Nat.eq_of_beq_eq_true h6
    have h7 := Nat.eq_of_beq_eq_true h7
    have hget : ∀ id o, s'.get id = some o → s1.get id = some o := fun id o e => subT_get h2 e
    have hkeep : ∀ id o, s.get id = some o → s'.get id = some o := fun id o e => subT_get h3 e
    intro ρ w l' hw hll
    refine Calls.mono (hF l s u s1 he ρ w l' hw hll) fun e w' hp => ?_
    obtain ⟨ρ', v', rfl, hv, hs⟩ := hp
    refine ⟨ρ', v', rfl, hv, ?_⟩
    have hfree : ∀ id, s'.free id → s1.free id := fun id ⟨i, e⟩ => ⟨i, by rw [e, h4, h5]⟩
    refine ⟨⟨fun id o e => hs.wr.obj id o (hget id o e), fun i j oi oj pi pj ei ej => hs.wr.inj i j oi oj pi pj (hget i oi ei) (hget j oj ej), fun id h => hs.wr.free id (hfree id h), by rw [h5]; exact hs.wr.sd, hs.wr.glob⟩,
      fun id h => hs.fre id (hfree id h), h5.trans hs.sd, h6.trans hs.wa, h7.trans hs.wb, hs.ext, hs.only, fun id hne => ?_, fun id o pl e => hs.img id o pl (hget id o e), hs.tape, hs.os, hs.output, hs.size, hs.frame⟩
    cases hx : s.get id with
    | some o => rw [hx, hkeep id o hx] at hne; exact absurd rfl hne
    | none =>
      cases hy : s'.get id with
      | none => rw [hx, hy] at hne; exact absurd rfl hne
      | some o => exact hs.gone id (by rw [hget id o hy, hx]; simp)
  · cases h
theorem ec_ext {P : Program} {f : Nat} {l : List Value} {s0 s s' : S} {v : Value} (h : EC P f l s0 v s') (hg : ∀ id, s.get id = s0.get id) (h1 : s.nx = s0.nx) (h2 : s.sd = s0.sd) (h3 : s.wa = s0.wa) (h4 : s.wb = s0.wb) : EC P f l s v s' := by
  intro ρ w l' hw hll
  have hown : ∀ id, s.own id = s0.own id := fun id => S.own_eq h3 h4 id
  have hfree : ∀ id, s0.free id ↔ s.free id := fun id => by unfold S.free; rw [h1, h2]
  have hw0 : WR P ρ s0 w := ⟨fun id o e => hw.obj id o (by rw [hg]; exact e), fun i j oi oj pi pj ei ej => hw.inj i j oi oj pi pj (by rw [hg]; exact ei) (by rw [hg]; exact ej), fun id hf => hw.free id ((hfree id).1 hf), by rw [← h2]; exact hw.sd, hw.glob⟩
  refine Calls.mono (h ρ w l' hw0 hll) fun e w' hp => ?_
  obtain ⟨ρ', v', rfl, hv, hs⟩ := hp
  refine ⟨ρ', v', rfl, hv, hs.wr, fun id hf => (hfree id).1 (hs.fre id hf), hs.sd.trans h2.symm, hs.wa.trans h3.symm, hs.wb.trans h4.symm, hs.ext, fun id => (hs.only id).imp (fun e => e) (hfree id).1, fun id hne => ?_, fun id o pl e1 e2 hb => ?_, hs.tape, hs.os, hs.output, hs.size, fun b hb hn => hs.frame b hb fun id o pl e1 e2 e3 => hn id o pl (by rw [hg]; exact e1) (by rw [hown]; exact e2) e3⟩
  · rw [hg] at hne
    rw [hown]
    exact (hs.gone id hne).imp (hfree id).1 (fun e => e)
  · obtain ⟨id0, o0, pl0, g1, g2, g3, g4⟩ := hs.img id o pl e1 e2 hb
    exact ⟨id0, o0, pl0, by rw [hg]; exact g1, g2, g3, fun hne => by rw [hown]; exact g4 hne⟩
omit [Toks] in
def sSame (s s' : S) : Bool := subT s.hp s'.hp && subT s'.hp s.hp && Nat.beq s.nx s'.nx && Nat.beq s.sd s'.sd && Nat.beq s.wa s'.wa && Nat.beq s.wb s'.wb
omit [Toks] in
/-- A call that is known by heart in one state. -/
def memoS (l0 : List Value) (s0 : S) (v0 : Value) (s1 : S) (l : List Value) (s : S) : R := bif leq (veq 5) l0 l && sSame s0 s then some (v0, s1) else none
theorem fs_memoS {P : Program} {f : Nat} {l0 : List Value} {s0 s1 : S} {v0 : Value} (h : EC P f l0 s0 v0 s1) : FS P f (memoS l0 s0 v0 s1) := by
  intro l s v s' e
  unfold memoS at e
  cases hb : (leq (veq 5) l0 l && sSame s0 s) with
  | false => rw [hb] at e; cases e
  | true =>
    rw [hb, cond_true] at e
    cases e
    simp only [Bool.and_eq_true] at hb
    have h1 := leq_eq (veq_eq 5) hb.1
    have h2 := hb.2
    unfold sSame at h2
    simp only [Bool.and_eq_true] at h2
    obtain ⟨⟨⟨⟨⟨g1, g2⟩, g3⟩, g4⟩, g5⟩, g6⟩ := h2
    subst h1
    refine ec_ext h (fun id => ?_) (Nat.eq_of_beq_eq_true g3).symm (Nat.eq_of_beq_eq_true g4).symm (Nat.eq_of_beq_eq_true g5).symm (Nat.eq_of_beq_eq_true g6).symm
    cases hx : s.get id with
    | none =>
      cases hy : s0.get id with
      | none => rfl
      | some o =>
        have : s.get id = some o := subT_get g1 hy
        rw [hx] at this; cases this
    | some o => exact (subT_get g2 hx : s0.get id = some o).symm
end Go.Eng
