/- What is known by heart of functions of the program, in whatever state; the head of every law of this chapter answers true. -/
import Derived.Test.YtkaladiliikheaaGreatDoorPlNum
set_option linter.unusedVariables false
set_option linter.unusedSectionVars false
namespace Go.Proofs.YtkaladiliikheaaGreatDoor.plain
open Go.Eng
set_option maxRecDepth 100000

section
variable [Toks]
theorem ec_comp {f : Nat} {l : List Value} {v : Value} (h : Comp f l v) (hl : l.all (flat 3) = true) (hv : flat 3 v = true) (s : S) : EC Tryz.prog f l s v s := by
  intro ρ w l' hw hll
  have e : l' = l := flat_eq_LR (fun a b => flat_eq 3 a b) hll hl
  subst e
  refine Calls.mono (h w) fun e w' ⟨he, hw'⟩ => ?_
  subst hw'
  exact ⟨ρ, v, he, cl_VR 3 v (flat_cl 3 v hv), Stp.refl hw⟩
noncomputable def E0 (f : Nat) : List Value → S → R := evF Tryz.prog (fun _ => none) (L0 100000) 300 f
theorem mixed : Tryz.prog.follows .mixedOrders = true := by kernel_rfl
theorem fs_E0 (f : Nat) : FS Tryz.prog f (E0 f) := fs_evF (fun _ _ h => by cases h) mixed _ _ f
theorem globs : Tryz.prog.globals.size ≤ 4 := Nat.le_of_eq (by kernel_rfl)
/-- Tables of what is known by heart. -/
abbrev Tab := List (Nat × List (List Value × Value))
noncomputable def hookT (t : Tab) (f : Nat) : Option (List Value → S → R) :=
  List.rec (motive := fun _ => Option (List Value → S → R)) none (fun y _ ih => Bool.rec (motive := fun _ => Option (List Value → S → R)) ih (some (memo y.2 (E0 y.1))) (Nat.beq f y.1)) t
def TabOk (t : Tab) : Prop := ∀ y ∈ t, ∀ x ∈ y.2, ∀ s, EC Tryz.prog y.1 x.1 s x.2 s
theorem fs_hookT : ∀ (t : Tab), TabOk t → ∀ f F, hookT t f = some F → FS Tryz.prog f F
  | [], _, f, F, h => by cases h
  | (g, m) :: r, ht, f, F, h => by
    have h' : (Bool.rec (motive := fun _ => Option (List Value → S → R)) (hookT r f) (some (memo m (E0 g))) (Nat.beq f g) : Option (List Value → S → R)) = some F := h
    cases hb : Nat.beq f g with
    | true =>
      rw [hb] at h'
      cases h'
      have := Nat.eq_of_beq_eq_true hb
      subst this
      exact fs_memo (fs_E0 _) m (ht _ (List.mem_cons_self ..))
    | false =>
      rw [hb] at h'
      exact fs_hookT r (fun y hy => ht y (List.mem_cons_of_mem _ hy)) f F h'
theorem tabOk_nil : TabOk [] := fun _ h => by cases h
theorem tabOk_cons {g : Nat} {m : List (List Value × Value)} {r : Tab} (h : ∀ x ∈ m, ∀ s, EC Tryz.prog g x.1 s x.2 s) (hr : TabOk r) : TabOk ((g, m) :: r) := fun y hy => by
  rcases List.mem_cons.1 hy with rfl | hy
  · exact h
  · exact hr y hy
theorem mem_one {g : Nat} {a : List Value} {v : Value} (h : ∀ s, EC Tryz.prog g a s v s) : ∀ x ∈ [(a, v)], ∀ s, EC Tryz.prog g x.1 s x.2 s := fun x hx => by
  rw [List.mem_singleton] at hx
  subst hx
  exact h
theorem mem_cons {g : Nat} {a : List Value} {v : Value} {m : List (List Value × Value)} (h : ∀ s, EC Tryz.prog g a s v s) (hm : ∀ x ∈ m, ∀ s, EC Tryz.prog g x.1 s x.2 s) : ∀ x ∈ (a, v) :: m, ∀ s, EC Tryz.prog g x.1 s x.2 s := fun x hx => by
  rcases List.mem_cons.1 hx with rfl | hx
  · exact h
  · exact hm x hx
noncomputable def ET (t : Tab) (f : Nat) : List Value → S → R := evF Tryz.prog (hookT t) (L0 100000) 300 f
theorem fs_ET {t : Tab} (h : TabOk t) (f : Nat) : FS Tryz.prog f (ET t f) := fs_evF (fs_hookT t h) mixed _ _ f
/-- What a run answers, where no id lies in it. -/
def vo (x : R) : Value := match x with | some (v, _) => v | none => undef
def hv (x : R) : Bool := match x with | some (v, _) => noid 3 v | none => false
def okT (x : R) : Bool := match x with | some (.bool true, _) => true | _ => false
theorem ec_vo {t : Tab} {f : Nat} {l : List Value} (h : TabOk t) (hl : l.all (noid 3) = true) (hx : hv (ET t f l (emp 4)) = true) (s : S) : EC Tryz.prog f l s (vo (ET t f l (emp 4))) s := by
  unfold hv at hx
  split at hx
  · rename_i v s1 he
    rw [he]
    exact ec_closed (fs_ET h f) globs hl hx he s
  · cases hx
theorem ec_ok {t : Tab} {f : Nat} {l : List Value} (h : TabOk t) (hl : l.all (noid 3) = true) (hx : okT (ET t f l (emp 4)) = true) (s : S) : EC Tryz.prog f l s (.bool true) s := by
  unfold okT at hx
  split at hx
  · rename_i s1 he
    exact ec_closed (m := 3) (fs_ET h f) globs hl rfl he s
  · cases hx

/-! ### The table of the instructions; the head of the laws -/
noncomputable def v219 : Value := vo (ET [] 219 [] (emp 4))
theorem hv219 : hv (ET [] 219 [] (emp 4)) = true := by kernel_rfl
theorem ec219 (s : S) : EC Tryz.prog 219 [] s v219 s := ec_vo tabOk_nil rfl hv219 s
noncomputable def tab1 : Tab := [(219, [([], v219)])]
theorem tab1_ok : TabOk tab1 := tabOk_cons (mem_one ec219) tabOk_nil
theorem shown_ok : okT (ET tab1 11 [] (emp 4)) = true := by kernel_rfl
theorem ec11 (s : S) : EC Tryz.prog 11 [] s (.bool true) s := ec_ok tab1_ok rfl shown_ok s
end
end Go.Proofs.YtkaladiliikheaaGreatDoor.plain
