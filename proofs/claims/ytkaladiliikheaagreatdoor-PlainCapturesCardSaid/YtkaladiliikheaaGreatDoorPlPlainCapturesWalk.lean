/- 'PlainCaptures' answers true at every three whole numbers: the call's own proof. -/
import Derived.Test.YtkaladiliikheaaGreatDoorPlC0
set_option linter.unusedVariables false
set_option linter.unusedSectionVars false
namespace Go.Proofs.YtkaladiliikheaaGreatDoor.plain
open Go.Eng Go.RowKit
theorem in64_lit {n : Int} (h : (Lit.int .i64 n).wf = true) : In64 n := by
  have := h
  simp [Lit.wf, IntKind.min, IntKind.max, IntKind.bits, IntKind.signed] at this
  unfold In64
  omega
/-- Eight numbers as a table. -/
def tok8 (n0 n1 n2 n3 n4 n5 n6 n7 : Int) : Nat → Int
  | 0 => n0 | 1 => n1 | 2 => n2 | 3 => n3 | 4 => n4 | 5 => n5 | 6 => n6 | 7 => n7
  | _ => 0
theorem tok8_ok {n0 n1 n2 n3 n4 n5 n6 n7 : Int} (h0 : In64 n0) (h1 : In64 n1) (h2 : In64 n2) (h3 : In64 n3) (h4 : In64 n4) (h5 : In64 n5) (h6 : In64 n6) (h7 : In64 n7) :
    ∀ k, -9223372036854775808 ≤ tok8 n0 n1 n2 n3 n4 n5 n6 n7 k ∧ tok8 n0 n1 n2 n3 n4 n5 n6 n7 k < 9223372036854775808 := by
  intro k
  unfold tok8
  split <;> first | exact h0 | exact h1 | exact h2 | exact h3 | exact h4 | exact h5 | exact h6 | exact h7 | exact in64_zero
section
variable [Toks]
/-- A call over known numbers is one over unknown ones that they stand for. -/
theorem ec_tk {f : Nat} {l : List Value} {v v1 : Value} (h : Comp f (l.map dtk) v1) (hl : (l.map dtk).all (flat 3) = true) (hv1 : flat 3 v1 = true) (hv : ∀ (ρ : Ren) (v' : Value), VR ρ v1 v' → VR ρ v v') (s : S) : EC Tryz.prog f l s v s :=
  ec_as (ec_comp h hl hv1 s) (fun _ _ => dtk_LR) hv
end
theorem captures (a0 a1 a2 : Int) (w0 : (Lit.int .i64 a0).wf = true) (w1 : (Lit.int .i64 a1).wf = true) (w2 : (Lit.int .i64 a2).wf = true) (w : World) :
    Calls Tryz.prog 5 #[.int .i64 a0, .int .i64 a1, .int .i64 a2] w fun e w' => e = .returned (.bool true) ∧ w.keptBut w' (fun _ => False) := by
  obtain ⟨A, hA, cA⟩ := wrap_comp a0
  obtain ⟨B, hB, cB⟩ := wrap_comp a1
  obtain ⟨C, hC, cC⟩ := wrap_comp a2
  obtain ⟨r6, h6, c6⟩ := sub_comp A C
  obtain ⟨r7, h7, c7⟩ := sub_comp B C
  letI : Toks := ⟨tok8 a0 a1 a2 A B C r6 r7, tok8_ok (in64_lit w0) (in64_lit w1) (in64_lit w2) (in64_num hA) (in64_num hB) (in64_num hC) h6 h7⟩
  have hT : TabOk tabC :=
    tabOk_cons (mem_one ec219) <|
    tabOk_cons (mem_cons (ec_tk (l := [tk 3]) (is_comp A hA) rfl rfl fun _ _ h => h) (mem_cons (ec_tk (l := [tk 4]) (is_comp B hB) rfl rfl fun _ _ h => h) (mem_one (ec_tk (l := [tk 5]) (is_comp C hC) rfl rfl fun _ _ h => h)))) <|
    tabOk_cons (mem_one ec11) <|
    tabOk_cons (mem_cons (ec_tk (l := [tk 0]) cA rfl rfl fun _ _ h => tok_VR h) (mem_cons (ec_tk (l := [tk 1]) cB rfl rfl fun _ _ h => tok_VR h) (mem_one (ec_tk (l := [tk 2]) cC rfl rfl fun _ _ h => tok_VR h)))) <|
    tabOk_cons (mem_cons (ec_tk (l := [tk 3, tk 5]) c6 rfl rfl fun _ _ h => tok_VR h) (mem_one (ec_tk (l := [tk 4, tk 5]) c7 rfl rfl fun _ _ h => tok_VR h))) tabOk_nil
  have key := capt
  unfold okT at key
  split at key
  · rename_i s1 he
    exact walk_of (fs_ET hT 5) globs he (l' := [.int .i64 a0, .int .i64 a1, .int .i64 a2]) (fun ρ => .cons _ _ _ _ (.tok 0) (.cons _ _ _ _ (.tok 1) (.cons _ _ _ _ (.tok 2) .nil))) w
  · cases key
end Go.Proofs.YtkaladiliikheaaGreatDoor.plain
namespace Go.Proofs.YtkaladiliikheaaGreatDoor.plainCaptures
theorem walk (a0 a1 a2 : Int) (w0 : (Lit.int .i64 a0).wf = true) (w1 : (Lit.int .i64 a1).wf = true) (w2 : (Lit.int .i64 a2).wf = true) (w : World) :
    Calls Tryz.prog 5 #[.int .i64 a0, .int .i64 a1, .int .i64 a2] w fun e w' => e = .returned (.bool true) ∧ w.keptBut w' (fun _ => False) := plain.captures a0 a1 a2 w0 w1 w2 w
end Go.Proofs.YtkaladiliikheaaGreatDoor.plainCaptures
