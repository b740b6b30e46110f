/- 'PlainReckons' answers true at every three whole numbers: the call's own proof. -/
import Derived.Test.YtkaladiliikheaaGreatDoorPlR1
import Derived.Test.YtkaladiliikheaaGreatDoorPlR2
import Derived.Test.YtkaladiliikheaaGreatDoorPlR3
set_option linter.unusedVariables false
set_option linter.unusedSectionVars false
namespace Go.Proofs.YtkaladiliikheaaGreatDoor.plain
open Go.Eng Go.RowKit
theorem in64_lit {n : Int} (h : (Lit.int .i64 n).wf = true) : In64 n := by
  have := h
  simp [Lit.wf, IntKind.min, IntKind.max, IntKind.bits, IntKind.signed] at this
  unfold In64
  omega
/-- Ten numbers as a table. -/
def tok10 (n0 n1 n2 n3 n4 n5 n6 n7 n8 n9 : Int) : Nat → Int
  | 0 => n0 | 1 => n1 | 2 => n2 | 3 => n3 | 4 => n4 | 5 => n5 | 6 => n6 | 7 => n7 | 8 => n8 | 9 => n9
  | _ => 0
theorem tok10_ok {n0 n1 n2 n3 n4 n5 n6 n7 n8 n9 : Int} (h0 : In64 n0) (h1 : In64 n1) (h2 : In64 n2) (h3 : In64 n3) (h4 : In64 n4) (h5 : In64 n5) (h6 : In64 n6) (h7 : In64 n7) (h8 : In64 n8) (h9 : In64 n9) :
    ∀ k, -9223372036854775808 ≤ tok10 n0 n1 n2 n3 n4 n5 n6 n7 n8 n9 k ∧ tok10 n0 n1 n2 n3 n4 n5 n6 n7 n8 n9 k < 9223372036854775808 := by
  intro k
  unfold tok10
  split <;> first | exact h0 | exact h1 | exact h2 | exact h3 | exact h4 | exact h5 | exact h6 | exact h7 | exact h8 | exact h9 | exact in64_zero
section
variable [Toks]
/-- A call over known numbers is one over unknown ones that they stand for. -/
theorem ec_tk {f : Nat} {l : List Value} {v v1 : Value} (h : Comp f (l.map dtk) v1) (hl : (l.map dtk).all (flat 3) = true) (hv1 : flat 3 v1 = true) (hv : ∀ (ρ : Ren) (v' : Value), VR ρ v1 v' → VR ρ v v') (s : S) : EC Tryz.prog f l s v s :=
  ec_as (ec_comp h hl hv1 s) (fun _ _ => dtk_LR) hv
theorem tuple_tk {b : Bool} {k : Nat} {ρ : Ren} {v' : Value} (h : VR ρ (.tuple #[.int .i64 (Toks.tok k), .bool b]) v') : VR ρ (.tuple #[tk k, .bool b]) v' := by
  cases h with
  | tuple l l' hl =>
    cases hl with
    | cons v v' l l' hv hl => exact .tuple _ _ (.cons _ _ _ _ (tok_VR hv) hl)
end
theorem reckons (a0 a1 a2 : Int) (w0 : (Lit.int .i64 a0).wf = true) (w1 : (Lit.int .i64 a1).wf = true) (w2 : (Lit.int .i64 a2).wf = true) (w : World) :
    Calls Tryz.prog 3 #[.int .i64 a0, .int .i64 a1, .int .i64 a2] w fun e w' => e = .returned (.bool true) ∧ w.keptBut w' (fun _ => False) := by
  obtain ⟨A, hA, cA⟩ := wrap_comp a0
  obtain ⟨B, hB, cB⟩ := wrap_comp a1
  obtain ⟨K, hK0, hK5, cK⟩ := pick_comp a2 (in64_lit w2) 5 (by decide) (by unfold In64; omega)
  obtain ⟨r5, h5, c5⟩ := add_comp A B
  obtain ⟨r6, h6, c6⟩ := sub_comp A B
  obtain ⟨r7, h7, c7⟩ := mul_comp A B
  obtain ⟨z, r8, r9, h8, h9, c8, c9⟩ : ∃ (z : Bool) (r8 r9 : Int), In64 r8 ∧ In64 r9 ∧ Comp 20 [.int .i64 A, .int .i64 B] (.tuple (bif z then #[.int .i64 0, .bool false] else #[.int .i64 r8, .bool true])) ∧
      Comp 21 [.int .i64 A, .int .i64 B] (.tuple (bif z then #[.int .i64 0, .bool false] else #[.int .i64 r9, .bool true])) := by
    by_cases h : wrap64 (B * 2) / 2 = 0
    · exact ⟨true, 0, 0, in64_zero, in64_zero, div_comp0 A B h, rem_comp0 A B h⟩
    · obtain ⟨r8, h8, c8⟩ := div_comp A B h
      obtain ⟨r9, h9, c9⟩ := rem_comp A B h
      exact ⟨false, r8, r9, h8, h9, c8, c9⟩
  letI : Toks := ⟨tok10 a0 a1 a2 A B r5 r6 r7 r8 r9, tok10_ok (in64_lit w0) (in64_lit w1) (in64_lit w2) (in64_num hA) (in64_num hB) h5 h6 h7 h8 h9⟩
  have hz : ∀ (k : Nat) (r : Int), Toks.tok k = r → ∀ (ρ : Ren) (v' : Value), VR ρ (.tuple (bif z then #[.int .i64 0, .bool false] else #[.int .i64 r, .bool true])) v' → VR ρ (.tuple (bif z then #[.int .i64 0, .bool false] else #[tk k, .bool true])) v' := by
    intro k r hr ρ v' hv
    cases z with
    | true => exact hv
    | false => subst hr; exact tuple_tk hv
  have hf : ∀ r : Int, flat 3 (.tuple (bif z then #[.int .i64 0, .bool false] else #[.int .i64 r, .bool true])) = true := fun r => by cases z <;> rfl
  have hT : TabOk (tabR K z) :=
    tabOk_cons (mem_one ec219) <|
    tabOk_cons (mem_cons (ec_tk (l := [tk 3]) (is_comp A hA) rfl rfl fun _ _ h => h) (mem_one (ec_tk (l := [tk 4]) (is_comp B hB) rfl rfl fun _ _ h => h))) <|
    tabOk_cons (mem_one ec11) <|
    tabOk_cons (mem_cons (ec_tk (l := [tk 0]) cA rfl rfl fun _ _ h => tok_VR h) (mem_one (ec_tk (l := [tk 1]) cB rfl rfl fun _ _ h => tok_VR h))) <|
    tabOk_cons (mem_one (ec_tk (l := [tk 2, .int .i64 5]) cK rfl rfl fun _ _ h => h)) <|
    tabOk_cons (mem_one (ec_tk (l := [tk 3, tk 4]) c5 rfl rfl fun _ _ h => tok_VR h)) <|
    tabOk_cons (mem_one (ec_tk (l := [tk 3, tk 4]) c6 rfl rfl fun _ _ h => tok_VR h)) <|
    tabOk_cons (mem_one (ec_tk (l := [tk 3, tk 4]) c7 rfl rfl fun _ _ h => tok_VR h)) <|
    tabOk_cons (mem_one (ec_tk (l := [tk 3, tk 4]) c8 rfl (hf _) (hz 8 r8 rfl))) <|
    tabOk_cons (mem_one (ec_tk (l := [tk 3, tk 4]) c9 rfl (hf _) (hz 9 r9 rfl))) tabOk_nil
  have key : okT (ET (tabR K z) 3 [tk 0, tk 1, tk 2] (emp 4)) = true := by
    have : K = 0 ∨ K = 1 ∨ K = 2 ∨ K = 3 ∨ K = 4 := by omega
    rcases this with rfl | rfl | rfl | rfl | rfl
    · exact reck0 z
    · exact reck1 z
    · exact reck2 z
    · cases z
      · exact reck3f
      · exact reck3t
    · cases z
      · exact reck4f
      · exact reck4t
  unfold okT at key
  split at key
  · rename_i s1 he
    exact walk_of (fs_ET hT 3) globs he (l' := [.int .i64 a0, .int .i64 a1, .int .i64 a2]) (fun ρ => .cons _ _ _ _ (.tok 0) (.cons _ _ _ _ (.tok 1) (.cons _ _ _ _ (.tok 2) .nil))) w
  · cases key
end Go.Proofs.YtkaladiliikheaaGreatDoor.plain
namespace Go.Proofs.YtkaladiliikheaaGreatDoor.plainReckons
theorem walk (a0 a1 a2 : Int) (w0 : (Lit.int .i64 a0).wf = true) (w1 : (Lit.int .i64 a1).wf = true) (w2 : (Lit.int .i64 a2).wf = true) (w : World) :
    Calls Tryz.prog 3 #[.int .i64 a0, .int .i64 a1, .int .i64 a2] w fun e w' => e = .returned (.bool true) ∧ w.keptBut w' (fun _ => False) := plain.reckons a0 a1 a2 w0 w1 w2 w
end Go.Proofs.YtkaladiliikheaaGreatDoor.plainReckons
