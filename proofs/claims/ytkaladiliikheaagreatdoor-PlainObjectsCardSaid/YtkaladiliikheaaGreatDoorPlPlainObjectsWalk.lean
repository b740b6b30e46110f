/- 'PlainObjects' answers true at every three whole numbers: the call's own proof. -/
import Derived.Test.YtkaladiliikheaaGreatDoorPlO2
import Derived.Test.YtkaladiliikheaaGreatDoorPlN2
set_option linter.unusedVariables false
set_option linter.unusedSectionVars false
namespace Go.Proofs.YtkaladiliikheaaGreatDoor.plain
open Go.Eng Go.RowKit
set_option maxRecDepth 100000
theorem in64_lit {n : Int} (h : (Lit.int .i64 n).wf = true) : In64 n := by
  have := h
  simp [Lit.wf, IntKind.min, IntKind.max, IntKind.bits, IntKind.signed] at this
  unfold In64
  omega
section
variable [Toks]
/-- A call over known numbers is one over unknown ones that they stand for. -/
theorem ec_tk {f : Nat} {l : List Value} {v v1 : Value} (h : Comp f (l.map dtk) v1) (hl : (l.map dtk).all (flat 3) = true) (hv1 : flat 3 v1 = true) (hv : ∀ (ρ : Ren) (v' : Value), VR ρ v1 v' → VR ρ v v') (s : S) : EC Tryz.prog f l s v s :=
  ec_as (ec_comp h hl hv1 s) (fun _ _ => dtk_LR) hv
end
theorem fs_E0o (T : Vals orcO) (f : Nat) : @FS T.toks Tryz.prog f (E0o f) := by
  letI := T.toks
  exact fs_evF (hook := fun _ => none) (fun _ _ h => by cases h) mixed 100000 300 f
theorem ec219o (T : Vals orcO) (s : S) : @EC T.toks Tryz.prog 219 [] s v219o s := by
  letI := T.toks
  have hx := hv219o
  unfold hv at hx
  split at hx
  · rename_i v s1 he
    have e : v219o = v := by unfold v219o vo; rw [he]
    rw [e]
    exact ec_closed (n := 3) (fs_E0o T 219) globs rfl hx he s
  · cases hx
theorem fs_E1o (T : Vals orcO) (f : Nat) : @FS T.toks Tryz.prog f (E1o f) := by
  letI := T.toks
  refine @fs_evF T.toks Tryz.prog hook0 (fun g F h => ?_) mixed 100000 300 f
  have h' : (Bool.rec (motive := fun _ => Option (List Value → S → R)) none (some (memo [([], v219o)] (E0o 219))) (Nat.beq g 219) : Option (List Value → S → R)) = some F := h
  cases hb : Nat.beq g 219 with
  | false => rw [hb] at h'; cases h'
  | true =>
    rw [hb] at h'
    cases h'
    have := Nat.eq_of_beq_eq_true hb
    subst this
    exact fs_memo (fs_E0o T 219) _ (mem_one (ec219o T))
theorem ec190o (T : Vals orcO) {k : Int} (hx : hv (E1o 190 [.int .i64 k] (emp 4)) = true) (s : S) : @EC T.toks Tryz.prog 190 [.int .i64 k] s (v190o k) s := by
  letI := T.toks
  unfold hv at hx
  split at hx
  · rename_i v s1 he
    have e : v190o k = v := by unfold v190o vo; rw [he]
    rw [e]
    exact ec_closed (n := 3) (fs_E1o T 190) globs rfl hx he s
  · cases hx
theorem ecVo (T : Vals orcO) {f : Nat} {l : List Value} {v : Value} (hl : l.all (noid 3) = true) (hv : noid 3 v = true) (hx : isV v (E0o f l (emp 4)) = true) (s : S) : @EC T.toks Tryz.prog f l s v s := by
  letI := T.toks
  unfold isV at hx
  split at hx
  · rename_i u s1 he
    have := veq_eq 0 _ _ hx
    subst this
    exact ec_closed (fs_E0o T f) globs hl hv he s
  · cases hx
theorem fs_hookLo (T : Vals orcO) : ∀ (t : Tab), (∀ y ∈ t, ∀ x ∈ y.2, ∀ s, @EC T.toks Tryz.prog y.1 x.1 s x.2 s) → ∀ f F, hookL t f = some F → @FS T.toks Tryz.prog f F
  | [], _, f, F, h => by cases h
  | (g, m) :: r, ht, f, F, h => by
    letI := T.toks
    have h' : (Bool.rec (motive := fun _ => Option (List Value → S → R)) (hookL r f) (some (memo m (E0o g))) (Nat.beq f g) : Option (List Value → S → R)) = some F := h
    cases hb : Nat.beq f g with
    | true =>
      rw [hb] at h'
      cases h'
      have := Nat.eq_of_beq_eq_true hb
      subst this
      exact fs_memo (fs_E0o T _) m (ht _ (List.mem_cons_self ..))
    | false =>
      rw [hb] at h'
      exact fs_hookLo T r (fun y hy => ht y (List.mem_cons_of_mem _ hy)) f F h'
theorem okBo (T : Vals orcO) (h4 : Num (T.tok 4)) (h5 : Num (T.tok 5)) (h8 : Num (T.tok 8)) : @TabOk T.toks tabB := by
  letI := T.toks
  exact tabOk_cons (mem_cons (ec190o T hv190_1) (mem_cons (ec190o T hv190_25) (mem_cons (ec190o T hv190_4) (mem_cons (ec190o T hv190_3) (mem_cons (ec190o T hv190_36) (mem_cons (ec190o T hv190_27) (mem_cons (ec190o T hv190_26) (mem_cons (ec190o T hv190_35) (mem_cons (ec190o T hv190_28) (mem_one (ec190o T hv190_21))))))))))) (tabOk_cons (mem_cons (ecVo T rfl rfl b191_1) (mem_cons (ecVo T rfl rfl b191_25) (mem_cons (ecVo T rfl rfl b191_4) (mem_cons (ecVo T rfl rfl b191_3) (mem_cons (ecVo T rfl rfl b191_36) (mem_cons (ecVo T rfl rfl b191_27) (mem_cons (ecVo T rfl rfl b191_26) (mem_cons (ecVo T rfl rfl b191_35) (mem_cons (ecVo T rfl rfl b191_28) (mem_one (ecVo T rfl rfl b191_21))))))))))) (tabOk_cons (mem_cons (ecVo T rfl rfl b216_0) (mem_cons (ecVo T rfl rfl b216_1) (mem_cons (ecVo T rfl rfl b216_3) (mem_one (ecVo T rfl rfl b216_6))))) (tabOk_cons (mem_cons (ecVo T rfl rfl b221_0) (mem_one (ecVo T rfl rfl b221_1))) (tabOk_cons (mem_one (ec219o T)) (tabOk_cons (mem_cons (ec_tk (l := [tk 4]) (is_comp _ h4) rfl rfl fun _ _ h => h) (mem_cons (ec_tk (l := [tk 5]) (is_comp _ h5) rfl rfl fun _ _ h => h) (mem_one (ec_tk (l := [tk 8]) (is_comp _ h8) rfl rfl fun _ _ h => h)))) tabOk_nil)))))
theorem fs_E0i (T : Vals orcI) (f : Nat) : @FS T.toks Tryz.prog f (E0i f) := by
  letI := T.toks
  exact fs_evF (hook := fun _ => none) (fun _ _ h => by cases h) mixed 100000 300 f
theorem ec219i (T : Vals orcI) (s : S) : @EC T.toks Tryz.prog 219 [] s v219i s := by
  letI := T.toks
  have hx := hv219i
  unfold hv at hx
  split at hx
  · rename_i v s1 he
    have e : v219i = v := by unfold v219i vo; rw [he]
    rw [e]
    exact ec_closed (n := 3) (fs_E0i T 219) globs rfl hx he s
  · cases hx
theorem fs_E1i (T : Vals orcI) (f : Nat) : @FS T.toks Tryz.prog f (E1i f) := by
  letI := T.toks
  refine @fs_evF T.toks Tryz.prog hook0i (fun g F h => ?_) mixed 100000 300 f
  have h' : (Bool.rec (motive := fun _ => Option (List Value → S → R)) none (some (memo [([], v219i)] (E0i 219))) (Nat.beq g 219) : Option (List Value → S → R)) = some F := h
  cases hb : Nat.beq g 219 with
  | false => rw [hb] at h'; cases h'
  | true =>
    rw [hb] at h'
    cases h'
    have := Nat.eq_of_beq_eq_true hb
    subst this
    exact fs_memo (fs_E0i T 219) _ (mem_one (ec219i T))
theorem ec190i (T : Vals orcI) {k : Int} (hx : hv (E1i 190 [.int .i64 k] (emp 4)) = true) (s : S) : @EC T.toks Tryz.prog 190 [.int .i64 k] s (v190i k) s := by
  letI := T.toks
  unfold hv at hx
  split at hx
  · rename_i v s1 he
    have e : v190i k = v := by unfold v190i vo; rw [he]
    rw [e]
    exact ec_closed (n := 3) (fs_E1i T 190) globs rfl hx he s
  · cases hx
theorem ecVi (T : Vals orcI) {f : Nat} {l : List Value} {v : Value} (hl : l.all (noid 3) = true) (hv : noid 3 v = true) (hx : isV v (E0i f l (emp 4)) = true) (s : S) : @EC T.toks Tryz.prog f l s v s := by
  letI := T.toks
  unfold isV at hx
  split at hx
  · rename_i u s1 he
    have := veq_eq 0 _ _ hx
    subst this
    exact ec_closed (fs_E0i T f) globs hl hv he s
  · cases hx
theorem fs_hookLi (T : Vals orcI) : ∀ (t : Tab), (∀ y ∈ t, ∀ x ∈ y.2, ∀ s, @EC T.toks Tryz.prog y.1 x.1 s x.2 s) → ∀ f F, hookLi t f = some F → @FS T.toks Tryz.prog f F
  | [], _, f, F, h => by cases h
  | (g, m) :: r, ht, f, F, h => by
    letI := T.toks
    have h' : (Bool.rec (motive := fun _ => Option (List Value → S → R)) (hookLi r f) (some (memo m (E0i g))) (Nat.beq f g) : Option (List Value → S → R)) = some F := h
    cases hb : Nat.beq f g with
    | true =>
      rw [hb] at h'
      cases h'
      have := Nat.eq_of_beq_eq_true hb
      subst this
      exact fs_memo (fs_E0i T _) m (ht _ (List.mem_cons_self ..))
    | false =>
      rw [hb] at h'
      exact fs_hookLi T r (fun y hy => ht y (List.mem_cons_of_mem _ hy)) f F h'
theorem okBi (T : Vals orcI)  : @TabOk T.toks tabBi := by
  letI := T.toks
  exact tabOk_cons (mem_cons (ec190i T ihv190_1) (mem_cons (ec190i T ihv190_25) (mem_cons (ec190i T ihv190_4) (mem_cons (ec190i T ihv190_3) (mem_cons (ec190i T ihv190_36) (mem_cons (ec190i T ihv190_27) (mem_cons (ec190i T ihv190_26) (mem_cons (ec190i T ihv190_35) (mem_cons (ec190i T ihv190_28) (mem_one (ec190i T ihv190_21))))))))))) (tabOk_cons (mem_cons (ecVi T rfl rfl ib191_1) (mem_cons (ecVi T rfl rfl ib191_25) (mem_cons (ecVi T rfl rfl ib191_4) (mem_cons (ecVi T rfl rfl ib191_3) (mem_cons (ecVi T rfl rfl ib191_36) (mem_cons (ecVi T rfl rfl ib191_27) (mem_cons (ecVi T rfl rfl ib191_26) (mem_cons (ecVi T rfl rfl ib191_35) (mem_cons (ecVi T rfl rfl ib191_28) (mem_one (ecVi T rfl rfl ib191_21))))))))))) (tabOk_cons (mem_cons (ecVi T rfl rfl ib216_0) (mem_cons (ecVi T rfl rfl ib216_1) (mem_cons (ecVi T rfl rfl ib216_3) (mem_one (ecVi T rfl rfl ib216_6))))) (tabOk_cons (mem_cons (ecVi T rfl rfl ib221_0) (mem_one (ecVi T rfl rfl ib221_1))) (tabOk_cons (mem_one (ec219i T)) (tabOk_cons (fun x hx => by cases hx) tabOk_nil)))))

/-! ### An array of two or more -/
theorem fs_hookO (T : Vals orcO) (hA : @TabOk T.toks tabA) (hB : @TabOk T.toks tabB) (f : Nat) (F : List Value → S → R) (h : hookO f = some F) : @FS T.toks Tryz.prog f F := by
  letI := T.toks
  have h' : Bool.rec (motive := fun _ => Option (List Value → S → R))
    (Bool.rec (motive := fun _ => Option (List Value → S → R))
      (Bool.rec (motive := fun _ => Option (List Value → S → R)) (hookL tabB f) (Bool.rec (motive := fun _ => Option (List Value → S → R)) none (some (@F171 orcO)) (Nat.beq f 171)) (Nat.ble f 189))
      none (Nat.ble f 170))
    (hookL tabA f) (Nat.ble f 13) = some F := h
  cases h1 : Nat.ble f 13 with
  | true => rw [h1] at h'; exact fs_hookLo T _ hA f F h'
  | false =>
    rw [h1] at h'
    cases h2 : Nat.ble f 170 with
    | true => rw [h2] at h'; cases h'
    | false =>
      rw [h2] at h'
      cases h3 : Nat.ble f 189 with
      | false => rw [h3] at h'; exact fs_hookLo T _ hB f F h'
      | true =>
        rw [h3] at h'
        cases h4 : Nat.beq f 171 with
        | false => rw [h4] at h'; cases h'
        | true =>
          rw [h4] at h'
          cases h'
          have := Nat.eq_of_beq_eq_true h4
          subst this
          exact fs_F171
theorem fs_hookI (T : Vals orcI) (hA : @TabOk T.toks tabAi) (hB : @TabOk T.toks tabBi) (f : Nat) (F : List Value → S → R) (h : hookI f = some F) : @FS T.toks Tryz.prog f F := by
  letI := T.toks
  have h' : Bool.rec (motive := fun _ => Option (List Value → S → R))
    (Bool.rec (motive := fun _ => Option (List Value → S → R))
      (Bool.rec (motive := fun _ => Option (List Value → S → R)) (hookLi tabBi f) (Bool.rec (motive := fun _ => Option (List Value → S → R)) none none (Nat.beq f 171)) (Nat.ble f 189))
      none (Nat.ble f 170))
    (hookLi tabAi f) (Nat.ble f 13) = some F := h
  cases h1 : Nat.ble f 13 with
  | true => rw [h1] at h'; exact fs_hookLi T _ hA f F h'
  | false =>
    rw [h1] at h'
    cases h2 : Nat.ble f 170 with
    | true => rw [h2] at h'; cases h'
    | false =>
      rw [h2] at h'
      cases h3 : Nat.ble f 189 with
      | false => rw [h3] at h'; exact fs_hookLi T _ hB f F h'
      | true =>
        rw [h3] at h'
        cases h4 : Nat.beq f 171 with
        | false => rw [h4] at h'; cases h'
        | true => rw [h4] at h'; cases h'
theorem objects2 (a0 a1 a2 : Int) (h0 : In64 a0) (h1 : In64 a1) (h2 : In64 a2) (N : Nat) (a x : Int) (hN : 2 ≤ N) (hN' : N ≤ 1000) (ha : 0 ≤ a) (ha' : a < N) (hx : Num x)
    (c0 : Comp 13 [.int .i64 a0, .int .i64 1000] (.int .i64 ((N : Int) - 1))) (c1 : Comp 13 [.int .i64 a1, .int .i64 (N : Int)] (.int .i64 a)) (c2 : Comp 12 [.int .i64 a2] (.int .i64 x)) (w : World) :
    Calls Tryz.prog 7 #[.int .i64 a0, .int .i64 a1, .int .i64 a2] w fun e w' => e = .returned (.bool true) ∧ w.keptBut w' (fun _ => False) := by
  let A := famO a0 a1 a2 N a x h0 h1 h2 hN hN' ha ha' (in64_num hx)
  have hm3 : 0 ≤ (a + 1) % (N : Int) := Int.emod_nonneg _ (by omega)
  have hm4 : (a + 1) % (N : Int) < N := Int.emod_lt_of_pos _ (by omega)
  have hOK : ∀ z : Fin A.n, @TabOk (A.val z).toks tabA ∧ @TabOk (A.val z).toks tabB := fun z => by
    letI := (A.val z).toks
    refine ⟨?_, okBo (A.val z) (show Num (N : Int) by unfold Num; omega) (show Num a by unfold Num; omega) (show Num ((a + 1) % (N : Int)) by unfold Num; omega)⟩
    exact tabOk_cons (mem_one ec11) (tabOk_cons (mem_one (ec_tk (l := [tk 2]) c2 rfl rfl fun _ _ h => tok_VR h)) (tabOk_cons (mem_cons (ec_tk (l := [tk 0, .int .i64 1000]) c0 rfl rfl fun _ _ h => tok_VR h) (mem_one (ec_tk (l := [tk 1, tk 4]) c1 rfl rfl fun _ _ h => tok_VR h))) tabOk_nil))
  have hO : ∀ (z : Fin A.n) f F, hookO f = some F → @FS (A.val z).toks Tryz.prog f F := fun z f F h => fs_hookO (A.val z) (hOK z).1 (hOK z).2 f F h
  have h14 : ∀ z : Fin A.n, @EC (A.val z).toks Tryz.prog 14 oL oS0 oV oS1 := fun z => by
    letI := (A.val z).toks
    exact ec_lit (fs_evX A hO mixed 100000 300 z 14) lit14
  have hP : ∀ (z : Fin A.n) f F, hookP f = some F → @FS (A.val z).toks Tryz.prog f F := fun z f F h => by
    letI := (A.val z).toks
    have h' : Bool.rec (motive := fun _ => Option (List Value → S → R)) (hookO f) (some (memoS oL oS0 oV oS1)) (Nat.beq f 14) = some F := h
    cases hb : Nat.beq f 14 with
    | false => rw [hb] at h'; exact hO z f F h'
    | true =>
      rw [hb] at h'
      cases h'
      have := Nat.eq_of_beq_eq_true hb
      subst this
      exact fs_memoS (h14 z)
  have z0 : Fin A.n := ⟨0, show 0 < N by omega⟩
  letI := (A.val z0).toks
  have key := objP
  unfold okT at key
  split at key
  · rename_i s1 he
    exact walk_of (fs_evX A hP mixed 100000 300 z0 7) globs he (l' := [.int .i64 a0, .int .i64 a1, .int .i64 a2]) (fun ρ => .cons _ _ _ _ (.tok 0) (.cons _ _ _ _ (.tok 1) (.cons _ _ _ _ (.tok 2) .nil))) w
  · cases key
/-! ### An array of one -/
noncomputable def valI (a0 a1 a2 x : Int) (h0 : In64 a0) (h1 : In64 a1) (h2 : In64 a2) (hx : In64 x) : Vals orcI where
  tok k := match k with | 0 => a0 | 1 => a1 | 2 => a2 | 6 => x | _ => 0
  ok := by
    unfold In64 at *
    intro k
    split <;> omega
  op_ok := fun _ _ _ _ h => by cases h
theorem objects1 (a0 a1 a2 : Int) (h0 : In64 a0) (h1 : In64 a1) (h2 : In64 a2) (x : Int) (hx : Num x)
    (c0 : Comp 13 [.int .i64 a0, .int .i64 1000] (.int .i64 0)) (c1 : Comp 13 [.int .i64 a1, .int .i64 1] (.int .i64 0)) (c2 : Comp 12 [.int .i64 a2] (.int .i64 x)) (w : World) :
    Calls Tryz.prog 7 #[.int .i64 a0, .int .i64 a1, .int .i64 a2] w fun e w' => e = .returned (.bool true) ∧ w.keptBut w' (fun _ => False) := by
  let T := valI a0 a1 a2 x h0 h1 h2 (in64_num hx)
  letI := T.toks
  have hA : @TabOk T.toks tabAi := tabOk_cons (mem_one ec11) (tabOk_cons (mem_one (ec_tk (l := [tk 2]) c2 rfl rfl fun _ _ h => tok_VR h)) (tabOk_cons (mem_cons (ec_tk (l := [tk 0, .int .i64 1000]) c0 rfl rfl fun _ _ h => h) (mem_one (ec_tk (l := [tk 1, .int .i64 1]) c1 rfl rfl fun _ _ h => h))) tabOk_nil))
  have hI : ∀ f F, hookI f = some F → @FS T.toks Tryz.prog f F := fun f F h => fs_hookI T hA (okBi T) f F h
  have h14 : @EC T.toks Tryz.prog 14 iL iS0 iV iS1 := ec_lit (fs_evF hI mixed 100000 300 14) lit14i
  have hQ : ∀ f F, hookQ f = some F → @FS T.toks Tryz.prog f F := fun f F h => by
    have h' : Bool.rec (motive := fun _ => Option (List Value → S → R)) (hookI f) (some (memoS iL iS0 iV iS1)) (Nat.beq f 14) = some F := h
    cases hb : Nat.beq f 14 with
    | false => rw [hb] at h'; exact hI f F h'
    | true =>
      rw [hb] at h'
      cases h'
      have := Nat.eq_of_beq_eq_true hb
      subst this
      exact fs_memoS h14
  have key := objQ
  unfold okT at key
  split at key
  · rename_i s1 he
    exact walk_of (fs_evF hQ mixed 100000 300 7) globs he (l' := [.int .i64 a0, .int .i64 a1, .int .i64 a2]) (fun ρ => .cons _ _ _ _ (.tok 0) (.cons _ _ _ _ (.tok 1) (.cons _ _ _ _ (.tok 2) .nil))) w
  · cases key
theorem objects (a0 a1 a2 : Int) (w0 : (Lit.int .i64 a0).wf = true) (w1 : (Lit.int .i64 a1).wf = true) (w2 : (Lit.int .i64 a2).wf = true) (w : World) :
    Calls Tryz.prog 7 #[.int .i64 a0, .int .i64 a1, .int .i64 a2] w fun e w' => e = .returned (.bool true) ∧ w.keptBut w' (fun _ => False) := by
  have h0 := in64_lit w0
  have h1 := in64_lit w1
  have h2 := in64_lit w2
  obtain ⟨x, hx, cx⟩ := wrap_comp a2
  obtain ⟨r, hr0, hr1, cr⟩ := pick_comp a0 h0 1000 (by omega) (by unfold In64; omega)
  by_cases hz : r = 0
  · subst hz
    obtain ⟨q, hq0, hq1, cq⟩ := pick_comp a1 h1 1 (by omega) (by unfold In64; omega)
    have : q = 0 := by omega
    subst this
    exact objects1 a0 a1 a2 h0 h1 h2 x hx cr cq cx w
  · obtain ⟨N, hN⟩ : ∃ N : Nat, (N : Int) = r + 1 := ⟨(r + 1).toNat, by omega⟩
    obtain ⟨q, hq0, hq1, cq⟩ := pick_comp a1 h1 (N : Int) (by omega) (by unfold In64; omega)
    exact objects2 a0 a1 a2 h0 h1 h2 N q x (by omega) (by omega) hq0 hq1 hx (by rw [hN, show r + 1 - 1 = r from by omega]; exact cr) cq cx w
end Go.Proofs.YtkaladiliikheaaGreatDoor.plain
namespace Go.Proofs.YtkaladiliikheaaGreatDoor.plainObjects
theorem walk (a0 a1 a2 : Int) (w0 : (Lit.int .i64 a0).wf = true) (w1 : (Lit.int .i64 a1).wf = true) (w2 : (Lit.int .i64 a2).wf = true) (w : World) :
    Calls Tryz.prog 7 #[.int .i64 a0, .int .i64 a1, .int .i64 a2] w fun e w' => e = .returned (.bool true) ∧ w.keptBut w' (fun _ => False) := plain.objects a0 a1 a2 w0 w1 w2 w
end Go.Proofs.YtkaladiliikheaaGreatDoor.plainObjects
