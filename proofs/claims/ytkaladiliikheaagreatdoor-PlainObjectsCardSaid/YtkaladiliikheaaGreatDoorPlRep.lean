/- slices.Repeat of one element: as many copies as are asked for, in whatever state. -/
import Derived.Test.YtkaladiliikheaaGreatDoorEngX3
import Derived.Test.YtkaladiliikheaaGreatDoorPlBase
set_option linter.unusedVariables false
set_option linter.unusedSectionVars false
namespace Go.Proofs.YtkaladiliikheaaGreatDoor.plain
open Go.Eng
set_option maxRecDepth 100000
section
variable [Toks]
/-- math/bits.Mul64 -/
noncomputable def U230 : Nat → Option (List Nat × List Nat) := fun p => none
noncomputable def w230 (t0 t1 : Value) (s0 : S) (K : Value → S → Prop) : Prop :=
  rP (pv s0 (bo .and (ar .and t0 (.int .u64 4294967295)) t0 (.int .u64 4294967295))) fun t15 s1 =>
  rP (pv s1 (bo .shr (ar .shr t0 (.int .u64 32)) t0 (.int .u64 32))) fun t17 s2 =>
  rP (pv s2 (bo .and (ar .and t1 (.int .u64 4294967295)) t1 (.int .u64 4294967295))) fun t19 s3 =>
  rP (pv s3 (bo .shr (ar .shr t1 (.int .u64 32)) t1 (.int .u64 32))) fun t21 s4 =>
  rP (pv s4 (bo .mul (ar .mul t15 t19) t15 t19)) fun t24 s5 =>
  rP (pv s5 (bo .mul (ar .mul t17 t19) t17 t19)) fun t27 s6 =>
  rP (pv s6 (bo .shr (ar .shr t24 (.int .u64 32)) t24 (.int .u64 32))) fun t29 s7 =>
  rP (pv s7 (bo .add (ar .add t27 t29) t27 t29)) fun t30 s8 =>
  rP (pv s8 (bo .and (ar .and t30 (.int .u64 4294967295)) t30 (.int .u64 4294967295))) fun t32 s9 =>
  rP (pv s9 (bo .shr (ar .shr t30 (.int .u64 32)) t30 (.int .u64 32))) fun t34 s10 =>
  rP (pv s10 (bo .mul (ar .mul t15 t21) t15 t21)) fun t38 s11 =>
  rP (pv s11 (bo .add (ar .add t32 t38) t32 t38)) fun t39 s12 =>
  rP (pv s12 (bo .mul (ar .mul t17 t21) t17 t21)) fun t42 s13 =>
  rP (pv s13 (bo .add (ar .add t42 t34) t42 t34)) fun t44 s14 =>
  rP (pv s14 (bo .shr (ar .shr t39 (.int .u64 32)) t39 (.int .u64 32))) fun t46 s15 =>
  rP (pv s15 (bo .add (ar .add t44 t46) t44 t46)) fun t47 s16 =>
  rP (pv s16 (bo .mul (ar .mul t0 t1) t0 t1)) fun t50 s17 =>
  K (.tuple ⟨[t47, t50]⟩) s17
theorem w230_eq (t0 t1 : Value) (s0 : S) (K : Value → S → Prop) : wpF Tryz.prog U230 230 [t0, t1] s0 K = w230 t0 t1 s0 K := by kernel_rfl

/-- math/bits.Mul -/
noncomputable def U208 : Nat → Option (List Nat × List Nat) := fun p => none
noncomputable def w208 (t0 t1 : Value) (s0 : S) (K : Value → S → Prop) : Prop :=
  Cnd (.bool false)
  (rP (pv s0 (cvI .u32 t0)) fun t12 s1 =>
  rP (pv s1 (cvI .u32 t1)) fun t14 s2 =>
  Cal Tryz.prog 229 [t12, t14] s2 fun t15 s3 =>
  rP (pv s3 (ext 0 t15)) fun t16 s4 =>
  rP (pv s4 (ext 1 t15)) fun t17 s5 =>
  rP (pv s5 (cvI .u64 t16)) fun t19 s6 =>
  rP (pv s6 (cvI .u64 t17)) fun t21 s7 =>
  K (.tuple ⟨[t19, t21]⟩) s7)
  (Cal Tryz.prog 230 [t0, t1] s0 fun t25 s8 =>
  rP (pv s8 (ext 0 t25)) fun t26 s9 =>
  rP (pv s9 (ext 1 t25)) fun t27 s10 =>
  K (.tuple ⟨[t26, t27]⟩) s10)
theorem w208_eq (t0 t1 : Value) (s0 : S) (K : Value → S → Prop) : wpF Tryz.prog U208 208 [t0, t1] s0 K = w208 t0 t1 s0 K := by kernel_rfl

/-- slices.Repeat[[]tideway/plain.value,tideway/plain.value] -/
noncomputable def U171 : Nat → Option (List Nat × List Nat) := fun p => bif Nat.beq p 127 then some ([7], []) else bif Nat.beq p 508 then some ([8], [7]) else none
noncomputable def w171 (t0 t1 : Value) (s0 : S) (K : Value → S → Prop) : Prop :=
  rP (pv s0 (bo .lss (ar .lss t1 (.int .i64 0)) t1 (.int .i64 0))) fun t10 s1 =>
  Cnd t10
  (False)
  (rP (pv s1 (lns t0)) fun t14 s2 =>
  rP (pv s2 (cvI .u64 t14)) fun t15 s3 =>
  rP (pv s3 (cvI .u64 t1)) fun t17 s4 =>
  Cal Tryz.prog 208 [t15, t17] s4 fun t18 s5 =>
  rP (pv s5 (ext 0 t18)) fun t19 s6 =>
  rP (pv s6 (ext 1 t18)) fun t20 s7 =>
  rP (pv s7 (bo .gtr (ar .gtr t19 (.int .u64 0)) t19 (.int .u64 0))) fun t22 s8 =>
  Jn (fun (t24 : Value) (s10 : S) =>
  Jn (fun (t25 : Value) (s12 : S) =>
  rP (pv s12 (pk t22 (.bool true) t25)) fun t26 s13 =>
  Cnd t26
  (False)
  (rP (pv s13 (cvI .i64 t20)) fun t29 s14 =>
  rP (mks [(.int .i64 0), .nilIface] 24 121 t29 t29 s14) fun t30 s15 =>
  rP (cpS 2 t30 t0 s15) fun t33 s16 =>
  Jn (fun (t7 : Value) (s18 : S) =>
  K t7 s18) fun k17 =>
  ∃ (I19 : Value → S → Prop) (μ20 : Value → S → Nat), I19 t33 s16 ∧ ∀ (t8 : Value) (s21 : S), I19 t8 s21 →
  rP (pv s21 (lns t30)) fun t36 s22 =>
  rP (pv s22 (bo .lss (ar .lss t8 t36) t8 t36)) fun t37 s23 =>
  Cnd t37
  (rP (pv s23 (slS 2 t30 (some t8) none)) fun t41 s24 =>
  rP (pv s24 (slS 2 t30 none (some t8))) fun t44 s25 =>
  rP (cpS 2 t41 t44 s25) fun t45 s26 =>
  rP (pv s26 (bo .add (ar .add t8 t45) t8 t45)) fun t46 s27 =>
  ([t30] = ([t30] : List Value) ∧ I19 t46 s27 ∧ μ20 t46 s27 < μ20 t8 s21))
  (k17 t30 s23))) fun k11 => gdP t22 false (k11 undef s10) (rP (pv s10 (bo .gtr (ar .gtr t24 (.int .u64 9223372036854775807)) t24 (.int .u64 9223372036854775807))) k11)) fun k9 => gdP t22 false (k9 undef s8) (k9 t20 s8))
theorem w171_eq (t0 t1 : Value) (s0 : S) (K : Value → S → Prop) : wpF Tryz.prog U171 171 [t0, t1] s0 K = w171 t0 t1 s0 K := by kernel_rfl

theorem cal230 {n : Nat} (hn : n < 4294967296) {s : S} {K : Value → S → Prop} (h : K (.tuple ⟨[.int .u64 0, .int .u64 n]⟩) s) : Cal Tryz.prog 230 [.int .u64 1, .int .u64 (n : Int)] s K := by
  refine cal_wpF mixed (U := U230) ?_
  rw [w230_eq]; unfold w230
  have e1 : ar .and (.int .u64 1) (.int .u64 4294967295) = some (.int .u64 1) := by kernel_rfl
  have e2 : ar .shr (.int .u64 1) (.int .u64 32) = some (.int .u64 0) := by kernel_rfl
  have e3 : ar .and (.int .u64 (n : Int)) (.int .u64 4294967295) = some (.int .u64 n) := by
    have := ar_and_u64 (a := n) (b := 4294967295) (by omega) (by omega)
    rw [show n &&& 4294967295 = n from by
      have := Nat.and_two_pow_sub_one_eq_mod n 32
      simp only [Nat.reducePow, Nat.reduceSub] at this
      rw [this]; omega] at this
    exact this
  have e4 : ar .shr (.int .u64 (n : Int)) (.int .u64 32) = some (.int .u64 0) := by
    have := ar_shr (k := .u64) (k' := .u64) (x := n) (n := 32) (by decide)
    rw [show (n : Int).fdiv (2 ^ 32) = 0 from by
      rw [Int.fdiv_eq_ediv_of_nonneg _ (by decide)]; omega] at this
    exact this
  have e5 : ar .mul (.int .u64 1) (.int .u64 (n : Int)) = some (.int .u64 n) := by rw [ar_mul, IntWalk.u64_in _ (by omega)]; simp
  have e6 : ar .mul (.int .u64 0) (.int .u64 (n : Int)) = some (.int .u64 0) := by rw [ar_mul, IntWalk.u64_in _ (by omega)]; simp
  have e7 : ar .add (.int .u64 0) (.int .u64 0) = some (.int .u64 0) := by kernel_rfl
  have e8 : ar .and (.int .u64 0) (.int .u64 4294967295) = some (.int .u64 0) := by kernel_rfl
  have e9 : ar .shr (.int .u64 0) (.int .u64 32) = some (.int .u64 0) := by kernel_rfl
  have e10 : ar .mul (.int .u64 1) (.int .u64 0) = some (.int .u64 0) := by kernel_rfl
  have e11 : ar .mul (.int .u64 0) (.int .u64 0) = some (.int .u64 0) := by kernel_rfl
  simp only [e1, e2, e3, e4, e5, e6, e7, e8, e9, e10, e11, bo_some, pv_some, rP_some]
  exact h
theorem cal208 {n : Nat} (hn : n < 4294967296) {s : S} {K : Value → S → Prop} (h : K (.tuple ⟨[.int .u64 0, .int .u64 n]⟩) s) : Cal Tryz.prog 208 [.int .u64 1, .int .u64 (n : Int)] s K := by
  refine cal_wpF mixed (U := U208) ?_
  rw [w208_eq]; unfold w208
  rw [Cnd_false]
  refine cal230 hn ?_
  simp only [ext_0, ext_1, pv_some, rP_some]
  exact h

/-! ### The row as it grows -/
/-- The first 'm' of 'n' elements are 'd', the others 'z'. -/
def part (d z : List Value) (n m : Nat) : List Value := zer d m ++ zer z (n - m)
theorem zer_add (d : List Value) : ∀ (a b : Nat), zer d (a + b) = zer d a ++ zer d b
  | 0, b => by simp [zer]
  | a + 1, b => by rw [Nat.add_right_comm]; simp only [zer]; rw [zer_add d a b, List.append_assoc]
theorem zer_len (d : List Value) : ∀ n, (zer d n).length = n * d.length
  | 0 => by simp [zer]
  | n + 1 => by simp [zer, zer_len d n, Nat.add_mul]; omega
theorem zer_take (d : List Value) : ∀ (n m : Nat), m ≤ n → (zer d n).take (m * d.length) = zer d m := by
  intro n m h
  obtain ⟨k, rfl⟩ : ∃ k, n = m + k := ⟨n - m, by omega⟩
  rw [zer_add, ← zer_len d m, List.take_left]
theorem part_put (d z : List Value) (n m k : Nat) (hz : z.length = d.length) (h : m + k ≤ n) : putAt (part d z n m) (m * d.length) (zer d k) = part d z n (m + k) := by
  unfold putAt part
  rw [zer_len, ← Nat.add_mul, ← zer_len d m, List.take_left, zer_add, show n - m = k + (n - (m + k)) from by omega, zer_add]
  congr 1
  rw [List.drop_append, zer_len]
  have e1 : (m + k) * d.length - m * d.length = k * d.length := by rw [Nat.add_mul]; omega
  rw [e1, List.drop_of_length_le (by rw [zer_len, Nat.add_mul]; omega), List.nil_append, show k * d.length = (zer z k).length from by rw [zer_len, hz], List.drop_left]
theorem zer_all {d : List Value} (h : d.all oneC = true) : ∀ n, (zer d n).all oneC = true
  | 0 => rfl
  | n + 1 => by simp [zer, h, zer_all h n]
theorem put_put {α : Type} (o1 o2 : Option α) : ∀ (f : Nat) (t : T α) (k : Nat), T.putF o2 f (T.putF o1 f t k) k = T.putF o2 f t k := by
  intro f
  induction f with
  | zero => intro t k; rfl
  | succ f ih =>
    intro t k
    cases t with
    | l =>
      cases k with
      | zero => rfl
      | succ k =>
        show T.putF o2 (f + 1) (Bool.rec (motive := fun _ => T α) (.n .l none (T.putF o1 f .l (Nat.div k 2))) (.n (T.putF o1 f .l (Nat.div k 2)) none .l) (Nat.beq (Nat.mod k 2) 0)) (k + 1) = Bool.rec (motive := fun _ => T α) (.n .l none (T.putF o2 f .l (Nat.div k 2))) (.n (T.putF o2 f .l (Nat.div k 2)) none .l) (Nat.beq (Nat.mod k 2) 0)
        cases hb : Nat.beq (Nat.mod k 2) 0 with
        | true =>
          show Bool.rec (motive := fun _ => T α) _ (.n (T.putF o2 f (T.putF o1 f .l (Nat.div k 2)) (Nat.div k 2)) none .l) (Nat.beq (Nat.mod k 2) 0) = _
          rw [hb, ih]
        | false =>
          show Bool.rec (motive := fun _ => T α) (.n .l none (T.putF o2 f (T.putF o1 f .l (Nat.div k 2)) (Nat.div k 2))) _ (Nat.beq (Nat.mod k 2) 0) = _
          rw [hb, ih]
    | n a p b =>
      cases k with
      | zero => rfl
      | succ k =>
        show T.putF o2 (f + 1) (Bool.rec (motive := fun _ => T α) (.n a p (T.putF o1 f b (Nat.div k 2))) (.n (T.putF o1 f a (Nat.div k 2)) p b) (Nat.beq (Nat.mod k 2) 0)) (k + 1) = Bool.rec (motive := fun _ => T α) (.n a p (T.putF o2 f b (Nat.div k 2))) (.n (T.putF o2 f a (Nat.div k 2)) p b) (Nat.beq (Nat.mod k 2) 0)
        cases hb : Nat.beq (Nat.mod k 2) 0 with
        | true =>
          show Bool.rec (motive := fun _ => T α) _ (.n (T.putF o2 f (T.putF o1 f a (Nat.div k 2)) (Nat.div k 2)) p b) (Nat.beq (Nat.mod k 2) 0) = _
          rw [hb, ih]
        | false =>
          show Bool.rec (motive := fun _ => T α) (.n a p (T.putF o2 f (T.putF o1 f b (Nat.div k 2)) (Nat.div k 2))) _ (Nat.beq (Nat.mod k 2) 0) = _
          rw [hb, ih]
theorem new_set (s : S) (o1 o2 : Obj) : (s.new o1).set s.nx (some o2) = s.new o2 := by
  obtain ⟨hp, nx, sd, wa, wb⟩ := s
  show (⟨(hp.put (some o1) nx).put (some o2) nx, nx + sd, sd, wa, wb⟩ : S) = ⟨hp.put (some o2) nx, nx + sd, sd, wa, wb⟩
  congr 1
  exact put_put _ _ _ _ _
theorem own_new (s : S) (o : Obj) (id : Nat) : (s.new o).own id = s.own id := by
  obtain ⟨hp, nx, sd, wa, wb⟩ := s
  rfl
theorem get_nx (s : S) (o : Obj) : (s.new o).get s.nx = some o := by rw [S.get_new, if_pos rfl]
/-- The state while the row is filled. -/
noncomputable def sm (s : S) (d z : List Value) (n m : Nat) : S := s.new (.cells (part d z n m).toArray 121 (0, 0))
theorem part_len (d z : List Value) (n m : Nat) (hz : z.length = d.length) (h : m ≤ n) : (part d z n m).length = n * d.length := by
  unfold part
  rw [List.length_append, zer_len, zer_len, hz, ← Nat.add_mul]
  congr 1; omega
theorem part_take (d z : List Value) (n m k : Nat) (h : k ≤ m) : ((part d z n m).drop 0).take (k * d.length) = zer d k := by
  rw [List.drop_zero]
  unfold part
  rw [List.take_append_of_le_length (by rw [zer_len]; exact Nat.mul_le_mul_right _ h), zer_take d m k h]
theorem ldL_sm {s : S} {d z : List Value} {n m k : Nat} (hz : z.length = d.length) (h1 : k ≤ m) (h2 : m ≤ n) : ldL s.nx 0 (k * d.length) (sm s d z n m) = some (zer d k) := by
  unfold ldL sm
  rw [get_nx]
  show sub (part d z n m) 0 (k * d.length) = _
  unfold sub
  have hb : Nat.ble (0 + k * d.length) (part d z n m).length = true := by
    rw [Nat.ble_eq, part_len d z n m hz h2]
    have := Nat.mul_le_mul_right d.length (Nat.le_trans h1 h2)
    omega
  rw [hb, cond_true, part_take d z n m k h1]
theorem stL_sm {s : S} {d z : List Value} {n m k : Nat} (hz : z.length = d.length) (h : m + k ≤ n) (hown : s.own s.nx = true) (hd : d.all oneC = true) : stL s.nx (m * d.length) (zer d k) (sm s d z n m) = some (sm s d z n (m + k)) := by
  unfold stL sm
  rw [own_new, hown, cond_true, get_nx]
  have hb : (Nat.ble (m * d.length + (zer d k).length) (part d z n m).toArray.size && (zer d k).all oneC) = true := by
    rw [Bool.and_eq_true]
    refine ⟨?_, zer_all hd k⟩
    rw [Nat.ble_eq, List.size_toArray, part_len d z n m hz (by omega), zer_len, ← Nat.add_mul]
    exact Nat.mul_le_mul_right _ h
  simp only [hb, cond_true, new_set]
  rw [part_put d z n m k hz h]
theorem cal171 {id off c n : Nat} {s : S} {d : List Value} (hd : ldL id off 2 s = some d) (hlen : d.length = 2) (h1 : 1 ≤ n) (h2 : n ≤ 65536) (hne : id ≠ s.nx) (hone : d.all oneC = true) (hown : s.own s.nx = true) {K : Value → S → Prop}
    (hK : K (.slice (some ⟨s.nx, 0, none⟩) n 2) (s.new (.cells (zer d n).toArray 121 (0, 0)))) : Cal Tryz.prog 171 [.slice (some ⟨id, off, none⟩) 1 c, .int .i64 (n : Int)] s K := by
  refine cal_wpF mixed (U := U171) ?_
  rw [w171_eq]; unfold w171
  have e1 : ar .lss (.int .i64 (n : Int)) (.int .i64 0) = some (.bool false) := by rw [ar_lss]; simp
  have e2 : lns (.slice (some ⟨id, off, none⟩) 1 c) = some (.int .i64 1) := rfl
  have e3 : cvI .u64 (.int .i64 1) = some (.int .u64 1) := by kernel_rfl
  have e4 : cvI .u64 (.int .i64 (n : Int)) = some (.int .u64 (n : Int)) := by rw [cvI_num, IntWalk.u64_in _ (by omega)]
  simp only [e1, e2, e3, e4, bo_some, pv_some, rP_some, Cnd_false]
  refine cal208 (by omega) ?_
  have e5 : ar .gtr (.int .u64 0) (.int .u64 0) = some (.bool false) := by kernel_rfl
  have e6 : ar .gtr (.int .u64 (n : Int)) (.int .u64 9223372036854775807) = some (.bool false) := by rw [ar_gtr]; simp; omega
  have e7 : pk (.bool false) (.bool true) (.bool false) = some (.bool false) := rfl
  have e8 : cvI .i64 (.int .u64 (n : Int)) = some (.int .i64 (n : Int)) := by rw [cvI_num, IntWalk.i64_in _ (by omega)]
  have hz : ([.int .i64 0, .nilIface] : List Value).length = d.length := by rw [hlen]; rfl
  have e9 : mks [.int .i64 0, .nilIface] 24 121 (.int .i64 (n : Int)) (.int .i64 (n : Int)) s = some (.slice (some ⟨s.nx, 0, none⟩) n 2, sm s d [.int .i64 0, .nilIface] n 0) := by
    unfold mks mkZ newS
    have hn : (n : Int) = Int.ofNat n := rfl
    rw [hn]
    have hb : (Nat.ble n n && Nat.ble (n * 24) room && Nat.ble n room) = true := by
      simp only [Bool.and_eq_true, Nat.ble_eq]
      unfold room
      omega
    have ha : (zer ([.int .i64 0, .nilIface] : List Value) n).all oneC = true := zer_all rfl n
    have hl : Nat.beq (zer ([.int .i64 0, .nilIface] : List Value) n).length 0 = false := by
      rw [zer_len, Bool.eq_false_iff]
      intro hh
      have := Nat.eq_of_beq_eq_true hh
      simp at this
      omega
    simp only [hb, ha, hl, cond_true, cond_false, orR_some]
    rfl
  simp only [ext_0, ext_1, e5, e6, e7, e8, e9, bo_some, pv_some, rP_some, Cnd_false, Jn, gdP_ff]
  have e10 : cpS 2 (.slice (some ⟨s.nx, 0, none⟩) n 2) (.slice (some ⟨id, off, none⟩) 1 c) (sm s d [.int .i64 0, .nilIface] n 0) = some (.int .i64 ((1 : Nat) : Int), sm s d [.int .i64 0, .nilIface] n 1) := by
    have hm : Nat.min 1 n = 1 := Nat.min_eq_left h1
    have hl : ldL id off (1 * 2) (sm s d [.int .i64 0, .nilIface] n 0) = some d := by
      unfold ldL sm
      rw [S.get_new, if_neg hne]
      exact hd
    have hs := stL_sm (s := s) (d := d) (z := [.int .i64 0, .nilIface]) (n := n) (m := 0) (k := 1) hz (by omega) hown hone
    have hzd : zer d 1 = d := by simp [zer]
    rw [hzd, Nat.zero_mul, Nat.zero_add] at hs
    simp only [cpS, hm, hl, hs]
  simp only [e10, rP_some]
  refine ⟨fun v s' => ∃ m : Nat, 1 ≤ m ∧ m ≤ n ∧ v = .int .i64 (m : Int) ∧ s' = sm s d [.int .i64 0, .nilIface] n m, fun v s' => match v with | .int _ k => n - k.toNat | _ => 0, ⟨1, Nat.le_refl _, h1, rfl, rfl⟩, ?_⟩
  rintro t8 s21 ⟨m, hm1, hm2, rfl, rfl⟩
  have e11 : lns (.slice (some ⟨s.nx, 0, none⟩) n 2) = some (.int .i64 (n : Int)) := rfl
  simp only [e11, pv_some, rP_some, ar_lss, bo_some]
  by_cases hlt : m < n
  · have hdec : decide ((m : Int) < (n : Int)) = true := by simpa using hlt
    have e12 : slS 2 (.slice (some ⟨s.nx, 0, none⟩) n 2) (some (.int .i64 (m : Int))) none = some (.slice (some ⟨s.nx, 0 + m * 2, none⟩) (n - m) 2) := by
      have hn : (m : Int) = Int.ofNat m := rfl
      have hb : (Nat.ble m n && Nat.ble n n) = true := by simp only [Bool.and_eq_true, Nat.ble_eq]; omega
      rw [hn]
      simp only [slS, bnd, hb, cond_true]
      rfl
    have e13 : slS 2 (.slice (some ⟨s.nx, 0, none⟩) n 2) none (some (.int .i64 (m : Int))) = some (.slice (some ⟨s.nx, 0, none⟩) m 2) := by
      have hn : (m : Int) = Int.ofNat m := rfl
      have hb : (Nat.ble 0 m && Nat.ble m n) = true := by simp only [Bool.and_eq_true, Nat.ble_eq]; omega
      rw [hn]
      simp only [slS, bnd, hb, cond_true]
      rfl
    have e14 : cpS 2 (.slice (some ⟨s.nx, 0 + m * 2, none⟩) (n - m) 2) (.slice (some ⟨s.nx, 0, none⟩) m 2) (sm s d [.int .i64 0, .nilIface] n m) = some (.int .i64 ((Nat.min m (n - m) : Nat) : Int), sm s d [.int .i64 0, .nilIface] n (m + Nat.min m (n - m))) := by
      have hk : Nat.min m (n - m) ≤ m := Nat.min_le_left ..
      have hk2 : Nat.min m (n - m) ≤ n - m := Nat.min_le_right ..
      have hl := ldL_sm (s := s) (d := d) (z := [.int .i64 0, .nilIface]) (n := n) (m := m) (k := Nat.min m (n - m)) hz hk hm2
      have hs := stL_sm (s := s) (d := d) (z := [.int .i64 0, .nilIface]) (n := n) (m := m) (k := Nat.min m (n - m)) hz (by omega) hown hone
      rw [hlen] at hl hs
      rw [Nat.zero_add]
      simp only [cpS, hl, hs]
    have hk1 : 1 ≤ Nat.min m (n - m) := Nat.le_min.2 ⟨hm1, by omega⟩
    have hk2 : Nat.min m (n - m) ≤ n - m := Nat.min_le_right ..
    simp only [hdec, Cnd_true, e12, e13, e14, pv_some, rP_some, ar_add, bo_some]
    refine ⟨trivial, ⟨m + Nat.min m (n - m), by omega, by omega, ?_, rfl⟩, ?_⟩
    · rw [IntWalk.i64_in _ (by omega)]; simp
    · rw [IntWalk.i64_in _ (by omega)]; omega
  · have hdec : decide ((m : Int) < (n : Int)) = false := by simpa using hlt
    have hmn : m = n := by omega
    subst hmn
    simp only [hdec, Cnd_false]
    have : sm s d [.int .i64 0, .nilIface] m m = s.new (.cells (zer d m).toArray 121 (0, 0)) := by
      unfold sm part
      rw [Nat.sub_self]
      simp [zer]
    rw [this]
    exact hK
end
end Go.Proofs.YtkaladiliikheaaGreatDoor.plain
