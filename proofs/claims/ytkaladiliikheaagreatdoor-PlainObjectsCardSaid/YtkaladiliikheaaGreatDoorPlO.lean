/- The law 'PlainObjects' over an array of two or more elements: what is known of its numbers; the run. -/
import Derived.Test.YtkaladiliikheaaGreatDoorPlRep
import Derived.Test.YtkaladiliikheaaGreatDoorEngW
set_option linter.unusedVariables false
set_option linter.unusedSectionVars false
set_option linter.unusedSimpArgs false
namespace Go.Proofs.YtkaladiliikheaaGreatDoor.plain
open Go.Eng
set_option maxRecDepth 100000
/-- A number that is not known. -/
def tk (k : Nat) : Value := .float .f64 k
/-- 0, 1, 2: what the law was given; 3: one less than 4, the length; 5: the place; 6: the number that is read; 7, 8: the place behind; 9 to 11: words; 12, 13: a loop's index, and the next one. -/
def opO (o : BinOp) (a b : Value) : Option Value := match o, a, b with
  | .add, .int .i64 1, .float .f64 3 => some (.float .f64 4)
  | .add, .float .f64 3, .int .i64 1 => some (.float .f64 4)
  | .add, .float .f64 5, .int .i64 1 => some (.float .f64 7)
  | .rem, .float .f64 7, .float .f64 4 => some (.float .f64 8)
  | .add, .float .f64 4, .int .i64 2 => some (.float .f64 9)
  | .add, .int .i64 2, .float .f64 4 => some (.float .f64 9)
  | .mul, .int .i64 2, .float .f64 4 => some (.float .f64 10)
  | .add, .float .f64 10, .int .i64 4 => some (.float .f64 11)
  | .add, .float .f64 9, .float .f64 9 => some (.float .f64 11)
  | .add, .int .i64 0, .float .f64 9 => some (.float .f64 9)
  | .lss, .float .f64 4, .int .i64 0 => some (.bool false)
  | .gtr, .float .f64 4, .int .i64 1000 => some (.bool false)
  | .geq, .float .f64 4, .int .i64 0 => some (.bool true)
  | .geq, .float .f64 4, .int .i64 1 => some (.bool true)
  | .leq, .float .f64 4, .int .i64 1000 => some (.bool true)
  | .leq, .float .f64 4, .int .i64 65536 => some (.bool true)
  | .lss, .float .f64 5, .int .i64 0 => some (.bool false)
  | .geq, .float .f64 5, .int .i64 0 => some (.bool true)
  | .geq, .float .f64 5, .float .f64 4 => some (.bool false)
  | .lss, .float .f64 5, .float .f64 4 => some (.bool true)
  | .lss, .float .f64 8, .int .i64 0 => some (.bool false)
  | .geq, .float .f64 8, .int .i64 0 => some (.bool true)
  | .geq, .float .f64 8, .float .f64 4 => some (.bool false)
  | .lss, .float .f64 8, .float .f64 4 => some (.bool true)
  | .eql, .float .f64 5, .float .f64 8 => some (.bool false)
  | .eql, .float .f64 8, .float .f64 5 => some (.bool false)
  | .eql, .float .f64 4, .int .i64 1 => some (.bool false)
  | .lss, .float .f64 12, .float .f64 4 => some (.bool true)
  | .geq, .float .f64 12, .int .i64 0 => some (.bool true)
  | .add, .float .f64 12, .int .i64 1 => some (.float .f64 13)
  | .lss, .float .f64 4, .float .f64 4 => some (.bool false)
  | _, _, _ => none
@[reducible] noncomputable def orcO : Orc := ⟨opO⟩
def tokO (n0 at0 x0 N a x z : Int) (k : Nat) : Int := match k with
  | 0 => n0 | 1 => at0 | 2 => x0 | 3 => N - 1 | 4 => N | 5 => a | 6 => x | 7 => a + 1 | 8 => (a + 1) % N | 9 => N + 2 | 10 => 2 * N | 11 => 2 * N + 4 | 12 => z | 13 => z + 1
  | _ => 0
section
variable {n0 at0 x0 N a x z : Int}
theorem iop_ar {op : BinOp} {x y : Int} : iop op (.int .i64 x) (.int .i64 y) = ar op (.int .i64 x) (.int .i64 y) := rfl
theorem iop_rem {x y : Int} (h : y ≠ 0) : iop .rem (.int .i64 x) (.int .i64 y) = some (.int .i64 (x.tmod y)) := by
  show (if y = 0 then none else pureV (Op.intDiv .rem .i64 x y)) = _
  rw [if_neg h]
  have e : Op.intDiv .rem .i64 x y = pure (.int .i64 (x.tmod y)) := by unfold Op.intDiv; rw [if_neg h]
  rw [e]; rfl
theorem iop_eql {x y : Int} : iop .eql (.int .i64 x) (.int .i64 y) = some (.bool (x == y)) := rfl
theorem tokO_op (hN : 2 ≤ N) (hN' : N ≤ 1000) (ha : 0 ≤ a) (ha' : a < N) (hz : 0 ≤ z) (hz' : z < N) : ∀ (p : BinOp) (u v r : Value), opO p u v = some r →
    okV r = true ∧ ∃ m n, dtI (tokO n0 at0 x0 N a x z) u = some m ∧ dtI (tokO n0 at0 x0 N a x z) v = some n ∧ iop p (.int .i64 m) (.int .i64 n) = some (dtV (tokO n0 at0 x0 N a x z) r) := by
  have hm1 : (a + 1) % N = if a + 1 = N then 0 else a + 1 := by
    split
    · rename_i h; rw [h]; exact Int.emod_self
    · exact Int.emod_eq_of_lt (by omega) (by omega)
  have hm2 : 0 ≤ (a + 1) % N ∧ (a + 1) % N < N ∧ (a + 1) % N ≠ a := by rw [hm1]; split <;> omega
  obtain ⟨hm3, hm4, hm5⟩ := hm2
  intro p u v r h
  unfold opO at h
  split at h
  · cases h
    refine ⟨rfl, _, _, rfl, rfl, ?_⟩
    show iop .add (.int .i64 1) (.int .i64 (N - 1)) = some (.int .i64 (N))
    rw [iop_ar, ar_add, IntWalk.i64_in _ (by omega)]; try exact congrArg (fun q => some (Value.int .i64 q)) (by omega)
  · cases h
    refine ⟨rfl, _, _, rfl, rfl, ?_⟩
    show iop .add (.int .i64 (N - 1)) (.int .i64 1) = some (.int .i64 (N))
    rw [iop_ar, ar_add, IntWalk.i64_in _ (by omega)]; try exact congrArg (fun q => some (Value.int .i64 q)) (by omega)
  · cases h
    refine ⟨rfl, _, _, rfl, rfl, ?_⟩
    show iop .add (.int .i64 (a)) (.int .i64 1) = some (.int .i64 (a + 1))
    rw [iop_ar, ar_add, IntWalk.i64_in _ (by omega)]; try exact congrArg (fun q => some (Value.int .i64 q)) (by omega)
  · cases h
    refine ⟨rfl, _, _, rfl, rfl, ?_⟩
    show iop .rem (.int .i64 (a + 1)) (.int .i64 (N)) = some (.int .i64 ((a + 1) % N))
    rw [iop_rem (by omega), Int.tmod_eq_emod_of_nonneg (by omega)]
  · cases h
    refine ⟨rfl, _, _, rfl, rfl, ?_⟩
    show iop .add (.int .i64 (N)) (.int .i64 2) = some (.int .i64 (N + 2))
    rw [iop_ar, ar_add, IntWalk.i64_in _ (by omega)]; try exact congrArg (fun q => some (Value.int .i64 q)) (by omega)
  · cases h
    refine ⟨rfl, _, _, rfl, rfl, ?_⟩
    show iop .add (.int .i64 2) (.int .i64 (N)) = some (.int .i64 (N + 2))
    rw [iop_ar, ar_add, IntWalk.i64_in _ (by omega)]; try exact congrArg (fun q => some (Value.int .i64 q)) (by omega)
  · cases h
    refine ⟨rfl, _, _, rfl, rfl, ?_⟩
    show iop .mul (.int .i64 2) (.int .i64 (N)) = some (.int .i64 (2 * N))
    rw [iop_ar, ar_mul, IntWalk.i64_in _ (by omega)]; try exact congrArg (fun q => some (Value.int .i64 q)) (by omega)
  · cases h
    refine ⟨rfl, _, _, rfl, rfl, ?_⟩
    show iop .add (.int .i64 (2 * N)) (.int .i64 4) = some (.int .i64 (2 * N + 4))
    rw [iop_ar, ar_add, IntWalk.i64_in _ (by omega)]; try exact congrArg (fun q => some (Value.int .i64 q)) (by omega)
  · cases h
    refine ⟨rfl, _, _, rfl, rfl, ?_⟩
    show iop .add (.int .i64 (N + 2)) (.int .i64 (N + 2)) = some (.int .i64 (2 * N + 4))
    rw [iop_ar, ar_add, IntWalk.i64_in _ (by omega)]; try exact congrArg (fun q => some (Value.int .i64 q)) (by omega)
  · cases h
    refine ⟨rfl, _, _, rfl, rfl, ?_⟩
    show iop .add (.int .i64 0) (.int .i64 (N + 2)) = some (.int .i64 (N + 2))
    rw [iop_ar, ar_add, IntWalk.i64_in _ (by omega)]; try exact congrArg (fun q => some (Value.int .i64 q)) (by omega)
  · cases h
    refine ⟨rfl, _, _, rfl, rfl, ?_⟩
    show iop .lss (.int .i64 (N)) (.int .i64 0) = some (.bool false)
    rw [iop_ar, ar_lss]; exact congrArg (fun q => some (Value.bool q)) (decide_eq_false (by omega))
  · cases h
    refine ⟨rfl, _, _, rfl, rfl, ?_⟩
    show iop .gtr (.int .i64 (N)) (.int .i64 1000) = some (.bool false)
    rw [iop_ar, ar_gtr]; exact congrArg (fun q => some (Value.bool q)) (decide_eq_false (by omega))
  · cases h
    refine ⟨rfl, _, _, rfl, rfl, ?_⟩
    show iop .geq (.int .i64 (N)) (.int .i64 0) = some (.bool true)
    rw [iop_ar, ar_geq]; exact congrArg (fun q => some (Value.bool q)) (decide_eq_true (by omega))
  · cases h
    refine ⟨rfl, _, _, rfl, rfl, ?_⟩
    show iop .geq (.int .i64 (N)) (.int .i64 1) = some (.bool true)
    rw [iop_ar, ar_geq]; exact congrArg (fun q => some (Value.bool q)) (decide_eq_true (by omega))
  · cases h
    refine ⟨rfl, _, _, rfl, rfl, ?_⟩
    show iop .leq (.int .i64 (N)) (.int .i64 1000) = some (.bool true)
    rw [iop_ar, ar_leq]; exact congrArg (fun q => some (Value.bool q)) (decide_eq_true (by omega))
  · cases h
    refine ⟨rfl, _, _, rfl, rfl, ?_⟩
    show iop .leq (.int .i64 (N)) (.int .i64 65536) = some (.bool true)
    rw [iop_ar, ar_leq]; exact congrArg (fun q => some (Value.bool q)) (decide_eq_true (by omega))
  · cases h
    refine ⟨rfl, _, _, rfl, rfl, ?_⟩
    show iop .lss (.int .i64 (a)) (.int .i64 0) = some (.bool false)
    rw [iop_ar, ar_lss]; exact congrArg (fun q => some (Value.bool q)) (decide_eq_false (by omega))
  · cases h
    refine ⟨rfl, _, _, rfl, rfl, ?_⟩
    show iop .geq (.int .i64 (a)) (.int .i64 0) = some (.bool true)
    rw [iop_ar, ar_geq]; exact congrArg (fun q => some (Value.bool q)) (decide_eq_true (by omega))
  · cases h
    refine ⟨rfl, _, _, rfl, rfl, ?_⟩
    show iop .geq (.int .i64 (a)) (.int .i64 (N)) = some (.bool false)
    rw [iop_ar, ar_geq]; exact congrArg (fun q => some (Value.bool q)) (decide_eq_false (by omega))
  · cases h
    refine ⟨rfl, _, _, rfl, rfl, ?_⟩
    show iop .lss (.int .i64 (a)) (.int .i64 (N)) = some (.bool true)
    rw [iop_ar, ar_lss]; exact congrArg (fun q => some (Value.bool q)) (decide_eq_true (by omega))
  · cases h
    refine ⟨rfl, _, _, rfl, rfl, ?_⟩
    show iop .lss (.int .i64 ((a + 1) % N)) (.int .i64 0) = some (.bool false)
    rw [iop_ar, ar_lss]; exact congrArg (fun q => some (Value.bool q)) (decide_eq_false (by omega))
  · cases h
    refine ⟨rfl, _, _, rfl, rfl, ?_⟩
    show iop .geq (.int .i64 ((a + 1) % N)) (.int .i64 0) = some (.bool true)
    rw [iop_ar, ar_geq]; exact congrArg (fun q => some (Value.bool q)) (decide_eq_true (by omega))
  · cases h
    refine ⟨rfl, _, _, rfl, rfl, ?_⟩
    show iop .geq (.int .i64 ((a + 1) % N)) (.int .i64 (N)) = some (.bool false)
    rw [iop_ar, ar_geq]; exact congrArg (fun q => some (Value.bool q)) (decide_eq_false (by omega))
  · cases h
    refine ⟨rfl, _, _, rfl, rfl, ?_⟩
    show iop .lss (.int .i64 ((a + 1) % N)) (.int .i64 (N)) = some (.bool true)
    rw [iop_ar, ar_lss]; exact congrArg (fun q => some (Value.bool q)) (decide_eq_true (by omega))
  · cases h
    refine ⟨rfl, _, _, rfl, rfl, ?_⟩
    show iop .eql (.int .i64 (a)) (.int .i64 ((a + 1) % N)) = some (.bool false)
    rw [iop_eql]; exact congrArg (fun q => some (Value.bool q)) (beq_eq_false_iff_ne.2 (by omega))
  · cases h
    refine ⟨rfl, _, _, rfl, rfl, ?_⟩
    show iop .eql (.int .i64 ((a + 1) % N)) (.int .i64 (a)) = some (.bool false)
    rw [iop_eql]; exact congrArg (fun q => some (Value.bool q)) (beq_eq_false_iff_ne.2 (by omega))
  · cases h
    refine ⟨rfl, _, _, rfl, rfl, ?_⟩
    show iop .eql (.int .i64 (N)) (.int .i64 1) = some (.bool false)
    rw [iop_eql]; exact congrArg (fun q => some (Value.bool q)) (beq_eq_false_iff_ne.2 (by omega))
  · cases h
    refine ⟨rfl, _, _, rfl, rfl, ?_⟩
    show iop .lss (.int .i64 (z)) (.int .i64 (N)) = some (.bool true)
    rw [iop_ar, ar_lss]; exact congrArg (fun q => some (Value.bool q)) (decide_eq_true (by omega))
  · cases h
    refine ⟨rfl, _, _, rfl, rfl, ?_⟩
    show iop .geq (.int .i64 (z)) (.int .i64 0) = some (.bool true)
    rw [iop_ar, ar_geq]; exact congrArg (fun q => some (Value.bool q)) (decide_eq_true (by omega))
  · cases h
    refine ⟨rfl, _, _, rfl, rfl, ?_⟩
    show iop .add (.int .i64 (z)) (.int .i64 1) = some (.int .i64 (z + 1))
    rw [iop_ar, ar_add, IntWalk.i64_in _ (by omega)]; try exact congrArg (fun q => some (Value.int .i64 q)) (by omega)
  · cases h
    refine ⟨rfl, _, _, rfl, rfl, ?_⟩
    show iop .lss (.int .i64 (N)) (.int .i64 (N)) = some (.bool false)
    rw [iop_ar, ar_lss]; exact congrArg (fun q => some (Value.bool q)) (decide_eq_false (by omega))
  · cases h
/-- The numbers, whatever a loop's index is. -/
noncomputable def valO (n0 at0 x0 N a x z : Int) (h0 : In64 n0) (h1 : In64 at0) (h2 : In64 x0) (hN : 2 ≤ N) (hN' : N ≤ 1000) (ha : 0 ≤ a) (ha' : a < N) (hx : In64 x) (hz : 0 ≤ z) (hz' : z < N) : Vals orcO where
  tok := tokO n0 at0 x0 N a x z
  ok := by
    have hm3 : 0 ≤ (a + 1) % N := Int.emod_nonneg _ (by omega)
    have hm4 : (a + 1) % N < N := Int.emod_lt_of_pos _ (by omega)
    unfold In64 at *
    intro k
    unfold tokO
    split <;> omega
  op_ok := tokO_op hN hN' ha ha' hz hz'
noncomputable def famO (n0 at0 x0 : Int) (N : Nat) (a x : Int) (h0 : In64 n0) (h1 : In64 at0) (h2 : In64 x0) (hN : 2 ≤ N) (hN' : N ≤ 1000) (ha : 0 ≤ a) (ha' : a < N) (hx : In64 x) : Fam orcO 12 13 4 where
  n := N
  val z := valO n0 at0 x0 N a x z.val h0 h1 h2 (by omega) (by omega) ha ha' hx (by omega) (by have := z.isLt; omega)
  atI _ := rfl
  atJ _ := rfl
  atL _ := rfl
  near z z' k h1 h2 := by
    show tokO n0 at0 x0 N a x z.val k = tokO n0 at0 x0 N a x z'.val k
    unfold tokO
    split <;> first | rfl | (exact absurd rfl h1) | (exact absurd rfl h2)
end
/-! ### slices.Repeat of one element, so often as a token says -/
noncomputable def F171 [Orc] (l : List Value) (s : S) : R := match l with
  | [.slice (some ⟨id, off, none⟩) 1 c, .float .f64 k] => bif yes (Orc.op .geq (.float .f64 k) (.int .i64 1)) && yes (Orc.op .leq (.float .f64 k) (.int .i64 65536)) && s.own s.nx then (match ldL id off 2 s with
    | some d => bif d.all oneC && Nat.beq d.length 2 then some (.complex .f32 s.nx k, s.new (.pending ⟨[.float .f64 k, .tuple ⟨d⟩]⟩ 121)) else none
    | none => none) else none
  | _ => none
theorem zer_el [Toks] (d : List Value) : ∀ (n i : Nat), i < n → ((zer d n).drop (i * d.length)).take d.length = d := Go.Eng.zer_at d
theorem Lies.row {ρ : Ren} [Toks] {base : Nat} {c C : List Value} (h : Lies ρ base c C) {o n : Nat} (hn : o + n ≤ c.length) : LR ρ ((c.drop o).take n) ((C.drop (base + o)).take n) := by
  refine LR.of ?_ fun i v v' e e' => ?_
  · have : base + c.length ≤ C.length ∨ c.length = 0 := by
      rcases Nat.eq_zero_or_pos c.length with h0 | h0
      · exact .inr h0
      · left
        obtain ⟨v', e, _⟩ := h (c.length - 1) c[c.length - 1] (List.getElem?_eq_getElem (by omega))
        have := (List.getElem?_eq_some_iff.1 e).1
        omega
    simp only [List.length_take, List.length_drop]
    omega
  · rw [List.getElem?_take] at e e'
    split at e
    · rename_i hi
      rw [if_pos hi] at e'
      rw [List.getElem?_drop] at e e'
      obtain ⟨v2, e2, hv⟩ := h _ _ e
      rw [show base + (o + i) = base + o + i from by omega] at e2
      rw [e2] at e'
      cases e'
      exact hv
    · cases e
section
variable [Toks]
theorem fs_F171 : FS Tryz.prog 171 F171 := by
  intro l s v s' h ρ w l' hw hll
  unfold F171 at h
  split at h
  · rename_i id off c k
    cases hb : (yes (Orc.op .geq (.float .f64 k) (.int .i64 1)) && yes (Orc.op .leq (.float .f64 k) (.int .i64 65536)) && s.own s.nx) with
    | false => rw [hb] at h; cases h
    | true =>
      rw [hb, cond_true] at h
      simp only [Bool.and_eq_true] at hb
      obtain ⟨⟨b1, b2⟩, hown⟩ := hb
      have b2 := leq_yes b2
      have b1 : 1 ≤ Toks.tok k := by
        unfold yes at b1
        split at b1
        · rename_i e
          obtain ⟨_, p, q, e1, e2, e3⟩ := Toks.op_ok _ _ _ _ e
          cases e1; cases e2
          have e4 : (some (Value.bool (decide (Toks.tok k ≥ 1))) : Option Value) = some (.bool true) := e3
          simpa using e4
        · cases b1
      split at h
      · rename_i d hd
        cases hq : (d.all oneC && Nat.beq d.length 2) with
        | false => rw [hq] at h; cases h
        | true =>
          rw [hq, cond_true] at h
          cases h
          simp only [Bool.and_eq_true] at hq
          have hlen := Nat.eq_of_beq_eq_true hq.2
          obtain ⟨n, hn⟩ : ∃ n : Nat, (n : Int) = Toks.tok k := ⟨(Toks.tok k).toNat, by omega⟩
          have hne : id ≠ s.nx := by
            intro e
            unfold ldL at hd
            rw [e, hw.free_get s.free_nx] at hd
            cases hd
          obtain ⟨v0, s0, hec, rfl, rfl⟩ := cal171 (c := c) hd hlen (n := n) (by omega) (by omega) hne hq.1 hown (K := fun v s2 => v = .slice (some ⟨s.nx, 0, none⟩) n 2 ∧ s2 = s.new (.cells (zer d n).toArray 121 (0, 0))) ⟨rfl, rfl⟩
          have hll2 : LR ρ [.slice (some ⟨id, off, none⟩) 1 c, .int .i64 (n : Int)] l' := by
            cases hll with
            | cons _ u _ l2 hu hl2 =>
              cases hl2 with
              | cons _ u2 _ l3 hu2 hl3 =>
                refine .cons _ _ _ _ hu (.cons _ _ _ _ ?_ hl3)
                cases hu2
                have : ρ.tok k = (n : Int) := hn.symm
                rw [this]
                exact .int .i64 _
          refine Calls.mono (hec ρ w l' hw hll2) fun e w' hp => ?_
          obtain ⟨ρ', v', rfl, hv, hs⟩ := hp
          have hgl : (s.new (.cells (zer d n).toArray 121 (0, 0))).get s.nx = some (.cells (zer d n).toArray 121 (0, 0)) := get_nx ..
          obtain ⟨pl, hpl, C, e', fr', q1, q2, q3, q4⟩ := hs.wr.obj _ _ hgl
          have hfr := q2 rfl
          subst hfr
          have hzl : (zer d n).length = n * d.length := zer_len d n
          have hsym : OR Tryz.prog ρ' pl w' (.pending ⟨[.float .f64 k, .tuple ⟨d⟩]⟩ 121) := by
            refine ⟨n, C, e', hn, q1, ?_, fun i hi => ?_⟩
            · obtain ⟨u, e2, _⟩ := q3 (n * d.length - 1) ((zer d n)[n * d.length - 1]'(by rw [hzl, hlen]; omega)) (List.getElem?_eq_getElem (by rw [hzl, hlen]; omega))
              have := (List.getElem?_eq_some_iff.1 e2).1
              rw [hlen] at this ⊢
              simp only [Array.length_toList] at this
              omega
            · have hle : i * d.length + d.length ≤ (zer d n).length := by
                rw [hzl]
                have : (i + 1) * d.length ≤ n * d.length := Nat.mul_le_mul_right _ hi
                rw [Nat.add_mul] at this
                omega
              have := Lies.row q3 (o := i * d.length) (n := d.length) hle
              rw [zer_el d n i hi] at this
              exact this
          refine ⟨ρ', v', rfl, ?_, ?_⟩
          · cases hv with
            | sl _ _ _ _ pl' a' c' e1 g1 g2 g3 g4 =>
              rw [hpl] at e1
              cases e1
              rw [g3 (by omega)]
              exact VR.sls s.nx k n c' pl hpl hn
          · have hg2 : ∀ j, (s.new (.pending ⟨[.float .f64 k, .tuple ⟨d⟩]⟩ 121)).get j = if j = s.nx then some (.pending ⟨[.float .f64 k, .tuple ⟨d⟩]⟩ 121) else s.get j := fun j => S.get_new ..
            have hg1 : ∀ j, (s.new (.cells (zer d n).toArray 121 (0, 0))).get j = if j = s.nx then some (.cells (zer d n).toArray 121 (0, 0)) else s.get j := fun j => S.get_new ..
            have hfree : ∀ j, (s.new (.pending ⟨[.float .f64 k, .tuple ⟨d⟩]⟩ 121)).free j ↔ (s.new (.cells (zer d n).toArray 121 (0, 0))).free j := fun j => Iff.rfl
            have hsome : ∀ j o, (s.new (.pending ⟨[.float .f64 k, .tuple ⟨d⟩]⟩ 121)).get j = some o → ∃ o2, (s.new (.cells (zer d n).toArray 121 (0, 0))).get j = some o2 := fun j o hj => by
              by_cases hjn : j = s.nx
              · exact ⟨_, by rw [hg1, if_pos hjn]⟩
              · rw [hg2, if_neg hjn] at hj
                exact ⟨o, by rw [hg1, if_neg hjn]; exact hj⟩
            refine ⟨⟨fun j o hj => ?_, fun i j oi oj pi pj hi hj => ?_, fun j hj => hs.wr.free j hj, hs.wr.sd, hs.wr.glob⟩, fun j hj => hs.fre j hj, hs.sd, hs.wa, hs.wb, hs.ext, hs.only, fun j hj => ?_, fun j o pj hj hp hb => ?_, hs.tape, hs.os, hs.output, hs.size, hs.frame⟩
            · by_cases hjn : j = s.nx
              · subst hjn
                rw [hg2, if_pos rfl] at hj
                cases hj
                exact ⟨pl, hpl, hsym⟩
              · rw [hg2, if_neg hjn] at hj
                exact hs.wr.obj j o (by rw [hg1, if_neg hjn]; exact hj)
            · obtain ⟨o1, h1⟩ := hsome _ _ hi
              obtain ⟨o2, h2⟩ := hsome _ _ hj
              exact hs.wr.inj i j o1 o2 pi pj h1 h2
            · by_cases hjn : j = s.nx
              · exact .inl (hjn ▸ s.free_nx)
              · rw [hg2, if_neg hjn] at hj
                exact absurd rfl hj
            · obtain ⟨o1, h1⟩ := hsome _ _ hj
              exact hs.img j o1 pj h1 hp hb
      · cases h
  · cases h
end
/-! ### The run -/
noncomputable def E0o (f : Nat) : List Value → S → R := @evF orcO Tryz.prog (fun _ => none) (L0 100000) 300 f
noncomputable def v219o : Value := vo (E0o 219 [] (emp 4))
theorem hv219o : hv (E0o 219 [] (emp 4)) = true := by kernel_rfl
noncomputable def hook0 (f : Nat) : Option (List Value → S → R) := Bool.rec (motive := fun _ => Option (List Value → S → R)) none (some (memo [([], v219o)] (E0o 219))) (Nat.beq f 219)
noncomputable def E1o (f : Nat) : List Value → S → R := @evF orcO Tryz.prog hook0 (L0 100000) 300 f
noncomputable def v190o (k : Int) : Value := vo (E1o 190 [.int .i64 k] (emp 4))
theorem hv190_1 : hv (E1o 190 [.int .i64 1] (emp 4)) = true := by kernel_rfl
theorem hv190_25 : hv (E1o 190 [.int .i64 25] (emp 4)) = true := by kernel_rfl
theorem hv190_4 : hv (E1o 190 [.int .i64 4] (emp 4)) = true := by kernel_rfl
theorem hv190_3 : hv (E1o 190 [.int .i64 3] (emp 4)) = true := by kernel_rfl
theorem hv190_36 : hv (E1o 190 [.int .i64 36] (emp 4)) = true := by kernel_rfl
theorem hv190_27 : hv (E1o 190 [.int .i64 27] (emp 4)) = true := by kernel_rfl
theorem hv190_26 : hv (E1o 190 [.int .i64 26] (emp 4)) = true := by kernel_rfl
theorem hv190_35 : hv (E1o 190 [.int .i64 35] (emp 4)) = true := by kernel_rfl
theorem hv190_28 : hv (E1o 190 [.int .i64 28] (emp 4)) = true := by kernel_rfl
theorem hv190_21 : hv (E1o 190 [.int .i64 21] (emp 4)) = true := by kernel_rfl
def isV (v : Value) (x : R) : Bool := match x with | some (u, _) => veq 0 u v | none => false
theorem b216_0 : isV (.bool false) (E0o 216 [.int .i64 0] (emp 4)) = true := by kernel_rfl
theorem b216_1 : isV (.bool false) (E0o 216 [.int .i64 1] (emp 4)) = true := by kernel_rfl
theorem b216_3 : isV (.bool false) (E0o 216 [.int .i64 3] (emp 4)) = true := by kernel_rfl
theorem b216_6 : isV (.bool false) (E0o 216 [.int .i64 6] (emp 4)) = true := by kernel_rfl
theorem b191_1 : isV (.bool false) (E0o 191 [.int .i64 1] (emp 4)) = true := by kernel_rfl
theorem b191_25 : isV (.bool false) (E0o 191 [.int .i64 25] (emp 4)) = true := by kernel_rfl
theorem b191_4 : isV (.bool false) (E0o 191 [.int .i64 4] (emp 4)) = true := by kernel_rfl
theorem b191_3 : isV (.bool false) (E0o 191 [.int .i64 3] (emp 4)) = true := by kernel_rfl
theorem b191_36 : isV (.bool false) (E0o 191 [.int .i64 36] (emp 4)) = true := by kernel_rfl
theorem b191_27 : isV (.bool false) (E0o 191 [.int .i64 27] (emp 4)) = true := by kernel_rfl
theorem b191_26 : isV (.bool false) (E0o 191 [.int .i64 26] (emp 4)) = true := by kernel_rfl
theorem b191_35 : isV (.bool false) (E0o 191 [.int .i64 35] (emp 4)) = true := by kernel_rfl
theorem b191_28 : isV (.bool false) (E0o 191 [.int .i64 28] (emp 4)) = true := by kernel_rfl
theorem b191_21 : isV (.bool true) (E0o 191 [.int .i64 21] (emp 4)) = true := by kernel_rfl
theorem b221_0 : isV (.int .i64 0) (E0o 221 [.int .u64 0] (emp 4)) = true := by kernel_rfl
theorem b221_1 : isV (.int .i64 1) (E0o 221 [.int .u64 1] (emp 4)) = true := by kernel_rfl
noncomputable def tabA : Tab := [
  (11, [([], .bool true)]),
  (12, [([tk 2], tk 6)]),
  (13, [([tk 0, .int .i64 1000], tk 3), ([tk 1, tk 4], tk 5)])]
noncomputable def tabB : Tab := [
  (190, [([.int .i64 1], v190o 1), ([.int .i64 25], v190o 25), ([.int .i64 4], v190o 4), ([.int .i64 3], v190o 3), ([.int .i64 36], v190o 36), ([.int .i64 27], v190o 27), ([.int .i64 26], v190o 26), ([.int .i64 35], v190o 35), ([.int .i64 28], v190o 28), ([.int .i64 21], v190o 21)]),
  (191, [([.int .i64 1], .bool false), ([.int .i64 25], .bool false), ([.int .i64 4], .bool false), ([.int .i64 3], .bool false), ([.int .i64 36], .bool false), ([.int .i64 27], .bool false), ([.int .i64 26], .bool false), ([.int .i64 35], .bool false), ([.int .i64 28], .bool false), ([.int .i64 21], .bool true)]),
  (216, [([.int .i64 0], .bool false), ([.int .i64 1], .bool false), ([.int .i64 3], .bool false), ([.int .i64 6], .bool false)]),
  (221, [([.int .u64 0], .int .i64 0), ([.int .u64 1], .int .i64 1)]),
  (219, [([], v219o)]),
  (217, [([tk 4], .bool true), ([tk 5], .bool true), ([tk 8], .bool true)])]
noncomputable def hookL (t : Tab) (f : Nat) : Option (List Value → S → R) := List.rec (motive := fun _ => Option (List Value → S → R)) none (fun y _ ih => Bool.rec (motive := fun _ => Option (List Value → S → R)) ih (some (memo y.2 (E0o y.1))) (Nat.beq f y.1)) t
noncomputable def hookO (f : Nat) : Option (List Value → S → R) :=
  Bool.rec (motive := fun _ => Option (List Value → S → R))
    (Bool.rec (motive := fun _ => Option (List Value → S → R))
      (Bool.rec (motive := fun _ => Option (List Value → S → R)) (hookL tabB f) (Bool.rec (motive := fun _ => Option (List Value → S → R)) none (some (@F171 orcO)) (Nat.beq f 171)) (Nat.ble f 189))
      none (Nat.ble f 170))
    (hookL tabA f) (Nat.ble f 13)
noncomputable def runO : R := @evF orcO Tryz.prog hookO (LX 100000 12 13 4) 300 7 [tk 0, tk 1, tk 2] (emp 4)
end Go.Proofs.YtkaladiliikheaaGreatDoor.plain
