/- The engine, part N3: rows of a length that is not known: writing an element, making one. -/
import Derived.Test.YtkaladiliikheaaGreatDoorEngN2
set_option linter.unusedVariables false
set_option linter.unusedSectionVars false
set_option linter.unusedSimpArgs false
namespace Go.Eng
open Go
variable [Toks]
section
variable {P : Program} {o : Oper} {kn : KN} {s : S}
theorem splice_out {C vs : List Value} {p j : Nat} (hp : p + vs.length ≤ C.length) (h : j < p ∨ p + vs.length ≤ j) : (C.take p ++ vs ++ C.drop (p + vs.length))[j]? = C[j]? := by
  rcases h with h | h
  · rw [List.append_assoc, List.getElem?_append_left (by simp; omega), List.getElem?_take, if_pos h]
  · rw [List.getElem?_append_right (by simp; omega), List.getElem?_drop]
    congr 1
    simp; omega
theorem splice_in {C vs : List Value} {p : Nat} (hp : p + vs.length ≤ C.length) : ((C.take p ++ vs ++ C.drop (p + vs.length)).drop p).take vs.length = vs := by
  rw [List.append_assoc, List.drop_append_of_le_length (by simp; omega)]
  have : (C.take p).drop p = [] := by apply List.drop_eq_nil_of_le; simp; omega
  rw [this, List.nil_append, List.take_left]
omit [Toks] in
noncomputable def stXL [Orc] (id m : Nat) (vs : List Value) (s : S) : Option S :=
  bif s.own id && Nat.beq vs.length (m % 8) && vs.all oneC then (match s.get id with
    | some (.pending ⟨.float .f64 k :: .tuple ⟨d⟩ :: ups⟩ e) => bif inside (m / 8) k && Nat.beq d.length (m % 8) then
        some (s.set id (some (.pending ⟨.float .f64 k :: .tuple ⟨d⟩ :: .tuple ⟨.float .f64 (m / 8) :: vs⟩ :: ups⟩ e))) else none
    | _ => none) else none
theorem stXL_run {ρ : Ren} {w : World} (hw : WR P ρ s w) {id m i : Nat} {vs vs' : List Value} {s' : S} (h : stXL id m vs s = some s') (hv : LR ρ vs vs') {pl : Pl} (hp : ρ id = some pl) (hi : (i : Int) = ρ.tok (m / 8)) :
    ∃ w', (storeCells ⟨pl.block, pl.base + i * (m % 8), none⟩ vs').run P w = .ok () w' ∧ Stp P ρ s w ρ s' w' := by
  unfold stXL at h
  cases hc : (s.own id && Nat.beq vs.length (m % 8) && vs.all oneC) with
  | false => rw [hc] at h; cases h
  | true =>
    rw [hc, cond_true] at h
    simp only [Bool.and_eq_true] at hc
    obtain ⟨⟨hown, hlen⟩, hone⟩ := hc
    have hlen := Nat.eq_of_beq_eq_true hlen
    split at h
    · rename_i k d ups e hg
      cases hb : (inside (m / 8) k && Nat.beq d.length (m % 8)) with
      | false => rw [hb] at h; cases h
      | true =>
        rw [hb, cond_true] at h
        cases h
        simp only [Bool.and_eq_true] at hb
        have hd := Nat.eq_of_beq_eq_true hb.2
        obtain ⟨q, hq1, hq2⟩ := inside_spec hb.1
        have hqi : q = i := by
          have : (q : Int) = (i : Int) := hq1.trans hi.symm
          omega
        subst hqi
        obtain ⟨pl', hp', N, C, e', h1, h2, h3, h4⟩ := hw.obj _ _ hg
        rw [hp] at hp'; cases hp'
        have hlt := hq2 N h1
        have hmul : (q + 1) * (m % 8) ≤ N * (m % 8) := Nat.mul_le_mul_right _ hlt
        rw [Nat.add_mul] at hmul
        rw [hd] at h3
        have hfit : pl.base + q * (m % 8) + vs'.length ≤ C.size := by rw [← hv.length, hlen]; omega
        obtain ⟨w', C', hr, hone', hC'⟩ := run_storeCells (P := P) vs' 0 w C h2 (o := pl.base + q * (m % 8)) (by rw [Nat.add_zero]; exact hfit) (by rw [hv.all1]; exact hone)
        rw [Nat.add_zero] at hC'
        have hsz : C'.size = C.size := by
          have := congrArg List.length hC'
          simp only [Array.length_toList, List.length_append, List.length_take, List.length_drop] at this
          omega
        refine ⟨w', hr, Stp.write hw hg hp hown hone' ?_⟩
        refine ⟨N, C', e', h1, hone'.here, by rw [hsz, hd]; exact h3, fun r hr' => ?_⟩
        have hfit' : pl.base + q * (m % 8) + vs'.length ≤ C.toList.length := by simpa using hfit
        show LR ρ (if Toks.tok (m / 8) = (r : Int) then vs else elemAt d ups r) _
        rw [hC', hd]
        by_cases hrq : r = q
        · subst hrq
          rw [if_pos hq1.symm]
          have hn : m % 8 = vs'.length := by rw [← hv.length, hlen]
          have := splice_in (C := C.toList) (vs := vs') (p := pl.base + r * (m % 8)) hfit'
          rw [← hn] at this ⊢
          rw [this]; exact hv
        · rw [if_neg (by rw [← hq1]; omega)]
          have h5 := h4 r hr'
          rw [hd] at h5
          have : ((C.toList.take (pl.base + q * (m % 8)) ++ vs' ++ C.toList.drop (pl.base + q * (m % 8) + vs'.length)).drop (pl.base + r * (m % 8))).take (m % 8) = (C.toList.drop (pl.base + r * (m % 8))).take (m % 8) := by
            apply List.ext_getElem?
            intro j
            rw [List.getElem?_take, List.getElem?_take, List.getElem?_drop, List.getElem?_drop]
            by_cases hj : j < m % 8
            · rw [if_pos hj, if_pos hj]
              refine splice_out hfit' ?_
              rw [← hv.length, hlen]
              rcases Nat.lt_or_ge r q with hl | hl
              · left
                have : (r + 1) * (m % 8) ≤ q * (m % 8) := Nat.mul_le_mul_right _ hl
                rw [Nat.add_mul] at this
                omega
              · right
                have : (q + 1) * (m % 8) ≤ r * (m % 8) := Nat.mul_le_mul_right _ (by omega)
                rw [Nat.add_mul] at this
                omega
            · rw [if_neg hj, if_neg hj]
          rw [this]; exact h5
    · cases h
omit [Toks] in
noncomputable def stX [Orc] (a v : Value) (s : S) : Option S := match a with
  | .complex .f64 id m => (match v with | .agg ⟨l⟩ => stXL id m l s | v => stXL id m [v] s)
  | _ => none
theorem os_stX {t n : Nat} {a x : Operand} {va vx : Value} (ho : o.op = .store t a x) (hc : chkSz P t (match vx with | .agg c => c.size | _ => 1) = true) (ha : opv P kn a = some va) (hx : opv P kn x = some vx) : OS0 P o kn s (stX va vx s) := by
  intro ρ act w s' hw ht hh
  obtain ⟨i, hi, hsz⟩ := chkSz_spec hc
  have h1 := opv_eval hw ht ha
  have h2 := opv_eval hw ht hx
  unfold stX at hh
  split at hh
  · rename_i id m
    generalize hq : act.eval a = q at *
    generalize hp : act.eval x = p at *
    cases h1 with
    | sp _ _ j pl e1 e2 =>
      split at hh
      · rename_i l
        cases h2 with
        | agg l l' hl =>
          obtain ⟨w', hr, hs⟩ := stXL_run hw hh hl e1 e2
          refine ⟨ρ, w', .skip, ?_, .inl rfl, hs⟩
          have hcs : l'.length = i.size := by rw [hsz, ← hl.length]; rfl
          simp [execOp, ho, hq, hp, Instr.storeAt, Instr.sureAddr, storeVar, sizeOf, typeInfo, hi, Value.cells, hcs, hr]
      · rename_i v hna
        obtain ⟨w', hr, hs⟩ := stXL_run hw hh (.cons _ _ _ _ h2 .nil) e1 e2
        refine ⟨ρ, w', .skip, ?_, .inl rfl, hs⟩
        have h1c : oneC vx = true := by
          unfold stXL at hh
          cases hb : (s.own id && Nat.beq [vx].length (m % 8) && [vx].all oneC) with
          | false => rw [hb] at hh; cases hh
          | true =>
            simp only [Bool.and_eq_true, List.all_cons, List.all_nil, Bool.and_true] at hb
            exact hb.2
        have hcs := cells_one ((oneC_eq h2).trans h1c)
        have hsz' : i.size = 1 := by
          rw [hsz]
          cases vx <;> first | rfl | exact (hna _ rfl).elim
        simp [execOp, ho, hq, hp, Instr.storeAt, Instr.sureAddr, storeVar, sizeOf, typeInfo, hi, hsz', hcs, hr]
  · cases hh
/-! ### The very value that stands everywhere, written once more: nothing changes, whoever the row belongs to -/
omit [Toks] in
def intsEq : List Value → List Value → Bool
  | [], [] => true
  | .int k x :: l, .int k' y :: m => decide (k = k') && decide (x = y) && intsEq l m
  | _, _ => false
theorem intsEq_spec : ∀ {l m : List Value}, intsEq l m = true → l = m ∧ m.all (flat 0) = true ∧ l.all oneC = true := by
  intro l
  induction l with
  | nil => intro m h; cases m with
    | nil => exact ⟨rfl, rfl, rfl⟩
    | cons a m => simp [intsEq] at h
  | cons u l ih =>
    intro m h
    unfold intsEq at h
    split at h
    · exact absurd ‹u :: l = []› (by simp)
    · rename_i k x l' k' y m' h0
      cases h0
      simp only [Bool.and_eq_true, decide_eq_true_eq] at h
      obtain ⟨⟨rfl, rfl⟩, h3⟩ := h
      obtain ⟨rfl, g2, g3⟩ := ih h3
      exact ⟨rfl, by simpa [flat] using g2, by simpa [oneC] using g3⟩
    · cases h
omit [Toks] in
noncomputable def stYL [Orc] (id m : Nat) (vs : List Value) (s : S) : Option S := match s.get id with
  | some (.pending ⟨[.float .f64 k, .tuple ⟨d⟩]⟩ e) => bif inside (m / 8) k && Nat.beq d.length (m % 8) && intsEq vs d then some s else none
  | _ => none
theorem stYL_run {ρ : Ren} {w : World} (hw : WR P ρ s w) {id m i : Nat} {vs vs' : List Value} {s' : S} (h : stYL id m vs s = some s') (hv : LR ρ vs vs') {pl : Pl} (hp : ρ id = some pl) (hi : (i : Int) = ρ.tok (m / 8)) :
    (vs.length = m % 8 ∧ vs.all oneC = true) ∧ ∃ w', (storeCells ⟨pl.block, pl.base + i * (m % 8), none⟩ vs').run P w = .ok () w' ∧ Stp P ρ s w ρ s' w' := by
  unfold stYL at h
  split at h
  · rename_i k d e hg
    cases hb : (inside (m / 8) k && Nat.beq d.length (m % 8) && intsEq vs d) with
    | false => rw [hb] at h; cases h
    | true =>
      rw [hb, cond_true] at h
      cases h
      simp only [Bool.and_eq_true] at hb
      have hd := Nat.eq_of_beq_eq_true hb.1.2
      obtain ⟨rfl, hfl, hone⟩ := intsEq_spec hb.2
      obtain ⟨q, hq1, hq2⟩ := inside_spec hb.1.1
      have hqi : q = i := by
        have : (q : Int) = (i : Int) := hq1.trans hi.symm
        omega
      subst hqi
      obtain ⟨pl', hp', N, C, e', h1, h2, h3, h4⟩ := hw.obj _ _ hg
      rw [hp] at hp'; cases hp'
      have hlt := hq2 N h1
      have hmul : (q + 1) * (m % 8) ≤ N * (m % 8) := Nat.mul_le_mul_right _ hlt
      rw [Nat.add_mul] at hmul
      rw [hd] at h3
      have hvs : vs' = vs := flat_eq_LR (fun a b => flat_eq 0 a b) hv hfl
      subst hvs
      have hcell : ((C.toList.drop (pl.base + q * (m % 8))).take (m % 8)) = vs' := by
        have h5 := h4 q hlt
        rw [hd] at h5
        exact flat_eq_LR (fun a b => flat_eq 0 a b) h5 hfl
      have hfit : pl.base + q * (m % 8) + vs'.length ≤ C.size := by rw [hd]; omega
      obtain ⟨w', C', hr, hone', hC'⟩ := run_storeCells (P := P) vs' 0 w C h2 (o := pl.base + q * (m % 8)) (by rw [Nat.add_zero]; exact hfit) hone
      rw [Nat.add_zero] at hC'
      have hCC : C' = C := by
        apply Array.ext'
        rw [hC']
        have hsplit : C.toList.drop (pl.base + q * (m % 8)) = vs' ++ C.toList.drop (pl.base + q * (m % 8) + vs'.length) := by
          conv => lhs; rw [← List.take_append_drop (m % 8) (C.toList.drop (pl.base + q * (m % 8)))]
          rw [hcell, List.drop_drop, hd]
        rw [List.append_assoc, ← hsplit, List.take_append_drop]
      subst hCC
      have hall : ∀ b, w'.heap[b]? = w.heap[b]? := fun b => by
        by_cases hbb : b = pl.block
        · subst hbb
          rw [hone'.here, h2]
          -- the block's type stays
        · exact hone'.there b hbb
      refine ⟨⟨hd, hone⟩, w', hr, ?_⟩
      exact ⟨hw.world fun _ _ _ _ _ => hall _, fun _ h => h, rfl, rfl, rfl, Ext.refl ρ, fun _ => .inl rfl, fun _ h => absurd rfl h, fun id o pl e1 e2 _ => ⟨id, o, pl, e1, e2, rfl, fun h => absurd rfl h⟩, hone'.tape, hone'.os, hone'.output, Nat.le_of_eq hone'.size.symm, fun b _ _ => hall b⟩
  · cases h
omit [Toks] in
noncomputable def stY [Orc] (a v : Value) (s : S) : Option S := match a with
  | .complex .f64 id m => stYL id m [v] s
  | _ => none
theorem os_stY {t : Nat} {a x : Operand} {va vx : Value} (ho : o.op = .store t a x) (hc : chkSz P t 1 = true) (ha : opv P kn a = some va) (hx : opv P kn x = some vx) : OS0 P o kn s (stY va vx s) := by
  intro ρ act w s' hw ht hh
  obtain ⟨i, hi, hsz⟩ := chkSz_spec hc
  have h1 := opv_eval hw ht ha
  have h2 := opv_eval hw ht hx
  unfold stY at hh
  split at hh
  · rename_i id m
    generalize hq : act.eval a = q at *
    generalize hp : act.eval x = p at *
    cases h1 with
    | sp _ _ j pl e1 e2 =>
      obtain ⟨⟨g1, g2⟩, w', hr, hs⟩ := stYL_run hw hh (.cons _ _ _ _ h2 .nil) e1 e2
      refine ⟨ρ, w', .skip, ?_, .inl rfl, hs⟩
      have h1c : oneC vx = true := by simpa using g2
      have hcs := cells_one ((oneC_eq h2).trans h1c)
      simp [execOp, ho, hq, hp, Instr.storeAt, Instr.sureAddr, storeVar, sizeOf, typeInfo, hi, hsz, hcs, hr]
  · cases hh
theorem zer_at (z : List Value) : ∀ (n i : Nat), i < n → ((zer z n).drop (i * z.length)).take z.length = z := by
  intro n
  induction n with
  | zero => intro i h; omega
  | succ n ih =>
    intro i h
    simp only [zer]
    cases i with
    | zero => simp
    | succ i =>
      have : (i + 1) * z.length = z.length + i * z.length := by rw [Nat.add_mul]; omega
      rw [this, ← List.drop_drop, List.drop_left]
      exact ih i (by omega)
omit [Toks] in
noncomputable def mkX [Orc] (z : List Value) (by_ : Nat) (e : TypeId) (l c : Value) (s : S) : R := match l, c with
  | .float .f64 k, .float .f64 k' => bif Nat.beq k k' && yes (Orc.op .geq (.float .f64 k) (.int .i64 0)) && yes (Orc.op .leq (.float .f64 k) (.int .i64 65536)) && Nat.ble by_ 1024 then
      some (.complex .f32 s.nx k, s.new (.pending ⟨[.float .f64 k, .tuple ⟨z⟩]⟩ e)) else none
  | _, _ => none
theorem os_mkX {t e n by_ : Nat} {z : List Value} {l c : Operand} {vl vc : Value} (ho : o.op = .makeSlice t l c) (ht : RowT P t e n by_ z) (hl : opv P kn l = some vl) (hc : opv P kn c = some vc) : OS P o kn s (mkX z by_ e vl vc s) := by
  intro ρ act w v s' hw htm hh
  have h1 := opv_eval hw htm hl
  have h2 := opv_eval hw htm hc
  obtain ⟨i, zv, hi, hz, hsz, hby, hzc⟩ := ht.info
  unfold mkX at hh
  split at hh
  · rename_i k k'
    cases hq : (Nat.beq k k' && yes (Orc.op .geq (.float .f64 k) (.int .i64 0)) && yes (Orc.op .leq (.float .f64 k) (.int .i64 65536)) && Nat.ble by_ 1024) with
    | false => rw [hq] at hh; cases hh
    | true =>
      rw [hq, cond_true] at hh
      simp only [Bool.and_eq_true] at hq
      obtain ⟨⟨⟨q1, q2⟩, q3⟩, q4⟩ := hq
      have q1 := Nat.eq_of_beq_eq_true q1
      subst q1
      have q2 := geq_yes q2
      have q3 := leq_yes q3
      have q4 := ble_le q4
      cases hh
      generalize hl' : act.eval l = el at *
      generalize hc' : act.eval c = ec at *
      cases h1; cases h2
      obtain ⟨N, hN⟩ : ∃ N : Nat, (N : Int) = Toks.tok k := ⟨(Toks.tok k).toNat, by omega⟩
      have hNk : ρ.tok k = (N : Int) := hN.symm
      have hN6 : N ≤ 65536 := by omega
      have hb : (i.bytes : Int) * (N : Int) ≤ 281474976710656 := by
        rw [hby, ← Int.natCast_mul]
        have : by_ * N ≤ 1024 * 65536 := Nat.mul_le_mul q4 hN6
        omega
      have hr := run_make (P := P) w t e i zv ht.und hi hz .i64 .i64 (N : Int) (N : Int) (by omega) (by omega) hb (by omega)
      have hm : (madeCells zv.cells ((N : Int).toNat * i.size)).toList = zer z N := by
        rw [zer_rep, Int.toNat_natCast, hsz, ← ht.len, ← range_rep z N (by rw [ht.len]; exact ht.n0)]
        have : zv.cells = z.toArray := Array.ext' (by simpa using hzc)
        rw [this]; rfl
      have hm' : madeCells zv.cells ((N : Int).toNat * i.size) = (zer z N).toArray := Array.ext' (by simpa using hm)
      rw [hm'] at hr
      have hst := Stp.make (P := P) hw (.pending ⟨[.float .f64 k, .tuple ⟨z⟩]⟩ e) (.cells (zer z N).toArray e (0, 0)) none fun ρ' hx => (by
        show SymR ρ' _ _ [.float .f64 k, .tuple ⟨z⟩]
        refine ⟨N, (zer z N).toArray, e, hN, by simp, ?_, fun q hq => ?_⟩
        · show 0 + N * z.length ≤ (zer z N).toArray.size
          rw [List.size_toArray, zer_length]; omega
        · show LR ρ' z (((zer z N).drop (0 + q * z.length)).take z.length)
          rw [Nat.zero_add, zer_at z N q hq]
          exact cl_LR (fun v hv => cl_VR 3 v hv) _ ht.clz)
      refine ⟨_, .slice (some ⟨w.heap.size, 0, none⟩) N N, _, .value _, ?_, .inl rfl, ?_, hst⟩
      · simp only [execOp, ho, hl', hc', Sem.run_bind, hNk]
        simp only [Int.toNat_natCast] at hr
        rw [hr]
        rfl
      · exact VR.sls s.nx k N N _ (upd_self ρ s.nx ⟨w.heap.size, 0, none⟩) hN
  · cases hh
end
end Go.Eng
