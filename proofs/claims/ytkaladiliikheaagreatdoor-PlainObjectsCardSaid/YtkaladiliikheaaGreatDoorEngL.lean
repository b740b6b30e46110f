/- The engine, part L: new rows of zeros, copies. -/
import Derived.Test.YtkaladiliikheaaGreatDoorEngK
set_option linter.unusedVariables false
set_option linter.unusedSectionVars false
set_option linter.unusedSimpArgs false
namespace Go.Eng
open Go
variable [Toks]

section
variable {P : Program} {o : Oper} {kn : KN} {s : S}

theorem zer_rep (z : List Value) : ∀ n, zer z n = (rep n z).flatten := by
  intro n
  induction n with
  | zero => rfl
  | succ n ih => simp [zer, rep, ih]
theorem zer_length (z : List Value) (n : Nat) : (zer z n).length = n * z.length := by rw [zer_rep, rep_flatten]
theorem zer_cl (z : List Value) (h : z.all (cl 3) = true) : ∀ n, (zer z n).all (cl 3) = true := by
  intro n
  induction n with
  | zero => rfl
  | succ n ih => simp only [zer, List.all_append, h, ih, Bool.and_self]
theorem zer_LR {ρ : Ren} (z : List Value) (h : z.all (cl 3) = true) (n : Nat) : LR ρ (zer z n) (zer z n) := cl_LR (fun v hv => cl_VR 3 v hv) _ (zer_cl z h n)

theorem os_mkZ {t e n by_ : Nat} {z : List Value} {l c : Operand} {vl vc : Value} (ho : o.op = .makeSlice t l c) (ht : RowT P t e n by_ z) (hl : opv P kn l = some vl) (hc : opv P kn c = some vc) : OS P o kn s (mkZ z by_ e vl vc s) := by
  intro ρ act w v s' hw htm hh
  have h1 := opv_eval hw htm hl
  have h2 := opv_eval hw htm hc
  obtain ⟨i, zv, hi, hz, hsz, hby, hzc⟩ := ht.info
  unfold mkZ at hh
  split at hh
  · rename_i kl l0 kc c0
    cases hq : (Nat.ble l0 c0 && Nat.ble (c0 * by_) room && Nat.ble c0 room) with
    | false => rw [hq] at hh; cases hh
    | true =>
      rw [hq, cond_true] at hh
      simp only [Bool.and_eq_true] at hq
      have q1 := Nat.le_of_ble_eq_true hq.1.1
      have q2 := Nat.le_of_ble_eq_true hq.1.2
      have q3 := Nat.le_of_ble_eq_true hq.2
      obtain ⟨a1, rfl, rfl⟩ := newS_spec hh
      generalize hl' : act.eval l = el at *
      generalize hc' : act.eval c = ec at *
      cases h1; cases h2
      have hb : (i.bytes : Int) * (c0 : Int) ≤ 281474976710656 := by
        rw [hby, ← Int.natCast_mul, Nat.mul_comm]
        unfold room at q2; omega
      have hr := run_make (P := P) w t e i zv ht.und hi hz kl kc (l0 : Int) (c0 : Int) (by omega) (by omega) hb (by unfold room at q3; omega)
      have hm : (madeCells zv.cells ((c0 : Int).toNat * i.size)).toList = zer z c0 := by
        rw [zer_rep, Int.toNat_natCast, hsz, ← ht.len, ← range_rep z c0 (by rw [ht.len]; exact ht.n0)]
        have : zv.cells = z.toArray := Array.ext' (by simpa using hzc)
        rw [this]; rfl
      have hm' : madeCells zv.cells ((c0 : Int).toNat * i.size) = (zer z c0).toArray := Array.ext' (by simpa using hm)
      rw [hm'] at hr
      have hst := step_new (P := P) hw (e := e) (e' := e) (zer_LR z ht.clz c0) (some (zer z c0).length) (fun L h => by cases h; rfl)
      have hz0 : 0 < z.length := by rw [ht.len]; exact ht.n0
      refine ⟨_, .slice (some ⟨w.heap.size, 0, none⟩) l0 c0, _, .value _, ?_, .inl rfl, VR_new hz0 (by rw [ht.len]; exact ht.ng) q1 (zer_length z c0), hst⟩
      simp only [execOp, ho, hl', hc', Sem.run_bind]
      simp only [Int.toNat_natCast] at hr
      have hr' : (Instr.makeSlice t (.int kl (Int.ofNat l0)) (.int kc (Int.ofNat c0))).run P w = _ := hr
      rw [hr']
      rfl
  · cases hh

theorem os_cpS {t tx ty e n by_ : Nat} {z : List Value} {a x : Operand} {va vx : Value} (ho : o.op = .call ⟨.builtin .copy, #[a, x], #[t, tx]⟩) (ht : RowT P t e n by_ z) (ha : opv P kn a = some va) (hx : opv P kn x = some vx) : OS P o kn s (cpS n va vx s) := by
  intro ρ act w v s' hw htm hh
  have h1 := opv_eval hw htm ha
  have h2 := opv_eval hw htm hx
  obtain ⟨i, zv, hi, hz, hsz, hby, hzc⟩ := ht.info
  unfold cpS at hh
  split at hh
  · rename_i pd ld cd px lx cx
    have hcount : ∀ (p q : Option Addr) (c1 c2 : Nat), act.eval a = .slice p ld c1 → act.eval x = .slice q lx c2 → Nat.min lx ld = 0 →
        (execOp act.eval o).run P w = .ok (.value (.int .i64 0)) w := by
      intro p q c1 c2 e1 e2 h0
      have h0' : min lx ld = 0 := h0
      cases p <;> cases q <;> simp [execOp, ho, resolve, invoke, builtin, Builtin.copy_, e1, e2, underlying, ht.und, Builtin.lenOf, sizeOf, typeInfo, hi, Builtin.firstCells, h0', loadCells, loadCellsFrom, storeCells, goInt, Sem.run]
    split at hh
    · rename_i ad bd
      split at hh
      · rename_i l hl
        split at hh
        · rename_i s1 hst
          cases hh
          obtain ⟨p', c1, e1, q1⟩ := VR_any_len h1
          obtain ⟨p2, c2, e2, q2⟩ := VR_any_len h2
          by_cases h0 : Nat.min lx ld = 0
          · refine ⟨ρ, .int .i64 0, w, .value (.int .i64 0), hcount _ _ _ _ e1 e2 h0, .inl rfl, by rw [h0]; exact .int _ _, ?_⟩
            rw [h0, Nat.zero_mul] at hl
            have hl0 : l = [] := by
              unfold ldL at hl
              split at hl
              · obtain ⟨_, s2⟩ := sub_some hl; simpa using s2
              · cases hl
            subst hl0
            rw [e1] at h1
            cases h1 with
            | sl id off len c pl a' c' e1' g1 g2 g3 g4 =>
            obtain ⟨w', hr, hs⟩ := stL_run hw hst .nil e1'
            simp [storeCells] at hr
            have := hs
            rw [← hr] at this; exact this
          · generalize hq : act.eval a = q at *
            generalize hp : act.eval x = p at *
            have hlx : lx ≠ 0 := fun h => h0 (by rw [h]; exact Nat.zero_min _)
            have hld : ld ≠ 0 := fun h => h0 (by rw [h]; exact Nat.min_zero _)
            cases h1 with
            | sl id off len c pl a' c' e1' g1 g2 g3 g4 =>
            cases h2 with
            | sl id' off' len' c'' pl' a'' c3 e2' k1 k2 k3 k4 =>
            have ea := g3 (fun h => hld (Nat.le_zero.1 (h ▸ g1)))
            have eb := k3 (fun h => hlx (Nat.le_zero.1 (h ▸ k1)))
            subst ea eb
            obtain ⟨l', hr, hll⟩ := ldL_run hw hl e2'
            obtain ⟨w', hrs, hs⟩ := stL_run hw hst hll e1'
            refine ⟨ρ, .int .i64 (Nat.min lx ld : Nat), w', .value (.int .i64 (Nat.min lx ld : Nat)), ?_, .inl rfl, .int _ _, hs⟩
            have hm : Nat.min lx ld = min lx ld := rfl
            rw [hm] at *
            rw [hsz.symm] at hr
            simp [execOp, ho, resolve, invoke, builtin, Builtin.copy_, hq, hp, underlying, ht.und, Builtin.lenOf, sizeOf, typeInfo, hi, Builtin.firstCells, hr, hrs, goInt, hm]
        · cases hh
      · cases hh
    · cases h0 : Nat.beq (Nat.min lx ld) 0 with
      | false => rw [h0] at hh; cases hh
      | true =>
        rw [h0, cond_true] at hh
        cases hh
        obtain ⟨p', c1, e1, q1⟩ := VR_any_len h1
        obtain ⟨p2, c2, e2, q2⟩ := VR_any_len h2
        exact ⟨ρ, .int .i64 0, w, .value (.int .i64 0), hcount _ _ _ _ e1 e2 (Nat.eq_of_beq_eq_true h0), .inl rfl, .int _ _, Stp.refl hw⟩
  · cases hh
theorem App.zeros {t tx ty e : TypeId} {i : TypeInfo} {zv : Value} {k : Nat} {kx kt : IntKind} {w : World} (ht : P.underlying t = some (.slice e)) (hi : P.info? e = some i) (hz : i.zero = some zv)
    (hk : P.underlying tx = some (.int kt)) (hs0 : 0 < i.size) (hzs : zv.cells.size = i.size) (hb0 : 0 < i.bytes) (hb : k * i.bytes ≤ 140737488355328) :
    App P t tx ty e i zv (.int kx (k : Int)) k (Builtin.zeroCells zv.cells k).toList w := by
  have hkb : k ≤ k * i.bytes := Nat.le_mul_of_pos_right k hb0
  have hw : IntKind.i64.wrap (k : Int) = (k : Int) := by rw [IntKind.wrap_i64]; omega
  have hw0 : IntKind.i64.wrap 0 = 0 := by rw [IntKind.wrap_i64]; rfl
  have hneg : ¬ ((k : Int) < 0) := by omega
  have hbig : ¬ (281474976710656 < (k : Int) * (i.bytes : Int)) := by rw [← Int.natCast_mul]; omega
  have hsn : i.size ≠ 0 := by omega
  obtain ⟨news, hnews⟩ : ∃ news, news = (Builtin.zeroCells zv.cells k).toList := ⟨_, rfl⟩
  rw [← hnews]
  have hl : news.length = k * i.size := by rw [hnews, Array.length_toList, size_zeroCells, hzs]
  have hna : Builtin.zeroCells zv.cells k = news.toArray := by rw [hnews]
  refine ⟨hl, ?_, ?_, ?_⟩
  · rintro rfl base sLen sCap hle
    cases base <;> simp [Builtin.append_, run_underlying ht, run_underlying hk, sizeOf, typeInfo, hi, asInt, asIntOf, hw0, hle, storeCells]
  · intro h1 b off sLen sCap hroom hcell hfr
    have hst := run_storeCells_cells (P := P) b (off + sLen * i.size) news 0 w (by simpa using hcell) (by simpa using hfr) (fun u hu => (oneC_eq' u).trans (List.all_eq_true.1 h1 u hu))
    simp only [Nat.add_zero] at hst
    by_cases hm : k = 0
    · subst hm
      have hnl : news = [] := List.eq_nil_of_length_eq_zero (by rw [hl, Nat.zero_mul])
      rw [hnl] at hst ⊢
      simp only [Nat.add_zero] at hroom
      simp [Builtin.append_, run_underlying ht, run_underlying hk, sizeOf, typeInfo, hi, asInt, asIntOf, hw0, hroom, Addr.add_lit, hst]
    · have hmz : ¬ (k * i.size = 0) := Nat.mul_ne_zero hm hsn
      simp [Builtin.append_, run_underlying ht, run_underlying hk, sizeOf, typeInfo, zeroValue, hi, hz, asInt, asIntOf, hw, hneg, hbig, hroom, hmz, hna, Addr.add_lit, hst]
  · intro base sLen sCap olds hold hg h0 hbb h63
    have hm : k ≠ 0 := by omega
    have hmz : ¬ (k * i.size = 0) := Nat.mul_ne_zero hm hsn
    have hn' : ¬ (sLen + k ≤ sCap) := by omega
    have h63' : ¬ (9223372036854775807 < ((sLen : Int) + (k : Int))) := by omega
    have hfit := growslice_fits hg hbb
    have h48' : ¬ (281474976710656 < Builtin.nextslicecap (sLen + k) sCap * i.bytes) := by omega
    simp [Builtin.append_, run_underlying ht, run_underlying hk, sizeOf, typeInfo, zeroValue, hi, hz, asInt, asIntOf, hw, hneg, hbig, hn', h63', h48', Question.forced, hold, newRow, grownCap, hmz, hna]
    congr 2
    apply Array.ext'
    simp [List.append_assoc]
theorem os_apZ {t tx e n by_ : Nat} {kt : IntKind} {z : List Value} {a x : Operand} {va vx : Value} (ho : o.op = .call ⟨.builtin .append, #[a, x], #[t, tx]⟩) (ht : RowT P t e n by_ z) (htx : P.underlying tx = some (.int kt))
    (ha : opv P kn a = some va) (hx : opv P kn x = some vx) : OS P o kn s (apZ z by_ e va vx s) := by
  intro ρ act w v s' hw htm hh
  have h1 := opv_eval hw htm ha
  have h2 := opv_eval hw htm hx
  obtain ⟨i, zv, hi, hz, hsz, hby, hzc⟩ := ht.info
  unfold apZ at hh
  split at hh
  · rename_i kx k
    cases hq : (Nat.ble (k * by_) room && Nat.ble k room) with
    | false => rw [hq] at hh; cases hh
    | true =>
      rw [hq, cond_true] at hh
      simp only [Bool.and_eq_true] at hq
      have q1 := Nat.le_of_ble_eq_true hq.1
      have hzs : zv.cells.size = i.size := by rw [← Array.length_toList, hzc, hsz]; exact ht.len
      have hzn : z.length = n := ht.len
      generalize hx' : act.eval x = ex at *
      cases h2
      have app := App.zeros (P := P) (t := t) (tx := tx) (ty := o.type) (k := k) (kx := kx) (w := w) ht.und hi hz htx (by rw [hsz]; exact ht.n0) hzs (by rw [hby]; exact ht.b0) (by rw [hby]; exact q1)
      have hcells : (Builtin.zeroCells zv.cells k).toList = zer z k := by
        rw [zer_rep, ← range_rep z k (by rw [hzn]; exact ht.n0)]
        have e1 : zv.cells = z.toArray := Array.ext' (by simpa using hzc)
        unfold Builtin.zeroCells
        rw [e1]; simp
      rw [hcells] at app
      obtain ⟨ρ', r', w', hr, hv, hst⟩ := grow_run hw hz (hsz.trans hzn.symm) hby (by rw [hzn]; exact ht.n0) (by rw [hzn]; exact ht.ng) ht.b0 app (zer_LR z ht.clz k) h1 (by rw [hzs, hsz, hzn]) hh
      refine ⟨ρ', r', w', .value r', ?_, .inl rfl, hv, hst⟩
      have hr' : (Builtin.append_ #[t, tx] o.type #[act.eval a, .int kx (Int.ofNat k)]).run P w = _ := hr
      simp only [execOp, ho, resolve, invoke, builtin, List.map_toArray, List.map_cons, List.map_nil, hx', Sem.run_bind, Sem.run_pure, Result.andThen_ok, hr']
  · cases hh
theorem os_clr {t : Nat} {e : TypeId} {a : Operand} {va : Value} (ho : o.op = .call ⟨.builtin .clear, #[a], #[t]⟩) (ht : P.underlying t = some (.slice e)) (ha : opv P kn a = some va) : OS0 P o kn s (clr va s) := by
  intro ρ act w s' hw htm hh
  have h1 := opv_eval hw htm ha
  unfold clr at hh
  split at hh
  · cases hh
    obtain ⟨p', c1, e1, q1⟩ := VR_any_len h1
    refine ⟨ρ, w, .value (.tuple #[]), ?_, .inr ⟨_, rfl⟩, Stp.refl hw⟩
    cases p' <;> simp [execOp, ho, resolve, invoke, builtin, Builtin.clear_, e1, underlying, ht, Sem.run]
  · cases hh
end
end Go.Eng
