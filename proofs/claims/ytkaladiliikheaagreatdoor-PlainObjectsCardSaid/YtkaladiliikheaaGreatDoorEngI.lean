/- The engine, part I: operations that change the state: new variables and slices, stores. -/
import Derived.Test.YtkaladiliikheaaGreatDoorEngH
import Derived.Great.BuildSlice
set_option linter.unusedVariables false
set_option linter.unusedSectionVars false
set_option linter.unusedSimpArgs false
namespace Go.Eng
open Go
variable [Toks]

/-- What an operation hands on. -/
def Fits (n : Next) (v : Value) : Prop := n = .value v ∨ (n = .skip ∧ v = undef)

/-- An operation that may change the state, and calls nothing. -/
def OS (P : Program) (o : Oper) (kn : KN) (s : S) (x : R) : Prop :=
  ∀ (ρ : Ren) (act : Act) (w : World) (v : Value) (s' : S), WR P ρ s w → TM ρ kn act.tmps → x = some (v, s') →
    ∃ (ρ' : Ren) (v' : Value) (w' : World) (n : Next), (execOp act.eval o).run P w = .ok n w' ∧ Fits n v' ∧ VR ρ' v v' ∧ Stp P ρ s w ρ' s' w'

/-- An operation, whatever it is: what goes on behind it goes on. -/
def OJ (P : Program) (o : Oper) (kn : KN) (s : S) (x : R) : Prop :=
  ∀ (ρ : Ren) (act : Act) (w : World) (v : Value) (s' : S) (K : Act → World → Prop) (Q : Exit → Act → World → Prop), WR P ρ s w → TM ρ kn act.tmps → x = some (v, s') →
    (∀ ρ' v' w', Stp P ρ s w ρ' s' w' → VR ρ' v v' → K (act.put o.dst v') w') → o.wp P act w K Q

section
variable {P : Program} {o : Oper} {kn : KN} {s : S}

theorem OJ.ofV {x : Option Value} (h : OV P o kn s x) : OJ P o kn s (x.map fun v => (v, s)) := by
  intro ρ act w v s' K Q hw ht hx hK
  rw [Option.map_eq_some_iff] at hx
  obtain ⟨u, hu, he⟩ := hx
  cases he
  obtain ⟨v', hr, hv⟩ := h ρ act w v hw ht hu
  unfold Oper.wp
  rw [hr]
  exact hK ρ v' w (Stp.refl hw) hv
theorem OJ.ofS {x : R} (h : OS P o kn s x) : OJ P o kn s x := by
  intro ρ act w v s' K Q hw ht hx hK
  obtain ⟨ρ', v', w', n, hr, hf, hv, hs⟩ := h ρ act w v s' hw ht hx
  unfold Oper.wp
  rw [hr]
  rcases hf with rfl | ⟨rfl, rfl⟩
  · exact hK ρ' v' w' hs hv
  · exact hK ρ' _ w' hs hv

theorem Lies.of_LR {ρ : Ren} {l l' : List Value} (h : LR ρ l l') : Lies ρ 0 l l' := fun i v e => by
  obtain ⟨v', e', hv⟩ := h.at i v e
  exact ⟨v', by simpa using e', hv⟩
/-- A new block of cells. -/
theorem step_new {ρ : Ren} {w : World} (hw : WR P ρ s w) {cs cs' : List Value} {e e' : TypeId} (h : LR ρ cs cs') (lim : Option Nat) (hlim : ∀ L, lim = some L → L = cs.length) :
    Stp P ρ s w (upd ρ s.nx ⟨w.heap.size, 0, lim⟩) (s.new (.cells cs.toArray e (0, 0))) { w with heap := w.heap.push (.cells cs'.toArray e' (0, 0)) } := by
  refine Stp.make hw _ _ lim fun ρ' hx => ⟨cs'.toArray, e', (0, 0), by simp, fun _ => rfl, ?_, fun L hL => ?_⟩
  · exact (Lies.of_LR (h.mono hx))
  · have := hlim L hL
    have h2 := h.length
    simp; omega
theorem upd_self (ρ : Ren) (id : Nat) (pl : Pl) : (upd ρ id pl) id = some pl := by simp [upd]

def ZeroAt (P : Program) (t : TypeId) (cs : List Value) : Prop := (∃ i z, P.info? t = some i ∧ i.zero = some z ∧ z.cells.toList = cs) ∧ cs.all (cl 3) = true
theorem os_al {t : Nat} {cs : List Value} (ho : o.op = .alloc t) (hz : ZeroAt P t cs) : OS P o kn s (al cs t s) := by
  intro ρ act w v s' hw ht hx
  obtain ⟨⟨i, z, hi, hzz, hcs⟩, hcl⟩ := hz
  unfold al at hx
  cases h1 : cs.all oneC with
  | false => rw [h1] at hx; cases hx
  | true =>
    rw [h1, cond_true] at hx
    cases hx
    have hs : LR ρ cs cs := cl_LR (fun v hv => cl_VR 3 v hv) cs hcl
    have hst := step_new (P := P) hw (e := t) (e' := t) hs none (fun L h => by cases h)
    refine ⟨_, .pointer (some ⟨w.heap.size, 0, none⟩), _, .value _, ?_, .inl rfl, ?_, hst⟩
    · have : z.cells = cs.toArray := Array.ext' (by simpa using hcs)
      simp [execOp, ho, Instr.alloc, zeroValue, typeInfo, hi, hzz, newVar, newRow, newObj, Sem.run, this]
    · have := VR.ptr (ρ := upd ρ s.nx ⟨w.heap.size, 0, none⟩) s.nx 0 _ (upd_self ρ s.nx ⟨w.heap.size, 0, none⟩)
      simpa using this
theorem os_box {t : Nat} {x : Operand} {vx : Value} (ho : o.op = .box t x) (hx : opv P kn x = some vx) (h1 : oneC vx = true) : OS P o kn s (al [vx] t s) := by
  intro ρ act w v s' hw ht hh
  have hv := opv_eval hw ht hx
  unfold al at hh
  simp only [List.all_cons, h1, List.all_nil, Bool.and_self, cond_true] at hh
  cases hh
  have hst := step_new (P := P) hw (e := t) (e' := t) (LR.cons _ _ _ _ hv .nil) none (fun L h => by cases h)
  refine ⟨_, .pointer (some ⟨w.heap.size, 0, none⟩), _, .value _, ?_, .inl rfl, ?_, hst⟩
  · have h2 : (act.eval x).cells = #[act.eval x] := by
      have h3 : oneC (act.eval x) = true := by rw [oneC_eq hv]; exact h1
      revert h3; generalize act.eval x = q; intro h3
      cases q <;> first | rfl | (simp [oneC] at h3; done)
    simp [execOp, ho, Instr.box, newVar, newRow, newObj, Sem.run, h2]
  · have := VR.ptr (ρ := upd ρ s.nx ⟨w.heap.size, 0, none⟩) s.nx 0 _ (upd_self ρ s.nx ⟨w.heap.size, 0, none⟩)
    simpa using this
theorem os_box1 {t : Nat} {x : Operand} {vx : Value} (ho : o.op = .box t x) (hx : opv P kn x = some vx) : OS P o kn s (al [vx] t s) := by
  cases h1 : oneC vx with
  | true => exact os_box ho hx h1
  | false =>
    intro ρ act w v s' hw ht hh
    unfold al at hh
    simp only [List.all_cons, h1, Bool.false_and, cond_false] at hh
    cases hh
theorem os_boxA {t n : Nat} {x : Operand} {vx : Value} (ho : o.op = .box t x) (hx : opv P kn x = some vx) : OS P o kn s (alA n vx t s) := by
  intro ρ act w v s' hw ht hh
  have hv := opv_eval hw ht hx
  unfold alA at hh
  split at hh
  · rename_i c
    cases hb : Nat.beq c.size n with
    | false => rw [hb] at hh; cases hh
    | true =>
      rw [hb, cond_true] at hh
      unfold al at hh
      cases h1 : c.toList.all oneC with
      | false => rw [h1] at hh; cases hh
      | true =>
        rw [h1, cond_true] at hh
        cases hh
        generalize hq : act.eval x = q at *
        cases hv with
        | agg l l' hl =>
          have hst := step_new (P := P) hw (e := t) (e' := t) hl none (fun L h => by cases h)
          refine ⟨_, .pointer (some ⟨w.heap.size, 0, none⟩), _, .value _, ?_, .inl rfl, ?_, hst⟩
          · simp [execOp, ho, hq, Instr.box, newVar, newRow, newObj, Sem.run, Value.cells]
          · have := VR.ptr (ρ := upd ρ s.nx ⟨w.heap.size, 0, none⟩) s.nx 0 _ (upd_self ρ s.nx ⟨w.heap.size, 0, none⟩)
            simpa using this
  · cases hh

/-- A new slice over a new block. -/
theorem VR_new {ρ : Ren} {w : World} {n len c' : Nat} {cs : List Value} (hn : 0 < n) (hng : n < ng) (hlen : len ≤ c') (hc : cs.length = c' * n) :
    VR (upd ρ s.nx ⟨w.heap.size, 0, some cs.length⟩) (.slice (some ⟨s.nx, 0, none⟩) len (bif Nat.beq cs.length 0 then 0 else n)) (.slice (some ⟨w.heap.size, 0, none⟩) len c') := by
  refine .sl s.nx 0 len _ ⟨w.heap.size, 0, some cs.length⟩ _ c' (upd_self ..) hlen (fun h0 => ?_) (fun _ => by simp) (fun h0 _ => ⟨cs.length, rfl, ?_⟩)
  · cases hb : Nat.beq cs.length 0 with
    | true =>
      have h0' := Nat.eq_of_beq_eq_true hb
      rw [h0'] at hc
      rcases Nat.mul_eq_zero.1 hc.symm with h | h
      · exact h
      · omega
    | false => rw [hb, cond_false] at h0; omega
  · cases hb : Nat.beq cs.length 0 with
    | true => rw [hb, cond_true] at h0; exact absurd rfl h0
    | false => rw [cond_false, Nat.zero_add]; exact hc.symm

theorem rep_flatten (n : Nat) (z : List Value) : (rep n z).flatten.length = n * z.length := by
  induction n with
  | zero => simp [rep]
  | succ n ih => simp only [rep, List.flatten_cons, List.length_append, ih, Nat.add_mul]; omega
theorem rep_len (n : Nat) (z : List Value) : (rep n z).length = n := by
  induction n with
  | zero => rfl
  | succ n ih => simp [rep, ih]
theorem rep_at : ∀ (n : Nat) (z : List Value) (i : Nat), i < n → (rep n z)[i]? = some z ∧ ((rep n z).take i).flatten.length = i * z.length := by
  intro n
  induction n with
  | zero => intro z i h; omega
  | succ n ih =>
    intro z i h
    cases i with
    | zero => simp [rep]
    | succ i =>
      obtain ⟨h1, h2⟩ := ih z i (by omega)
      refine ⟨by simpa [rep] using h1, ?_⟩
      simp only [rep, List.take_succ_cons, List.flatten_cons, List.length_append, h2, Nat.add_mul]; omega
theorem rep_cl (n : Nat) (z : List Value) (h : z.all (cl 3) = true) : (rep n z).all (fun z => z.all (cl 3)) = true := by
  induction n with
  | zero => rfl
  | succ n ih => simp only [rep, List.all_cons, h, ih, Bool.and_self]
theorem bld_len : ∀ (ps : List (Nat × Value)) (zs : List (List Value)) (r : List Value), bld zs ps = some r → r.length = zs.flatten.length := by
  intro ps
  induction ps with
  | nil => intro zs r h; simp only [bld, Option.some.injEq] at h; subst h; rfl
  | cons p ps ih =>
    obtain ⟨i, v⟩ := p
    intro zs r h
    simp only [bld] at h
    split at h
    · rename_i z hz
      cases hb : (Nat.beq (cellsE v).length z.length && (cellsE v).all oneC) with
      | false => rw [hb] at h; cases h
      | true =>
        rw [hb, cond_true] at h
        simp only [Bool.and_eq_true] at hb
        have hlen := Nat.eq_of_beq_eq_true hb.1
        rw [ih _ _ h, flatten_set zs i z _ hz]
        have hi := (List.getElem?_eq_some_iff.1 hz).1
        have e : zs = zs.take i ++ z :: zs.drop (i + 1) := by
          have hz' : zs[i] = z := by rw [List.getElem?_eq_getElem hi] at hz; exact Option.some.inj hz
          rw [← hz', ← List.drop_eq_getElem_cons hi, List.take_append_drop]
        have : (zs.take i).flatten.length + z.length ≤ zs.flatten.length := by
          conv => rhs; rw [e]
          simp only [List.flatten_append, List.flatten_cons, List.length_append]; omega
        generalize (zs.take i).flatten.length = q at *
        simp only [List.length_append, List.length_take, List.length_drop]
        omega
    · cases h
theorem range_rep (z : List Value) (n : Nat) (hz : 0 < z.length) : ((Array.range (n * z.length)).map (z.toArray[· % z.toArray.size]!)).toList = (rep n z).flatten := by
  induction n with
  | zero => simp [rep]
  | succ n ih =>
    apply List.ext_getElem
    · rw [rep_flatten]; simp
    · intro i h1 h2
      simp only [Array.getElem_toList, Array.getElem_map, Array.getElem_range]
      have hlen : i < (n + 1) * z.length := by simpa using h1
      have hm : i % z.length < z.length := Nat.mod_lt _ hz
      have e1 : z.toArray[i % z.toArray.size]! = z[i % z.length] := by
        simp [hm]
      rw [e1]
      have key : ∀ (n i : Nat), i < n * z.length → (rep n z).flatten[i]? = some (z[i % z.length]'(Nat.mod_lt _ hz)) := by
        intro n
        induction n with
        | zero => intro i h; simp at h
        | succ n ih =>
          intro i h
          simp only [rep, List.flatten_cons]
          by_cases hi : i < z.length
          · rw [List.getElem?_append_left hi, List.getElem?_eq_getElem hi]
            congr 1; congr 1; exact (Nat.mod_eq_of_lt hi).symm
          · rw [List.getElem?_append_right (by omega)]
            rw [ih (i - z.length) (by rw [Nat.add_mul] at h; omega)]
            congr 1; congr 1
            rw [← Nat.mod_eq_sub_mod (by omega)]
      have := key (n + 1) i hlen
      rw [List.getElem?_eq_getElem h2] at this
      exact (Option.some.inj this).symm

def SliceZ (P : Program) (t e : TypeId) (z : List Value) : Prop := P.underlying t = some (.slice e) ∧ ∃ i zv, P.info? e = some i ∧ i.zero = some zv ∧ zv.cells.toList = z ∧ i.size = z.length ∧ 0 < z.length ∧ z.length < ng ∧ z.all (cl 3) = true
theorem newS_spec {n len : Nat} {cs : List Value} {e : TypeId} {v : Value} {s' : S} (h : newS n cs e len s = some (v, s')) : cs.all oneC = true ∧ v = .slice (some ⟨s.nx, 0, none⟩) len (bif Nat.beq cs.length 0 then 0 else n) ∧ s' = s.new (.cells cs.toArray e (0, 0)) := by
  unfold newS at h
  cases h1 : cs.all oneC with
  | false => rw [h1] at h; cases h
  | true => rw [h1, cond_true] at h; cases h; exact ⟨rfl, rfl, rfl⟩
theorem os_mkS {t e len : Nat} {z : List Value} {parts : Array (Nat × Operand)} {ps : List (Nat × Value)} (ho : o.op = .buildSlice t len parts) (hz : SliceZ P t e z) (hbig : len * z.length ≤ 16777216) (hp : opvs P kn parts.toList = some ps) :
    OS P o kn s (mkS z ps e len s) := by
  intro ρ act w v s' hw ht hh
  obtain ⟨hu, i, zv, hi, hzv, hzc, hsz, hpos, hng, hcl⟩ := hz
  unfold mkS at hh
  split at hh
  · rename_i cs hcs
    obtain ⟨h1, rfl, rfl⟩ := newS_spec hh
    obtain ⟨cs', hcs', hll⟩ := bld_LR (opvs_eval hw ht hp) (SR_self _ (rep_cl len z hcl)) hcs
    have hlen : cs.length = len * z.length := by rw [bld_len _ _ _ hcs, rep_flatten]
    have hst := step_new (P := P) hw (e := e) (e' := e) hll (some cs.length) (fun L h => by cases h; rfl)
    refine ⟨_, .slice (some ⟨w.heap.size, 0, none⟩) len len, _, .value _, ?_, .inl rfl, VR_new hpos hng (Nat.le_refl _) hlen, hst⟩
    have hzva : zv.cells = z.toArray := Array.ext' (by simpa using hzc)
    have hplace : ∀ j, j < (rep len z).length → (fun j => some (j * i.size, i.size)) j = placesOf (rep len z) j := by
      intro j hj
      rw [rep_len] at hj
      obtain ⟨a1, a2⟩ := rep_at len z j hj
      simp only [placesOf, a1, a2, hsz]
    by_cases h0 : len * i.size = 0
    · have hl0 : len = 0 := by
        rcases Nat.mul_eq_zero.1 h0 with h | h
        · exact h
        · omega
      subst hl0
      have hf := fill_bld (fun j => some (j * i.size, i.size)) _ (rep 0 z) cs' #[] (by simp [rep]) hplace hcs'
      obtain ⟨R, hR, hRl⟩ := hf
      have hR' : R = cs'.toArray := Array.ext' (by simpa using hRl)
      have hmap : (parts.map fun p => (p.1, act.eval p.2)).toList = parts.toList.map fun p => (p.1, act.eval p.2) := by simp
      simp [execOp, ho, Instr.buildSlice, underlying, hu, sizeOf, typeInfo, hi, show Array.range 0 = #[] from rfl, hR, hR', newRow, newObj, Sem.run]
    · have hC : ((Array.range (len * i.size)).map (zv.cells[· % zv.cells.size]!)).toList = (rep len z).flatten := by
        rw [hzva, hsz]; exact range_rep z len hpos
      obtain ⟨R, hR, hRl⟩ := fill_bld (fun j => some (j * i.size, i.size)) _ (rep len z) cs' _ hC hplace hcs'
      have hR' : R = cs'.toArray := Array.ext' (by simpa using hRl)
      have hrun := run_buildSlice (P := P) w t e len (parts.map fun p => (p.1, act.eval p.2)) R i zv hu hi hzv (by rw [hsz]; omega) h0 (by rw [Array.toList_map]; exact hR)
      simp only [execOp, ho, Sem.run_bind, hrun, Result.andThen_ok, Sem.run_pure, hR']
      rfl
  · cases hh

theorem os_mkM {t : Nat} (ho : o.op = .makeMap t none) : OS P o kn s (mkM s) := by
  intro ρ act w v s' hw ht hh
  unfold mkM at hh
  cases hh
  have hst := Stp.make (P := P) hw (.map #[] 0) (.map #[] 0) none fun ρ' hx => ⟨#[], by simp, .nil⟩
  refine ⟨_, .map (some w.heap.size), _, .value _, ?_, .inl rfl, ?_, hst⟩
  · simp [execOp, ho, Instr.makeMap, newObj, Sem.run]
  · have := VR.map (ρ := upd ρ s.nx ⟨w.heap.size, 0, none⟩) s.nx _ (upd_self ρ s.nx ⟨w.heap.size, 0, none⟩)
    simpa using this
end
end Go.Eng
