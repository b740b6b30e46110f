/- The engine, part K: stores, appends, copies, new rows. -/
import Derived.Test.YtkaladiliikheaaGreatDoorEngJ
set_option linter.unusedVariables false
set_option linter.unusedSectionVars false
set_option linter.unusedSimpArgs false
namespace Go.Eng
open Go
variable [Toks]

section
variable {P : Program} {o : Oper} {kn : KN} {s : S}

/-- What an operation without a value does. -/
def OS0 (P : Program) (o : Oper) (kn : KN) (s : S) (x : Option S) : Prop :=
  ∀ (ρ : Ren) (act : Act) (w : World) (s' : S), WR P ρ s w → TM ρ kn act.tmps → x = some s' →
    ∃ (ρ' : Ren) (w' : World) (n : Next), (execOp act.eval o).run P w = .ok n w' ∧ (n = .skip ∨ ∃ v, n = .value v) ∧ Stp P ρ s w ρ' s' w'
def OJ0 (P : Program) (o : Oper) (kn : KN) (s : S) (x : Option S) : Prop :=
  ∀ (ρ : Ren) (act : Act) (w : World) (s' : S) (K : Act → World → Prop) (Q : Exit → Act → World → Prop), WR P ρ s w → TM ρ kn act.tmps → x = some s' →
    (∀ ρ' v' w', Stp P ρ s w ρ' s' w' → K (act.put o.dst v') w') → o.wp P act w K Q
theorem OJ0.ofS {x : Option S} (h : OS0 P o kn s x) : OJ0 P o kn s x := by
  intro ρ act w s' K Q hw ht hx hK
  obtain ⟨ρ', w', n, hr, hf, hs⟩ := h ρ act w s' hw ht hx
  unfold Oper.wp
  rw [hr]
  rcases hf with rfl | ⟨v, rfl⟩
  · exact hK ρ' _ w' hs
  · exact hK ρ' _ w' hs

/-! ### Stores -/
theorem stL_run {ρ : Ren} {w : World} (hw : WR P ρ s w) {id off : Nat} {vs vs' : List Value} {s' : S} (h : stL id off vs s = some s') (hv : LR ρ vs vs') {pl : Pl} (hp : ρ id = some pl) :
    ∃ w', (storeCells ⟨pl.block, pl.base + off, none⟩ vs').run P w = .ok () w' ∧ Stp P ρ s w ρ s' w' := by
  unfold stL at h
  cases hown : s.own id with
  | false => rw [hown] at h; cases h
  | true =>
    rw [hown, cond_true] at h
    split at h
    · rename_i c e hg
      cases hq : (Nat.ble (off + vs.length) c.size && vs.all oneC) with
      | false => rw [hq] at h; cases h
      | true =>
        rw [hq, cond_true] at h
        cases h
        simp only [Bool.and_eq_true] at hq
        have hfit := Nat.le_of_ble_eq_true hq.1
        obtain ⟨pl2, hp2, C, eM, frM, hC, hfr, hlies, hlim⟩ := hw.obj _ _ hg
        rw [hp] at hp2; cases hp2
        have hfr0 := hfr rfl; subst hfr0
        rcases Nat.eq_zero_or_pos vs.length with h0 | h0
        · have e0 : vs = [] := List.eq_nil_of_length_eq_zero h0
          subst e0
          have e0' : vs' = [] := List.eq_nil_of_length_eq_zero (by rw [← hv.length]; rfl)
          subst e0'
          refine ⟨w, by simp [storeCells], ?_⟩
          exact Stp.write hw hg hp hown ⟨hC, fun _ _ => rfl, rfl, rfl, rfl, rfl⟩ ⟨C, eM, (0, 0), hC, fun _ => rfl, by
            intro j u eu
            exact hlies j u (by simpa [putAt] using eu), fun L hL => by
              have := hlim L hL
              simpa [putAt] using this⟩
        have hlen : pl.base + off + vs.length ≤ C.size := by
          obtain ⟨v', ev, _⟩ := hlies (off + vs.length - 1) c[off + vs.length - 1] (by simp only [Array.getElem?_toList]; rw [Array.getElem?_eq_getElem])
          have := (List.getElem?_eq_some_iff.1 ev).1
          simp only [Array.length_toList] at this; omega
        obtain ⟨w', C', hr, hone, hC'⟩ := run_storeCells (P := P) vs' 0 w C hC (o := pl.base + off) (by rw [Nat.add_zero, ← hv.length]; exact hlen) (by rw [hv.all1]; exact hq.2)
        rw [Nat.add_zero] at hC'
        refine ⟨w', hr, Stp.write hw hg hp hown hone ⟨C', eM, (0, 0), hone.here, fun _ => rfl, ?_, fun L hL => ?_⟩⟩
        · have := hlies.put hv off (by simpa using hfit) (show pl.base + off + vs'.length ≤ C.toList.length by rw [← hv.length]; simpa using hlen)
          simpa [hC'] using this
        · obtain ⟨h1, h2⟩ := hlim L hL
          have e1 : C'.size = C.size := by
            have := congrArg List.length hC'
            simp only [Array.length_toList, List.length_append, List.length_take, List.length_drop, ← hv.length] at this
            omega
          have e2 : (putAt c.toList off vs).length = c.size := by simp [putAt]; omega
          simp only [List.size_toArray, e1, e2]
          exact ⟨h1, h2⟩
    · cases h

theorem cells_one {v : Value} (h : oneC v = true) : v.cells = #[v] := by cases v <;> first | rfl | (simp [oneC] at h; done)
omit [Toks] in
def chkSz (P : Program) (t n : Nat) : Bool := match P.info? t with | some i => Nat.beq i.size n | none => false
theorem chkSz_spec {t n : Nat} (h : chkSz P t n = true) : ∃ i, P.info? t = some i ∧ i.size = n := by
  unfold chkSz at h
  split at h
  · rename_i i hi; exact ⟨i, hi, Nat.eq_of_beq_eq_true h⟩
  · cases h
theorem os_st1 {t : Nat} {a x : Operand} {va vx : Value} (ho : o.op = .store t a x) (hc : chkSz P t 1 = true) (ha : opv P kn a = some va) (hx : opv P kn x = some vx) : OS0 P o kn s (st1 va vx s) := by
  intro ρ act w s' hw ht hh
  obtain ⟨i, hi, hsz⟩ := chkSz_spec hc
  have h1 := opv_eval hw ht ha
  have h2 := opv_eval hw ht hx
  unfold st1 at hh
  split at hh
  · rename_i ad
    cases hb : oneC vx with
    | false => rw [hb] at hh; cases hh
    | true =>
      rw [hb, cond_true] at hh
      generalize hq : act.eval a = q at *
      cases h1 with
      | ptr id off pl e1 =>
        obtain ⟨w', hr, hs⟩ := stL_run hw hh (.cons _ _ _ _ h2 .nil) e1
        refine ⟨ρ, w', .skip, ?_, .inl rfl, hs⟩
        have hcs := cells_one ((oneC_eq h2).trans hb)
        simp [execOp, ho, hq, Instr.storeAt, Instr.sureAddr, storeVar, sizeOf, typeInfo, hi, hsz, hcs, hr]
  · cases hh
theorem os_stN {t n : Nat} {a x : Operand} {va vx : Value} (ho : o.op = .store t a x) (hc : chkSz P t n = true) (ha : opv P kn a = some va) (hx : opv P kn x = some vx) : OS0 P o kn s (stN n va vx s) := by
  intro ρ act w s' hw ht hh
  obtain ⟨i, hi, hsz⟩ := chkSz_spec hc
  have h1 := opv_eval hw ht ha
  have h2 := opv_eval hw ht hx
  unfold stN at hh
  split at hh
  · rename_i ad c
    cases hb : Nat.beq c.size n with
    | false => rw [hb] at hh; cases hh
    | true =>
      have hb' := Nat.eq_of_beq_eq_true hb
      rw [hb, cond_true] at hh
      generalize hq : act.eval a = q at *
      generalize hp : act.eval x = p at *
      cases h1 with
      | ptr id off pl e1 =>
        cases h2 with
        | agg l l' hl =>
        obtain ⟨w', hr, hs⟩ := stL_run hw hh hl e1
        refine ⟨ρ, w', .skip, ?_, .inl rfl, hs⟩
        have hcs : l'.length = n := by rw [← hl.length]; exact hb'
        simp [execOp, ho, hq, hp, Instr.storeAt, Instr.sureAddr, storeVar, sizeOf, typeInfo, hi, hsz, Value.cells, hcs, hr]
  · cases hh

/-! ### append -/
/-- What a row's type must be: its element, the element's cells and bytes, its zero. -/
structure RowT (P : Program) (t e n by_ : Nat) (z : List Value) : Prop where
  und : P.underlying t = some (.slice e)
  info : ∃ i zv, P.info? e = some i ∧ i.zero = some zv ∧ i.size = n ∧ i.bytes = by_ ∧ zv.cells.toList = z
  n0 : 0 < n
  ng : n < ng
  b0 : 0 < by_
  len : z.length = n
  clz : z.all (cl 3) = true
theorem ldL_run2 {ρ : Ren} {w : World} (hw : WR P ρ s w) {id off n : Nat} {l : List Value} (h : ldL id off n s = some l) {pl : Pl} (hp : ρ id = some pl) :
    ∃ l', (∀ w2 : World, w2.heap = w.heap → (loadCells ⟨pl.block, pl.base + off, none⟩ n).run P w2 = .ok l'.toArray w2) ∧ LR ρ l l' := by
  unfold ldL at h
  split at h
  · rename_i c e fr hg
    obtain ⟨pl', hp', C, e', fr', hC, _, hl, _⟩ := hw.obj _ _ hg
    rw [hp] at hp'; cases hp'
    obtain ⟨h1, h2⟩ := sub_some h
    have hnl : l.length = n := by rw [h2]; simp only [List.length_take, List.length_drop]; omega
    rcases Nat.eq_zero_or_pos n with h0 | h0
    · subst h0
      have : l = [] := List.eq_nil_of_length_eq_zero hnl
      subst this
      exact ⟨[], fun _ _ => by simp [loadCells, loadCellsFrom], .nil⟩
    have hlen : pl.base + off + n ≤ C.size := by
      obtain ⟨v', ev, _⟩ := hl (off + n - 1) c.toList[off + n - 1] (List.getElem?_eq_getElem (by omega))
      have := (List.getElem?_eq_some_iff.1 ev).1
      simp only [Array.length_toList] at this; omega
    refine ⟨_, fun w2 hw2 => run_loadCells (by rw [hw2]; exact hC) _ _ hlen, ?_⟩
    rw [h2]
    refine LR.of (by simp only [List.length_take, List.length_drop, Array.length_toList] at *; omega) fun i v v' e e' => ?_
    rw [List.getElem?_take, List.getElem?_drop] at e e'
    by_cases hi : i < n
    · rw [if_pos hi] at e e'
      obtain ⟨u, eu, hu⟩ := hl (off + i) v e
      rw [show pl.base + off + i = pl.base + (off + i) from by omega, eu] at e'
      cases e'; exact hu
    · rw [if_neg hi] at e; cases e
  · cases h
theorem firstCells_of {ρ : Ren} {w : World} (hw : WR P ρ s w) {p : Option Addr} {k c n : Nat} {news : List Value} {x' : Value} (hx : VR ρ (.slice p k c) x')
    (hl : (Nat.beq k 0 = true ∧ news = []) ∨ ∃ a, p = some a ∧ ldL a.block a.off (k * n) s = some news) (h0 : news.length = k * n) :
    ∃ news', LR ρ news news' ∧ (∀ w' : World, (Builtin.lenOf x').run P w' = .ok k w') ∧ (Builtin.firstCells n k x').run P w = .ok news'.toArray w ∧ (Builtin.firstCells n k x').run P w.drew = .ok news'.toArray w.drew := by
  have hwd : WR P ρ s w.drew := hw.world fun _ _ _ _ _ => rfl
  cases hx with
  | nilS =>
    have : news = [] := List.eq_nil_of_length_eq_zero (by rw [h0, Nat.zero_mul])
    subst this
    exact ⟨[], .nil, fun _ => rfl, by simp [Builtin.firstCells], by simp [Builtin.firstCells]⟩
  | sl id off len c pl a' c' e1 h1 h2 h3 h4 =>
    rcases hl with ⟨hk, rfl⟩ | ⟨a, ha, hld⟩
    · have hk0 := Nat.eq_of_beq_eq_true hk
      subst hk0
      exact ⟨[], .nil, fun _ => rfl, by simp [Builtin.firstCells, loadCells, loadCellsFrom], by simp [Builtin.firstCells, loadCells, loadCellsFrom]⟩
    · cases ha
      obtain ⟨l', hr, hll⟩ := ldL_run2 (P := P) hw hld e1
      by_cases hc0 : c' = 0
      · have hk0 : k = 0 := by omega
        subst hk0
        have : news = [] := List.eq_nil_of_length_eq_zero (by rw [h0, Nat.zero_mul])
        subst this
        exact ⟨[], .nil, fun _ => rfl, by simp [Builtin.firstCells, loadCells, loadCellsFrom], by simp [Builtin.firstCells, loadCells, loadCellsFrom]⟩
      · rw [h3 hc0]
        exact ⟨l', hll, fun _ => rfl, hr w rfl, hr w.drew rfl⟩
theorem os_apS {t tx e n by_ : Nat} {z : List Value} {a x : Operand} {va vx : Value} (ho : o.op = .call ⟨.builtin .append, #[a, x], #[t, tx]⟩) (ht : RowT P t e n by_ z) (htx : ∃ e', P.underlying tx = some (.slice e'))
    (ha : opv P kn a = some va) (hx : opv P kn x = some vx) : OS P o kn s (apS n by_ e va vx s) := by
  intro ρ act w v s' hw htm hh
  have h1 := opv_eval hw htm ha
  have h2 := opv_eval hw htm hx
  obtain ⟨i, zv, hi, hz, hsz, hby, hzc⟩ := ht.info
  unfold apS at hh
  split at hh
  · rename_i p k c
    have key : ∀ news, ((Nat.beq k 0 = true ∧ news = []) ∨ ∃ a, p = some a ∧ ldL a.block a.off (k * n) s = some news) → news.length = k * n → grow n by_ e va k news s = some (v, s') →
        ∃ ρ' v' w' n, (execOp act.eval o).run P w = .ok n w' ∧ Fits n v' ∧ VR ρ' v v' ∧ Stp P ρ s w ρ' s' w' := by
      intro news hl hlen hg
      obtain ⟨news', hll, q1, q2, q3⟩ := firstCells_of (P := P) hw h2 hl hlen
      subst hsz
      have app : App P t tx o.type e i zv (act.eval x) k news' w := App.ofSrc ht.und hi hz htx q1 q2 q3 (by rw [← hll.length]; exact hlen)
      obtain ⟨ρ', r', w', hr, hv, hst⟩ := grow_run hw hz rfl hby ht.n0 ht.ng ht.b0 app hll h1 (by rw [← Array.length_toList, hzc]; exact ht.len) hg
      refine ⟨ρ', r', w', .value r', ?_, .inl rfl, hv, hst⟩
      simp [execOp, ho, resolve, invoke, builtin, hr]
    cases hk : Nat.beq k 0 with
    | true =>
      rw [hk, cond_true] at hh
      have hk0 := Nat.eq_of_beq_eq_true hk
      subst hk0
      exact key [] (.inl ⟨rfl, rfl⟩) (by simp) hh
    | false =>
      rw [hk, cond_false] at hh
      split at hh
      · rename_i ad
        split at hh
        · rename_i l hl
          refine key l (.inr ⟨ad, rfl, hl⟩) ?_ hh
          unfold ldL at hl
          split at hl
          · obtain ⟨s1, s2⟩ := sub_some hl
            rw [s2]; simp only [List.length_take, List.length_drop]; omega
          · cases hl
        · cases hh
      · cases hh
  · cases hh
end
end Go.Eng
