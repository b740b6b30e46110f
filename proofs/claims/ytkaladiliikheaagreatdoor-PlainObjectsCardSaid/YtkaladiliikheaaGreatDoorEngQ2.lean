/- The engine, part Q2: an allocation that floats, evaluated; objects that are made, and that the state does not show yet. -/
import Derived.Test.YtkaladiliikheaaGreatDoorEngQ
set_option linter.unusedVariables false
set_option linter.unusedSectionVars false
set_option linter.unusedSimpArgs false
namespace Go.Eng
open Go
variable [Toks]

section
variable {P : Program} {o : Oper} {kn : KN}
omit [Toks] in
def mkRow (n len c : Nat) (id : Nat) : Value := .slice (some ⟨id, 0, none⟩) len (bif Nat.beq c 0 then 0 else n)
theorem mkRow_VR {n len c' : Nat} {cs : List Value} (hn : 0 < n) (hlen : len ≤ c') (hc : cs.length = c' * n) (ρ' : Ren) (id b : Nat) (h : ρ' id = some ⟨b, 0, some cs.length⟩) : VR ρ' (mkRow n len cs.length id) (.slice (some ⟨b, 0, none⟩) len c') := by
  refine .sl id 0 len _ ⟨b, 0, some cs.length⟩ _ c' h hlen (fun h0 => ?_) (fun _ => by simp) (fun h0 _ => ⟨cs.length, rfl, ?_⟩)
  · cases hb : Nat.beq cs.length 0 with
    | true =>
      have h0' := Nat.eq_of_beq_eq_true hb
      rw [h0'] at hc
      rcases Nat.mul_eq_zero.1 hc.symm with h | h
      · exact h
      · omega
    | false => rw [hb, cond_false] at h0; omega
  · cases hb : Nat.beq cs.length 0 with
    | true => rw [hb, cond_true] at h0; exact absurd rfl h0
    | false => rw [cond_false, Nat.zero_add]; exact hc.symm
theorem oa_mkS {t e len : Nat} {z cs : List Value} {parts : Array (Nat × Operand)} {ps : List (Nat × Value)} (ho : o.op = .buildSlice t len parts) (hz : SliceZ P t e z) (hbig : len * z.length ≤ 16777216) (hp : opvs P kn parts.toList = some ps) (hcs : bld (rep len z) ps = some cs) :
    OA P o kn (mkRow z.length len cs.length) (.cells cs.toArray e (0, 0)) := by
  intro ρ s act w hw ht
  obtain ⟨hu, i, zv, hi, hzv, hzc, hsz, hpos, hng, hcl⟩ := hz
  obtain ⟨cs', hcs', hll⟩ := bld_LR (opvs_eval hw ht hp) (SR_self _ (rep_cl len z hcl)) hcs
  have hlen : cs.length = len * z.length := by rw [bld_len _ _ _ hcs, rep_flatten]
  refine ⟨.cells cs'.toArray e (0, 0), some cs.length, .slice (some ⟨w.heap.size, 0, none⟩) len len, ?_, oa_cells hll (some cs.length) (fun L h => by cases h; rfl), fun ρ' id h => mkRow_VR hpos (Nat.le_refl _) hlen ρ' id _ h⟩
  have hzva : zv.cells = z.toArray := Array.ext' (by simpa using hzc)
  have hplace : ∀ j, j < (rep len z).length → (fun j => some (j * i.size, i.size)) j = placesOf (rep len z) j := by
    intro j hj
    rw [rep_len] at hj
    obtain ⟨a1, a2⟩ := rep_at len z j hj
    simp only [placesOf, a1, a2, hsz]
  by_cases h0 : len * i.size = 0
  · have hl0 : len = 0 := by
      rcases Nat.mul_eq_zero.1 h0 with h | h
      · exact h
      · omega
    subst hl0
    have hf := fill_bld (fun j => some (j * i.size, i.size)) _ (rep 0 z) cs' #[] (by simp [rep]) hplace hcs'
    obtain ⟨R, hR, hRl⟩ := hf
    have hR' : R = cs'.toArray := Array.ext' (by simpa using hRl)
    have hmap : (parts.map fun p => (p.1, act.eval p.2)).toList = parts.toList.map fun p => (p.1, act.eval p.2) := by simp
    simp [execOp, ho, Instr.buildSlice, underlying, hu, sizeOf, typeInfo, hi, show Array.range 0 = #[] from rfl, hR, hR', newRow, newObj, Sem.run]
  · have hC : ((Array.range (len * i.size)).map (zv.cells[· % zv.cells.size]!)).toList = (rep len z).flatten := by
      rw [hzva, hsz]; exact range_rep z len hpos
    obtain ⟨R, hR, hRl⟩ := fill_bld (fun j => some (j * i.size, i.size)) _ (rep len z) cs' _ hC hplace hcs'
    have hR' : R = cs'.toArray := Array.ext' (by simpa using hRl)
    have hrun := run_buildSlice (P := P) w t e len (parts.map fun p => (p.1, act.eval p.2)) R i zv hu hi hzv (by rw [hsz]; omega) h0 (by rw [Array.toList_map]; exact hR)
    simp only [execOp, ho, Sem.run_bind, hrun, Result.andThen_ok, Sem.run_pure, hR']
    rfl
theorem oa_mkZ {t e n by_ l0 c0 : Nat} {z : List Value} {kl kc : IntKind} {l c : Operand} (ho : o.op = .makeSlice t l c) (ht : RowT P t e n by_ z) (hl : opv P kn l = some (.int kl (.ofNat l0))) (hc : opv P kn c = some (.int kc (.ofNat c0)))
    (hq : (Nat.ble l0 c0 && Nat.ble (c0 * by_) room && Nat.ble c0 room) = true) : OA P o kn (mkRow z.length l0 (zer z c0).length) (.cells (zer z c0).toArray e (0, 0)) := by
  intro ρ s act w hw htm
  have h1 := opv_eval hw htm hl
  have h2 := opv_eval hw htm hc
  obtain ⟨i, zv, hi, hz, hsz, hby, hzc⟩ := ht.info
  simp only [Bool.and_eq_true] at hq
  have q1 := Nat.le_of_ble_eq_true hq.1.1
  have q2 := Nat.le_of_ble_eq_true hq.1.2
  have q3 := Nat.le_of_ble_eq_true hq.2
  generalize hl' : act.eval l = el at *
  generalize hc' : act.eval c = ec at *
  cases h1; cases h2
  have hb : (i.bytes : Int) * (c0 : Int) ≤ 281474976710656 := by
    rw [hby, ← Int.natCast_mul, Nat.mul_comm]
    unfold room at q2; omega
  have hr := run_make (P := P) w t e i zv ht.und hi hz kl kc (l0 : Int) (c0 : Int) (by omega) (by omega) hb (by unfold room at q3; omega)
  have hm : (madeCells zv.cells ((c0 : Int).toNat * i.size)).toList = zer z c0 := by
    rw [zer_rep, Int.toNat_natCast, hsz, ← ht.len, ← range_rep z c0 (by rw [ht.len]; exact ht.n0)]
    have : zv.cells = z.toArray := Array.ext' (by simpa using hzc)
    rw [this]; rfl
  have hm' : madeCells zv.cells ((c0 : Int).toNat * i.size) = (zer z c0).toArray := Array.ext' (by simpa using hm)
  rw [hm'] at hr
  have hz0 : 0 < z.length := by rw [ht.len]; exact ht.n0
  refine ⟨.cells (zer z c0).toArray e (0, 0), some (zer z c0).length, .slice (some ⟨w.heap.size, 0, none⟩) l0 c0, ?_, oa_cells (zer_LR z ht.clz c0) (some (zer z c0).length) (fun L h => by cases h; rfl), fun ρ' id h => mkRow_VR hz0 q1 (zer_length z c0) ρ' id _ h⟩
  simp only [execOp, ho, hl', hc', Sem.run_bind]
  simp only [Int.toNat_natCast] at hr
  have hr' : (Instr.makeSlice t (.int kl (Int.ofNat l0)) (.int kc (Int.ofNat c0))).run P w = _ := hr
  rw [hr']
  rfl
omit [Toks] in
def isAl (o : Oper) : Bool := match o.op with
  | .alloc _ | .box _ _ | .buildSlice _ _ _ | .makeSlice _ _ _ | .makeMap _ none => true
  | _ => false
omit [Toks] in
noncomputable def evA (P : Program) (o : Oper) (kn : KN) : Option ((Nat → Value) × Obj) := match o.op with
  | .alloc t => (match zeroCells P t with | some cs => some (mkP, .cells cs.toArray t (0, 0)) | none => none)
  | .box t x => (match opv P kn x with
    | some (.agg c) => some (mkP, .cells c t (0, 0))
    | some v => bif oneC v then some (mkP, .cells #[v] t (0, 0)) else none
    | none => none)
  | .buildSlice t len ⟨ps⟩ => (match rowT P t, opvs P kn ps with
    | some (e, n, by_, z), some vs => bif Nat.ble (len * z.length) 16777216 then (match bld (rep len z) vs with
      | some cs => some (mkRow z.length len cs.length, .cells cs.toArray e (0, 0))
      | none => none) else none
    | _, _ => none)
  | .makeSlice t l c => (match rowT P t, opv P kn l, opv P kn c with
    | some (e, n, by_, z), some (.int _ (.ofNat l0)), some (.int _ (.ofNat c0)) => bif Nat.ble l0 c0 && Nat.ble (c0 * by_) room && Nat.ble c0 room then some (mkRow z.length l0 (zer z c0).length, .cells (zer z c0).toArray e (0, 0)) else none
    | _, _, _ => none)
  | .makeMap _ none => some (fun id => .map (some id), .map #[] 0)
  | _ => none
theorem oa_evA {mk : Nat → Value} {obj : Obj} (h : evA P o kn = some (mk, obj)) : OA P o kn mk obj := by
  unfold evA at h
  split at h
  · rename_i ho
    split at h
    · rename_i hz; cases h; exact oa_al ho (zeroCells_spec hz)
    · cases h
  · rename_i ho
    split at h
    · rename_i hx; cases h; exact oa_boxA ho hx
    · rename_i v hna hx
      cases h1 : oneC v with
      | false => rw [h1] at h; cases h
      | true => rw [h1, cond_true] at h; cases h; exact oa_box1 ho hx h1
    · cases h
  · rename_i ho
    split at h
    · rename_i hz hp
      rename_i e n by_ z vs
      cases hb : Nat.ble (_ * z.length) 16777216 with
      | false => rw [hb] at h; cases h
      | true =>
        rw [hb, cond_true] at h
        split at h
        · rename_i hcs; cases h; exact oa_mkS ho (rowT_spec hz).sliceZ (ble_le hb) hp hcs
        · cases h
    · cases h
  · rename_i ho
    split at h
    · rename_i hz hl hc
      rename_i e n by_ z kl l0 kc c0
      cases hq : (Nat.ble l0 c0 && Nat.ble (c0 * by_) room && Nat.ble c0 room) with
      | false => rw [hq] at h; cases h
      | true => rw [hq, cond_true] at h; cases h; exact oa_mkZ ho (rowT_spec hz) hl hc hq
    · cases h
  · rename_i ho; cases h; exact oa_mkM ho
  · cases h
end

/-! ### Objects that the state does not show yet -/
section
variable {P : Program}
/-- 'X': which of them are made, and not shown. -/
structure Pd (P : Program) (fid : Nat → Nat) (fob : Nat → Obj) (b0 : Nat) (ρ : Ren) (s : S) (w : World) (X : Nat → Prop) : Prop where
  ob : ∀ f, X f → ∃ pl, ρ (fid f) = some pl ∧ OR P ρ pl w (fob f) ∧ b0 ≤ pl.block ∧ ∀ (j : Nat) (o : Obj) (pj : Pl), s.get j = some o → ρ j = some pj → pj.block ≠ pl.block
  ds : ∀ f g, X f → X g → ∀ pf pg, ρ (fid f) = some pf → ρ (fid g) = some pg → pf.block = pg.block → f = g
variable {fid : Nat → Nat} {fob : Nat → Obj} {b0 : Nat} {X : Nat → Prop}
theorem Pd.sub {ρ : Ren} {s : S} {w : World} {Y : Nat → Prop} (h : Pd P fid fob b0 ρ s w X) (hy : ∀ f, Y f → X f) : Pd P fid fob b0 ρ s w Y := ⟨fun f hf => h.ob f (hy f hf), fun f g hf hg => h.ds f g (hy f hf) (hy g hg)⟩
theorem Pd.step {ρ ρ' : Ren} {s s' : S} {w w' : World} (h : Pd P fid fob b0 ρ s w X) (hs : Stp P ρ s w ρ' s' w') : Pd P fid fob b0 ρ' s' w' X := by
  refine ⟨fun f hf => ?_, fun f g hf hg pf pg e1 e2 hb => ?_⟩
  · obtain ⟨pl, hp, ho, hb, hn⟩ := h.ob f hf
    have hw : w'.heap[pl.block]? = w.heap[pl.block]? := hs.frame pl.block ho.lt fun j o pj e1 _ e2 => hn j o pj e1 e2
    refine ⟨pl, hs.ext.1 _ _ hp, (ho.mono hs.ext).world hw, hb, fun j o pj e1 e2 hbb => ?_⟩
    obtain ⟨id0, o0, pl0, a1, a2, a3, _⟩ := hs.img j o pj e1 e2 (by rw [hbb]; exact ho.lt)
    exact hn id0 o0 pl0 a1 a2 (a3.trans hbb)
  · obtain ⟨p1, h1, _⟩ := h.ob f hf
    obtain ⟨p2, h2, _⟩ := h.ob g hg
    rw [hs.ext.1 _ _ h1] at e1
    rw [hs.ext.1 _ _ h2] at e2
    cases e1; cases e2
    exact h.ds f g hf hg _ _ h1 h2 hb
omit [Toks] in
noncomputable def abL (fid : Nat → Nat) (fob : Nat → Obj) : List Nat → S → S
  | [], s => s
  | f :: r, s => abL fid fob r (s.set (fid f) (some (fob f)))
theorem abL_free : ∀ (r : List Nat) (s : S) (id : Nat), (abL fid fob r s).free id ↔ s.free id
  | [], s, id => Iff.rfl
  | f :: r, s, id => abL_free r (s.set (fid f) (some (fob f))) id
/-- They come into the state. -/
theorem Pd.absorb {ρ0 ρ : Ren} {s0 : S} {w0 w : World} (hinj : ∀ f g, X f → X g → fid f = fid g → f = g) : ∀ (r : List Nat) (s : S) (X' : Nat → Prop), (∀ f, X' f → X f) → Stp P ρ0 s0 w0 ρ s w → Pd P fid fob w0.heap.size ρ s w X' → (∀ f ∈ r, X' f ∧ s0.free (fid f) ∧ ¬ s.free (fid f)) → r.Nodup →
    Stp P ρ0 s0 w0 ρ (abL fid fob r s) w ∧ Pd P fid fob w0.heap.size ρ (abL fid fob r s) w (fun f => X' f ∧ f ∉ r) := by
  intro r
  induction r with
  | nil => intro s X' hX hs hp hr hn; exact ⟨hs, hp.sub fun f hf => hf.1⟩
  | cons a r ih =>
    intro s X' hX hs hp hr hn
    simp only [List.nodup_cons] at hn
    obtain ⟨xa, fa, na⟩ := hr a (List.mem_cons_self ..)
    obtain ⟨pl, e1, e2, e3, e4⟩ := hp.ob a xa
    have hs' := hs.absorb fa na e1 e2 e3 e4
    have hp' : Pd P fid fob w0.heap.size ρ (s.set (fid a) (some (fob a))) w (fun f => X' f ∧ f ≠ a) := by
      refine ⟨fun f hf => ?_, fun f g hf hg => hp.ds f g hf.1 hg.1⟩
      obtain ⟨pf, h1, h2, h3, h4⟩ := hp.ob f hf.1
      refine ⟨pf, h1, h2, h3, fun j o pj ej hj hb => ?_⟩
      rw [S.get_set] at ej
      by_cases hja : j = fid a
      · subst hja
        rw [e1] at hj
        cases hj
        exact hf.2 (hp.ds f a hf.1 xa _ _ h1 e1 hb.symm)
      · rw [if_neg hja] at ej
        exact h4 j o pj ej hj hb
    obtain ⟨r1, r2⟩ := ih _ _ (fun f hf => hX f hf.1) hs' hp' (fun f hf => ⟨⟨(hr f (List.mem_cons_of_mem _ hf)).1, fun e => hn.1 (e ▸ hf)⟩, (hr f (List.mem_cons_of_mem _ hf)).2.1, (hr f (List.mem_cons_of_mem _ hf)).2.2⟩) hn.2
    exact ⟨r1, r2.sub fun f hf => ⟨⟨hf.1, fun e => hf.2 (e ▸ List.mem_cons_self ..)⟩, fun h => hf.2 (List.mem_cons_of_mem _ h)⟩⟩
end
end Go.Eng
