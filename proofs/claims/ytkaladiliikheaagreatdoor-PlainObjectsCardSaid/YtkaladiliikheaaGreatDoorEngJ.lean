/- The engine, part J: rows that grow. -/
import Derived.Test.YtkaladiliikheaaGreatDoorEngI
import Derived.Deep.Upon
set_option linter.unusedVariables false
set_option linter.unusedSectionVars false
set_option linter.unusedSimpArgs false
namespace Go.Eng
open Go
variable [Toks]

theorem oneC_eq' (v : Value) : v.oneCell' = oneC v := by cases v <;> rfl

theorem setCells_one {b : Nat} {e : TypeId} : ∀ (vs : List Value) (o : Nat) (w : World) (C : Array Value), w.heap[b]? = some (.cells C e (0, 0)) → o + vs.length ≤ C.size →
    ∃ C', One w (w.setCells b o vs) b (.cells C' e (0, 0)) ∧ C'.toList = C.toList.take o ++ vs ++ C.toList.drop (o + vs.length) := by
  intro vs
  induction vs with
  | nil => intro o w C h hn; exact ⟨C, ⟨h, fun _ _ => rfl, rfl, rfl, rfl, rfl⟩, by simp⟩
  | cons v vs ih =>
    intro o w C h hn
    simp only [List.length_cons] at hn
    have hone := setCell_one (o := o) h v
    obtain ⟨C', hw, hC⟩ := ih (o + 1) (w.setCell ⟨b, o, none⟩ v) (C.setIfInBounds o v) hone.here (by simp; omega)
    refine ⟨C', ⟨hw.here, fun j hj => (hw.there j hj).trans (hone.there j hj), hw.size.trans hone.size, hw.tape.trans hone.tape, hw.os.trans hone.os, hw.output.trans hone.output⟩, ?_⟩
    rw [hC, Array.toList_setIfInBounds]
    exact set_splice _ _ _ _ (by simp; omega)

section
variable {P : Program} {s : S}
/-- A new block, longer than what is told of it. -/
theorem step_row {ρ : Ren} {w : World} (hw : WR P ρ s w) {cs : List Value} {C : Array Value} {e e' : TypeId} (h : Lies ρ 0 cs C.toList) (L : Nat) (hL : L ≤ C.size) (hc : cs.length ≤ L) :
    Stp P ρ s w (upd ρ s.nx ⟨w.heap.size, 0, some L⟩) (s.new (.cells cs.toArray e (0, 0))) { w with heap := w.heap.push (.cells C e' (0, 0)) } := by
  refine Stp.make hw _ _ (some L) fun ρ' hx => ⟨C, e', (0, 0), by simp, fun _ => rfl, h.mono hx, fun L' hL' => ?_⟩
  cases hL'
  simp; omega

/-- An object is let go, and comes again under a new id in the same block. -/
theorem Stp.again {ρ : Ren} {w w' : World} (h : WR P ρ s w) {id : Nat} {o o' O : Obj} {pl pl' : Pl} (e : s.get id = some o) (hp : ρ id = some pl) (hown : s.own id = true) (hbl : pl'.block = pl.block)
    (hw : One w w' pl.block O) (ho : ∀ ρ', Ext ρ ρ' → OR P ρ' pl' w' o') : Stp P ρ s w (upd ρ s.nx pl') ((s.set id none).new o') w' := by
  have hn : ρ s.nx = none := h.free _ s.free_nx
  have hx : Ext ρ (upd ρ s.nx pl') := ext_upd hn
  have hne : s.nx ≠ id := fun hh => by rw [hh, hp] at hn; cases hn
  have hg : ∀ j, ((s.set id none).new o').get j = if j = s.nx then some o' else if j = id then none else s.get j := fun j => by
    rw [S.get_new, S.get_set]; rfl
  have hfree : ∀ j, ((s.set id none).new o').free j → s.free j ∧ j ≠ s.nx := fun j hf =>
    ⟨S.free_new (s := s) (o := o') hf, S.free_new_ne (s := s) (o := o') h.sd hf⟩
  have hin : ∀ j q, ((s.set id none).new o').get j = some q → j ≠ s.nx → j ≠ id ∧ s.get j = some q := fun j q ej hj => by
    rw [hg, if_neg hj] at ej
    by_cases hj' : j = id
    · rw [if_pos hj'] at ej; cases ej
    · rw [if_neg hj'] at ej; exact ⟨hj', ej⟩
  have hup : ∀ j, j ≠ s.nx → (upd ρ s.nx pl') j = ρ j := fun j hj => by simp [upd, hj]
  refine ⟨⟨?_, ?_, ?_, h.sd, ?_⟩, fun j hf => (hfree j hf).1, rfl, rfl, rfl, hx, ?_, ?_, ?_, hw.tape, hw.os, hw.output, Nat.le_of_eq hw.size.symm, ?_⟩
  · intro j q ej
    by_cases hj : j = s.nx
    · subst hj
      rw [hg, if_pos rfl] at ej; cases ej
      exact ⟨pl', upd_self .., ho _ hx⟩
    · obtain ⟨h1, h2⟩ := hin j q ej hj
      obtain ⟨pj, hpj, hq⟩ := h.obj j q h2
      exact ⟨pj, (hup j hj).trans hpj, (hq.mono hx).world (hw.there _ fun hb => h1 (h.inj j id q o pj pl h2 e hpj hp hb))⟩
  · intro i j oi oj pi pj ei ej hi hj hb
    by_cases hi' : i = s.nx <;> by_cases hj' : j = s.nx
    · rw [hi', hj']
    · subst hi'
      rw [upd_self] at hi; cases hi
      rw [hup j hj'] at hj
      obtain ⟨h1, h2⟩ := hin j oj ej hj'
      exact absurd (h.inj id j o oj pl pj e h2 hp hj (hbl.symm.trans hb)).symm h1
    · subst hj'
      rw [upd_self] at hj; cases hj
      rw [hup i hi'] at hi
      obtain ⟨h1, h2⟩ := hin i oi ei hi'
      exact absurd (h.inj i id oi o pi pl h2 e hi hp (hb.trans hbl)) h1
    · rw [hup i hi'] at hi; rw [hup j hj'] at hj
      exact h.inj i j oi oj pi pj (hin i oi ei hi').2 (hin j oj ej hj').2 hi hj hb
  · intro j hf
    obtain ⟨h1, h2⟩ := hfree j hf
    rw [hup j h2]; exact h.free j h1
  · intro g hg'
    exact hx.1 _ _ (h.glob g hg')
  · intro j
    by_cases hj : j = s.nx
    · exact .inr (hj ▸ s.free_nx)
    · exact .inl (hup j hj)
  · intro j hne'
    by_cases hj : j = s.nx
    · exact .inl (hj ▸ s.free_nx)
    · by_cases hj' : j = id
      · exact .inr (hj' ▸ hown)
      · rw [hg, if_neg hj, if_neg hj'] at hne'; exact absurd rfl hne'
  · intro j q pj ej hj hb
    by_cases hj' : j = s.nx
    · subst hj'
      rw [upd_self] at hj; cases hj
      exact ⟨id, o, pl, e, hp, hbl.symm, fun _ => hown⟩
    · rw [hup j hj'] at hj
      exact ⟨j, q, pj, (hin j q ej hj').2, hj, rfl, fun hne => absurd rfl hne⟩
  · intro b hb hn'
    exact hw.there b fun hbb => hn' id o pl e hown hp hbb.symm

/-- What append does, whatever it appends. -/
structure App (P : Program) (t tx ty e : TypeId) (i : TypeInfo) (z : Value) (x : Value) (k : Nat) (news : List Value) (w : World) : Prop where
  len : news.length = k * i.size
  nothing : k = 0 → ∀ base sLen sCap, sLen ≤ sCap → (Builtin.append_ #[t, tx] ty #[.slice base sLen sCap, x]).run P w = .ok (.slice base sLen sCap) w
  fits : news.all oneC = true → ∀ b off sLen sCap, sLen + k ≤ sCap → (∀ j, j < news.length → (w.cell? ⟨b, off + sLen * i.size + j, none⟩).isSome = true) → (∀ j, j < news.length → w.frozen? ⟨b, off + sLen * i.size + j, none⟩ = false) →
    (Builtin.append_ #[t, tx] ty #[.slice (some ⟨b, off, none⟩) sLen sCap, x]).run P w = .ok (.slice (some ⟨b, off, none⟩) (sLen + k) sCap) (w.setCells b (off + sLen * i.size) news)
  grow : ∀ base sLen sCap olds, (Builtin.firstCells i.size sLen (.slice base sLen sCap)).run P w.drew = .ok olds.toArray w.drew → sCap < sLen + k → 0 < k → (sLen + k) * i.bytes ≤ Eng.room → ((sLen + k : Nat) : Int) ≤ 9223372036854775807 →
    (Builtin.append_ #[t, tx] ty #[.slice base sLen sCap, x]).run P w = .ok (.slice (some ⟨w.heap.size, 0, none⟩) (sLen + k) (grownCap w (sLen + k) sCap e))
        (w.drew.alloc (.cells ((olds ++ news).toArray ++ Builtin.zeroCells z.cells (grownCap w (sLen + k) sCap e - (sLen + k))) e))
theorem App.ofSrc {t tx ty e : TypeId} {i : TypeInfo} {z x : Value} {k : Nat} {news : List Value} {w : World} (ht : P.underlying t = some (.slice e)) (hi : P.info? e = some i) (hz : i.zero = some z)
    (hk : ∃ e', P.underlying tx = some (.slice e')) (hl : ∀ w' : World, (Builtin.lenOf x).run P w' = .ok k w') (hc : (Builtin.firstCells i.size k x).run P w = .ok news.toArray w) (hd : (Builtin.firstCells i.size k x).run P w.drew = .ok news.toArray w.drew) (hn : news.length = k * i.size) :
    App P t tx ty e i z x k news w := by
  obtain ⟨e', hk⟩ := hk
  refine ⟨hn, ?_, ?_, ?_⟩
  · rintro rfl base sLen sCap hle
    have h0 : news = [] := List.eq_nil_of_length_eq_zero (by rw [hn, Nat.zero_mul])
    subst h0
    cases base <;> simp [Builtin.append_, run_underlying ht, run_underlying hk, sizeOf, typeInfo, hi, hl, hle, hc, storeCells]
  · intro h1 b off sLen sCap hroom hcell hfr
    exact run_append_room_src w t tx ty e i ht hi b off sLen sCap x k news ⟨.inl ⟨e', hk⟩, hl, hc, hd, hn, fun u hu => (oneC_eq' u).trans (List.all_eq_true.1 h1 u hu)⟩ hroom hcell hfr
  · intro base sLen sCap olds hold hg h0 hb h63
    have hn' : ¬ (sLen + k ≤ sCap) := by omega
    have h63' : ¬ (9223372036854775807 < ((sLen : Int) + (k : Int))) := by omega
    have hfit := growslice_fits hg hb
    have h48' : ¬ (281474976710656 < Builtin.nextslicecap (sLen + k) sCap * i.bytes) := by omega
    simp [Builtin.append_, run_underlying ht, run_underlying hk, sizeOf, typeInfo, zeroValue, hi, hz, hl, hn', h63', h48', Question.forced, hd, hold, newRow, grownCap]
    congr 2
    apply Array.ext'
    simp [List.append_assoc]

theorem VR_any_len {ρ : Ren} {p : Option Addr} {len c : Nat} {v' : Value} (h : VR ρ (.slice p len c) v') : ∃ p' c', v' = .slice p' len c' ∧ len ≤ c' := by
  cases h with
  | nilS => exact ⟨none, 0, rfl, Nat.le_refl _⟩
  | sl id off len c pl a' c' e h1 h2 h3 h4 => exact ⟨_, _, rfl, h1⟩
/-- Cells laid into cells. -/
theorem Lies.put {ρ : Ren} {base : Nat} {c C vs vs' : List Value} (h : Lies ρ base c C) (hv : LR ρ vs vs') (p : Nat) (hp : p + vs.length ≤ c.length) (hP : base + p + vs'.length ≤ C.length) :
    Lies ρ base (putAt c p vs) (C.take (base + p) ++ vs' ++ C.drop (base + p + vs'.length)) := by
  have hl := hv.length
  intro j u eu
  unfold putAt at eu
  rw [List.append_assoc] at eu ⊢
  by_cases h1 : j < p
  · rw [List.getElem?_append_left (by rw [List.length_take]; omega), List.getElem?_take, if_pos h1] at eu
    obtain ⟨u', eu', hu⟩ := h j u eu
    exact ⟨u', by rw [List.getElem?_append_left (by rw [List.length_take]; omega), List.getElem?_take, if_pos (by omega)]; exact eu', hu⟩
  · rw [List.getElem?_append_right (by rw [List.length_take]; omega), List.length_take, Nat.min_eq_left (by omega)] at eu
    rw [List.getElem?_append_right (by rw [List.length_take]; omega), List.length_take, Nat.min_eq_left (by omega), show base + j - (base + p) = j - p from by omega]
    by_cases h2 : j - p < vs.length
    · rw [List.getElem?_append_left h2] at eu
      obtain ⟨u', eu', hu⟩ := hv.at _ u eu
      exact ⟨u', by rw [List.getElem?_append_left (by omega)]; exact eu', hu⟩
    · rw [List.getElem?_append_right (by omega), List.getElem?_drop, show p + vs.length + (j - p - vs.length) = j from by omega] at eu
      obtain ⟨u', eu', hu⟩ := h j u eu
      exact ⟨u', by rw [List.getElem?_append_right (by omega), List.getElem?_drop, show base + p + vs'.length + (j - p - vs'.length) = base + j from by omega]; exact eu', hu⟩

theorem grow_run {ρ : Ren} {w : World} (hw : WR P ρ s w) {t tx ty e n by_ k : Nat} {i : TypeInfo} {z x' v v' r : Value} {news news' : List Value} {s' : S} (hz : i.zero = some z) (hn : i.size = n) (hb : i.bytes = by_) (hn0 : 0 < n) (hng : n < ng) (hb0 : 0 < by_)
    (ha : App P t tx ty e i z x' k news' w) (hnews : LR ρ news news') (hv : VR ρ v v') (hzs : z.cells.size = n) (h : grow n by_ e v k news s = some (r, s')) :
    ∃ ρ' r' w', (Builtin.append_ #[t, tx] ty #[v', x']).run P w = .ok r' w' ∧ VR ρ' r r' ∧ Stp P ρ s w ρ' s' w' := by
  subst hn hb
  unfold grow at h
  split at h
  · rename_i p len c
    cases hk : Nat.beq k 0 with
    | true =>
      rw [hk, cond_true] at h; cases h
      obtain ⟨p', c', rfl, hle⟩ := VR_any_len hv
      exact ⟨ρ, _, w, ha.nothing (Nat.eq_of_beq_eq_true hk) _ _ _ hle, hv, Stp.refl hw⟩
    | false =>
      have hk0 : 0 < k := Nat.pos_of_ne_zero fun h0 => by rw [h0] at hk; cases hk
      have hnl : 0 < news.length := by rw [hnews.length, ha.len]; exact Nat.mul_pos hk0 hn0
      rw [hk, cond_false] at h
      have hge : ∀ sl sc, k ≤ grownCap w (sl + k) sc e ∧ sl + k ≤ grownCap w (sl + k) sc e := fun sl sc => by
        have := grownCap_ge w (sl + k) sc e; omega
      have hsz : ∀ (olds : List Value) (sl sc : Nat), olds.length = sl * i.size → ((olds ++ news').toArray ++ Builtin.zeroCells z.cells (grownCap w (sl + k) sc e - (sl + k))).size = grownCap w (sl + k) sc e * i.size := fun olds sl sc ho => by
        have := (hge sl sc).2
        rw [Array.size_append, size_zeroCells, hzs]
        simp only [List.size_toArray, List.length_append, ho, ha.len]
        rw [← Nat.add_mul, ← Nat.add_mul]
        congr 1; omega
      cases hc : Nat.beq c 0 with
      | true =>
        have hc0 := Nat.eq_of_beq_eq_true hc
        rw [hc, cond_true] at h
        cases hl : (Nat.beq len 0 && Nat.ble (k * i.bytes) room) with
        | false => rw [hl] at h; cases h
        | true =>
          rw [hl, cond_true] at h
          simp only [Bool.and_eq_true] at hl
          have hl0 := Nat.eq_of_beq_eq_true hl.1
          have hroom := Nat.le_of_ble_eq_true hl.2
          subst hc0 hl0
          obtain ⟨h1, rfl, rfl⟩ := newS_spec h
          obtain ⟨p', rfl⟩ : ∃ p', v' = .slice p' 0 0 := by
            cases hv with
            | nilS => exact ⟨_, rfl⟩
            | sl id off len c pl a' c' e h1 h2 h3 h4 => rw [h2 rfl]; exact ⟨_, rfl⟩
          have hbk : k ≤ k * i.bytes := Nat.le_mul_of_pos_right k hb0
          have hr := ha.grow p' 0 0 [] (by
            cases p' with
            | none => simp [Builtin.firstCells]
            | some a => simp [Builtin.firstCells, loadCells, loadCellsFrom]) (by omega) hk0 (by simpa using hroom) (by unfold room at hroom; omega)
          simp only [List.nil_append, Nat.zero_add] at hr
          have hS := hsz [] 0 0 (by simp)
          simp only [List.nil_append, Nat.zero_add] at hS
          have hst := step_row hw (cs := news) (C := news'.toArray ++ Builtin.zeroCells z.cells (grownCap w k 0 e - k)) (e := e) (e' := e)
            (fun j u eu => by
              obtain ⟨u', eu', hu⟩ := hnews.at j u eu
              exact ⟨u', by rw [Nat.zero_add, Array.toList_append, List.getElem?_append_left (List.getElem?_eq_some_iff.1 eu').1]; exact eu', hu⟩)
            (grownCap w k 0 e * i.size) (by rw [hS]; exact Nat.le_refl _) (by rw [hnews.length, ha.len]; exact Nat.mul_le_mul_right _ (by have := (hge 0 0).1; simpa using this))
          refine ⟨_, _, _, hr, ?_, hst.drew⟩
          have hne : Nat.beq news.length 0 = false := by cases hb : Nat.beq news.length 0 with
            | true => have := Nat.eq_of_beq_eq_true hb; omega
            | false => rfl
          rw [hne, cond_false]
          have hge0 : k ≤ grownCap w k 0 e := by have := (hge 0 0).1; simpa using this
          exact .sl s.nx 0 k _ _ _ _ (upd_self ..) hge0 (fun h0 => by omega) (fun _ => by simp) (fun _ _ => ⟨_, rfl, by rw [Nat.zero_add]⟩)
      | false =>
        rw [hc, cond_false] at h
        split at h
        · rename_i a
          cases hl : (Nat.beq c i.size && Nat.ble ((len + k) * i.bytes) room && s.own a.block) with
          | false => rw [hl] at h; cases h
          | true =>
            rw [hl, cond_true] at h
            simp only [Bool.and_eq_true] at hl
            have hcn := Nat.eq_of_beq_eq_true hl.1.1
            have hroom := Nat.le_of_ble_eq_true hl.1.2
            have hown := hl.2
            have hbk : len + k ≤ (len + k) * i.bytes := Nat.le_mul_of_pos_right _ hb0
            subst hcn
            cases hv with
            | sl id off len c pl a' c' e1 h1 h2 h3 h4 =>
            obtain ⟨L, hL, hoff⟩ := h4 (by omega) hng
            split at h
            · rename_i cs eE hg
              obtain ⟨pl2, hp2, C, eM, frM, hC, hfr, hlies, hlim⟩ := hw.obj _ _ hg
              rw [e1] at hp2; cases hp2
              have hfr0 := hfr rfl; subst hfr0
              obtain ⟨hL1, hL2⟩ := hlim L hL
              cases hfit : Nat.ble (off + (len + k) * i.size) cs.size with
              | true =>
                rw [hfit, cond_true] at h
                have hfit' := Nat.le_of_ble_eq_true hfit
                split at h
                · rename_i s1 hst
                  cases h
                  unfold stL at hst
                  rw [hown, cond_true, hg] at hst
                  simp only at hst
                  cases hq : (Nat.ble (off + len * i.size + news.length) cs.size && news.all oneC) with
                  | false => rw [hq] at hst; cases hst
                  | true =>
                    rw [hq, cond_true] at hst
                    cases hst
                    simp only [Bool.and_eq_true] at hq
                    have hn1 := hq.2
                    have hcap : len + k ≤ c' := Nat.le_of_mul_le_mul_right (c := i.size) (by omega) hn0
                    have ha' := h3 (by omega)
                    subst ha'
                    have hlen' : pl.base + off + len * i.size + news'.length ≤ C.size := by
                      rw [ha.len, show pl.base + off + len * i.size + k * i.size = pl.base + (off + (len + k) * i.size) from by rw [Nat.add_mul]; omega]; omega
                    obtain ⟨C', hone, hC'⟩ := setCells_one (b := pl.block) news' (pl.base + off + len * i.size) w C hC hlen'
                    have hr := ha.fits (by rw [hnews.all1]; exact hn1) pl.block (pl.base + off) len c' hcap
                      (fun j hj => by rw [cell_of hC, Array.getElem?_eq_getElem (by omega)]; rfl) (fun j hj => frozen_of hC _)
                    refine ⟨ρ, _, _, hr, .sl id off (len + k) _ pl _ c' e1 hcap (fun h0 => by omega) (fun _ => rfl) (fun _ _ => ⟨L, hL, hoff⟩), ?_⟩
                    refine Stp.write hw hg e1 hown hone ⟨C', eM, (0, 0), hone.here, fun _ => rfl, ?_, fun L' hL' => ?_⟩
                    · have := hlies.put hnews (off + len * i.size) (by have := Nat.le_of_ble_eq_true hq.1; simpa using this) (show pl.base + (off + len * i.size) + news'.length ≤ C.toList.length by simpa using (by omega : pl.base + (off + len * i.size) + news'.length ≤ C.size))
                      simpa [hC', Nat.add_assoc] using this
                    · rw [hL] at hL'; cases hL'
                      have e1 : C'.size = C.size := by
                        have := congrArg List.length hC'
                        simp at this; omega
                      have e2 : (putAt cs.toList (off + len * i.size) news).length = cs.size := by
                        have := Nat.le_of_ble_eq_true hq.1
                        simp [putAt]; omega
                      simp only [List.size_toArray, e1, e2]
                      exact ⟨hL1, hL2⟩
                · cases h
              | false =>
                rw [hfit, cond_false] at h
                cases hfit2 : Nat.ble (off + len * i.size) cs.size with
                | false => rw [hfit2] at h; cases h
                | true =>
                  rw [hfit2, cond_true] at h
                  have hf2 := Nat.le_of_ble_eq_true hfit2
                  obtain ⟨hn1, rfl, rfl⟩ := newS_spec h
                  simp only [List.all_append, Bool.and_eq_true] at hn1
                  have holdl : ((cs.toList.drop off).take (len * i.size)).length = len * i.size := by simp; omega
                  have hne : Nat.beq ((cs.toList.drop off).take (len * i.size) ++ news).length 0 = false := by
                    cases hb : Nat.beq ((cs.toList.drop off).take (len * i.size) ++ news).length 0 with
                    | true => have := Nat.eq_of_beq_eq_true hb; rw [List.length_append] at this; omega
                    | false => rfl
                  rw [hne, cond_false]
                  by_cases hcap : len + k ≤ c'
                  · have ha' := h3 (by omega)
                    subst ha'
                    have hmul := Nat.mul_le_mul_right i.size hcap
                    have hlen' : pl.base + off + len * i.size + news'.length ≤ C.size := by
                      rw [ha.len, show pl.base + off + len * i.size + k * i.size = pl.base + off + (len + k) * i.size from by rw [Nat.add_mul]; omega]; omega
                    obtain ⟨C', hone, hC'⟩ := setCells_one (b := pl.block) news' (pl.base + off + len * i.size) w C hC hlen'
                    have hr := ha.fits (by rw [hnews.all1]; exact hn1.2) pl.block (pl.base + off) len c' hcap
                      (fun j hj => by rw [cell_of hC, Array.getElem?_eq_getElem (by omega)]; rfl) (fun j hj => frozen_of hC _)
                    have hst := Stp.again (s := s) hw hg e1 hown (pl' := ⟨pl.block, pl.base + off, some (c' * i.size)⟩) rfl hone (o' := .cells ((cs.toList.drop off).take (len * i.size) ++ news).toArray e (0, 0))
                      (fun ρ' hx => ⟨C', eM, (0, 0), hone.here, fun _ => rfl, ?_, fun L' hL' => ?_⟩)
                    · refine ⟨_, _, _, hr, ?_, hst⟩
                      have := VR.sl (ρ := upd ρ s.nx ⟨pl.block, pl.base + off, some (c' * i.size)⟩) s.nx 0 (len + k) i.size ⟨pl.block, pl.base + off, some (c' * i.size)⟩ ⟨pl.block, pl.base + off, none⟩ c' (upd_self ..) hcap (fun h0 => by omega) (fun _ => by simp) (fun _ _ => ⟨_, rfl, by rw [Nat.zero_add]⟩)
                      exact this
                    · have hpre : pl.base + off + len * i.size ≤ C.toList.length := by simp; omega
                      intro j u eu
                      by_cases hj : j < len * i.size
                      · rw [List.getElem?_append_left (by rw [holdl]; exact hj), List.getElem?_take, if_pos hj, List.getElem?_drop] at eu
                        obtain ⟨u', eu', hu⟩ := hlies (off + j) u eu
                        refine ⟨u', ?_, hu.mono hx⟩
                        have hq1 : off + j < off + len * i.size := by omega
                        show C'.toList[pl.base + off + j]? = some u'
                        rw [hC', List.append_assoc, List.getElem?_append_left (by rw [List.length_take, Nat.min_eq_left hpre]; omega), List.getElem?_take, if_pos (by omega)]
                        rw [← eu']; congr 1; omega
                      · rw [List.getElem?_append_right (by rw [holdl]; omega), holdl] at eu
                        obtain ⟨u', eu', hu⟩ := hnews.at _ u eu
                        refine ⟨u', ?_, hu.mono hx⟩
                        have hj2 := (List.getElem?_eq_some_iff.1 eu').1
                        show C'.toList[pl.base + off + j]? = some u'
                        rw [hC', List.append_assoc, List.getElem?_append_right (by rw [List.length_take]; omega), List.length_take, Nat.min_eq_left hpre, List.getElem?_append_left (by omega)]
                        rw [← eu']; congr 1; omega
                    · cases hL'
                      have e1 : C'.size = C.size := by
                        have := congrArg List.length hC'
                        simp at this; omega
                      have e2 : news.length = k * i.size := by rw [hnews.length, ha.len]
                      simp only [List.size_toArray, List.length_append, holdl, e1, e2]
                      rw [← Nat.add_mul]
                      exact ⟨by omega, hmul⟩
                  · obtain ⟨olds', hlo, hlr⟩ := Lies.load (P := P) (w := w.drew) hC hlies (off := off) (n := len * i.size) (by simpa using hf2)
                    have hol : olds'.length = len * i.size := by rw [← hlr.length, holdl]
                    have hold : (Builtin.firstCells i.size len (.slice (some a') len c')).run P w.drew = .ok olds'.toArray w.drew := by
                      by_cases hc0 : c' = 0
                      · have hl0 : len = 0 := by omega
                        subst hl0
                        have : olds' = [] := List.eq_nil_of_length_eq_zero (by rw [hol, Nat.zero_mul])
                        subst this
                        simp [Builtin.firstCells, loadCells, loadCellsFrom]
                      · rw [h3 hc0]; exact hlo
                    have hr := ha.grow (some a') len c' olds' hold (by omega) hk0 hroom (by unfold room at hroom; omega)
                    have hS := hsz olds' len c' hol
                    have hd := Stp.drop hw hown
                    have hLR := hlr.append hnews
                    have hst := step_row hd.wr (cs := (cs.toList.drop off).take (len * i.size) ++ news) (C := (olds' ++ news').toArray ++ Builtin.zeroCells z.cells (grownCap w (len + k) c' e - (len + k))) (e := e) (e' := e)
                      (fun j u eu => by
                        obtain ⟨u', eu', hu⟩ := hLR.at j u eu
                        exact ⟨u', by rw [Nat.zero_add, Array.toList_append, List.getElem?_append_left (List.getElem?_eq_some_iff.1 eu').1]; exact eu', hu⟩)
                      (grownCap w (len + k) c' e * i.size) (by rw [hS]; exact Nat.le_refl _) (by rw [hLR.length, List.length_append, hol, ha.len, ← Nat.add_mul]; exact Nat.mul_le_mul_right _ (hge len c').2)
                    refine ⟨_, _, _, hr, ?_, (hd.trans hst).drew⟩
                    exact .sl s.nx 0 (len + k) _ ⟨w.heap.size, 0, some (grownCap w (len + k) c' e * i.size)⟩ _ _ (upd_self ..) (hge len c').2 (fun h0 => by have := (hge len c').1; omega) (fun _ => by simp) (fun _ _ => ⟨_, rfl, by rw [Nat.zero_add]⟩)
            · cases h
        · cases h
  · cases h
end
end Go.Eng
