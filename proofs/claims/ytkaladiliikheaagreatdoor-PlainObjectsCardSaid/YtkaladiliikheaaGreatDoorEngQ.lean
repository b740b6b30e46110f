/- The engine, part Q: the law of a region whose order is drawn. -/
import Derived.Test.YtkaladiliikheaaGreatDoorEngP
set_option linter.unusedVariables false
set_option linter.unusedSectionVars false
set_option linter.unusedSimpArgs false
namespace Go.Eng
open Go
variable [Toks]

section
variable {P : Program}
/-- A floating object comes into the state. -/
theorem Stp.absorb {ρ0 ρ : Ren} {s0 s : S} {w0 w : World} (h : Stp P ρ0 s0 w0 ρ s w) {id : Nat} {pl : Pl} {obj : Obj} (hid : s0.free id) (hnf : ¬ s.free id) (hp : ρ id = some pl) (ho : OR P ρ pl w obj) (hb : w0.heap.size ≤ pl.block)
    (hno : ∀ j o pj, s.get j = some o → ρ j = some pj → pj.block ≠ pl.block) : Stp P ρ0 s0 w0 ρ (s.set id (some obj)) w := by
  have hg : ∀ j, (s.set id (some obj)).get j = if j = id then some obj else s.get j := fun j => S.get_set ..
  have hin : ∀ j q, (s.set id (some obj)).get j = some q → j ≠ id → s.get j = some q := fun j q ej hj => by rw [hg, if_neg hj] at ej; exact ej
  refine ⟨⟨?_, ?_, fun j hf => h.wr.free j hf, h.wr.sd, h.wr.glob⟩, fun j hf => h.fre j hf, h.sd, h.wa, h.wb, h.ext, h.only, ?_, ?_, h.tape, h.os, h.output, h.size, h.frame⟩
  · intro j q ej
    by_cases hj : j = id
    · subst hj
      rw [hg, if_pos rfl] at ej; cases ej
      exact ⟨pl, hp, ho⟩
    · exact h.wr.obj j q (hin j q ej hj)
  · intro i j oi oj pi pj ei ej hi hj hbb
    by_cases hi' : i = id <;> by_cases hj' : j = id
    · rw [hi', hj']
    · subst hi'; rw [hp] at hi; cases hi
      exact absurd hbb.symm (hno j oj pj (hin j oj ej hj') hj)
    · subst hj'; rw [hp] at hj; cases hj
      exact absurd hbb (hno i oi pi (hin i oi ei hi') hi)
    · exact h.wr.inj i j oi oj pi pj (hin i oi ei hi') (hin j oj ej hj') hi hj hbb
  · intro j hne
    by_cases hj : j = id
    · exact .inl (hj ▸ hid)
    · exact h.gone j (by rw [hg, if_neg hj] at hne; exact hne)
  · intro j q pj ej hj hbb
    by_cases hj' : j = id
    · subst hj'; rw [hp] at hj; cases hj; omega
    · exact h.img j q pj (hin j q ej hj') hj hbb
/-- A floating object is made; the state does not show it yet. -/
theorem Stp.pend {ρ0 ρ : Ren} {s0 s : S} {w0 w : World} (h : Stp P ρ0 s0 w0 ρ s w) {id : Nat} (O : Obj) (lim : Option Nat) (hid : s0.free id) (hnf : ¬ s.free id) (hn : ρ id = none) :
    Stp P ρ0 s0 w0 (upd ρ id ⟨w.heap.size, 0, lim⟩) s { w with heap := w.heap.push O } := by
  have hx : Ext ρ (upd ρ id ⟨w.heap.size, 0, lim⟩) := ext_upd hn
  have hne : ∀ j pj, ρ j = some pj → j ≠ id := fun j pj e hj => by rw [hj, hn] at e; cases e
  have hup : ∀ j, j ≠ id → (upd ρ id ⟨w.heap.size, 0, lim⟩) j = ρ j := fun j hj => by simp [upd, hj]
  have hold : ∀ j q, s.get j = some q → j ≠ id := fun j q e => by
    obtain ⟨pl, hp, _⟩ := h.wr.obj j q e
    exact hne j pl hp
  refine ⟨⟨?_, ?_, ?_, h.wr.sd, ?_⟩, h.fre, h.sd, h.wa, h.wb, h.ext.trans hx, ?_, h.gone, ?_, h.tape, h.os, h.output, Nat.le_trans h.size (by simp), ?_⟩
  · intro j q e
    obtain ⟨pl, hp, ho⟩ := h.wr.obj j q e
    exact ⟨pl, hx.1 _ _ hp, (ho.mono hx).world (push_get _ _ _ ho.lt)⟩
  · intro i j oi oj pi pj ei ej hi hj hb
    rw [hup i (hold i oi ei)] at hi
    rw [hup j (hold j oj ej)] at hj
    exact h.wr.inj i j oi oj pi pj ei ej hi hj hb
  · intro j hf
    rw [hup j (fun hj => hnf (hj ▸ hf))]; exact h.wr.free j hf
  · intro g hg
    exact hx.1 _ _ (h.wr.glob g hg)
  · intro j
    by_cases hj : j = id
    · exact .inr (hj ▸ hid)
    · rw [hup j hj]; exact h.only j
  · intro j q pj e hj hb
    rw [hup j (hold j q e)] at hj
    exact h.img j q pj e hj hb
  · intro b hb hn'
    exact (push_get _ _ _ (Nat.lt_of_lt_of_le hb h.size)).trans (h.frame b hb hn')
omit [Toks] in
/-- Ids are set aside. -/
noncomputable def S.rsv (s : S) (q : Nat) : S := S.rec (motive := fun _ => S) (fun hp nx sd wa wb => ⟨hp, Nat.add nx (Nat.mul q sd), sd, wa, wb⟩) s
theorem S.free_rsv {s : S} {q id : Nat} (h : (s.rsv q).free id) : s.free id := by
  obtain ⟨i, rfl⟩ := h
  refine ⟨q + i, ?_⟩
  show s.nx + q * s.sd + i * s.sd = s.nx + (q + i) * s.sd
  rw [Nat.add_mul]; omega
theorem S.rsv_not {s : S} {q j : Nat} (hs : 0 < s.sd) (hj : j < q) : ¬ (s.rsv q).free (Nat.add s.nx (Nat.mul j s.sd)) := by
  rintro ⟨i, h⟩
  have h' : s.nx + j * s.sd = s.nx + q * s.sd + i * s.sd := h
  have h2 : j * s.sd = (q + i) * s.sd := by rw [Nat.add_mul]; omega
  have := Nat.eq_of_mul_eq_mul_right hs h2
  omega
theorem Stp.rsv {ρ0 ρ : Ren} {s0 s : S} {w0 w : World} (h : Stp P ρ0 s0 w0 ρ s w) (q : Nat) : Stp P ρ0 s0 w0 ρ (s.rsv q) w :=
  ⟨⟨h.wr.obj, h.wr.inj, fun id hf => h.wr.free id (S.free_rsv hf), h.wr.sd, h.wr.glob⟩, fun id hf => h.fre id (S.free_rsv hf), h.sd, h.wa, h.wb, h.ext, h.only, h.gone, h.img, h.tape, h.os, h.output, h.size, h.frame⟩
end
end Go.Eng
