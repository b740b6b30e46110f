/- The engine, part C: loads, stores and new blocks of the model, and the steps of states that they make. -/
import Derived.Test.YtkaladiliikheaaGreatDoorEngB
import Derived.Orders
import Derived.WalkKit
set_option linter.unusedVariables false
set_option linter.unusedSectionVars false
namespace Go.Eng
open Go
variable [Toks]

theorem addr_add (b o k : Nat) : (⟨b, o, none⟩ : Addr).add k = ⟨b, o + k, none⟩ := by
  unfold Addr.add
  split
  · rename_i h; subst h; rfl
  · rfl

theorem cell_of {w : World} {b : Nat} {C : Array Value} {e : TypeId} {fr : Nat × Nat} (h : w.heap[b]? = some (.cells C e fr)) (i : Nat) : w.cell? ⟨b, i, none⟩ = C[i]? := by
  simp [World.cell?, h]
theorem frozen_of {w : World} {b : Nat} {C : Array Value} {e : TypeId} (h : w.heap[b]? = some (.cells C e (0, 0))) (i : Nat) : w.frozen? ⟨b, i, none⟩ = false := by
  simp [World.frozen?, h]

theorem run_load {P : Program} {w : World} {a : Addr} {v : Value} (h : w.cell? a = some v) : (load a).run P w = .ok v w := by
  simp [load, Sem.run, h]

theorem run_loadCellsFrom {P : Program} {w : World} {b : Nat} {C : Array Value} {e : TypeId} {fr : Nat × Nat} (h : w.heap[b]? = some (.cells C e fr)) (o : Nat) :
    ∀ (n i : Nat) (acc : Array Value), o + i + n ≤ C.size → (loadCellsFrom ⟨b, o, none⟩ i n acc).run P w = .ok (acc ++ ((C.toList.drop (o + i)).take n).toArray) w := by
  intro n
  induction n with
  | zero => intro i acc hn; simp [loadCellsFrom]
  | succ n ih =>
    intro i acc hn
    have hlt : o + i < C.size := by omega
    have hc : w.cell? ((⟨b, o, none⟩ : Addr).add i) = some C[o + i] := by rw [addr_add, cell_of h, Array.getElem?_eq_getElem hlt]
    simp only [loadCellsFrom, Sem.run_bind, run_load hc, Result.andThen_ok]
    rw [ih (i + 1) _ (by omega)]
    congr 1
    have hl : o + i < C.toList.length := by simpa using hlt
    rw [List.drop_eq_getElem_cons hl, List.take_succ_cons]
    apply Array.ext'
    simp [Nat.add_assoc]
theorem run_loadCells {P : Program} {w : World} {b : Nat} {C : Array Value} {e : TypeId} {fr : Nat × Nat} (h : w.heap[b]? = some (.cells C e fr)) (o n : Nat) (hn : o + n ≤ C.size) :
    (loadCells ⟨b, o, none⟩ n).run P w = .ok ((C.toList.drop o).take n).toArray w := by
  unfold loadCells
  rw [run_loadCellsFrom h o n 0 #[] (by omega)]
  simp

/-- The same world but for one block. -/
structure One (w w' : World) (b : Nat) (o : Obj) : Prop where
  here : w'.heap[b]? = some o
  there : ∀ j, j ≠ b → w'.heap[j]? = w.heap[j]?
  size : w'.heap.size = w.heap.size
  tape : w'.tape = w.tape
  os : w'.os = w.os
  output : w'.output = w.output

theorem setCell_one {w : World} {b o : Nat} {C : Array Value} {e : TypeId} {fr : Nat × Nat} (h : w.heap[b]? = some (.cells C e fr)) (v : Value) :
    One w (w.setCell ⟨b, o, none⟩ v) b (.cells (C.setIfInBounds o v) e fr) where
  here := by
    simp only [World.setCell]
    rw [Array.getElem?_modify]
    simp [h]
  there := fun j hj => by
    simp only [World.setCell]
    rw [Array.getElem?_modify]
    simp [Ne.symm hj]
  size := by simp [World.setCell]
  tape := rfl
  os := rfl
  output := rfl

theorem set_splice (l : List Value) (n : Nat) (v : Value) (vs : List Value) (h : n < l.length) : (l.set n v).take (n + 1) ++ vs ++ (l.set n v).drop (n + 1 + vs.length) = l.take n ++ (v :: vs) ++ l.drop (n + (v :: vs).length) := by
  have hs : l.set n v = l.take n ++ v :: l.drop (n + 1) := by rw [List.set_eq_take_append_cons_drop, if_pos h]
  have ht : (l.take n).length = n := by rw [List.length_take]; omega
  rw [hs]
  have h1 : (l.take n ++ v :: l.drop (n + 1)).take (n + 1) = l.take n ++ [v] := by
    rw [List.take_append, ht, List.take_of_length_le (by omega), show n + 1 - n = 1 from by omega]; rfl
  have h2 : (l.take n ++ v :: l.drop (n + 1)).drop (n + 1 + vs.length) = l.drop (n + (v :: vs).length) := by
    rw [List.drop_append, ht, List.drop_of_length_le (by omega), show n + 1 + vs.length - n = vs.length + 1 from by omega, List.drop_succ_cons, List.drop_drop, List.length_cons, List.nil_append]
    congr 1; omega
  rw [h1, h2]; simp
theorem run_store {P : Program} {w : World} {a : Addr} {u v : Value} (hc : w.cell? a = some u) (hf : w.frozen? a = false) (h1 : oneC v = true) : (store a v).run P w = .ok () (w.setCell a v) := by
  cases v <;> first | (simp [oneC] at h1; done) | (simp [store, Sem.run, hc, hf])
theorem run_storeCells {P : Program} {b o : Nat} {e : TypeId} :
    ∀ (vs : List Value) (i : Nat) (w : World) (C : Array Value), w.heap[b]? = some (.cells C e (0, 0)) → o + i + vs.length ≤ C.size → vs.all oneC = true →
      ∃ w' C', (storeCells ⟨b, o, none⟩ vs i).run P w = .ok () w' ∧ One w w' b (.cells C' e (0, 0)) ∧ C'.toList = C.toList.take (o + i) ++ vs ++ C.toList.drop (o + i + vs.length) := by
  intro vs
  induction vs with
  | nil =>
    intro i w C h hn _
    exact ⟨w, C, by simp [storeCells], ⟨h, fun _ _ => rfl, rfl, rfl, rfl, rfl⟩, by simp⟩
  | cons v vs ih =>
    intro i w C h hn h1
    simp only [List.all_cons, Bool.and_eq_true, List.length_cons] at h1 hn
    have hlt : o + i < C.size := by omega
    have hc : w.cell? ((⟨b, o, none⟩ : Addr).add i) = some C[o + i] := by rw [addr_add, cell_of h, Array.getElem?_eq_getElem hlt]
    have hf : w.frozen? ((⟨b, o, none⟩ : Addr).add i) = false := by rw [addr_add]; exact frozen_of h _
    have hst : (store ((⟨b, o, none⟩ : Addr).add i) v).run P w = .ok () (w.setCell ⟨b, o + i, none⟩ v) := by
      rw [run_store hc hf h1.1, addr_add]
    have hone := setCell_one (o := o + i) h v
    obtain ⟨w', C', hr, hw, hC⟩ := ih (i + 1) (w.setCell ⟨b, o + i, none⟩ v) (C.setIfInBounds (o + i) v) hone.here (by simp; omega) h1.2
    refine ⟨w', C', ?_, ⟨hw.here, fun j hj => (hw.there j hj).trans (hone.there j hj), hw.size.trans hone.size, hw.tape.trans hone.tape, hw.os.trans hone.os, hw.output.trans hone.output⟩, ?_⟩
    · simp only [storeCells, Sem.run_bind, hst, Result.andThen_ok, hr]
    · rw [hC]
      rw [Array.toList_setIfInBounds, show o + (i + 1) = o + i + 1 from by omega]
      exact set_splice _ _ _ _ (by simpa using hlt)

/-! ### Steps: a new object -/
def upd (ρ : Ren) (id : Nat) (pl : Pl) : Ren := ⟨fun j => if j = id then some pl else ρ j⟩
theorem ext_upd {ρ : Ren} {id : Nat} {pl : Pl} (h : ρ id = none) : Ext ρ (upd ρ id pl) := ⟨fun j q e => by
  unfold upd
  show (if j = id then some pl else ρ j) = some q
  split
  · rename_i hj; subst hj; rw [h] at e; cases e
  · exact e, rfl⟩

theorem push_get (h : Array Obj) (o : Obj) (j : Nat) (hj : j < h.size) : (h.push o)[j]? = h[j]? := by
  rw [Array.getElem?_push]; simp [Nat.ne_of_lt hj]

theorem Stp.make {P : Program} {ρ : Ren} {s : S} {w : World} (h : WR P ρ s w) (o O : Obj) (lim : Option Nat)
    (ho : ∀ ρ' : Ren, Ext ρ ρ' → OR P ρ' ⟨w.heap.size, 0, lim⟩ { w with heap := w.heap.push O } o) :
    Stp P ρ s w (upd ρ s.nx ⟨w.heap.size, 0, lim⟩) (s.new o) { w with heap := w.heap.push O } := by
  have hn : ρ s.nx = none := h.free _ s.free_nx
  have hx : Ext ρ (upd ρ s.nx ⟨w.heap.size, 0, lim⟩) := ext_upd hn
  have hg : ∀ id, (s.new o).get id = if id = s.nx then some o else s.get id := fun id => S.get_new ..
  have hold : ∀ id q, s.get id = some q → id ≠ s.nx := fun id q e hid => by
    rw [hid, h.free_get s.free_nx] at e; cases e
  have hlt : ∀ id q pl, s.get id = some q → ρ id = some pl → pl.block < w.heap.size := fun id q pl e hp => by
    obtain ⟨pl', hp', ho'⟩ := h.obj id q e
    rw [hp] at hp'; cases hp'; exact ho'.lt
  refine ⟨⟨?_, ?_, ?_, h.sd, ?_⟩, fun id hf => S.free_new hf, rfl, rfl, rfl, hx, ?_, ?_, ?_, rfl, rfl, rfl, by simp, ?_⟩
  · intro id q e
    rw [hg] at e
    by_cases hid : id = s.nx
    · rw [if_pos hid] at e; cases e
      exact ⟨_, by simp [upd, hid], ho _ hx⟩
    · rw [if_neg hid] at e
      obtain ⟨pl, hp, hq⟩ := h.obj id q e
      refine ⟨pl, hx.1 _ _ hp, (hq.mono hx).world ?_⟩
      exact push_get _ _ _ hq.lt
  · intro i j oi oj pi pj ei ej hi hj hb
    rw [hg] at ei ej
    by_cases hi' : i = s.nx <;> by_cases hj' : j = s.nx
    · rw [hi', hj']
    · rw [if_neg hj'] at ej
      simp only [upd, if_pos hi', if_neg hj', Option.some.injEq] at hi hj
      subst hi
      have := hlt j oj pj ej hj
      simp only at hb; omega
    · rw [if_neg hi'] at ei
      simp only [upd, if_neg hi', if_pos hj', Option.some.injEq] at hi hj
      subst hj
      have := hlt i oi pi ei hi
      simp only at hb; omega
    · rw [if_neg hi'] at ei; rw [if_neg hj'] at ej
      simp only [upd, if_neg hi', if_neg hj'] at hi hj
      exact h.inj i j oi oj pi pj ei ej hi hj hb
  · intro id hf
    have h1 := S.free_new hf
    have h2 := S.free_new_ne h.sd hf
    simp only [upd, if_neg h2]
    exact h.free id h1
  · intro g hg'
    exact hx.1 _ _ (h.glob g hg')
  · intro id
    by_cases hid : id = s.nx
    · exact .inr (hid ▸ s.free_nx)
    · exact .inl (by simp [upd, hid])
  · intro id hne
    rw [hg] at hne
    by_cases hid : id = s.nx
    · exact .inl (hid ▸ s.free_nx)
    · rw [if_neg hid] at hne; exact absurd rfl hne
  · intro id q pl e hp hb
    rw [hg] at e
    by_cases hid : id = s.nx
    · simp only [upd, if_pos hid, Option.some.injEq] at hp
      subst hp
      exact absurd hb (by simp)
    · rw [if_neg hid] at e
      simp only [upd, if_neg hid] at hp
      exact ⟨id, q, pl, e, hp, rfl, fun hne => absurd rfl hne⟩
  · intro b hb hn'
    exact push_get _ _ _ hb

/-! ### Steps: an object is written -/
theorem Stp.write {P : Program} {ρ : Ren} {s : S} {w w' : World} (h : WR P ρ s w) {id : Nat} {o o' O : Obj} {pl : Pl} (e : s.get id = some o) (hp : ρ id = some pl) (hown : s.own id = true)
    (hw : One w w' pl.block O) (ho : OR P ρ pl w' o') : Stp P ρ s w ρ (s.set id (some o')) w' := by
  have hg : ∀ j, (s.set id (some o')).get j = if j = id then some o' else s.get j := fun j => S.get_set ..
  have hthere : ∀ j q pj, s.get j = some q → ρ j = some pj → j ≠ id → w'.heap[pj.block]? = w.heap[pj.block]? := fun j q pj ej hj hne =>
    hw.there _ fun hb => hne (h.inj j id q o pj pl ej e hj hp hb)
  refine ⟨⟨?_, ?_, fun j hf => h.free j hf, h.sd, h.glob⟩, fun j hf => hf, rfl, rfl, rfl, Ext.refl _, fun _ => .inl rfl, ?_, ?_, hw.tape, hw.os, hw.output, Nat.le_of_eq hw.size.symm, ?_⟩
  · intro j q ej
    rw [hg] at ej
    by_cases hj : j = id
    · rw [if_pos hj] at ej; cases ej
      exact ⟨pl, hj ▸ hp, ho⟩
    · rw [if_neg hj] at ej
      obtain ⟨pj, hpj, hq⟩ := h.obj j q ej
      exact ⟨pj, hpj, hq.world (hthere j q pj ej hpj hj)⟩
  · intro i j oi oj pi pj ei ej hi hj hb
    rw [hg] at ei ej
    have gi : ∃ oi, s.get i = some oi := by
      by_cases hi' : i = id
      · exact ⟨o, hi' ▸ e⟩
      · rw [if_neg hi'] at ei; exact ⟨_, ei⟩
    have gj : ∃ oj, s.get j = some oj := by
      by_cases hj' : j = id
      · exact ⟨o, hj' ▸ e⟩
      · rw [if_neg hj'] at ej; exact ⟨_, ej⟩
    obtain ⟨oi', gi⟩ := gi
    obtain ⟨oj', gj⟩ := gj
    exact h.inj i j oi' oj' pi pj gi gj hi hj hb
  · intro j hne
    rw [hg] at hne
    by_cases hj : j = id
    · exact .inr (hj ▸ hown)
    · rw [if_neg hj] at hne; exact absurd rfl hne
  · intro j q pj ej hj hb
    rw [hg] at ej
    by_cases hj' : j = id
    · exact ⟨j, o, pj, hj' ▸ e, hj, rfl, fun hne => absurd rfl hne⟩
    · rw [if_neg hj'] at ej
      exact ⟨j, q, pj, ej, hj, rfl, fun hne => absurd rfl hne⟩
  · intro b hb hn
    exact hw.there b fun hbb => hn id o pl e hown hp hbb.symm

/-- An object is let go. -/
theorem Stp.drop {P : Program} {ρ : Ren} {s : S} {w : World} (h : WR P ρ s w) {id : Nat} (hown : s.own id = true) : Stp P ρ s w ρ (s.set id none) w := by
  have hg : ∀ j, (s.set id none).get j = if j = id then none else s.get j := fun j => S.get_set ..
  have hsome : ∀ j q, (s.set id none).get j = some q → s.get j = some q := fun j q ej => by
    rw [hg] at ej
    by_cases hj : j = id
    · rw [if_pos hj] at ej; cases ej
    · rwa [if_neg hj] at ej
  refine ⟨⟨fun j q ej => h.obj j q (hsome j q ej), fun i j oi oj pi pj ei ej => h.inj i j oi oj pi pj (hsome i oi ei) (hsome j oj ej), fun j hf => h.free j hf, h.sd, h.glob⟩, fun j hf => hf, rfl, rfl, rfl, Ext.refl _, fun _ => .inl rfl, ?_, fun j q pj ej hj hb => ⟨j, q, pj, hsome j q ej, hj, rfl, fun hne => absurd rfl hne⟩, rfl, rfl, rfl, Nat.le_refl _, fun _ _ _ => rfl⟩
  intro j hne
  by_cases hj : j = id
  · exact .inr (hj ▸ hown)
  · rw [hg, if_neg hj] at hne; exact absurd rfl hne
end Go.Eng
