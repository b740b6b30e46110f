/- The engine, part M2: map keys that are interfaces and hold pointers. -/
import Derived.Test.YtkaladiliikheaaGreatDoorEngM
import Derived.LaidEql
set_option linter.unusedVariables false
set_option linter.unusedSectionVars false
set_option linter.unusedSimpArgs false
namespace Go.Eng
open Go
variable [Toks]
section
variable {P : Program} {o : Oper} {kn : KN} {s : S}
omit [Toks] in
def chkPt (P : Program) (d : Nat) : Bool := match P.info? d, P.underlying d with
  | some i, some (.pointer e) => i.comparable && (match P.info? e with | some j => !Nat.beq j.size 0 | none => false)
  | _, _ => false
omit [Toks] in
noncomputable def isC (s : S) (a : Nat) : Bool := match s.get a with | some (.cells _ _ (0, 0)) => true | _ => false
omit [Toks] in
noncomputable def keyI (P : Program) (s : S) (k k' : Value) : Option Bool := match k, k' with
  | .iface d (.pointer (some ⟨a, 0, none⟩)), .iface d' (.pointer (some ⟨b, 0, none⟩)) => bif isC s a && isC s b && chkPt P d then some (Nat.beq d d' && Nat.beq a b) else none
  | _, _ => none
theorem isC_spec {a : Nat} (h : isC s a = true) : ∃ c e, s.get a = some (.cells c e (0, 0)) := by
  unfold isC at h
  split at h
  · exact ⟨_, _, by assumption⟩
  · cases h
theorem eqIn_if (d : Nat) {t u : Nat} {ms : Array (String × TypeId)} {i : TypeInfo} {x y : Value} {w : World} (h : P.underlying t = some (.interface ms)) (hi : P.info? u = some i) (hc : i.comparable = true) :
    (Op.equalIn (d + 1) t (.iface u x) (.iface u y)).run P w = (Op.equalIn d u x y).run P w := by
  simp [Op.equalIn, underlying, h, typeInfo, hi, hc]
theorem eqIn_ine (d : Nat) {t u u' : Nat} {ms : Array (String × TypeId)} {x y : Value} {w : World} (h : P.underlying t = some (.interface ms)) (hne : u ≠ u') :
    (Op.equalIn (d + 1) t (.iface u x) (.iface u' y)).run P w = .ok false w := by
  simp [Op.equalIn, underlying, h, hne]
theorem eqIn_pp (d : Nat) {u e : Nat} {j : TypeInfo} {a b : Addr} {w : World} (h : P.underlying u = some (.pointer e)) (hj : P.info? e = some j) (hj0 : j.size ≠ 0) :
    (Op.equalIn (d + 1) u (.pointer (some a)) (.pointer (some b))).run P w = (sameAddr a b).run P w := by
  simp [Op.equalIn, underlying, h, sizeOf, typeInfo, hj, hj0]
theorem keyI_run {ρ : Ren} {w : World} (hw : WR P ρ s w) {kt : Nat} {ms : Array (String × TypeId)} (ht : P.underlying kt = some (.interface ms)) {k k' q q' : Value} {c : Bool} (h : keyI P s k k' = some c) (h1 : VR ρ k q) (h2 : VR ρ k' q') :
    (Op.equal kt q q').run P w = .ok c w ∧ (c = true → q' = q) := by
  unfold keyI at h
  split at h
  · rename_i d a d' b
    cases hb : (isC s a && isC s b && chkPt P d) with
    | false => rw [hb] at h; cases h
    | true =>
      rw [hb, cond_true] at h
      cases h
      simp only [Bool.and_eq_true] at hb
      obtain ⟨⟨ha, hbb⟩, hd⟩ := hb
      obtain ⟨ca, ea, ga⟩ := isC_spec ha
      obtain ⟨cb, eb, gb⟩ := isC_spec hbb
      obtain ⟨pa, hpa, Ca, ea', fra, hCa, hfa, _⟩ := hw.obj _ _ ga
      obtain ⟨pb, hpb, Cb, eb', frb, hCb, hfb, _⟩ := hw.obj _ _ gb
      have := hfa rfl; subst this
      have := hfb rfl; subst this
      unfold chkPt at hd
      split at hd
      · rename_i i e hi hu
        simp only [Bool.and_eq_true] at hd
        obtain ⟨hcomp, hsz⟩ := hd
        split at hsz
        · rename_i j hj
          have hj0 : j.size ≠ 0 := fun hh => by rw [hh] at hsz; simp at hsz
          cases h1 with
          | iface _ _ q1 g1 =>
            cases h2 with
            | iface _ _ q2 g2 =>
              cases g1 with
              | ptr _ _ pl1 x1 =>
                cases g2 with
                | ptr _ _ pl2 x2 =>
                  rw [hpa] at x1; cases x1
                  rw [hpb] at x2; cases x2
                  by_cases hdd : d = d'
                  · subst hdd
                    by_cases hab : a = b
                    · subst hab
                      rw [hpa] at hpb; cases hpb
                      refine ⟨?_, fun _ => rfl⟩
                      have e1 : (Nat.beq d d && Nat.beq a a) = true := by simp
                      rw [e1]
                      exact (eqIn_if 9999 ht hi hcomp).trans ((eqIn_pp 9998 hu hj hj0).trans (run_sameAddr_same _ _))
                    · have hblk : pa.block ≠ pb.block := fun hh => hab (hw.inj _ _ _ _ _ _ ga gb hpa hpb hh)
                      have hne : (⟨pa.block, pa.base + 0, none⟩ : Addr) ≠ ⟨pb.block, pb.base + 0, none⟩ := fun hh => hblk (congrArg Addr.block hh)
                      have hr := run_sameAddr_other (P := P) (w := w) hne hCa hCb
                      have hnb : Nat.beq a b = false := by rw [Bool.eq_false_iff]; intro hh; exact hab (Nat.eq_of_beq_eq_true hh)
                      have e1 : (Nat.beq d d && Nat.beq a b) = false := by rw [hnb]; simp
                      rw [e1]
                      exact ⟨(eqIn_if 9999 ht hi hcomp).trans ((eqIn_pp 9998 hu hj hj0).trans hr), fun hh => by cases hh⟩
                  · have hnd : Nat.beq d d' = false := by rw [Bool.eq_false_iff]; intro hh; exact hdd (Nat.eq_of_beq_eq_true hh)
                    have e1 : (Nat.beq d d' && Nat.beq a b) = false := by rw [hnd]; rfl
                    rw [e1]
                    exact ⟨eqIn_ine 9999 ht hdd, fun hh => by cases hh⟩
        · cases hsz
      · cases hd
  · cases h
omit [Toks] in
noncomputable def findI (P : Program) (s : S) (k : Value) : List MapEntry → Option (Option (Nat × Value))
  | [] => some none
  | e :: es => (match keyI P s k e.key with
    | some true => some (some (0, e.val))
    | some false => (match findI P s k es with
      | some (some (i, v)) => some (some (i + 1, v))
      | some none => some none
      | none => none)
    | none => none)
theorem findAskI {ρ : Ren} {w : World} (hw : WR P ρ s w) {kt : Nat} {ms : Array (String × TypeId)} (ht : P.underlying kt = some (.interface ms)) {k k' : Value} (hk : VR ρ k k') : ∀ {es es' : List MapEntry} {r : Option (Nat × Value)} (b : Nat), ER ρ es es' → findI P s k es = some r →
    ∃ r', (Instr.findAsking kt k' es' b).run P w = .ok r' w ∧ (r = none → r' = none) ∧ (∀ i v, r = some (i, v) → ∃ v', r' = some (b + i, v') ∧ VR ρ v v' ∧ ∃ e e', es[i]? = some e ∧ es'[i]? = some e' ∧ e'.key = k' ∧ e.val = v)
  | _, _, r, b, .nil, h => by
    simp only [findI, Option.some.injEq] at h
    subst h
    exact ⟨none, rfl, fun _ => rfl, fun i v hh => by cases hh⟩
  | _, _, r, b, .cons e e' l l' h1 h2 h3 hl, h => by
    unfold findI at h
    have hke : ∀ c, keyI P s k e.key = some c → (Op.equal kt k' e'.key).run P w = .ok c w ∧ (c = true → e'.key = k') := fun c hcc => keyI_run hw ht hcc hk h1
    split at h
    · rename_i hc1
      cases h
      obtain ⟨q1, q2⟩ := hke _ hc1
      refine ⟨some (b, e'.val), by simp [Instr.findAsking, q1], fun hh => (by cases hh), fun i v hh => ?_⟩
      cases hh
      exact ⟨e'.val, rfl, h2, e, e', rfl, rfl, q2 rfl, rfl⟩
    · rename_i hc1
      obtain ⟨q1, _⟩ := hke _ hc1
      split at h
      · rename_i i v hf
        cases h
        obtain ⟨r', g1, g2, g3⟩ := findAskI hw ht hk (b + 1) hl hf
        refine ⟨r', by simp only [Instr.findAsking, Sem.run_bind, q1, Result.andThen_ok, Bool.false_eq_true, if_false]; exact g1, fun hh => (by cases hh), fun i' v' hh => ?_⟩
        cases hh
        obtain ⟨v2, w1, w2, e1, e2, w3, w4, w5, w6⟩ := g3 i v rfl
        exact ⟨v2, by rw [w1]; congr 2; omega, w2, e1, e2, by simpa using w3, by simpa using w4, w5, w6⟩
      · rename_i hf
        cases h
        obtain ⟨r', g1, g2, g3⟩ := findAskI hw ht hk (b + 1) hl hf
        exact ⟨r', by simp only [Instr.findAsking, Sem.run_bind, q1, Result.andThen_ok, Bool.false_eq_true, if_false]; exact g1, fun _ => g2 rfl, fun i v hh => by cases hh⟩
      · cases h
    · cases h
theorem findKeyI_run {ρ : Ren} {w : World} (hw : WR P ρ s w) {kt : Nat} {ms : Array (String × TypeId)} (ht : P.underlying kt = some (.interface ms)) {k k' : Value} (hk : VR ρ k k') {es es' : List MapEntry} {r : Option (Nat × Value)} (hes : ER ρ es es') (h : findI P s k es = some r) :
    ∃ r', (Instr.findKey kt k' es').run P w = .ok r' w ∧ Found ρ k' es es' r r' := by
  cases hes with
  | nil =>
    simp only [findI, Option.some.injEq] at h
    subst h
    exact ⟨none, MapKept.run_findKey ht rfl, fun _ => rfl, fun i v hh => by cases hh⟩
  | cons e e' l l' h1 h2 h3 hl =>
    obtain ⟨r', g1, g2, g3⟩ := findAskI (P := P) hw ht hk 0 (.cons e e' l l' h1 h2 h3 hl) h
    refine ⟨r', ?_, g2, fun i v hh => by simpa using g3 i v hh⟩
    have hn : Instr.findNow (.interface ms) k' (e' :: l') 0 = none := by
      simp only [Instr.findNow, Instr.sameNow]
    unfold Instr.findKey
    simp only [Sem.run_bind, run_underlying ht, Result.andThen_ok, hn]
    exact g1
omit [Toks] in
def isKI (P : Program) (k : Value) : Bool := match k with | .iface d (.pointer (some ⟨_, 0, none⟩)) => chkPt P d | _ => false
theorem ck_ptr {em : Bool} (n : Nat) {d e : Nat} {q : Option Addr} {w : World} (hu : P.underlying d = some (.pointer e)) : (Instr.checkKey em (n + 1) d (.pointer q)).run P w = .ok () w := by
  simp [Instr.checkKey, underlying, hu]
theorem ck_if {em : Bool} (n : Nat) {kt d : Nat} {ms : Array (String × TypeId)} {i : TypeInfo} {x : Value} {w : World} (ht : P.underlying kt = some (.interface ms)) (hi : P.info? d = some i) (hc : i.comparable = true) :
    (Instr.checkKey em (n + 1) kt (.iface d x)).run P w = (Instr.checkKey em n d x).run P w := by
  simp [Instr.checkKey, underlying, ht, typeInfo, hi, hc]
theorem checkKeyI_run {ρ : Ren} {k k' : Value} (h : isKI P k = true) (hk : VR ρ k k') {kt : Nat} {ms : Array (String × TypeId)} (ht : P.underlying kt = some (.interface ms)) (em : Bool) (w : World) : (Instr.checkKey em 10000 kt k').run P w = .ok () w := by
  unfold isKI at h
  split at h
  · rename_i d a
    unfold chkPt at h
    split at h
    · rename_i i e hi hu
      simp only [Bool.and_eq_true] at h
      cases hk with
      | iface _ _ q g =>
        cases g with
        | ptr _ _ pl x =>
          exact (ck_if 9999 ht hi h.1).trans (ck_ptr 9998 hu)
    · cases h
  · cases h
def MapTI (P : Program) (t kt et : Nat) (z : Value) : Prop := P.underlying t = some (.map kt et) ∧ (∃ ms, P.underlying kt = some (.interface ms)) ∧ (∃ i, P.info? et = some i ∧ i.zero = some z) ∧ cl 3 z = true
omit [Toks] in
noncomputable def mpGI (P : Program) (m k z : Value) (ok : Bool) (s : S) : Option Value := match mapAt m s with
  | some (_, es, _) => (match (bif isKI P k then findI P s k es else none) with
    | some (some (_, v)) => some (bif ok then .tuple #[v, .bool true] else v)
    | some none => some (bif ok then .tuple #[z, .bool false] else z)
    | none => none)
  | none => none
theorem ov_mpGI {t kt et : Nat} {ok : Bool} {z : Value} {m k : Operand} {vm vk : Value} (ho : o.op = .lookup t m k ok) (ht : MapTI P t kt et z) (hm : opv P kn m = some vm) (hk : opv P kn k = some vk) : OV P o kn s (mpGI P vm vk z ok s) := by
  intro ρ act w u hw htm hu
  have h1 := opv_eval hw htm hm
  have h2 := opv_eval hw htm hk
  obtain ⟨hund, ⟨ms, hif⟩, ⟨i, hi, hz⟩, hcl⟩ := ht
  generalize hem : act.eval m = em at *
  generalize hek : act.eval k = ek at *
  unfold mpGI at hu
  split at hu
  · rename_i r es c hat
    obtain ⟨pl, es', a, rfl, hg, ha, hp, rfl, hh, hE⟩ := mapAt_spec hw hat h1
    cases hik : isKI P vk with
    | false => rw [hik] at hu; cases hu
    | true =>
      rw [hik, cond_true] at hu
      have hck := checkKeyI_run (P := P) hik h2 hif es'.isEmpty w
      have hrest : ∀ r', (Instr.findKey kt ek es'.toList).run P w = .ok r' w → (execOp act.eval o).run P w = .ok (.value (match r' with
          | some (_, v) => if ok then .tuple #[v, .bool true] else v
          | none => if ok then .tuple #[z, .bool false] else z)) w := by
        intro r' hr
        cases r' with
        | none => cases ok <;> simp [execOp, ho, hem, hek, Instr.lookup, run_underlying hund, MapKept.run_getObj_map hh, hck, hr, zeroValue, typeInfo, hi, hz]
        | some p => cases ok <;> simp [execOp, ho, hem, hek, Instr.lookup, run_underlying hund, MapKept.run_getObj_map hh, hck, hr]
      split at hu
      · rename_i i0 v hf
        cases hu
        obtain ⟨r', hr, g1, g2⟩ := findKeyI_run (P := P) hw hif h2 hE hf
        obtain ⟨v', rfl, hv, _⟩ := g2 i0 v rfl
        refine ⟨_, hrest _ hr, ?_⟩
        cases ok
        · exact hv
        · exact .tuple _ _ (.cons _ _ _ _ hv (.cons _ _ _ _ (.bool _) .nil))
      · rename_i hf
        cases hu
        obtain ⟨r', hr, g1, g2⟩ := findKeyI_run (P := P) hw hif h2 hE hf
        rw [g1 rfl] at hr
        refine ⟨_, hrest _ hr, ?_⟩
        cases ok
        · exact cl_VR 3 z hcl
        · exact .tuple _ _ (.cons _ _ _ _ (cl_VR 3 z hcl) (.cons _ _ _ _ (.bool _) .nil))
      · cases hu
  · cases hu
omit [Toks] in
noncomputable def mpSI (P : Program) (m k v : Value) (s : S) : Option S := match mapAt m s with
  | some (r, es, c) => bif s.own r && isKI P k then (match findI P s k es with
    | some none => some (s.set r (some (.map (es ++ [MapEntry.mk k v c]).toArray (c + 1))))
    | _ => none) else none
  | none => none
theorem os_mpSI {t kt et : Nat} {z : Value} {m k x : Operand} {vm vk vx : Value} (ho : o.op = .mapUpdate t m k x) (ht : MapTI P t kt et z) (hm : opv P kn m = some vm) (hk : opv P kn k = some vk) (hx : opv P kn x = some vx) : OS0 P o kn s (mpSI P vm vk vx s) := by
  intro ρ act w s' hw htm hu
  have h1 := opv_eval hw htm hm
  have h2 := opv_eval hw htm hk
  have h3 := opv_eval hw htm hx
  obtain ⟨hund, ⟨ms, hif⟩, _⟩ := ht
  generalize hem : act.eval m = em at *
  generalize hek : act.eval k = ek at *
  generalize hex : act.eval x = ex at *
  unfold mpSI at hu
  split at hu
  · rename_i r es c hat
    obtain ⟨pl, es', a, rfl, hg, ha, hp, rfl, hh, hE⟩ := mapAt_spec hw hat h1
    cases hik : (s.own r && isKI P vk) with
    | false => rw [hik] at hu; cases hu
    | true =>
      rw [hik, cond_true] at hu
      simp only [Bool.and_eq_true] at hik
      have hck := checkKeyI_run (P := P) hik.2 h2 hif false w
      split at hu
      · rename_i hf
        cases hu
        obtain ⟨r', hr, g1, g2⟩ := findKeyI_run (P := P) hw hif h2 hE hf
        rw [g1 rfl] at hr
        refine ⟨ρ, { w with heap := w.heap.setIfInBounds pl.block (.map (es'.push { key := ek, val := ex, born := c }) (c + 1)) }, .skip, ?_, .inl rfl, ?_⟩
        · simp [execOp, ho, hem, hek, hex, Instr.mapUpdate, run_underlying hund, MapKept.run_getObj_map hh, hck, hr, MapKept.run_setObj_map _ hh]
        · refine Stp.write hw hg hp hik.1 (setObj_one hh) ⟨_, (setObj_one hh).here, ?_⟩
          rw [Array.toList_push]
          exact ER.append hE (.cons _ _ _ _ h2 h3 rfl .nil)
      · cases hu
  · cases hu
end
end Go.Eng
