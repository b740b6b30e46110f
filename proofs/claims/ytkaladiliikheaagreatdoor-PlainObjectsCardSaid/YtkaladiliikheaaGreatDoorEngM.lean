/- The engine, part M: maps. -/
import Derived.Test.YtkaladiliikheaaGreatDoorEngL
import Derived.MapKept
set_option linter.unusedVariables false
set_option linter.unusedSectionVars false
set_option linter.unusedSimpArgs false
namespace Go.Eng
open Go
variable [Toks]

section
variable {P : Program} {o : Oper} {kn : KN} {s : S}

omit [Toks] in
/-- The key type of a map, of 'n' cells (none where it is a number). -/
def chkKey (P : Program) (kt n : Nat) : Bool := match n with
  | 0 => chkU P kt (fun | .int _ => true | _ => false)
  | n + 1 => chkInts P kt (n + 1)
/-- The model's key is a number, or a struct of numbers. -/
def IsK (n : Nat) (k : Value) : Prop := match n with
  | 0 => ∃ j m, k = .int j m
  | n + 1 => ∃ l, k = .agg ⟨l⟩ ∧ l.length = n + 1 ∧ ∀ v ∈ l, ∃ j m, v = .int j m
theorem intv_of {ρ : Ren} : ∀ {l l' : List Value}, LR ρ l l' → (l.all fun v => match v with | .int _ _ | .float .f64 _ => true | _ => false) = true → ∀ v ∈ l', ∃ j m, v = .int j m
  | _, _, .nil, _ => fun v hv => by cases hv
  | _, _, .cons v v' l l' hv hl, h => by
    simp only [List.all_cons, Bool.and_eq_true] at h
    intro u hu
    rcases List.mem_cons.1 hu with rfl | hu
    · cases hv <;> first | exact ⟨_, _, rfl⟩ | (simp at h; done)
    · exact intv_of hl h.2 u hu
theorem isKey_spec {ρ : Ren} {n : Nat} {k k' : Value} (h : isKey n k = true) (hk : VR ρ k k') : IsK n k' := by
  unfold isKey at h
  split at h
  · cases hk; exact ⟨_, _, rfl⟩
  · cases hk; exact ⟨_, _, rfl⟩
  · rename_i n x
    simp only [Bool.and_eq_true] at h
    have hx := Nat.eq_of_beq_eq_true h.1
    cases hk with
    | agg l l' hl =>
      exact ⟨l', rfl, by rw [← hl.length]; exact hx, intv_of hl h.2⟩
  · cases h
theorem checkFields (em : Bool) (d : Nat) : ∀ (fs : List Field) (i : Nat) (l : List Value) (w : World), intFields P i fs = true → i + fs.length ≤ l.length → (∀ v ∈ l, ∃ j m, v = .int j m) →
    (forIn (m := Sem) fs PUnit.unit fun f _ => (do
        if f.name ≠ "_" then Instr.checkKey em (d + 1) f.type (← part f.type ⟨l⟩ f.offset)
        pure (ForInStep.yield PUnit.unit))).run P w = .ok PUnit.unit w := by
  intro fs
  induction fs with
  | nil => intro i l w _ _ _; rfl
  | cons f fs ih =>
    intro i l w hf hl hv
    simp only [intFields, Bool.and_eq_true] at hf
    obtain ⟨⟨⟨⟨hf1, hf2⟩, hf3⟩, hf4⟩, hf5⟩ := hf
    have hoff := Nat.eq_of_beq_eq_true hf2
    obtain ⟨hagg, _⟩ := chk1_spec hf3
    obtain ⟨dd, hdd, hdi⟩ := chkU_spec hf4
    simp only [List.length_cons] at hl
    have hlt : i < l.length := by omega
    obtain ⟨j, m, hjm⟩ := hv l[i] (List.getElem_mem hlt)
    have gX : (⟨l⟩ : Array Value)[f.offset]? = some l[i] := by
      rw [hoff]; simp [hlt]
    have p1 : (part f.type ⟨l⟩ f.offset).run P w = .ok l[i] w := by simp [part, hagg, gX]
    have hn : f.name ≠ "_" := by simpa using hf1
    have hc : (Instr.checkKey em (d + 1) f.type l[i]).run P w = .ok () w := by
      rw [hjm]
      unfold Instr.checkKey
      simp only [Sem.run_bind, run_underlying hdd, Result.andThen]
      cases dd <;> first | (simp at hdi; done) | rfl
    simp only [List.forIn_cons, Sem.run_bind, if_pos hn, p1, hc, Result.andThen_ok, Sem.run_pure]
    exact ih (i + 1) l w hf5 (by omega) hv
theorem eqXs_true {ρ : Ren} : ∀ {x y x' y' : List Value}, LR ρ x x' → LR ρ y y' → eqXs x y = some true → y' = x'
  | _, _, _, _, .nil, .nil, _ => rfl
  | _, _, _, _, .nil, .cons .., h => by simp [eqXs] at h
  | _, _, _, _, .cons .., .nil, h => by simp [eqXs] at h
  | _, _, _, _, .cons a a' l l' ha hl, .cons b b' m m' hb hm, h => by
    simp only [eqXs] at h
    split at h
    · rename_i hab
      obtain ⟨k, n1, n2, rfl, rfl, e⟩ := eqX_spec hab ha hb
      rw [eq_of_beq e.symm, eqXs_true hl hm h]
    · cases h
    · cases h
theorem chkKey_int {kt : Nat} (h : chkKey P kt 0 = true) : ∃ j, P.underlying kt = some (.int j) := by
  obtain ⟨d, hd, hi⟩ := chkU_spec h
  cases d <;> first | (simp at hi; done) | exact ⟨_, hd⟩
theorem chkKey_struct {kt n : Nat} (h : chkKey P kt (n + 1) = true) : ∃ fs, P.underlying kt = some (.struct fs) ∧ intFields P 0 fs.toList = true ∧ fs.size = n + 1 := by
  have h' : chkInts P kt (n + 1) = true := h
  unfold chkInts at h'
  split at h'
  · rename_i fs hfs
    simp only [Bool.and_eq_true] at h'
    exact ⟨fs, hfs, h'.1.1.1, Nat.eq_of_beq_eq_true h'.1.1.2⟩
  · cases h'
theorem checkKey_run {kt n : Nat} (h : chkKey P kt n = true) {k : Value} (hk : IsK n k) (em : Bool) (w : World) : (Instr.checkKey em 10000 kt k).run P w = .ok () w := by
  cases n with
  | zero =>
    obtain ⟨j, hj⟩ := chkKey_int h
    obtain ⟨j', m, rfl⟩ := hk
    unfold Instr.checkKey
    simp only [Sem.run_bind, run_underlying hj, Result.andThen]
    rfl
  | succ n =>
    obtain ⟨fs, hfs, hf, hsz⟩ := chkKey_struct h
    obtain ⟨l, rfl, hl, hv⟩ := hk
    have := checkFields (P := P) em 9998 fs.toList 0 l w hf (by rw [hl, ← hsz]; simp) hv
    unfold Instr.checkKey
    simp only [Sem.run_bind, run_underlying hfs, Result.andThen_ok]
    rw [← Array.forIn_toList]
    simp only [bind_assoc, pure_bind] at this ⊢
    first
      | (rw [this]; rfl)
      | (simp only [Sem.run_bind]; rw [this]; rfl)
theorem findNow_int {ρ : Ren} {j : IntKind} {k k' : Value} (hk : VR ρ k k') : ∀ {es es' : List MapEntry} {r : Option (Nat × Value)} (b : Nat), ER ρ es es' → findE 0 k es = some r →
    ∃ r', Instr.findNow (.int j) k' es' b = some r' ∧ (r = none → r' = none) ∧ (∀ i v, r = some (i, v) → ∃ v', r' = some (b + i, v') ∧ VR ρ v v' ∧ ∃ e e', es[i]? = some e ∧ es'[i]? = some e' ∧ e'.key = k' ∧ e.val = v)
  | _, _, r, b, .nil, h => by
    simp only [findE, Option.some.injEq] at h
    subst h
    exact ⟨none, rfl, fun _ => rfl, fun i v hh => by cases hh⟩
  | _, _, r, b, .cons e e' l l' h1 h2 h3 hl, h => by
    unfold findE at h
    have hke : ∀ c, keyE 0 k e.key = some c → Instr.sameNow (.int j) k' e'.key = some c ∧ (c = true → e'.key = k') := fun c hc => by
      obtain ⟨kk, m, n, rfl, hb, hcc⟩ := eqX_spec hc hk h1
      rw [hb, hcc]
      refine ⟨by simp [Instr.sameNow], fun hmn => ?_⟩
      have := eq_of_beq hmn
      rw [this]
    split at h
    · rename_i hc
      cases h
      obtain ⟨q1, q2⟩ := hke _ hc
      refine ⟨some (b, e'.val), by simp [Instr.findNow, q1], fun hh => (by cases hh), fun i v hh => ?_⟩
      cases hh
      exact ⟨e'.val, rfl, h2, e, e', rfl, rfl, q2 rfl, rfl⟩
    · rename_i hc
      obtain ⟨q1, _⟩ := hke _ hc
      split at h
      · rename_i i v hf
        cases h
        obtain ⟨r', g1, g2, g3⟩ := findNow_int (j := j) hk (b + 1) hl hf
        refine ⟨r', by simp only [Instr.findNow, q1]; exact g1, fun hh => (by cases hh), fun i' v' hh => ?_⟩
        cases hh
        obtain ⟨v2, w1, w2, e1, e2, w3, w4, w5, w6⟩ := g3 i v rfl
        exact ⟨v2, by rw [w1]; congr 2; omega, w2, e1, e2, by simpa using w3, by simpa using w4, w5, w6⟩
      · rename_i hf
        cases h
        obtain ⟨r', g1, g2, g3⟩ := findNow_int (j := j) hk (b + 1) hl hf
        exact ⟨r', by simp only [Instr.findNow, q1]; exact g1, fun _ => g2 rfl, fun i v hh => by cases hh⟩
      · cases h
    · cases h
theorem keyE_agg {n : Nat} {k k2 : Value} {c : Bool} (h : keyE (n + 1) k k2 = some c) : ∃ x y, k = .agg x ∧ k2 = .agg y ∧ x.size = n + 1 ∧ eqXs x.toList y.toList = some c := by
  unfold keyE at h
  simp only at h
  split at h
  · rename_i x y
    cases hb : Nat.beq x.size (n + 1) with
    | false => rw [hb] at h; cases h
    | true => rw [hb, cond_true] at h; exact ⟨x, y, rfl, rfl, Nat.eq_of_beq_eq_true hb, h⟩
  · cases h
/-- The search, by asking for each key whether it is equal. -/
theorem findAsk {ρ : Ren} {kt n : Nat} (hc : chkInts P kt (n + 1) = true) {k k' : Value} (hk : VR ρ k k') (w : World) : ∀ {es es' : List MapEntry} {r : Option (Nat × Value)} (b : Nat), ER ρ es es' → findE (n + 1) k es = some r →
    ∃ r', (Instr.findAsking kt k' es' b).run P w = .ok r' w ∧ (r = none → r' = none) ∧ (∀ i v, r = some (i, v) → ∃ v', r' = some (b + i, v') ∧ VR ρ v v' ∧ ∃ e e', es[i]? = some e ∧ es'[i]? = some e' ∧ e'.key = k' ∧ e.val = v)
  | _, _, r, b, .nil, h => by
    simp only [findE, Option.some.injEq] at h
    subst h
    exact ⟨none, rfl, fun _ => rfl, fun i v hh => by cases hh⟩
  | _, _, r, b, .cons e e' l l' h1 h2 h3 hl, h => by
    unfold findE at h
    have hke : ∀ c, keyE (n + 1) k e.key = some c → (Op.equal kt k' e'.key).run P w = .ok c w ∧ (c = true → e'.key = k') := fun c hcc => by
      obtain ⟨x, y, rfl, hy, hb, hcc'⟩ := keyE_agg hcc
      rw [hy] at h1
      cases hk with
      | agg lx lx' hlx =>
        generalize hek : e'.key = ek at *
        cases h1 with
        | agg ly ly' hly =>
          obtain ⟨q1, _⟩ := equalInts_run (P := P) hc 9998 hlx hly hb hcc' w
          refine ⟨q1, fun hct => ?_⟩
          subst hct
          rw [eqXs_true hlx hly hcc']
    split at h
    · rename_i hc1
      cases h
      obtain ⟨q1, q2⟩ := hke _ hc1
      refine ⟨some (b, e'.val), by simp [Instr.findAsking, q1], fun hh => (by cases hh), fun i v hh => ?_⟩
      cases hh
      exact ⟨e'.val, rfl, h2, e, e', rfl, rfl, q2 rfl, rfl⟩
    · rename_i hc1
      obtain ⟨q1, _⟩ := hke _ hc1
      split at h
      · rename_i i v hf
        cases h
        obtain ⟨r', g1, g2, g3⟩ := findAsk hc hk w (b + 1) hl hf
        refine ⟨r', by simp only [Instr.findAsking, Sem.run_bind, q1, Result.andThen_ok, Bool.false_eq_true, if_false]; exact g1, fun hh => (by cases hh), fun i' v' hh => ?_⟩
        cases hh
        obtain ⟨v2, w1, w2, e1, e2, w3, w4, w5, w6⟩ := g3 i v rfl
        exact ⟨v2, by rw [w1]; congr 2; omega, w2, e1, e2, by simpa using w3, by simpa using w4, w5, w6⟩
      · rename_i hf
        cases h
        obtain ⟨r', g1, g2, g3⟩ := findAsk hc hk w (b + 1) hl hf
        exact ⟨r', by simp only [Instr.findAsking, Sem.run_bind, q1, Result.andThen_ok, Bool.false_eq_true, if_false]; exact g1, fun _ => g2 rfl, fun i v hh => by cases hh⟩
      · cases h
    · cases h
theorem ER.length {ρ : Ren} : ∀ {l l' : List MapEntry}, ER ρ l l' → l.length = l'.length
  | _, _, .nil => rfl
  | _, _, .cons e e' l l' h1 h2 h3 hl => by simp [ER.length hl]
theorem ER.append {ρ : Ren} : ∀ {l l' m m' : List MapEntry}, ER ρ l l' → ER ρ m m' → ER ρ (l ++ m) (l' ++ m')
  | _, _, _, _, .nil, h => h
  | _, _, _, _, .cons e e' l l' h1 h2 h3 hl, h => .cons e e' _ _ h1 h2 h3 (ER.append hl h)
theorem ER.erase {ρ : Ren} : ∀ {l l' : List MapEntry} (i : Nat), ER ρ l l' → ER ρ (l.eraseIdx i) (l'.eraseIdx i)
  | _, _, i, .nil => by simp; exact .nil
  | _, _, 0, .cons e e' l l' h1 h2 h3 hl => by simpa using hl
  | _, _, i + 1, .cons e e' l l' h1 h2 h3 hl => by simpa using ER.cons e e' _ _ h1 h2 h3 (ER.erase i hl)
theorem ER.modify {ρ : Ren} {k k' v v' : Value} : ∀ {l l' : List MapEntry} (i : Nat), VR ρ k k' → VR ρ v v' → ER ρ l l' → ER ρ (setNth l i k v) (l'.modify i fun e => { e with key := k', val := v' })
  | _, _, i, _, _, .nil => by simp [setNth]; exact .nil
  | _, _, 0, hk, hv, .cons e e' l l' h1 h2 h3 hl => by simpa [setNth] using ER.cons ⟨k, v, e.born⟩ ⟨k', v', e'.born⟩ l l' hk hv h3 hl
  | _, _, i + 1, hk, hv, .cons e e' l l' h1 h2 h3 hl => by simpa [setNth] using ER.cons e e' _ _ h1 h2 h3 (ER.modify i hk hv hl)
theorem sameBits_ints (n : Nat) : ∀ l : List Value, (∀ v ∈ l, ∃ j m, v = .int j m) → ((l.zip l).all fun (x, y) => Instr.sameBits n x y) = true
  | [], _ => rfl
  | v :: l, h => by
    obtain ⟨j, m, rfl⟩ := h v (List.mem_cons_self ..)
    simp only [List.zip_cons_cons, List.all_cons, Bool.and_eq_true]
    exact ⟨by cases n <;> simp [Instr.sameBits], sameBits_ints n l fun v hv => h v (List.mem_cons_of_mem _ hv)⟩
theorem sameBits_K {n : Nat} {k : Value} (h : IsK n k) : Instr.sameBits 10000 k k = true := by
  cases n with
  | zero => obtain ⟨j, m, rfl⟩ := h; simp [Instr.sameBits]
  | succ n =>
    obtain ⟨l, rfl, _, hv⟩ := h
    have := sameBits_ints 9999 l hv
    show (l.length == l.length && (l.zip l).all fun (x, y) => Instr.sameBits 9999 x y) = true
    rw [this]; simp
/-- What a search finds. -/
def Found (ρ : Ren) (k' : Value) (es es' : List MapEntry) (r r' : Option (Nat × Value)) : Prop :=
  (r = none → r' = none) ∧ (∀ i v, r = some (i, v) → ∃ v', r' = some (i, v') ∧ VR ρ v v' ∧ ∃ e e', es[i]? = some e ∧ es'[i]? = some e' ∧ e'.key = k' ∧ e.val = v)
theorem findKey_run {ρ : Ren} {kt n : Nat} (hc : chkKey P kt n = true) {k k' : Value} (hk : VR ρ k k') (w : World) {es es' : List MapEntry} {r : Option (Nat × Value)} (hes : ER ρ es es') (h : findE n k es = some r) :
    ∃ r', (Instr.findKey kt k' es').run P w = .ok r' w ∧ Found ρ k' es es' r r' := by
  cases n with
  | zero =>
    obtain ⟨j, hj⟩ := chkKey_int hc
    obtain ⟨r', g1, g2, g3⟩ := findNow_int (j := j) hk 0 hes h
    exact ⟨r', MapKept.run_findKey hj g1, g2, fun i v hh => by simpa using g3 i v hh⟩
  | succ n =>
    obtain ⟨fs, hfs, _, _⟩ := chkKey_struct hc
    cases hes with
    | nil =>
      simp only [findE, Option.some.injEq] at h
      subst h
      exact ⟨none, MapKept.run_findKey hfs rfl, fun _ => rfl, fun i v hh => by cases hh⟩
    | cons e e' l l' h1 h2 h3 hl =>
      obtain ⟨r', g1, g2, g3⟩ := findAsk (P := P) hc hk w 0 (.cons e e' l l' h1 h2 h3 hl) h
      refine ⟨r', ?_, g2, fun i v hh => by simpa using g3 i v hh⟩
      have hn : Instr.findNow (.struct fs) k' (e' :: l') 0 = none := by
        simp only [Instr.findNow, Instr.sameNow]
      simp only [Instr.findKey, Sem.run_bind, run_underlying hfs, Result.andThen_ok, hn]
      exact g1
theorem mapAt_spec {ρ : Ren} {w : World} (hw : WR P ρ s w) {m m' : Value} {r c : Nat} {es : List MapEntry} (h : mapAt m s = some (r, es, c)) (hm : VR ρ m m') :
    ∃ pl es' a, m = .map (some r) ∧ s.get r = some (.map a c) ∧ a.toList = es ∧ ρ r = some pl ∧ m' = .map (some pl.block) ∧ w.heap[pl.block]? = some (.map es' c) ∧ ER ρ es es'.toList := by
  unfold mapAt at h
  split at h
  · rename_i r0
    split at h
    · rename_i a c0 hg
      cases h
      cases hm with
      | map id pl e1 =>
        obtain ⟨pl2, hp2, es', he, hE⟩ := hw.obj _ _ hg
        rw [e1] at hp2; cases hp2
        exact ⟨pl, es', a, rfl, hg, rfl, e1, rfl, he, hE⟩
    · cases h
  · cases h
def MapT (P : Program) (t kt et n : Nat) (z : Value) : Prop := P.underlying t = some (.map kt et) ∧ chkKey P kt n = true ∧ (∃ i, P.info? et = some i ∧ i.zero = some z) ∧ cl 3 z = true
theorem ov_mpG {t kt et n : Nat} {ok : Bool} {z : Value} {m k : Operand} {vm vk : Value} (ho : o.op = .lookup t m k ok) (ht : MapT P t kt et n z) (hm : opv P kn m = some vm) (hk : opv P kn k = some vk) : OV P o kn s (mpG n vm vk z ok s) := by
  intro ρ act w u hw htm hu
  have h1 := opv_eval hw htm hm
  have h2 := opv_eval hw htm hk
  obtain ⟨hund, hkey, ⟨i, hi, hz⟩, hcl⟩ := ht
  generalize hem : act.eval m = em at *
  generalize hek : act.eval k = ek at *
  unfold mpG at hu
  split at hu
  · rename_i r es c hat
    obtain ⟨pl, es', a, rfl, hg, ha, hp, rfl, hh, hE⟩ := mapAt_spec hw hat h1
    cases hik : isKey n vk with
    | false => rw [hik] at hu; cases hu
    | true =>
      rw [hik, cond_true] at hu
      have hK := isKey_spec hik h2
      have hck := checkKey_run (P := P) hkey hK es'.isEmpty w
      have hrest : ∀ r', (Instr.findKey kt ek es'.toList).run P w = .ok r' w → (execOp act.eval o).run P w = .ok (.value (match r' with
          | some (_, v) => if ok then .tuple #[v, .bool true] else v
          | none => if ok then .tuple #[z, .bool false] else z)) w := by
        intro r' hr
        cases r' with
        | none => cases ok <;> simp [execOp, ho, hem, hek, Instr.lookup, run_underlying hund, MapKept.run_getObj_map hh, hck, hr, zeroValue, typeInfo, hi, hz]
        | some p => cases ok <;> simp [execOp, ho, hem, hek, Instr.lookup, run_underlying hund, MapKept.run_getObj_map hh, hck, hr]
      split at hu
      · rename_i i0 v hf
        cases hu
        obtain ⟨r', hr, g1, g2⟩ := findKey_run (P := P) hkey h2 w hE hf
        obtain ⟨v', rfl, hv, _⟩ := g2 i0 v rfl
        refine ⟨_, hrest _ hr, ?_⟩
        cases ok
        · exact hv
        · exact .tuple _ _ (.cons _ _ _ _ hv (.cons _ _ _ _ (.bool _) .nil))
      · rename_i hf
        cases hu
        obtain ⟨r', hr, g1, g2⟩ := findKey_run (P := P) hkey h2 w hE hf
        rw [g1 rfl] at hr
        refine ⟨_, hrest _ hr, ?_⟩
        cases ok
        · exact cl_VR 3 z hcl
        · exact .tuple _ _ (.cons _ _ _ _ (cl_VR 3 z hcl) (.cons _ _ _ _ (.bool _) .nil))
      · cases hu
  · cases hu
theorem ov_lnM {t kt et : Nat} {m : Operand} {vm : Value} (ho : o.op = .call ⟨.builtin .len, #[m], #[t]⟩) (ht : P.underlying t = some (.map kt et)) (hm : opv P kn m = some vm) : OV P o kn s (lnM vm s) := by
  intro ρ act w u hw htm hu
  have h1 := opv_eval hw htm hm
  generalize hem : act.eval m = em at *
  unfold lnM at hu
  split at hu
  · cases hu
    cases h1
    exact ⟨_, by simp [execOp, ho, resolve, invoke, builtin, Builtin.len_, hem, underlying, ht, goInt], .int _ _⟩
  · split at hu
    · rename_i r es c hat
      cases hu
      obtain ⟨pl, es', a, rfl, hg, ha, hp, rfl, hh, hE⟩ := mapAt_spec hw hat h1
      refine ⟨.int .i64 es'.size, by simp [execOp, ho, resolve, invoke, builtin, Builtin.len_, hem, underlying, ht, goInt, MapKept.run_getObj_map hh], ?_⟩
      rw [← Array.length_toList, ← hE.length]
      exact .int _ _
    · cases hu
theorem setObj_one {w : World} {b : Nat} {o o' : Obj} (h : w.heap[b]? = some o) : One w { w with heap := w.heap.setIfInBounds b o' } b o' := by
  have hlt : b < w.heap.size := (Array.getElem?_eq_some_iff.1 h).1
  exact ⟨by simp [hlt], fun j hj => by simp [Ne.symm hj], by simp, rfl, rfl, rfl⟩
theorem os_mpS {t kt et n : Nat} {z : Value} {m k x : Operand} {vm vk vx : Value} (ho : o.op = .mapUpdate t m k x) (ht : MapT P t kt et n z) (hm : opv P kn m = some vm) (hk : opv P kn k = some vk) (hx : opv P kn x = some vx) : OS0 P o kn s (mpS n vm vk vx s) := by
  intro ρ act w s' hw htm hu
  have h1 := opv_eval hw htm hm
  have h2 := opv_eval hw htm hk
  have h3 := opv_eval hw htm hx
  obtain ⟨hund, hkey, _⟩ := ht
  generalize hem : act.eval m = em at *
  generalize hek : act.eval k = ek at *
  generalize hex : act.eval x = ex at *
  unfold mpS at hu
  split at hu
  · rename_i r es c hat
    obtain ⟨pl, es', a, rfl, hg, ha, hp, rfl, hh, hE⟩ := mapAt_spec hw hat h1
    cases hik : (s.own r && isKey n vk) with
    | false => rw [hik] at hu; cases hu
    | true =>
      rw [hik, cond_true] at hu
      simp only [Bool.and_eq_true] at hik
      have hK := isKey_spec hik.2 h2
      have hck := checkKey_run (P := P) hkey hK false w
      split at hu
      · rename_i i0 v hf
        cases hu
        obtain ⟨r', hr, g1, g2⟩ := findKey_run (P := P) hkey h2 w hE hf
        obtain ⟨v', rfl, hv, e, e', he, he', hkk, _⟩ := g2 i0 v rfl
        have hsb : Instr.sameBits 10000 ek ek = true := sameBits_K hK
        refine ⟨ρ, { w with heap := w.heap.setIfInBounds pl.block (.map (es'.modify i0 fun e => { e with key := ek, val := ex }) c) }, .skip, ?_, .inl rfl, ?_⟩
        · have hgd : ((es'[i0]?).map (·.key)).getD ek = ek := by
            have : es'[i0]? = some e' := by simpa using he'
            rw [this]; exact hkk
          simp [execOp, ho, hem, hek, hex, Instr.mapUpdate, run_underlying hund, MapKept.run_getObj_map hh, hck, hr, hgd, Instr.keyThatStays, hsb, MapKept.run_setObj_map _ hh]
        · refine Stp.write hw hg hp hik.1 (setObj_one hh) ⟨_, (setObj_one hh).here, ?_⟩
          rw [Array.toList_modify]
          exact ER.modify i0 h2 h3 hE
      · rename_i hf
        cases hu
        obtain ⟨r', hr, g1, g2⟩ := findKey_run (P := P) hkey h2 w hE hf
        rw [g1 rfl] at hr
        refine ⟨ρ, { w with heap := w.heap.setIfInBounds pl.block (.map (es'.push { key := ek, val := ex, born := c }) (c + 1)) }, .skip, ?_, .inl rfl, ?_⟩
        · simp [execOp, ho, hem, hek, hex, Instr.mapUpdate, run_underlying hund, MapKept.run_getObj_map hh, hck, hr, MapKept.run_setObj_map _ hh]
        · refine Stp.write hw hg hp hik.1 (setObj_one hh) ⟨_, (setObj_one hh).here, ?_⟩
          rw [Array.toList_push]
          exact ER.append hE (.cons _ _ _ _ h2 h3 rfl .nil)
      · cases hu
  · cases hu
theorem os_mpD {t kt et n : Nat} {z : Value} {tk : Nat} {m k : Operand} {vm vk : Value} (ho : o.op = .call ⟨.builtin .delete, #[m, k], #[t, tk]⟩) (ht : MapT P t kt et n z) (hm : opv P kn m = some vm) (hk : opv P kn k = some vk) : OS0 P o kn s (mpD n vm vk s) := by
  intro ρ act w s' hw htm hu
  have h1 := opv_eval hw htm hm
  have h2 := opv_eval hw htm hk
  obtain ⟨hund, hkey, _⟩ := ht
  generalize hem : act.eval m = em at *
  generalize hek : act.eval k = ek at *
  unfold mpD at hu
  split at hu
  · rename_i r es c hat
    obtain ⟨pl, es', a, rfl, hg, ha, hp, rfl, hh, hE⟩ := mapAt_spec hw hat h1
    cases hik : (s.own r && isKey n vk) with
    | false => rw [hik] at hu; cases hu
    | true =>
      rw [hik, cond_true] at hu
      simp only [Bool.and_eq_true] at hik
      have hK := isKey_spec hik.2 h2
      have hck := checkKey_run (P := P) hkey hK es'.isEmpty w
      split at hu
      · rename_i i0 v hf
        cases hu
        obtain ⟨r', hr, g1, g2⟩ := findKey_run (P := P) hkey h2 w hE hf
        obtain ⟨v', rfl, hv, e, e', he, he', hkk, _⟩ := g2 i0 v rfl
        refine ⟨ρ, { w with heap := w.heap.setIfInBounds pl.block (.map (es'.eraseIdxIfInBounds i0) c) }, .value (.tuple #[]), ?_, .inr ⟨_, rfl⟩, ?_⟩
        · simp [execOp, ho, hem, hek, resolve, invoke, builtin, Builtin.delete_, run_underlying hund, MapKept.run_getObj_map hh, hck, hr, MapKept.run_setObj_map _ hh]
        · refine Stp.write hw hg hp hik.1 (setObj_one hh) ⟨_, (setObj_one hh).here, ?_⟩
          have : (es'.eraseIdxIfInBounds i0).toList = es'.toList.eraseIdx i0 := by
            have hlt := (List.getElem?_eq_some_iff.1 he').1
            simp [Array.eraseIdxIfInBounds, show i0 < es'.size by simpa using hlt]
          rw [this]
          exact ER.erase i0 hE
      · rename_i hf
        cases hu
        obtain ⟨r', hr, g1, g2⟩ := findKey_run (P := P) hkey h2 w hE hf
        rw [g1 rfl] at hr
        refine ⟨ρ, { w with heap := w.heap.setIfInBounds pl.block (.map es' c) }, .value (.tuple #[]), ?_, .inr ⟨_, rfl⟩, ?_⟩
        · simp [execOp, ho, hem, hek, resolve, invoke, builtin, Builtin.delete_, run_underlying hund, MapKept.run_getObj_map hh, hck, hr, MapKept.run_setObj_map _ hh]
        · exact Stp.write hw hg hp hik.1 (setObj_one hh) ⟨_, (setObj_one hh).here, hE⟩
      · cases hu
  · cases hu
end
end Go.Eng
