/- The engine, part O: an operation, evaluated: 'evO', and that the model's operation does what it says. -/
import Derived.Test.YtkaladiliikheaaGreatDoorEngN3
set_option linter.unusedVariables false
set_option linter.unusedSectionVars false
set_option linter.unusedSimpArgs false
namespace Go.Eng
open Go
variable [Toks]

omit [Toks] in
noncomputable def pv (s : S) (x : Option Value) : R := Option.rec (motive := fun _ => R) none (fun v => some (v, s)) x
omit [Toks] in
def p0 (d : Option Tmp) (x : Option S) : R := match d, x with | none, some s => some (undef, s) | _, _ => none
omit [Toks] in
noncomputable def chk (b : Bool) (x : R) : R := Bool.rec (motive := fun _ => R) none x b

theorem undef_VR (ρ : Ren) : VR ρ undef undef := .tuple [] [] .nil

section
variable {P : Program} {o : Oper} {kn : KN} {s : S}
theorem oj_none : OJ P o kn s none := by intro ρ act w v s' K Q hw ht hx; cases hx
theorem oj_bv {y : Option Value} {k : Value → R} (h : ∀ v, y = some v → OJ P o kn s (k v)) : OJ P o kn s (bv y k) := by
  cases y with
  | none => exact oj_none
  | some v => exact h v rfl
theorem oj_chk {b : Bool} {x : R} (h : b = true → OJ P o kn s x) : OJ P o kn s (chk b x) := by
  cases b with
  | true => exact h rfl
  | false => exact oj_none
theorem oj_pv {y : Option Value} (h : OV P o kn s y) : OJ P o kn s (pv s y) := by
  have := OJ.ofV h
  cases y <;> exact this
theorem oj_p0 {y : Option S} (h : OS0 P o kn s y) : OJ P o kn s (p0 o.dst y) := by
  cases hd : o.dst with
  | some d => cases y <;> exact oj_none
  | none =>
    cases y with
    | none => exact oj_none
    | some s1 =>
      intro ρ act w v s' K Q hw ht hx hK
      cases hx
      refine OJ0.ofS h ρ act w _ K Q hw ht rfl fun ρ' v' w' hs => ?_
      have := hK ρ' undef w' hs (undef_VR ρ')
      rw [hd] at this ⊢
      exact this

/-! ### What the tables say -/
omit [Toks] in
def szOf (P : Program) (t : Nat) : Nat := match P.info? t with | some i => i.size | none => 0
omit [Toks] in
def aggT (P : Program) (t : Nat) : Bool := match P.underlying t with | some (.struct _) | some (.array _ _) => true | _ => false
omit [Toks] in
def zeroOf (P : Program) (t : Nat) : Option Value := match P.info? t with
  | some i => (match i.zero with | some z => bif cl 3 z then some z else none | none => none)
  | none => none
theorem zeroOf_spec {t : Nat} {z : Value} (h : zeroOf P t = some z) : (∃ i, P.info? t = some i ∧ i.zero = some z) ∧ cl 3 z = true := by
  unfold zeroOf at h
  split at h
  · rename_i i hi
    split at h
    · rename_i z' hz
      cases hc : cl 3 z' with
      | false => rw [hc] at h; cases h
      | true => rw [hc, cond_true] at h; cases h; exact ⟨⟨i, hi, hz⟩, hc⟩
    · cases h
  · cases h
omit [Toks] in
def zeroCells (P : Program) (t : Nat) : Option (List Value) := match P.info? t with
  | some i => (match i.zero with | some z => bif (cellsE z).all (cl 3) then some (cellsE z) else none | none => none)
  | none => none
theorem zeroCells_spec {t : Nat} {cs : List Value} (h : zeroCells P t = some cs) : ZeroAt P t cs := by
  unfold zeroCells at h
  split at h
  · rename_i i hi
    split at h
    · rename_i z' hz
      cases hc : (cellsE z').all (cl 3) with
      | false => rw [hc] at h; cases h
      | true => rw [hc, cond_true] at h; cases h; exact ⟨⟨i, z', hi, hz, (cellsE_eq z').symm⟩, hc⟩
    · cases h
  · cases h
omit [Toks] in
/-- A row's element, its cells and bytes, its zero. -/
def rowT (P : Program) (t : Nat) : Option (Nat × Nat × Nat × List Value) := match P.underlying t with
  | some (.slice e) => (match P.info? e, zeroCells P e with
    | some i, some z => bif Nat.blt 0 i.size && Nat.blt i.size ng && Nat.blt 0 i.bytes && Nat.beq z.length i.size then some (e, i.size, i.bytes, z) else none
    | _, _ => none)
  | _ => none
theorem rowT_spec {t e n b : Nat} {z : List Value} (h : rowT P t = some (e, n, b, z)) : RowT P t e n b z := by
  unfold rowT at h
  split at h
  · rename_i e' hu
    split at h
    · rename_i i z' hi hz
      cases hc : (Nat.blt 0 i.size && Nat.blt i.size ng && Nat.blt 0 i.bytes && Nat.beq z'.length i.size) with
      | false => rw [hc] at h; cases h
      | true =>
        rw [hc, cond_true] at h; cases h
        simp only [Bool.and_eq_true] at hc
        obtain ⟨⟨⟨h1, h2⟩, h3⟩, h4⟩ := hc
        obtain ⟨⟨i', zv, hi', hzv, hzc⟩, hcl⟩ := zeroCells_spec hz
        have : i' = i := by rw [hi] at hi'; exact (Option.some.inj hi').symm
        subst this
        exact ⟨hu, ⟨i', zv, hi, hzv, rfl, rfl, hzc⟩, blt_lt h1, blt_lt h2, blt_lt h3, Nat.eq_of_beq_eq_true h4, hcl⟩
    · cases h
  · cases h
theorem RowT.sliceZ {t e n b : Nat} {z : List Value} (h : RowT P t e n b z) : SliceZ P t e z := by
  obtain ⟨i, zv, hi, hz, hs, hb, hc⟩ := h.info
  exact ⟨h.und, i, zv, hi, hz, hc, by rw [hs, h.len], by rw [h.len]; exact h.n0, by rw [h.len]; exact h.ng, h.clz⟩
omit [Toks] in
def mapT (P : Program) (t : Nat) : Option (Nat × Nat × Nat × Value) := match P.underlying t with
  | some (.map kt et) => (match zeroOf P et with
    | some z => (match (bif aggT P kt then szOf P kt else 0) with
      | n => bif chkKey P kt n then some (kt, et, n, z) else none)
    | none => none)
  | _ => none
theorem mapT_spec {t kt et n : Nat} {z : Value} (h : mapT P t = some (kt, et, n, z)) : MapT P t kt et n z := by
  unfold mapT at h
  split at h
  · rename_i kt' et' hu
    split at h
    · rename_i z' hz
      simp only at h
      cases hc : chkKey P kt' (bif aggT P kt' then szOf P kt' else 0) with
      | false => rw [hc] at h; cases h
      | true =>
        rw [hc, cond_true] at h; cases h
        obtain ⟨h1, h2⟩ := zeroOf_spec hz
        exact ⟨hu, hc, h1, h2⟩
    · cases h
  · cases h

omit [Toks] in
def mapTI (P : Program) (t : Nat) : Option (Nat × Nat × Value) := match P.underlying t with
  | some (.map kt et) => (match zeroOf P et, P.underlying kt with
    | some z, some (.interface _) => some (kt, et, z)
    | _, _ => none)
  | _ => none
theorem mapTI_spec {t kt et : Nat} {z : Value} (h : mapTI P t = some (kt, et, z)) : MapTI P t kt et z := by
  unfold mapTI at h
  split at h
  · rename_i kt' et' hu
    split at h
    · rename_i z' ms hz hk
      cases h
      obtain ⟨h1, h2⟩ := zeroOf_spec hz
      exact ⟨hu, ⟨ms, hk⟩, h1, h2⟩
    · cases h
  · cases h

/-! ### Building -/
omit [Toks] in
def cut : List Nat → List Value → List (List Value)
  | [], _ => []
  | n :: ns, l => l.take n :: cut ns (l.drop n)
omit [Toks] in
def offs : Nat → List Nat → List (Nat × Nat)
  | _, [] => []
  | k, n :: ns => (k, n) :: offs (k + n) ns
omit [Toks] in
def sumN : List Nat → Nat
  | [] => 0
  | n :: ns => n + sumN ns
theorem cut_flatten : ∀ (ns : List Nat) (l : List Value), sumN ns = l.length → (cut ns l).flatten = l
  | [], l, h => by
    have : l = [] := List.eq_nil_of_length_eq_zero (by simpa [sumN] using h.symm)
    subst this; rfl
  | n :: ns, l, h => by
    simp only [sumN] at h
    simp only [cut, List.flatten_cons]
    rw [cut_flatten ns (l.drop n) (by simp; omega), List.take_append_drop]
theorem cut_length : ∀ (ns : List Nat) (l : List Value), (cut ns l).length = ns.length
  | [], _ => rfl
  | n :: ns, l => by simp [cut, cut_length ns]
theorem cut_places : ∀ (ns : List Nat) (l : List Value) (k i : Nat), sumN ns = l.length → i < ns.length →
    (offs k ns)[i]? = some (k + ((cut ns l).take i).flatten.length, (((cut ns l)[i]?).getD []).length)
  | [], l, k, i, _, hi => by simp at hi
  | n :: ns, l, k, 0, h, hi => by
    simp only [sumN] at h
    simp only [offs, cut, List.getElem?_cons_zero, List.take_zero, List.flatten_nil, List.length_nil, Option.getD_some, List.length_take]
    congr 2
    omega
  | n :: ns, l, k, i + 1, h, hi => by
    simp only [sumN] at h
    simp only [offs, cut, List.getElem?_cons_succ, List.take_succ_cons, List.flatten_cons, List.length_append, List.length_take]
    rw [cut_places ns (l.drop n) (k + n) i (by simp; omega) (by simpa using hi)]
    congr 2
    omega
theorem placesOf_cut {ns : List Nat} {l : List Value} {i : Nat} (h : sumN ns = l.length) (hi : i < ns.length) : (offs 0 ns)[i]? = placesOf (cut ns l) i := by
  rw [cut_places ns l 0 i h hi]
  unfold placesOf
  have : i < (cut ns l).length := by rw [cut_length]; exact hi
  rw [List.getElem?_eq_getElem this]
  simp
theorem cut_cl : ∀ (ns : List Nat) (l : List Value), l.all (cl 3) = true → (cut ns l).all (fun z => z.all (cl 3)) = true
  | [], _, _ => rfl
  | n :: ns, l, h => by
    rw [List.all_eq_true] at h
    simp only [cut, List.all_cons, Bool.and_eq_true]
    exact ⟨List.all_eq_true.2 fun v hv => h v (List.mem_of_mem_take hv), cut_cl ns _ (List.all_eq_true.2 fun v hv => h v (List.mem_of_mem_drop hv))⟩
omit [Toks] in
def eqPl : List (Nat × Nat) → List (Nat × Nat) → Bool
  | [], [] => true
  | (a, b) :: l, (c, d) :: m => Nat.beq a c && Nat.beq b d && eqPl l m
  | _, _ => false
theorem eqPl_eq : ∀ {l m : List (Nat × Nat)}, eqPl l m = true → l = m
  | [], [], _ => rfl
  | (a, b) :: l, (c, d) :: m, h => by
    simp only [eqPl, Bool.and_eq_true] at h
    rw [Nat.eq_of_beq_eq_true h.1.1, Nat.eq_of_beq_eq_true h.1.2, eqPl_eq h.2]
  | [], _ :: _, h => by simp [eqPl] at h
  | _ :: _, [], h => by simp [eqPl] at h
omit [Toks] in
def repN (n k : Nat) : List Nat := match n with | 0 => [] | n + 1 => k :: repN n k
theorem repN_len (k : Nat) : ∀ n, (repN n k).length = n
  | 0 => rfl
  | n + 1 => by simp [repN, repN_len k n]
theorem offs_repN (k : Nat) : ∀ (n b i : Nat), i < n → (offs b (repN n k))[i]? = some (b + i * k, k)
  | 0, _, _, h => by omega
  | n + 1, b, 0, h => by simp [repN, offs]
  | n + 1, b, i + 1, h => by
    simp only [repN, offs, List.getElem?_cons_succ]
    rw [offs_repN k n (b + k) i (by omega), Nat.add_mul]
    congr 2; omega
omit [Toks] in
def zsOf (P : Program) (t : Nat) : Option (List (List Value)) := match P.info? t, P.underlying t with
  | some it, some (.array n e) => (match it.zero, P.info? e with
    | some z, some ie => bif Nat.beq (sumN (repN n ie.size)) (cellsE z).length && (cellsE z).all (cl 3) then some (cut (repN n ie.size) (cellsE z)) else none
    | _, _ => none)
  | some it, some (.struct fs) => (match it.zero, fs.toList.mapM (fun f => (P.info? f.type).map fun i => (f.offset, i.size)) with
    | some z, some ps => bif eqPl ps (offs 0 (ps.map (·.2))) && Nat.beq (sumN (ps.map (·.2))) (cellsE z).length && (cellsE z).all (cl 3) then some (cut (ps.map (·.2)) (cellsE z)) else none
    | _, _ => none)
  | _, _ => none
theorem zsOf_spec {t : Nat} {zs : List (List Value)} (h : zsOf P t = some zs) : BuildAt P t zs ∧ zs.all (fun z => z.all (cl 3)) = true := by
  unfold zsOf at h
  split at h
  · rename_i it n e hi hu
    split at h
    · rename_i z ie hz hie
      cases hc : (Nat.beq (sumN (repN n ie.size)) (cellsE z).length && (cellsE z).all (cl 3)) with
      | false => rw [hc] at h; cases h
      | true =>
        rw [hc, cond_true] at h; cases h
        simp only [Bool.and_eq_true] at hc
        have hs := Nat.eq_of_beq_eq_true hc.1
        refine ⟨⟨fun i => some (i * ie.size, ie.size), z.cells, ?_, fun i hlt => ?_, fun ps => ?_⟩, cut_cl _ _ hc.2⟩
        · rw [cut_flatten _ _ hs, cellsE_eq]
        · rw [cut_length, repN_len] at hlt
          rw [← placesOf_cut hs (by rw [repN_len]; exact hlt), offs_repN _ _ _ _ hlt]
          simp
        · simp only [Program.built, hi, hu, hz, hie]
    · cases h
  · rename_i it fs hi hu
    split at h
    · rename_i z ps hz hps
      cases hc : (eqPl ps (offs 0 (ps.map (·.2))) && Nat.beq (sumN (ps.map (·.2))) (cellsE z).length && (cellsE z).all (cl 3)) with
      | false => rw [hc] at h; cases h
      | true =>
        rw [hc, cond_true] at h; cases h
        simp only [Bool.and_eq_true] at hc
        have hp := eqPl_eq hc.1.1
        have hs := Nat.eq_of_beq_eq_true hc.1.2
        refine ⟨⟨fun i => ps.toArray[i]?, z.cells, ?_, fun i hlt => ?_, fun q => ?_⟩, cut_cl _ _ hc.2⟩
        · rw [cut_flatten _ _ hs, cellsE_eq]
        · rw [cut_length] at hlt
          rw [← placesOf_cut hs hlt, ← hp]
          simp
        · simp only [Program.built, hi, hu, hz, hps]
    · cases h
  · cases h

/-! ### Comparisons -/
omit [Toks] in
noncomputable def evEq (P : Program) (t : Nat) (x y : Operand) (vx vy : Value) : Option Value := match P.underlying t with
  | some (.int _) => eqI vx vy
  | some .string => eqS vx vy
  | some .bool => eqB vx vy
  | some (.slice _) => eqL vx vy
  | some (.map _ _) => eqM vx vy
  | some (.func _ _ _) => eqC vx vy
  | some (.pointer _) => eqP vx vy
  | some (.struct _) => bif chkInts P t (szOf P t) then eqA (szOf P t) vx vy else none
  | some (.interface _) => (match x, y with
    | _, .const .nilIface => eqF vx
    | .const .nilIface, _ => eqF vy
    | _, _ => none)
  | _ => none
theorem ov_none : OV P o kn s none := by intro ρ act w v hw ht hx; cases hx
theorem evEq_any {t yt : Nat} {x y : Operand} {vx vy : Value} (hx : opv P kn x = some vx) (hy : opv P kn y = some vy) :
    (o.op = .binOp .eql t x y yt → OV P o kn s (evEq P t x y vx vy)) ∧ (o.op = .binOp .neq t x y yt → OV P o kn s (ne (evEq P t x y vx vy))) := by
  unfold evEq
  split
  · exact ⟨fun h => ov_eqI h hx hy, fun h => ov_neI h hx hy⟩
  · exact ⟨fun h => ov_eqS h hx hy, fun h => ov_neS h hx hy⟩
  · rename_i h; exact eqB_any (by simp [chkU, h, isBoolD]) hx hy
  · rename_i h; exact eqL_any (by simp [chkU, h, isSliceD]) hx hy
  · rename_i h; exact eqM_any (by simp [chkU, h, isMapD]) hx hy
  · rename_i h; exact eqC_any (by simp [chkU, h, isFuncD]) hx hy
  · rename_i h; exact eqP_any (by simp [chkU, h, isPtrD]) hx hy
  · cases hc : chkInts P t (szOf P t) with
    | true => exact eqA_any hc hx hy
    | false => exact ⟨fun _ => ov_none, fun _ => ov_none⟩
  · rename_i h
    split
    · exact eqF_any (by simp [chkU, h, isIfaceD]) hx
    · exact eqG_any (by simp [chkU, h, isIfaceD]) hy
    · exact ⟨fun _ => ov_none, fun _ => ov_none⟩
  · exact ⟨fun _ => ov_none, fun _ => ov_none⟩
omit [Toks] in
noncomputable def evBin0 (P : Program) (op : BinOp) (t : Nat) (x y : Operand) (vx vy : Value) : Option Value := match op with
  | .eql => evEq P t x y vx vy
  | .neq => ne (evEq P t x y vx vy)
  | op => (match vx with | .string _ => sop op vx vy | _ => iop op vx vy)
omit [Toks] in
noncomputable def evBin [Orc] (P : Program) (op : BinOp) (t : Nat) (x y : Operand) (vx vy : Value) : Option Value := orV (evBin0 P op t x y vx vy) (Orc.op op vx vy)
theorem ov_bin0 {op : BinOp} {t yt : Nat} {x y : Operand} {vx vy : Value} (ho : o.op = .binOp op t x y yt) (hx : opv P kn x = some vx) (hy : opv P kn y = some vy) : OV P o kn s (evBin0 P op t x y vx vy) := by
  unfold evBin0
  split
  · exact (evEq_any hx hy).1 ho
  · exact (evEq_any hx hy).2 ho
  · split
    · exact ov_sop ho hx hy
    · exact ov_iop ho hx hy
theorem ov_bin {op : BinOp} {t yt : Nat} {x y : Operand} {vx vy : Value} (ho : o.op = .binOp op t x y yt) (hx : opv P kn x = some vx) (hy : opv P kn y = some vy) : OV P o kn s (evBin P op t x y vx vy) :=
  ov_or (ov_bin0 ho hx hy) (ov_orc ho hx hy)

/-! ### Other operations -/
omit [Toks] in
noncomputable def evBox (t : Nat) (v : Value) (s : S) : R := match v with | .agg c => al c.toList t s | v => al [v] t s
theorem oj_box {t : Nat} {x : Operand} {vx : Value} (ho : o.op = .box t x) (hx : opv P kn x = some vx) : OJ P o kn s (evBox t vx s) := by
  unfold evBox
  split
  · rename_i c
    have := OJ.ofS (os_boxA (n := c.size) (s := s) ho hx)
    unfold alA at this
    simpa using this
  · exact OJ.ofS (os_box1 ho hx)
omit [Toks] in
noncomputable def evLd [Orc] (P : Program) (t : Nat) (v : Value) (s : S) : R := bif aggT P t then chk (chkN P t (szOf P t)) (pv s (orV (ldN (szOf P t) v s) (ldX (szOf P t) true v s))) else chk (chk1 P t) (pv s (orV (ld1 v s) (ldX 1 false v s)))
theorem oj_ld {t : Nat} {x : Operand} {vx : Value} (ho : o.op = .load t x) (hx : opv P kn x = some vx) : OJ P o kn s (evLd P t vx s) := by
  unfold evLd
  cases aggT P t with
  | true => exact oj_chk fun hc => oj_pv (ov_or (ov_ldN ho hc hx) (ov_ldXN ho hc hx))
  | false => exact oj_chk fun hc => oj_pv (ov_or (ov_ld1 ho hc hx) (ov_ldX1 ho hc hx))
omit [Toks] in
noncomputable def orS (x y : Option S) : Option S := Option.rec (motive := fun _ => Option S) y (fun v => some v) x
theorem os_or {x y : Option S} (h1 : OS0 P o kn s x) (h2 : OS0 P o kn s y) : OS0 P o kn s (orS x y) := by
  cases x with
  | none => exact h2
  | some v => exact h1
omit [Toks] in
noncomputable def evSt [Orc] (P : Program) (t : Nat) (a v : Value) (s : S) : Option S := match v with
  | .agg c => bif chkSz P t c.size then orS (stN c.size a v s) (stX a v s) else none
  | _ => bif chkSz P t 1 then orS (st1 a v s) (orS (stX a v s) (stY a v s)) else none
theorem os0_none : OS0 P o kn s none := by intro ρ act w s' hw ht hx; cases hx
theorem os_st {t : Nat} {a x : Operand} {va vx : Value} (ho : o.op = .store t a x) (ha : opv P kn a = some va) (hx : opv P kn x = some vx) : OS0 P o kn s (evSt P t va vx s) := by
  unfold evSt
  split
  · rename_i c
    cases hc : chkSz P t c.size with
    | true => exact os_or (os_stN ho hc ha hx) (os_stX (n := 0) ho hc ha hx)
    | false => exact os0_none
  · rename_i hna
    cases hc : chkSz P t 1 with
    | true => exact os_or (os_st1 ho hc ha hx) (os_or (os_stX (n := 0) ho (by
        split
        · exact (hna _ rfl).elim
        · exact hc) ha hx) (os_stY ho hc ha hx))
    | false => exact os0_none
omit [Toks] in
def cvS (v : Value) : Option Value := match v with | .string b => some (.string b) | _ => none
theorem ov_cvS {a b : Nat} {x : Operand} {vx : Value} (ho : o.op = .convert a b x) (ha : chkU P a isD = true) (hb : P.underlying b = some .string) (hx : opv P kn x = some vx) : OV P o kn s (cvS vx) := by
  intro ρ act w u hw ht hu
  have h1 := opv_eval hw ht hx
  obtain ⟨da, hda, _⟩ := chkU_spec ha
  unfold cvS at hu
  split at hu
  · cases hu
    generalize hq : act.eval x = q at *
    cases h1
    exact ⟨_, by simp [execOp, ho, hq, convert, underlying, hda, hb], .string _⟩
  · cases hu
omit [Toks] in
noncomputable def evCv (P : Program) (a b : Nat) (v : Value) : Option Value := bif chkU P a isD then (match P.underlying b with
  | some (.int k) => cvI k v
  | some .string => cvS v
  | _ => none) else none
theorem ov_cv {a b : Nat} {x : Operand} {vx : Value} (ho : o.op = .convert a b x) (hx : opv P kn x = some vx) : OV P o kn s (evCv P a b vx) := by
  unfold evCv
  cases ha : chkU P a isD with
  | false => exact ov_none
  | true =>
    rw [cond_true]
    split
    · rename_i k hb; exact ov_cvI ho ha (by simp [chkU, hb, isIntD]) hx
    · rename_i hb; exact ov_cvS ho ha hb hx
    · exact ov_none
omit [Toks] in
noncomputable def evSl (P : Program) (t : Nat) (v : Value) (lo hi mx : Option Value) : Option Value := match P.underlying t with
  | some (.slice e) => (match mx with
    | none => bif chkSlice P t (szOf P e) then slS (szOf P e) v lo hi else none
    | some m => (match P.info? e with | some _ => slZ v lo hi (some m) | none => none))
  | _ => none
theorem opvo_none {x : Option Operand} (h : opvo P kn x = some none) : x = none := by
  cases x with
  | none => rfl
  | some x => simp only [opvo] at h; split at h <;> cases h
theorem opvo_some {x : Option Operand} {v : Value} (h : opvo P kn x = some (some v)) : ∃ y, x = some y ∧ opv P kn y = some v := by
  cases x with
  | none => cases h
  | some x =>
    simp only [opvo] at h
    split at h
    · cases h; exact ⟨x, rfl, by assumption⟩
    · cases h
theorem ov_sl {t : Nat} {x : Operand} {lo hi mx : Option Operand} {vx : Value} {vlo vhi vmx : Option Value} (ho : o.op = .slice t x lo hi mx) (hx : opv P kn x = some vx) (hlo : opvo P kn lo = some vlo) (hhi : opvo P kn hi = some vhi) (hmx : opvo P kn mx = some vmx) :
    OV P o kn s (evSl P t vx vlo vhi vmx) := by
  unfold evSl
  split
  · rename_i e hu
    split
    · have := opvo_none hmx
      subst this
      cases hc : chkSlice P t (szOf P e) with
      | true => exact ov_slS ho hc hx hlo hhi
      | false => exact ov_none
    · obtain ⟨y, rfl, hy⟩ := opvo_some hmx
      split
      · rename_i i hi
        exact ov_slZ ho (by simp [chkU, hu, isSliceD]) ⟨e, i, hu, hi⟩ hx hlo hhi hy
      · exact ov_none
  · exact ov_none
omit [Toks] in
noncomputable def evPad (P : Program) (t f : Nat) (v : Value) : Option Value := match fieldAt? P t f with
  | some g => bif chkField P t f g.offset then pad g.offset v else none
  | none => none
theorem ov_padE {t f : Nat} {x : Operand} {vx : Value} (ho : o.op = .fieldAddr t x f) (hx : opv P kn x = some vx) : OV P o kn s (evPad P t f vx) := by
  unfold evPad
  split
  · rename_i g hg
    cases hc : chkField P t f g.offset with
    | true => exact ov_pad ho hc hx
    | false => exact ov_none
  · exact ov_none
omit [Toks] in
noncomputable def evFd (P : Program) (t f : Nat) (v : Value) : Option Value := match fieldAt? P t f with
  | some g => bif aggT P g.type then (bif chkFdN P t f g.offset (szOf P g.type) then fdN g.offset (szOf P g.type) v else none) else (bif chkFd1 P t f g.offset then fd1 g.offset v else none)
  | none => none
theorem ov_fd {t f : Nat} {x : Operand} {vx : Value} (ho : o.op = .field t x f) (hx : opv P kn x = some vx) : OV P o kn s (evFd P t f vx) := by
  unfold evFd
  split
  · rename_i g hg
    cases aggT P g.type with
    | true =>
      rw [cond_true]
      cases hc : chkFdN P t f g.offset (szOf P g.type) with
      | true => exact ov_fdN ho hc hx
      | false => exact ov_none
    | false =>
      rw [cond_false]
      cases hc : chkFd1 P t f g.offset with
      | true => exact ov_fd1 ho hc hx
      | false => exact ov_none
  · exact ov_none
omit [Toks] in
noncomputable def evIxA [Orc] (P : Program) (t : Nat) (v i : Value) : Option Value := match P.underlying t with
  | some (.slice e) => bif chkSlice P t (szOf P e) then orV (ixS (szOf P e) v i) (ixX (szOf P e) v i) else none
  | some (.array l e) => bif chkArr P t l (szOf P e) then ixA l (szOf P e) v i else none
  | _ => none
theorem ov_ixE {t : Nat} {x i : Operand} {vx vi : Value} (ho : o.op = .indexAddr t x i) (hx : opv P kn x = some vx) (hi : opv P kn i = some vi) : OV P o kn s (evIxA P t vx vi) := by
  unfold evIxA
  split
  · rename_i e hu
    cases hc : chkSlice P t (szOf P e) with
    | true => exact ov_or (ov_ixS ho hc hx hi) (ov_ixX ho hc hx hi)
    | false => exact ov_none
  · rename_i l e hu
    cases hc : chkArr P t l (szOf P e) with
    | true => exact ov_ixA ho hc hx hi
    | false => exact ov_none
  · exact ov_none
omit [Toks] in
noncomputable def evIx (P : Program) (t : Nat) (v i : Value) : Option Value := match P.underlying t with
  | some .string => bif chkStr P t then ixT v i else none
  | some (.array l e) => bif aggT P e then (bif chkInN P t l (szOf P e) then inN l (szOf P e) v i else none) else (bif chkIn1 P t l (szOf P e) then in1 l (szOf P e) v i else none)
  | _ => none
theorem ov_ix {t : Nat} {x i : Operand} {vx vi : Value} (ho : o.op = .index t x i) (hx : opv P kn x = some vx) (hi : opv P kn i = some vi) : OV P o kn s (evIx P t vx vi) := by
  unfold evIx
  split
  · cases hc : chkStr P t with
    | true => exact ov_ixT ho hc hx hi
    | false => exact ov_none
  · rename_i l e hu
    cases aggT P e with
    | true =>
      rw [cond_true]
      cases hc : chkInN P t l (szOf P e) with
      | true => exact ov_inN ho hc hx hi
      | false => exact ov_none
    | false =>
      rw [cond_false]
      cases hc : chkIn1 P t l (szOf P e) with
      | true => exact ov_in1 ho hc hx hi
      | false => exact ov_none
  · exact ov_none
omit [Toks] in
noncomputable def evTya (P : Program) (t : Nat) (v : Value) (ok : Bool) : Option Value := bif chkU P t (fun d => !isIfaceD d) then (match zeroOf P t with | some z => tya t v z ok | none => none) else none
theorem ov_tyaE {t xt : Nat} {x : Operand} {ok : Bool} {vx : Value} (ho : o.op = .typeAssert x xt t ok) (hx : opv P kn x = some vx) : OV P o kn s (evTya P t vx ok) := by
  unfold evTya
  cases hc : chkU P t (fun d => !isIfaceD d) with
  | false => exact ov_none
  | true =>
    rw [cond_true]
    split
    · rename_i z hz
      obtain ⟨d, hd, hf⟩ := chkU_spec hc
      obtain ⟨h1, h2⟩ := zeroOf_spec hz
      exact ov_tya ho ⟨⟨d, hd, by simpa using hf⟩, h1, h2⟩ hx
    · exact ov_none
end
end Go.Eng
