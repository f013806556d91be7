/-
  The base of the proofs: more of slices (literals, nil, beyond the length, clear), structs compared, results that lie in memory. It claims nothing of any program.
-/
import Derived.Test.YtcmgpofcdjejnaaMaps
import Derived.Laws.StructEq
import Derived.Laws.Rows
import Derived.Scope
set_option linter.unusedVariables false
set_option linter.unusedSectionVars false
set_option linter.unusedSimpArgs false
namespace Go.Proofs.Ytcmgpofcdjejnaa
open Go

section
variable {P : Program} {ops : Array Oper} {n : Nat} {l : Slots} {K₁ K₀ : Act → World → Prop} {x : Out} {S : List (List Chunk)} {C : World → Prop} {d : Nat} {dst : Option Nat} {ty : TypeId} {pos : String} {af : Array Edge} {gd : Option (Nat × Bool)}

/-! ### A slice against nil -/
theorem run_equalIn_slice_nil {T e : TypeId} {A : Option Addr} {m c : Nat} (ht : P.underlying T = some (.slice e)) (w : World) (d : Nat) : (Op.equalIn (d + 1) T (.slice A m c) (.slice none 0 0)).run P w = .ok A.isNone w := by
  unfold Op.equalIn; rw [Sem.run_bind, run_underlying ht]; cases A <;> rfl
theorem run_equal_slice_nil {T e : TypeId} {A : Option Addr} {m c : Nat} (ht : P.underlying T = some (.slice e)) (w : World) : (Op.equal T (.slice A m c) (.slice none 0 0)).run P w = .ok A.isNone w := run_equalIn_slice_nil ht w 9999
theorem y_isnil {T T' e : TypeId} {X Z : Operand} {A : Option Addr} {m c : Nat} (hx : ev l X = some (.slice A m c)) (hz : ev l Z = some (.slice none 0 0)) (ht : P.underlying T = some (.slice e)) : Y P n l C ⟨dst, .binOp .eql T X Z T', ty, pos, af, gd⟩ (.bool A.isNone) :=
  y_eqv hx hz (fun _ => rfl) rfl (fun w _ => run_equal_slice_nil ht w)
theorem y_nonil {T T' e : TypeId} {X Z : Operand} {A : Option Addr} {m c : Nat} (hx : ev l X = some (.slice A m c)) (hz : ev l Z = some (.slice none 0 0)) (ht : P.underlying T = some (.slice e)) : Y P n l C ⟨dst, .binOp .neq T X Z T', ty, pos, af, gd⟩ (.bool (!A.isNone)) :=
  y_nev hx hz (fun _ => rfl) rfl (fun w _ => run_equal_slice_nil ht w)

/-! ### Bools, structs of two integers compared -/
theorem run_equalIn_bl {T : TypeId} {a b : Bool} (ht : P.underlying T = some .bool) (w : World) (d : Nat) : (Op.equalIn (d + 1) T (.bool a) (.bool b)).run P w = .ok (a == b) w := by
  unfold Op.equalIn; rw [Sem.run_bind, run_underlying ht]; rfl
theorem y_eqb {T T' : TypeId} {X Z : Operand} {a b : Bool} (hx : ev l X = some (.bool a)) (hz : ev l Z = some (.bool b)) (ht : P.underlying T = some .bool) : Y P n l C ⟨dst, .binOp .eql T X Z T', ty, pos, af, gd⟩ (.bool (decide (a = b))) := by
  have : (a == b) = decide (a = b) := by cases a <;> cases b <;> rfl
  rw [← this]
  exact y_eqv hx hz (fun _ => rfl) rfl (fun w _ => run_equalIn_bl ht w 9999)
theorem y_neb {T T' : TypeId} {X Z : Operand} {a b : Bool} (hx : ev l X = some (.bool a)) (hz : ev l Z = some (.bool b)) (ht : P.underlying T = some .bool) : Y P n l C ⟨dst, .binOp .neq T X Z T', ty, pos, af, gd⟩ (.bool (decide (a ≠ b))) := by
  have : (!(a == b)) = decide (a ≠ b) := by cases a <;> cases b <;> rfl
  rw [← this]
  exact y_nev hx hz (fun _ => rfl) rfl (fun w _ => run_equalIn_bl ht w 9999)

/-- structs all of whose fields are integers of one cell -/
def intFieldsB (P : Program) (t : TypeId) (m : Nat) : Bool :=
  match P.underlying t with
  | some (.struct fs) => (fs.toList.map fun f => (f.name != "_", (match P.underlying f.type with | some (.int _) => true | _ => false), f.offset)) == (List.range m).map fun i => (true, true, i)
  | _ => false

theorem run_eqFields_ints (d : Nat) (xs ys : List (IntKind × Int)) (hk : xs.map (·.1) = ys.map (·.1)) : ∀ (fs : List Field) (i : Nat) (w : World), (fs.map fun f => (f.name != "_", (match P.underlying f.type with | some (.int _) => true | _ => false), f.offset)) = (List.range' i fs.length).map (fun i => (true, true, i)) → i + fs.length = xs.length →
    (Op.eqFields (d + 1) (xs.map fun p => Value.int p.1 p.2).toArray (ys.map fun p => Value.int p.1 p.2).toArray fs).run P w = .ok (decide (xs.drop i = ys.drop i)) w
  | [], i, w, _, hl => by
    have hl' : ys.length = xs.length := by have := congrArg List.length hk; simpa using this.symm
    simp only [List.length_nil, Nat.add_zero] at hl
    rw [List.drop_eq_nil_of_le (by omega), List.drop_eq_nil_of_le (by omega)]
    simp [Op.eqFields]
  | f :: fs, i, w, hf, hl => by
    have hl' : ys.length = xs.length := by have := congrArg List.length hk; simpa using this.symm
    simp only [List.map_cons, List.length_cons, List.range'_succ, List.cons.injEq, Prod.mk.injEq] at hf
    obtain ⟨⟨h1, h2, h3⟩, h4⟩ := hf
    have ih := run_eqFields_ints d xs ys hk fs (i + 1) w h4 (by simp at hl; omega)
    have hi : i < xs.length := by simp at hl; omega
    have hi' : i < ys.length := by omega
    have hkk : xs[i].1 = ys[i].1 := by
      have := congrArg (fun q => q[i]?) hk
      simpa [hi, hi'] using this
    have hn : f.name ≠ "_" := by simpa using h1
    split at h2
    · rename_i k hu
      have e1 : (part f.type (xs.map fun p => Value.int p.1 p.2).toArray f.offset).run P w = .ok (.int xs[i].1 xs[i].2) w := by
        simp [part, isAgg, run_underlying hu, h3, hi]
      have e2 : (part f.type (ys.map fun p => Value.int p.1 p.2).toArray f.offset).run P w = .ok (.int ys[i].1 ys[i].2) w := by
        simp [part, isAgg, run_underlying hu, h3, hi']
      have e3 : (Op.equalIn (d + 1) f.type (.int xs[i].1 xs[i].2) (.int ys[i].1 ys[i].2)).run P w = .ok (xs[i].2 == ys[i].2) w := by
        rw [hkk]; exact run_equalIn_int w d f.type _ _ _ _ hu
      simp only [Op.eqFields, if_pos hn, Sem.run_bind, e1, e2, e3, Result.andThen_ok]
      rw [List.drop_eq_getElem_cons hi, List.drop_eq_getElem_cons hi']
      rw [show decide (xs[i] :: xs.drop (i + 1) = ys[i] :: ys.drop (i + 1)) = ((xs[i].2 == ys[i].2) && decide (xs.drop (i + 1) = ys.drop (i + 1))) from ?_]
      · cases h : (xs[i].2 == ys[i].2) with
        | true => simp only [h, if_true, Bool.true_and]; exact ih
        | false => simp [h]
      · rw [Bool.eq_iff_iff]
        simp only [decide_eq_true_eq, List.cons.injEq, Bool.and_eq_true, beq_iff_eq]
        exact ⟨fun ⟨h1, h2⟩ => ⟨by rw [h1], h2⟩, fun ⟨h1, h2⟩ => ⟨Prod.ext hkk h1, h2⟩⟩
    · cases h2

theorem y_eq_ints {T T' : TypeId} {X Z : Operand} {xs ys : List (IntKind × Int)} (hx : ev l X = some (.agg (xs.map fun p => Value.int p.1 p.2).toArray)) (hz : ev l Z = some (.agg (ys.map fun p => Value.int p.1 p.2).toArray)) (hk : xs.map (·.1) = ys.map (·.1)) (hf : intFieldsB P T xs.length = true) (hp : P.stoodInHeld T = false) (hm : P.eqGuardType P.depth T = false) :
    Y P n l C ⟨dst, .binOp .eql T X Z T', ty, pos, af, gd⟩ (.bool (decide (xs = ys))) := by
  unfold intFieldsB at hf
  split at hf
  · rename_i fs hu
    have hfo : P.fieldsOf T = fs := by simp [Program.fieldsOf, hu]
    have hlen : fs.toList.length = xs.length := by have := congrArg List.length (beq_iff_eq.1 hf); simpa using this
    refine y_eqv hx hz (fun w => run_eqGuard_agg w _ _ _ _ _ _ hm) rfl (fun w _ => ?_)
    show (Op.equalIn (9999 + 1) T _ _).run P w = _
    rw [run_equalIn_agg w 9999 T _ _ (by rw [hfo]; exact hu) hp, hfo]
    have h := run_eqFields_ints (P := P) 9998 xs ys hk fs.toList 0 w (by rw [hlen, ← List.range_eq_range']; exact beq_iff_eq.1 hf) (by rw [hlen]; omega)
    simpa using h
  · cases hf

/-! ### Literals -/
section
variable {α : Type} [Inhabited α] {K : Kd α} {E : TypeId}

theorem fill_all (z : Nat → Value) : ∀ (vs : List Value) (ys : List α) (i : Nat) (cs : List Value), vs.length = ys.length → (∀ (j : Nat) (v : Value) (y : α), vs[j]? = some v → ys[j]? = some y → v.cells = (K.enc y).toArray) → (i + ys.length) * K.sz = cs.length →
    Instr.fill (fun i => some (i * K.sz, K.sz)) cs.toArray ((List.range' i vs.length).zip vs) = some (cs.take (i * K.sz) ++ K.row ys).toArray
  | [], ys, i, cs, hl, _, hc => by
    have : ys = [] := List.eq_nil_of_length_eq_zero (by simpa using hl.symm)
    subst this
    simp only [List.length_nil, Nat.add_zero] at hc
    simp [Instr.fill, K.row_nil, hc]
  | v :: vs, [], i, cs, hl, _, _ => by simp at hl
  | v :: vs, y :: ys, i, cs, hl, h, hc => by
    have hv : v.cells = (K.enc y).toArray := h 0 v y (by simp) (by simp)
    have hle : i * K.sz + K.sz ≤ cs.length := by
      rw [← hc, List.length_cons, ← Nat.succ_mul]; exact Nat.mul_le_mul_right _ (by omega)
    simp only [List.length_cons, List.range'_succ, List.zip_cons_cons]
    rw [fill_one (i := i) (off := i * K.sz) (sz := K.sz) rfl hv (K.len y) (by rw [K.len]; exact hle)]
    have hlen : (cs.take (i * K.sz) ++ K.enc y ++ cs.drop (i * K.sz + (K.enc y).length)).length = cs.length := by
      simp only [List.length_append, List.length_take, List.length_drop, K.len]; omega
    rw [fill_all z vs ys (i + 1) _ (by simpa using hl) (fun j v' y' h1 h2 => h (j + 1) v' y' (by simpa using h1) (by simpa using h2)) (by rw [hlen, ← hc, List.length_cons]; congr 1; omega)]
    congr 2
    have e1 : (cs.take (i * K.sz) ++ K.enc y).length = (i + 1) * K.sz := by rw [List.length_append, List.length_take, K.len, Nat.succ_mul]; omega
    rw [← e1, List.take_left, K.row_cons, List.append_assoc]

def cellsB {α : Type} (K : Kd α) : List Value → List α → Prop
  | [], [] => True
  | v :: vs, y :: ys => v.cells = (K.enc y).toArray ∧ cellsB K vs ys
  | _, _ => False
theorem cellsB_spec : ∀ {vs : List Value} {ys : List α}, cellsB K vs ys → vs.length = ys.length ∧ ∀ (j : Nat) (v : Value) (y : α), vs[j]? = some v → ys[j]? = some y → v.cells = (K.enc y).toArray
  | [], [], _ => ⟨rfl, fun j v y h => by simp at h⟩
  | [], _ :: _, h => h.elim
  | _ :: _, [], h => h.elim
  | v :: vs, y :: ys, h => by
    obtain ⟨h1, h2⟩ := h
    obtain ⟨h3, h4⟩ := cellsB_spec h2
    refine ⟨by simp [h3], fun j u z hu hz => ?_⟩
    cases j with
    | zero => simp at hu hz; subst hu; subst hz; exact h1
    | succ j => exact h4 j u z (by simpa using hu) (by simpa using hz)

/-- []T{a, b, ..} -/
theorem tl_lit {t : TypeId} {m : Nat} {xs : List Operand} {vs : List Value} (stp : Step P ops ⟨dst, .buildSlice t m ((List.range' 0 xs.length).zip xs).toArray, ty, pos, af, gd⟩ K₁ K₀) (ys : List α) {z : Value} (hm : m = ys.length) (hv : evs l xs = some vs) (hy : cellsB K vs ys) (ht : P.underlying t = some (.slice E)) (hz : sizeB P E = some K.sz) (hzz : (P.info? E).bind (·.zero) = some z) (hsm : Nat.ble (ys.length * K.sz) 16777216 = true) (hd : okw ops l ⟨dst, .buildSlice t m ((List.range' 0 xs.length).zip xs).toArray, ty, pos, af, gd⟩ n = some (true, d))
    (k : ∀ A L, Own E K A ys ys.length L → TG K₁ n ((d, .slice A ys.length ys.length) :: l) (St x (L :: S))) : TG K₀ n l (St x S) := by
  subst hm
  refine tl_eff (C' := fun v w => ∃ A L, v = .slice A ys.length ys.length ∧ Own E K A ys ys.length L ∧ St x (L :: S) w) stp hd (fun a w ha hw => ?_) (fun v => tl_ex fun A => tl_ex fun L => tl_pure fun e => tl_pure fun h => tl_val e (k A L h))
  refine ⟨.slice (some ⟨w.heap.size, 0, none⟩) ys.length ys.length, _, ?_, some ⟨w.heap.size, 0, none⟩, _, rfl, .inr ⟨w.heap.size, [], [], rfl, rfl, Nat.le_refl _, by simp⟩, hw.new _⟩
  obtain ⟨hl, hc⟩ := cellsB_spec hy
  have hxs : xs.length = vs.length := by rw [← ha.evs hv, List.length_map]
  cases hi : P.info? E with
  | none => simp [hi] at hzz
  | some inf =>
    simp only [hi, Option.bind_some] at hzz
    have hsz : inf.size = K.sz := by simpa [sizeB, hi] using hz
    have hle := Nat.le_of_ble_eq_true hsm
    have hmap : (((List.range' 0 xs.length).zip xs).toArray.map fun p => (p.1, a.eval p.2)).toList = (List.range' 0 vs.length).zip vs := by
      rw [List.map_toArray, ← ha.evs hv, List.zip_map_right, List.length_map]
      rfl
    have h1 : ¬ (ys.length * K.sz > 2 ^ 24) := by omega
    have hf := fill_all (K := K) (fun _ => undef) vs ys 0 ((List.range (ys.length * K.sz)).map fun j => (if ys.length * K.sz = 0 then #[] else z.cells)[j % (if ys.length * K.sz = 0 then #[] else z.cells : Array Value).size]!) hl hc (by simp)
    simp only [Nat.zero_mul, List.take_zero, List.nil_append] at hf
    have hcs : ((Array.range (ys.length * K.sz)).map fun (j : Nat) => (if ys.length * K.sz = 0 then #[] else z.cells)[j % (if ys.length * K.sz = 0 then #[] else z.cells : Array Value).size]!) = ((List.range (ys.length * K.sz)).map fun j => (if ys.length * K.sz = 0 then #[] else z.cells)[j % (if ys.length * K.sz = 0 then #[] else z.cells : Array Value).size]!).toArray := by
      apply Array.ext'; simp [Array.toList_range]
    simp only [execOp, Instr.buildSlice, Sem.run_bind, run_underlying ht, sizeOf, typeInfo, run_program, Result.andThen_ok, hi, Sem.run_pure, hsz, h1, if_false, hmap]
    by_cases h0 : ys.length * K.sz = 0
    · simp only [h0, if_true, Sem.run_bind, Sem.run_pure, Result.andThen_ok] at hcs hf ⊢
      rw [hcs, hf]
      simp [newRow]
    · simp only [h0, if_false, Sem.run_bind, zeroValue, typeInfo, run_program, Result.andThen_ok, hi, Sem.run_pure, hzz] at hcs hf ⊢
      rw [hcs, hf]
      simp [newRow]
end

/-! ### Scopes -/
theorem tc_scope {Q : Exit → Act → World → Prop} {c : Code} (h : TC P c (Exit.noGoto Q) n l C) : TC P (.scope c) Q n l C := fun a w ha hw => wp_scope_straight (h a w ha hw)
theorem ex_scope_end {Q : Exit → Act → World → Prop} (h : EX Q .normal n l C) : EX (Exit.noGoto Q) .normal n l C := h
theorem ex_scope_ret {Q : Exit → Act → World → Prop} (h : EX Q .ret n l C) : EX (Exit.noGoto Q) .ret n l C := h
theorem ex_scope_exit {Q : Exit → Act → World → Prop} {id : Nat} (h : EX Q (.exit id) n l C) : EX (Exit.noGoto Q) (.exit id) n l C := h

/-! ### A struct result that lies in memory -/
theorem ex_retc {fn : Func} {Post : Value → World → Prop} {p b : Nat} {T E : TypeId} {cs : List Value} (k : Nat) (hr : fn.results = #[.cell p T]) (hp : lk l p = some (.pointer (some ⟨b, 0, none⟩))) (hk : S[k]? = some (bx b cs E)) (hT : aggB P T = some true) (hz : sizeB P T = some cs.length) (h : ∀ w, St x S w → Post (.agg cs.toArray) w) : EX (bodyPost P fn (RetP Post)) .ret n l (St x S) := by
  intro a w ha hw
  refine ⟨ha.defers, _, ?_, _, rfl, h w hw⟩
  have hb : w.heap[b]? = some (.cells cs.toArray E (0, 0)) := hw.at k hk (b, _) (by simp [bx])
  have hc : ∀ j v, cs[j]? = some v → w.cell? ((⟨b, 0, none⟩ : Addr).add j) = some v := by
    intro j v hj
    rw [add_lit]
    simp only [World.cell?, hb, List.getElem?_toArray]
    simpa using hj
  have hl := run_loadVar_agg (P := P) hT hz hc
  have hg := ha.get p _ hp
  simp only [Array.getD_eq_getD_getElem?] at hg
  simp [results, hr, hg, asAddr, hl]

/-! ### Beyond the length; clear -/
section
variable {α : Type} {K : Kd α} {A : Option Addr} {xs : List α} {c : Nat} {L : List Chunk} {E : TypeId}
/-- a cut by numbers, whatever lies there -/
theorem y_slcap {t e : TypeId} {X G H : Operand} {kg kh : IntKind} {g h : Int} {m : Nat} (hX : ev l X = some (.slice A m c)) (hG : ev l G = some (.int kg g)) (hH : ev l H = some (.int kh h)) (ht : P.underlying t = some (.slice e)) (hz : sizeB P e = some K.sz) (hb : 0 ≤ g ∧ g ≤ h ∧ h ≤ c) :
    Y P n l C ⟨dst, .slice t X (some G) (some H) none, ty, pos, af, gd⟩ (.slice (sla A g.toNat c K.sz) (h.toNat - g.toNat) (c - g.toNat)) := y_of fun a w ha hw => by
  have hs := run_sliceV (P := P) (K := K) (A := A) ht hz w (some (.int kg g)) (some (.int kh h)) none m c g.toNat h.toNat c (by
    have h1 : 0 ≤ h ∧ h ≤ (c : Int) := by omega
    have h2 : max h 0 = h := by omega
    simp [Instr.sliceBounds, Instr.sliceBound, asIntOf, h1, h2, hb.1, hb.2.1])
  simp [execOp, ha.ev hX, ha.ev hG, ha.ev hH, hs, Option.map]
/-- s[a:b:c] -/
theorem y_sl3 {t e : TypeId} {X G H M : Operand} {kg kh km : IntKind} {g h u : Int} {m : Nat} (hX : ev l X = some (.slice A m c)) (hG : ev l G = some (.int kg g)) (hH : ev l H = some (.int kh h)) (hM : ev l M = some (.int km u)) (ht : P.underlying t = some (.slice e)) (hz : sizeB P e = some K.sz) (hb : 0 ≤ g ∧ g ≤ h ∧ h ≤ u ∧ u ≤ c) :
    Y P n l C ⟨dst, .slice t X (some G) (some H) (some M), ty, pos, af, gd⟩ (.slice (sla A g.toNat u.toNat K.sz) (h.toNat - g.toNat) (u.toNat - g.toNat)) := y_of fun a w ha hw => by
  have hs := run_sliceV (P := P) (K := K) (A := A) ht hz w (some (.int kg g)) (some (.int kh h)) (some (.int km u)) m c g.toNat h.toNat u.toNat (by
    have h1 : 0 ≤ h ∧ h ≤ u := by omega
    have h2 : max h 0 = h := by omega
    have h3 : max u 0 = u := by omega
    have h4 : 0 ≤ u ∧ u ≤ (c : Int) := by omega
    simp [Instr.sliceBounds, Instr.sliceBound, asIntOf, h1, h2, h3, h4, hb.1, hb.2.1, hb.2.2.1])
  simp [execOp, ha.ev hX, ha.ev hG, ha.ev hH, ha.ev hM, hs, Option.map]

theorem zeroCells_one (z : Value) (y : α) (hy : z.cells = (K.enc y).toArray) (m : Nat) : (Builtin.zeroCells z.cells m).toList = K.row (List.replicate m y) := by
  have hl := K.len y
  simp only [Builtin.zeroCells, Array.toList_map, Array.toList_range, hy, List.size_toArray, hl]
  induction m with
  | zero => simp [Kd.row]
  | succ q ih =>
    rw [Nat.succ_mul, List.range_add, List.map_append, ih, List.replicate_succ', K.row_append]
    simp only [K.row_cons, K.row_nil, List.append_nil, List.map_map]
    congr 1
    apply List.ext_getElem?
    intro j
    rw [List.getElem?_map]
    by_cases hj : j < K.sz
    · rw [List.getElem?_range hj, List.getElem?_eq_getElem (by rw [hl]; exact hj)]
      simp only [Option.map_some, Function.comp_apply]
      rw [Nat.mul_comm, Nat.mul_add_mod, Nat.mod_eq_of_lt hj]
      simp [hl, hj]
    · rw [List.getElem?_eq_none (by simp; omega), List.getElem?_eq_none (by rw [hl]; omega)]; rfl

/-- clear(s[g:g+m]) of a row of its own: what lies ahead stays -/
theorem tl_clear {t : TypeId} {X : Operand} {z : Value} {ts : Array TypeId} (hts : ts[0]? = some t) (stp : Step P ops ⟨dst, .call { callee := .builtin .clear, args := #[X], argTypes := ts }, ty, pos, af, gd⟩ K₁ K₀) (k : Nat) (y : α) (own : Own E K A xs c L) (g m : Nat) {q : Nat} (hX : ev l X = some (.slice (sla A g c K.sz) m q)) (hg : g ≤ xs.length) (hi : g + m ≤ c) (ht : P.underlying t = some (.slice E)) (hzz : (P.info? E).bind (·.zero) = some z) (hy : z.cells = (K.enc y).toArray) (hk : S[k]? = some L) (ho : oks ⟨dst, .call { callee := .builtin .clear, args := #[X], argTypes := ts }, ty, pos, af, gd⟩ = true)
    (kk : ∀ ys L', ys.length = xs.length → ys.take g = xs.take g → Own E K A ys c L' → TG K₁ n l (St x (S.set k L'))) : TG K₀ n l (St x S) := by
  have he : ∃ inf, P.info? E = some inf ∧ inf.zero = some z := by
    cases hi : P.info? E with
    | none => simp [hi] at hzz
    | some inf => exact ⟨inf, rfl, by simpa [hi] using hzz⟩
  obtain ⟨inf, hinf, hzero⟩ := he
  refine tl_eff0 stp (C' := fun w => ∃ ys L', ys.length = xs.length ∧ ys.take g = xs.take g ∧ Own E K A ys c L' ∧ St x (S.set k L') w) ho (fun a w ha hw => ?_) (tl_ex fun ys => tl_ex fun L' => tl_pure fun h1 => tl_pure fun h2 => tl_pure fun h3 => kk ys L' h1 h2 h3)
  have hset : S.set k L = S := set_self hk
  have same : ∃ ys L', ys.length = xs.length ∧ ys.take g = xs.take g ∧ Own E K A ys c L' ∧ St x (S.set k L') w := ⟨xs, L, rfl, rfl, own, by rw [hset]; exact hw⟩
  cases m with
  | zero =>
    refine ⟨.tuple #[], w, ?_, same⟩
    cases hs : sla A g c K.sz <;> simp [execOp, resolve, invoke, builtin, Builtin.clear_, ha.ev hX, hs, hts, run_underlying ht]
  | succ p =>
    have hcg : c ≠ g := by omega
    rcases own with ⟨rfl, rfl, rfl, rfl⟩ | ⟨b, pre, post, rfl, rfl, h1, h2⟩
    · omega
    · have hb : w.heap[b]? = some (.cells (pre ++ K.row xs ++ post).toArray E (0, 0)) := hw.at k hk (b, _) (by simp)
      have hzc := zeroCells_one z y hy (p + 1)
      have hgs : g * K.sz ≤ (K.row xs).length := by rw [K.row_length]; exact Nat.mul_le_mul_right _ hg
      have hall : (c - xs.length) * K.sz + xs.length * K.sz = c * K.sz := by rw [← Nat.add_mul]; congr 1; omega
      have hgm : (g + (p + 1)) * K.sz ≤ c * K.sz := Nat.mul_le_mul_right _ hi
      have hgm' : (g + (p + 1)) * K.sz = g * K.sz + (p + 1) * K.sz := Nat.add_mul ..
      have hvl : (K.row (List.replicate (p + 1) y)).length = (p + 1) * K.sz := by rw [K.row_length, List.length_replicate]
      have hst := run_storeCells_at P b (pre.length + g * K.sz) E (K.row (List.replicate (p + 1) y)) 0 _ w hb (by simp only [List.size_toArray, List.length_append, hvl]; rw [K.row_length]; omega) (K.row_flat _)
      have hrun : (execOp a.eval ⟨dst, .call { callee := .builtin .clear, args := #[X], argTypes := ts }, ty, pos, af, gd⟩).run P w = .ok (.value (.tuple #[])) (w.setRow b ((pre ++ K.row xs ++ post).take (pre.length + g * K.sz) ++ K.row (List.replicate (p + 1) y) ++ (pre ++ K.row xs ++ post).drop (pre.length + g * K.sz + (p + 1) * K.sz)).toArray) := by
        have hs : sla (some ⟨b, pre.length, none⟩) g c K.sz = some ⟨b, pre.length + g * K.sz, none⟩ := by simp only [sla, if_neg hcg, Option.map_some, add_lit]
        rw [hs] at hX
        simp only [Nat.add_zero, hvl] at hst
        simp [execOp, resolve, invoke, builtin, Builtin.clear_, ha.ev hX, hts, run_underlying ht, zeroValue, typeInfo, hinf, hzero, hzc, hst]
      refine ⟨_, _, hrun, ?_⟩
      rw [take_mid hgs, K.row_take xs g hg]
      by_cases hle : g + (p + 1) ≤ xs.length
      · have hms : (g + (p + 1)) * K.sz ≤ (K.row xs).length := by rw [K.row_length]; exact Nat.mul_le_mul_right _ hle
        rw [Nat.add_assoc, ← hgm', drop_mid hms, K.row_drop xs _ hle]
        refine ⟨xs.take g ++ List.replicate (p + 1) y ++ xs.drop (g + (p + 1)), [(b, _)], by simp only [List.length_append, List.length_take, List.length_replicate, List.length_drop]; omega, ?_, .inr ⟨b, pre, post, rfl, rfl, ?_, ?_⟩, ?_⟩
        · rw [List.append_assoc, List.take_append_of_le_length (by rw [List.length_take]; omega), List.take_take, Nat.min_self]
        · simp only [List.length_append, List.length_take, List.length_replicate, List.length_drop]; omega
        · simp only [List.length_append, List.length_take, List.length_replicate, List.length_drop]
          rw [show min g xs.length + (p + 1) + (xs.length - (g + (p + 1))) = xs.length by omega]; exact h2
        · have := hw.setRow (cs' := (pre ++ K.row (xs.take g ++ List.replicate (p + 1) y ++ xs.drop (g + (p + 1))) ++ post).toArray) hk
          simpa only [K.row_append, List.append_assoc] using this
      · have hr : pre.length + g * K.sz + (p + 1) * K.sz = (pre ++ K.row xs).length + (g + (p + 1) - xs.length) * K.sz := by
          rw [List.length_append, K.row_length, Nat.add_assoc, ← hgm', Nat.add_assoc, ← Nat.add_mul]; congr 2; omega
        have hsp : List.replicate (p + 1) y = List.replicate (xs.length - g) y ++ List.replicate (g + (p + 1) - xs.length) y := by rw [List.replicate_append_replicate]; congr 1; omega
        rw [hr, List.drop_length_add_append, hsp, K.row_append]
        have hpl : (c - xs.length) * K.sz = (g + (p + 1) - xs.length) * K.sz + (c - (g + (p + 1))) * K.sz := by rw [← Nat.add_mul]; congr 1; omega
        have e1 : min g xs.length + (xs.length - g) = xs.length := by omega
        refine ⟨xs.take g ++ List.replicate (xs.length - g) y, [(b, _)], by simp only [List.length_append, List.length_take, List.length_replicate]; omega, ?_, .inr ⟨b, pre, K.row (List.replicate (g + (p + 1) - xs.length) y) ++ post.drop ((g + (p + 1) - xs.length) * K.sz), rfl, rfl, ?_, ?_⟩, ?_⟩
        · rw [List.take_append_of_le_length (by rw [List.length_take]; omega), List.take_take, Nat.min_self]
        · simp only [List.length_append, List.length_take, List.length_replicate]; omega
        · simp only [List.length_append, List.length_take, List.length_replicate, List.length_drop, K.row_length, e1]; omega
        · have := hw.setRow (cs' := (pre ++ K.row (xs.take g ++ List.replicate (xs.length - g) y) ++ (K.row (List.replicate (g + (p + 1) - xs.length) y) ++ post.drop ((g + (p + 1) - xs.length) * K.sz))).toArray) hk
          simpa only [K.row_append, List.append_assoc] using this
end
end
end Go.Proofs.Ytcmgpofcdjejnaa
