/-
  The base of the proofs, fourth part: one rule for each kind of operation that makes or writes memory, and for calls. It claims nothing of any program.
-/
import Derived.Test.YtcmgpofcdjejnaaMem
set_option linter.unusedVariables false
set_option linter.unusedSectionVars false
set_option linter.unusedSimpArgs false
namespace Go.Proofs.Ytcmgpofcdjejnaa
open Go

/-! ### Classes of worlds taken apart -/
section
variable {P : Program} {ops : Array Oper} {Q : Exit → Act → World → Prop} {n : Nat} {l : Slots} {os : List Oper} {c : Code} {e : Exit}
theorem tl_ex {K : Act → World → Prop} {α : Sort _} {C : α → World → Prop} (h : ∀ y, TG K n l (C y)) : TG K n l (fun w => ∃ y, C y w) := fun a w ha ⟨y, hy⟩ => h y a w ha hy
theorem tl_pure {K : Act → World → Prop} {p : Prop} {C : World → Prop} (h : p → TG K n l C) : TG K n l (fun w => p ∧ C w) := fun a w ha ⟨y, hy⟩ => h y a w ha hy
theorem tc_pure {p : Prop} {C : World → Prop} (h : p → TC P c Q n l C) : TC P c Q n l (fun w => p ∧ C w) := fun a w ha ⟨y, hy⟩ => h y a w ha hy
theorem tl_val {K : Act → World → Prop} {d : Nat} {v u : Value} {C : World → Prop} (e : v = u) (h : TG K n ((d, u) :: l) C) : TG K n ((d, v) :: l) C := by rw [e]; exact h

variable {C : World → Prop} {o : Oper} {d : Nat} {K K' : Act → World → Prop}

/-- an operation that turns the world -/
theorem tl_eff {C' : Value → World → Prop} (hs : Step P ops o K' K) (hd : okw ops l o n = some (true, d)) (h : ∀ a w, Ag n l a → C w → ∃ v w', (execOp a.eval o).run P w = .ok (.value v) w' ∧ C' v w') (k : ∀ v, TG K' n ((d, v) :: l) (C' v)) : TG K n l C := by
  intro a w ha hw
  obtain ⟨h1, h2, h3⟩ := okw_spec hd
  obtain ⟨v, w', hr, hC⟩ := h a w ha hw
  refine hs a w (wanted_spec ha h1) ?_
  unfold stepV
  rw [hr, h2]
  exact k v _ w' (ha.put h3 v) hC

/-- a statement that yields nothing -/
def oks (o : Oper) : Bool := o.guard.isNone && o.dst.isNone
theorem tl_do {C' : World → Prop} (hs : Step P ops o K' K) (hd : oks o = true) (h : ∀ a w, Ag n l a → C w → ∃ w', (execOp a.eval o).run P w = .ok .skip w' ∧ C' w') (k : TG K' n l C') : TG K n l C := by
  intro a w ha hw
  simp only [oks, Bool.and_eq_true, Option.isNone_iff_eq_none] at hd
  obtain ⟨w', hr, hC⟩ := h a w ha hw
  refine hs a w (wanted_none hd.1) ?_
  unfold stepV
  rw [hr, hd.2]
  exact k _ w' ha hC

/-- one that yields a value that nobody takes -/
theorem tl_eff0 {C' : World → Prop} (hs : Step P ops o K' K) (hd : oks o = true) (h : ∀ a w, Ag n l a → C w → ∃ v w', (execOp a.eval o).run P w = .ok (.value v) w' ∧ C' w') (k : TG K' n l C') : TG K n l C := by
  intro a w ha hw
  simp only [oks, Bool.and_eq_true, Option.isNone_iff_eq_none] at hd
  obtain ⟨v, w', hr, hC⟩ := h a w ha hw
  refine hs a w (wanted_none hd.1) ?_
  unfold stepV
  rw [hr, hd.2]
  exact k _ w' ha hC

/-! ### Calls -/
def callB (P : Program) (f : FuncId) : Bool := match P.funcs[f]? with
  | some fn => !(fn.name == "runtime.NumGoroutine") && fn.body.isSome
  | none => false

theorem run_callFunc {f : FuncId} (h : callB P f = true) (args : Array Value) (w : World) : (callFunc f args).run P w = .ok (.enter f args) w := by
  unfold callB at h
  split at h
  · rename_i fn hf
    simp only [Bool.and_eq_true, Bool.not_eq_true'] at h
    have h2 : fn.body.isNone = false := by cases hb : fn.body <;> simp_all
    simp only [callFunc, Sem.run_bind, run_program, Result.andThen_ok, hf, h.1, h2, Bool.false_eq_true, if_false, Sem.run_pure]
  · cases h

theorem wp_call {a : Act} {w : World} {f : FuncId} {args : Array Value} {Post : Value → World → Prop} {K : Act → World → Prop} (hr : (execOp a.eval o).run P w = .ok (.enter f args) w) (hs : Spec P f args C Post) (hw : C w) (hK : ∀ v w', Post v w' → K (a.put o.dst v) w') : stepV P o a w K := by
  unfold stepV
  rw [hr]
  exact (hs w hw).mono fun e w' ⟨v, he, hp⟩ => ⟨v, he, hK v w' hp⟩

/-- a call of a function by its name -/
theorem tl_call {f : FuncId} {xs : List Operand} {ts : Array TypeId} {ty : TypeId} {pos : String} {af : Array Edge} {dst : Option Nat} {gd : Option (Nat × Bool)} {vs : List Value} {C' : World → Prop} {Post : Value → World → Prop}
    (stp : Step P ops ⟨dst, .call { callee := .value (.func f), args := xs.toArray, argTypes := ts }, ty, pos, af, gd⟩ K' K) (hv : evs l xs = some vs) (hb : callB P f = true) (hs : Spec P f vs.toArray C' Post) (hC : ∀ w, C w → C' w) (hd : okw ops l ⟨dst, .call { callee := .value (.func f), args := xs.toArray, argTypes := ts }, ty, pos, af, gd⟩ n = some (true, d))
    (k : ∀ v, TG K' n ((d, v) :: l) (Post v)) : TG K n l C := by
  intro a w ha hw
  obtain ⟨h1, h2, h3⟩ := okw_spec hd
  refine stp a w (wanted_spec ha h1) (wp_call (C := C') (f := f) (args := vs.toArray) ?_ hs (hC w hw) fun v w' hp => by rw [h2]; exact k v _ w' (ha.put h3 v) hp)
  simp only [execOp, resolve, Act.eval, Deferred.ofValue, Sem.run_bind, Sem.run_pure, Result.andThen_ok, invoke, ha.evsA hv, Array.empty_append, Array.append_empty, run_callFunc hb]

/-- a call of a function value -/
theorem tl_callv {f : FuncId} {g : Operand} {first caps : List Value} {xs : List Operand} {ts : Array TypeId} {ty : TypeId} {pos : String} {af : Array Edge} {dst : Option Nat} {gd : Option (Nat × Bool)} {vs : List Value} {C' : World → Prop} {Post : Value → World → Prop}
    (stp : Step P ops ⟨dst, .call { callee := .value g, args := xs.toArray, argTypes := ts }, ty, pos, af, gd⟩ K' K) (hg : ev l g = some (.func (.func f) first.toArray caps.toArray)) (hv : evs l xs = some vs) (hb : callB P f = true) (hs : Spec P f (first ++ vs ++ caps).toArray C' Post) (hC : ∀ w, C w → C' w) (hd : okw ops l ⟨dst, .call { callee := .value g, args := xs.toArray, argTypes := ts }, ty, pos, af, gd⟩ n = some (true, d))
    (k : ∀ v, TG K' n ((d, v) :: l) (Post v)) : TG K n l C := by
  intro a w ha hw
  obtain ⟨h1, h2, h3⟩ := okw_spec hd
  refine stp a w (wanted_spec ha h1) (wp_call (C := C') (f := f) (args := (first ++ vs ++ caps).toArray) ?_ hs (hC w hw) fun v w' hp => by rw [h2]; exact k v _ w' (ha.put h3 v) hp)
  simp only [execOp, resolve, ha.ev hg, Deferred.ofValue, Sem.run_bind, Sem.run_pure, Result.andThen_ok, invoke, ha.evsA hv, run_callFunc hb, List.append_toArray]
end

/-! calls in a region that draws its order: of what only reads -/
section
variable {P : Program} {ops : Array Oper} {n : Nat} {l : Slots} {os : List Oper} {C : World → Prop} {d : Nat}
theorem tq_call {K : Act → Prop} {f : FuncId} {xs : List Operand} {ts : Array TypeId} {ty : TypeId} {pos : String} {af : Array Edge} {dst : Option Nat} {gd : Option (Nat × Bool)} {vs : List Value} {v : Value}
    (hv : evs l xs = some vs) (hb : callB P f = true) (hs : Spec P f vs.toArray C (fun u w => u = v ∧ C w)) (hd : okw ops l ⟨dst, .call { callee := .value (.func f), args := xs.toArray, argTypes := ts }, ty, pos, af, gd⟩ n = some (true, d))
    (k : TQ P ops C K os n ((d, v) :: l)) : TQ P ops C K (⟨dst, .call { callee := .value (.func f), args := xs.toArray, argTypes := ts }, ty, pos, af, gd⟩ :: os) n l := by
  refine tq_quiet hd (fun a w ha hw => ?_) k
  unfold Oper.quietAt
  simp only [execOp, resolve, Act.eval, Deferred.ofValue, Sem.run_bind, Sem.run_pure, Result.andThen_ok, invoke, ha.evsA hv, Array.empty_append, Array.append_empty, run_callFunc hb, Oper.quietUpon]
  exact ⟨trivial, (hs w hw).mono fun e w' ⟨u, he, hu, hC⟩ => ⟨by rw [he, hu], hC⟩⟩
theorem tq_callv {K : Act → Prop} {f : FuncId} {g : Operand} {first caps : List Value} {xs : List Operand} {ts : Array TypeId} {ty : TypeId} {pos : String} {af : Array Edge} {dst : Option Nat} {gd : Option (Nat × Bool)} {vs : List Value} {v : Value}
    (hg : ev l g = some (.func (.func f) first.toArray caps.toArray)) (hv : evs l xs = some vs) (hb : callB P f = true) (hs : Spec P f (first ++ vs ++ caps).toArray C (fun u w => u = v ∧ C w)) (hd : okw ops l ⟨dst, .call { callee := .value g, args := xs.toArray, argTypes := ts }, ty, pos, af, gd⟩ n = some (true, d))
    (k : TQ P ops C K os n ((d, v) :: l)) : TQ P ops C K (⟨dst, .call { callee := .value g, args := xs.toArray, argTypes := ts }, ty, pos, af, gd⟩ :: os) n l := by
  refine tq_quiet hd (fun a w ha hw => ?_) k
  unfold Oper.quietAt
  simp only [execOp, resolve, ha.ev hg, Deferred.ofValue, Sem.run_bind, Sem.run_pure, Result.andThen_ok, invoke, ha.evsA hv, run_callFunc hb, List.append_toArray, Oper.quietUpon]
  exact ⟨trivial, (hs w hw).mono fun e w' ⟨u, he, hu, hC⟩ => ⟨by rw [he, hu], hC⟩⟩
end

/-! ### New blocks and stores -/
section
variable {P : Program} {ops : Array Oper} {Q : Exit → Act → World → Prop} {n : Nat} {l : Slots} {os : List Oper} {K₁ K₀ : Act → World → Prop} {x : Out} {S : List (List Chunk)} {d : Nat} {dst : Option Nat} {ty : TypeId} {pos : String} {af : Array Edge} {gd : Option (Nat × Bool)}

theorem St.newRow {w : World} (h : St x S w) (cs : List Value) (T : TypeId) : St x (bx w.heap.size cs T :: S) { w with heap := w.heap.push (.cells cs.toArray T) } := h.new _

theorem cells_list (v : Value) : ∃ cs : List Value, v.cells = cs.toArray := ⟨v.cells.toList, by simp⟩

theorem tl_box {T : TypeId} {X : Operand} {v : Value} {cs : List Value} (stp : Step P ops ⟨dst, .box T X, ty, pos, af, gd⟩ K₁ K₀) (hx : ev l X = some v) (hcs : v.cells = cs.toArray) (hd : okw ops l ⟨dst, .box T X, ty, pos, af, gd⟩ n = some (true, d))
    (k : ∀ b, TG K₁ n ((d, .pointer (some ⟨b, 0, none⟩)) :: l) (St x (bx b cs T :: S))) : TG K₀ n l (St x S) := by
  refine tl_eff (C' := fun v w => ∃ b, v = .pointer (some ⟨b, 0, none⟩) ∧ St x (bx b cs T :: S) w) stp hd (fun a w ha hw => ⟨.pointer (some ⟨w.heap.size, 0, none⟩), _, ?_, w.heap.size, rfl, hw.newRow cs T⟩) (fun v => tl_ex fun b => tl_pure fun e => tl_val e (k b))
  simp [execOp, Instr.box, newVar, Go.newRow, ha.ev hx, hcs]

theorem tl_alloc {T : TypeId} {v : Value} {cs : List Value} (stp : Step P ops ⟨dst, .alloc T, ty, pos, af, gd⟩ K₁ K₀) (hz : (P.info? T).bind (·.zero) = some v) (hcs : v.cells = cs.toArray) (hd : okw ops l ⟨dst, .alloc T, ty, pos, af, gd⟩ n = some (true, d))
    (k : ∀ b, TG K₁ n ((d, .pointer (some ⟨b, 0, none⟩)) :: l) (St x (bx b cs T :: S))) : TG K₀ n l (St x S) := by
  refine tl_eff (C' := fun v w => ∃ b, v = .pointer (some ⟨b, 0, none⟩) ∧ St x (bx b cs T :: S) w) stp hd (fun a w ha hw => ⟨.pointer (some ⟨w.heap.size, 0, none⟩), _, ?_, w.heap.size, rfl, hw.newRow cs T⟩) (fun v => tl_ex fun b => tl_pure fun e => tl_val e (k b))
  cases hi : P.info? T with
  | none => simp [hi] at hz
  | some i =>
    simp [hi] at hz
    simp [execOp, Instr.alloc, zeroValue, typeInfo, hi, hz, newVar, Go.newRow, hcs]

/-- one row turned -/
theorem St.setRow {w : World} {i b : Nat} {cs cs' : Array Value} {T : TypeId} (h : St x S w) (hk : S[i]? = some [(b, .cells cs T (0, 0))]) : St x (S.set i [(b, .cells cs' T (0, 0))]) (w.setRow b cs') := by
  have hi : i < S.length := (List.getElem?_eq_some_iff.1 hk).1
  have hv : S[i] = [(b, .cells cs T (0, 0))] := (List.getElem?_eq_some_iff.1 hk).2
  have e1 : S = S.take i ++ [(b, Obj.cells cs T (0, 0))] :: S.drop (i + 1) := by rw [← hv, List.getElem_cons_drop, List.take_append_drop]
  have e2 : S.set i [(b, Obj.cells cs' T (0, 0))] = S.take i ++ [(b, Obj.cells cs' T (0, 0))] :: S.drop (i + 1) := by rw [List.set_eq_take_append_cons_drop, if_pos hi]
  have p1 : S.Perm ([(b, Obj.cells cs T (0, 0))] :: (S.take i ++ S.drop (i + 1))) := (List.Perm.of_eq e1).trans List.perm_middle
  have p2 : ([(b, Obj.cells cs' T (0, 0))] :: (S.take i ++ S.drop (i + 1))).Perm (S.set i [(b, Obj.cells cs' T (0, 0))]) := (List.Perm.trans List.perm_middle.symm (.of_eq e2.symm))
  have h1 := h.perm p1
  refine St.perm ?_ p2
  have hb : w.heap[b]? = some (.cells cs T (0, 0)) := h1.holds (b, _) (by simp)
  refine ⟨h1.nodup, fun p hp => ?_, h1.os, h1.out, h1.tape⟩
  have hn := h1.nodup
  simp only [List.flatten_cons, List.singleton_append, List.map_cons, List.nodup_cons] at hn
  simp only [List.flatten_cons, List.singleton_append, List.mem_cons] at hp
  rcases hp with rfl | hp
  · exact setRow_heap w b cs cs' T (0, 0) hb
  · have hne : p.1 ≠ b := fun e => hn.1 (List.mem_map.2 ⟨p, hp, e⟩)
    rw [setRow_other w b p.1 cs' hne]
    exact h1.holds p (by rw [List.flatten_cons]; exact List.mem_append_right _ hp)

theorem run_storeVar {T : TypeId} {w : World} {b off : Nat} {cs : List Value} {E : TypeId} {v : Value} {vs : List Value} (hv : v.cells = vs.toArray) (hz : sizeB P T = some vs.length) (hb : w.heap[b]? = some (.cells cs.toArray E (0, 0))) (hle : off + vs.length ≤ cs.length) (h1 : ∀ u, u ∈ vs → u.oneCell' = true) :
    (storeVar T ⟨b, off, none⟩ v).run P w = .ok () (w.setRow b (cs.take off ++ vs ++ cs.drop (off + vs.length)).toArray) := by
  have := run_storeCells_at P b off E vs 0 cs.toArray w hb (by simpa using hle) h1
  simp only [Nat.add_zero] at this
  simp [storeVar, hv, run_sizeOf hz, this]

def oneB : List Value → Bool
  | [] => true
  | v :: r => v.oneCell' && oneB r
theorem oneB_all : ∀ {vs : List Value}, oneB vs = true → ∀ u, u ∈ vs → u.oneCell' = true
  | [], _, _, h => by cases h
  | v :: r, h, u, hu => by
    simp only [oneB, Bool.and_eq_true] at h
    rcases List.mem_cons.1 hu with rfl | hu
    · exact h.1
    · exact oneB_all h.2 u hu

/-- a store into a block of known cells -/
theorem tl_store {T : TypeId} {X V : Operand} (stp : Step P ops ⟨dst, .store T X V, ty, pos, af, gd⟩ K₁ K₀) (k : Nat) {b off : Nat} {cs cs' vs : List Value} {E : TypeId} {v : Value} (hx : ev l X = some (.pointer (some ⟨b, off, none⟩))) (hv : ev l V = some v) (hvs : v.cells = vs.toArray) (h1 : oneB vs = true) (hz : sizeB P T = some vs.length)
    (hk : S[k]? = some (bx b cs E)) (hle : Nat.ble (off + vs.length) cs.length = true) (hcs : cs.take off ++ vs ++ cs.drop (off + vs.length) = cs') {S' : List (List Chunk)} (hS : S.set k (bx b cs' E) = S') (ho : oks ⟨dst, .store T X V, ty, pos, af, gd⟩ = true)
    (K : TG K₁ n l (St x S')) : TG K₀ n l (St x S) := by
  subst hS
  subst hcs
  refine tl_do stp ho (fun a w ha hw => ⟨_, ?_, hw.setRow hk⟩) K
  have hb : w.heap[b]? = some (.cells cs.toArray E (0, 0)) := hw.at k hk (b, _) (by simp [bx])
  simp [execOp, ha.ev hx, ha.ev hv, Instr.storeAt, Instr.sureAddr, run_storeVar hvs hz hb (Nat.le_of_ble_eq_true hle) (oneB_all h1)]

theorem take_mid {α : Type} {p m t : List α} {k : Nat} (h : k ≤ m.length) : (p ++ m ++ t).take (p.length + k) = p ++ m.take k := by
  rw [List.append_assoc, List.take_length_add_append, List.take_append_of_le_length h]
theorem drop_mid {α : Type} {p m t : List α} {k : Nat} (h : k ≤ m.length) : (p ++ m ++ t).drop (p.length + k) = m.drop k ++ t := by
  rw [List.append_assoc, List.drop_length_add_append, List.drop_append_of_le_length h]
theorem set_self {α : Type} {xs : List α} {i : Nat} {v : α} (h : xs[i]? = some v) : xs.set i v = xs := by
  apply List.ext_getElem?
  intro j
  rw [List.getElem?_set]
  split
  · rename_i e; subst e
    split
    · exact h.symm
    · rename_i hl; rw [List.getElem?_eq_none (by omega)]
  · rfl

section
variable {α : Type} [Inhabited α] {K : Kd α} {A : Option Addr} {xs : List α} {c : Nat} {L : List Chunk} {E : TypeId}

/-- a store into an element of a row of its own -/
theorem tl_stel {T : TypeId} {X V : Operand} (stp : Step P ops ⟨dst, .store T X V, ty, pos, af, gd⟩ K₁ K₀) (k : Nat) (y : α) {i : Int} {off : Nat} {vs : List Value} {v : Value} (own : Own E K A xs c L) (hx : ev l X = some (.pointer (some ((slp A i K.sz).add off)))) (hv : ev l V = some v) (hvs : v.cells = vs.toArray) (hz : sizeB P T = some vs.length)
    (hk : S[k]? = some L) (hi : 0 ≤ i ∧ i < xs.length) (hle : off + vs.length ≤ K.sz) (hy : K.enc y = (K.enc (gt xs i)).take off ++ vs ++ (K.enc (gt xs i)).drop (off + vs.length)) (ho : oks ⟨dst, .store T X V, ty, pos, af, gd⟩ = true)
    (kk : ∀ L', Own E K A (st xs i y) c L' → TG K₁ n l (St x (S.set k L'))) : TG K₀ n l (St x S) := by
  have hl : i.toNat < xs.length := by omega
  rcases own with ⟨_, rfl, _⟩ | ⟨b, pre, post, rfl, rfl, h1, h2⟩
  · simp at hl
  · have hg := gt_some hi
    have hlen : i.toNat * K.sz + K.sz ≤ (K.row xs).length := by
      rw [K.row_length, ← Nat.succ_mul]; exact Nat.mul_le_mul_right _ hl
    have hon : ∀ u, u ∈ vs → u.oneCell' = true := fun u hu => K.flat y u (by rw [hy]; simp [hu])
    have hrow := K.row_set xs i.toNat (gt xs i) hl
    rw [show xs.set i.toNat (gt xs i) = xs from set_self hg] at hrow
    have hnew := K.row_set xs i.toNat y hl
    have hEl : (K.enc (gt xs i)).length = K.sz := K.len _
    generalize hR : (K.row xs).take (i.toNat * K.sz) = R at hrow hnew
    generalize hD : (K.row xs).drop (i.toNat * K.sz + K.sz) = D at hrow hnew
    have hRl : R.length = i.toNat * K.sz := by rw [← hR, List.length_take]; omega
    have hall : pre ++ K.row xs ++ post = (pre ++ R) ++ K.enc (gt xs i) ++ (D ++ post) := by rw [← hrow]; simp only [List.append_assoc]
    have hres : (pre ++ K.row xs ++ post).take (pre.length + i.toNat * K.sz + off) ++ vs ++ (pre ++ K.row xs ++ post).drop (pre.length + i.toNat * K.sz + off + vs.length) = pre ++ K.row (st xs i y) ++ post := by
      rw [hall, show pre.length + i.toNat * K.sz = (pre ++ R).length by rw [List.length_append, hRl], take_mid (by omega), Nat.add_assoc, drop_mid (by omega)]
      show _ = pre ++ K.row (xs.set i.toNat y) ++ post
      rw [← hnew, hy]; simp only [List.append_assoc]
    refine tl_do stp ho (C' := St x (S.set k [(b, Obj.cells (pre ++ K.row (st xs i y) ++ post).toArray E (0, 0))])) (fun a w ha hw => ⟨_, ?_, hw.setRow hk⟩) (kk _ (.inr ⟨b, pre, post, rfl, rfl, by simpa [st] using h1, by simpa [st] using h2⟩))
    have hb : w.heap[b]? = some (.cells (pre ++ K.row xs ++ post).toArray E (0, 0)) := hw.at k hk (b, _) (by simp)
    have hlen : pre.length + i.toNat * K.sz + off + vs.length ≤ (pre ++ K.row xs ++ post).length := by simp only [List.length_append]; omega
    have := run_storeVar (P := P) hvs hz hb hlen hon
    rw [hres] at this
    have hadd : (slp (some ⟨b, pre.length, none⟩) i K.sz).add off = ⟨b, pre.length + i.toNat * K.sz + off, none⟩ := by simp only [slp, Option.getD_some, add_lit]
    rw [hadd] at hx
    simp only [execOp, ha.ev hx, ha.ev hv, Instr.storeAt, Instr.sureAddr, Sem.run_bind, Sem.run_pure, Result.andThen_ok, this]
theorem tl_stel0 {T : TypeId} {X V : Operand} (stp : Step P ops ⟨dst, .store T X V, ty, pos, af, gd⟩ K₁ K₀) (k : Nat) (y : α) {i : Int} {vs : List Value} {v : Value} (own : Own E K A xs c L) (hx : ev l X = some (.pointer (some (slp A i K.sz)))) (hv : ev l V = some v) (hvs : v.cells = vs.toArray) (hz : sizeB P T = some vs.length)
    (hk : S[k]? = some L) (hi : 0 ≤ i ∧ i < xs.length) (hle : vs.length ≤ K.sz) (hy : K.enc y = vs ++ (K.enc (gt xs i)).drop vs.length) (ho : oks ⟨dst, .store T X V, ty, pos, af, gd⟩ = true)
    (kk : ∀ L', Own E K A (st xs i y) c L' → TG K₁ n l (St x (S.set k L'))) : TG K₀ n l (St x S) :=
  tl_stel stp k y (off := 0) own (by rw [hx]; simp [Addr.add]) hv hvs hz hk hi (by omega) (by rw [hy]; simp) ho kk
end
end
end Go.Proofs.Ytcmgpofcdjejnaa
