/-
  The base of the proofs, third part: rows of cells, and one rule for each kind of operation that reads or writes them. It claims nothing of any program.
-/
import Derived.Test.YtcmgpofcdjejnaaOps1
import Derived.Laws.CopyRow
import Derived.Laws.Build
set_option linter.unusedVariables false
set_option linter.unusedSectionVars false
set_option linter.unusedSimpArgs false
namespace Go.Proofs.Ytcmgpofcdjejnaa
open Go

/-! ### Rows -/

/-- how an element lies in cells -/
structure Kd (α : Type) where
  enc : α → List Value
  sz : Nat
  len : ∀ a, (enc a).length = sz
  flat : ∀ a v, v ∈ enc a → v.oneCell' = true

def Kd.row {α : Type} (K : Kd α) (xs : List α) : List Value := xs.flatMap K.enc

def kI (k : IntKind) : Kd Int := ⟨fun n => [.int k n], 1, fun _ => rfl, by intro a v h; simp at h; subst h; rfl⟩
def kB : Kd Bool := ⟨fun b => [.bool b], 1, fun _ => rfl, by intro a v h; simp at h; subst h; rfl⟩
def kS : Kd ByteArray := ⟨fun b => [.string b], 1, fun _ => rfl, by intro a v h; simp at h; subst h; rfl⟩

def gt {α : Type} [Inhabited α] (xs : List α) (i : Int) : α := xs.getD i.toNat default
def st {α : Type} (xs : List α) (i : Int) (v : α) : List α := xs.set i.toNat v

section
variable {α : Type} (K : Kd α)
theorem Kd.row_nil : K.row [] = [] := rfl
theorem Kd.row_cons (x : α) (xs : List α) : K.row (x :: xs) = K.enc x ++ K.row xs := by simp [Kd.row]
theorem Kd.row_append (xs ys : List α) : K.row (xs ++ ys) = K.row xs ++ K.row ys := by simp [Kd.row]
theorem Kd.row_length (xs : List α) : (K.row xs).length = xs.length * K.sz := by
  induction xs with
  | nil => simp [Kd.row]
  | cons x xs ih => rw [K.row_cons, List.length_append, K.len, ih, List.length_cons, Nat.succ_mul]; omega
theorem Kd.row_flat (xs : List α) : ∀ v, v ∈ K.row xs → v.oneCell' = true := by
  intro v hv
  obtain ⟨x, _, hx⟩ := List.mem_flatMap.1 hv
  exact K.flat x v hx
theorem Kd.row_get (xs : List α) : ∀ (i j : Nat) (x : α), xs[i]? = some x → j < K.sz → (K.row xs)[i * K.sz + j]? = (K.enc x)[j]? := by
  induction xs with
  | nil => intro i j x h; simp at h
  | cons y ys ih =>
    intro i j x h hj
    rw [K.row_cons]
    cases i with
    | zero =>
      simp only [List.getElem?_cons_zero, Option.some.injEq] at h
      subst h
      rw [Nat.zero_mul, Nat.zero_add, List.getElem?_append_left (by rw [K.len]; exact hj)]
    | succ i =>
      rw [List.getElem?_cons_succ] at h
      rw [Nat.succ_mul, List.getElem?_append_right (by rw [K.len]; omega), K.len, show i * K.sz + K.sz + j - K.sz = i * K.sz + j by omega]
      exact ih i j x h hj
theorem Kd.row_take (xs : List α) (i : Nat) (h : i ≤ xs.length) : (K.row xs).take (i * K.sz) = K.row (xs.take i) := by
  have e : K.row xs = K.row (xs.take i) ++ K.row (xs.drop i) := by rw [← K.row_append, List.take_append_drop]
  have hl : (K.row (xs.take i)).length = i * K.sz := by rw [K.row_length, List.length_take, Nat.min_eq_left h]
  rw [e, ← hl, List.take_left]
theorem Kd.row_drop (xs : List α) (i : Nat) (h : i ≤ xs.length) : (K.row xs).drop (i * K.sz) = K.row (xs.drop i) := by
  have e : K.row xs = K.row (xs.take i) ++ K.row (xs.drop i) := by rw [← K.row_append, List.take_append_drop]
  have hl : (K.row (xs.take i)).length = i * K.sz := by rw [K.row_length, List.length_take, Nat.min_eq_left h]
  rw [e, ← hl, List.drop_left]
theorem Kd.row_set (xs : List α) (i : Nat) (y : α) (h : i < xs.length) : (K.row xs).take (i * K.sz) ++ K.enc y ++ (K.row xs).drop (i * K.sz + K.sz) = K.row (xs.set i y) := by
  rw [K.row_take xs i (Nat.le_of_lt h), show i * K.sz + K.sz = (i + 1) * K.sz by rw [Nat.succ_mul], K.row_drop xs (i + 1) h, List.set_eq_take_append_cons_drop, if_pos h, K.row_append, K.row_cons, List.append_assoc]
end

/-- one block of known cells -/
def bx (b : Nat) (cs : List Value) (T : TypeId) : List Chunk := [(b, .cells cs.toArray T (0, 0))]

/-- a slice reads so, its cells among the chunks -/
def Rd {α : Type} (K : Kd α) (A : Option Addr) (xs : List α) (c : Nat) (L : List Chunk) : Prop :=
  xs.length ≤ c ∧ (xs = [] ∨ ∃ b off cs E fr, A = some ⟨b, off, none⟩ ∧ (b, Obj.cells cs E fr) ∈ L ∧ ∀ j, j < xs.length * K.sz → cs[off + j]? = (K.row xs)[j]?)

/-- a slice owns its row -/
def Own {α : Type} (E : TypeId) (K : Kd α) (A : Option Addr) (xs : List α) (c : Nat) (L : List Chunk) : Prop :=
  (A = none ∧ xs = [] ∧ c = 0 ∧ L = []) ∨
  ∃ b pre post, A = some ⟨b, pre.length, none⟩ ∧ L = [(b, Obj.cells (pre ++ K.row xs ++ post).toArray E (0, 0))] ∧ xs.length ≤ c ∧ (c - xs.length) * K.sz ≤ post.length

section
variable {α : Type} {E : TypeId} {K : Kd α} {A : Option Addr} {xs : List α} {c : Nat} {L L' : List Chunk}
theorem Own.nil : Own E K none [] 0 [] := .inl ⟨rfl, rfl, rfl, rfl⟩
theorem Own.rd (h : Own E K A xs c L) : Rd K A xs c L := by
  rcases h with ⟨rfl, rfl, rfl, rfl⟩ | ⟨b, pre, post, rfl, rfl, h1, h2⟩
  · exact ⟨Nat.le_refl _, .inl rfl⟩
  · refine ⟨h1, .inr ⟨b, _, _, E, _, rfl, List.mem_singleton.2 rfl, fun j hj => ?_⟩⟩
    rw [← K.row_length] at hj
    rw [List.getElem?_toArray, List.append_assoc, List.getElem?_append_right (by omega), Nat.add_sub_cancel_left, List.getElem?_append_left hj]
theorem Rd.mono (h : Rd K A xs c L) (hs : ∀ p, p ∈ L → p ∈ L') : Rd K A xs c L' := by
  obtain ⟨h1, h2⟩ := h
  refine ⟨h1, h2.imp id ?_⟩
  rintro ⟨b, off, cs, E, fr, h3, h4, h5⟩
  exact ⟨b, off, cs, E, fr, h3, hs _ h4, h5⟩
theorem Rd.nil : Rd K A [] c L := ⟨Nat.zero_le _, .inl rfl⟩
theorem Rd.le (h : Rd K A xs c L) : xs.length ≤ c := h.1
end

/-- the address of element i -/
def slp (A : Option Addr) (i : Int) (s : Nat) : Addr := (A.getD default).add (i.toNat * s)

theorem gt_some {α : Type} [Inhabited α] {xs : List α} {i : Int} (h : 0 ≤ i ∧ i < xs.length) : xs[i.toNat]? = some (gt xs i) := by
  have hl : i.toNat < xs.length := by omega
  simp [gt, List.getD_eq_getElem?_getD, List.getElem?_eq_getElem hl]

theorem add_lit (b o n : Nat) : (⟨b, o, none⟩ : Addr).add n = ⟨b, o + n, none⟩ := Addr.add_lit b o n

theorem Rd.cell {α : Type} [Inhabited α] {K : Kd α} {A : Option Addr} {xs : List α} {c : Nat} {L : List Chunk} {w : World} (h : Rd K A xs c L) (hL : ∀ p, p ∈ L → w.heap[p.1]? = some p.2) {i : Int} (hi : 0 ≤ i ∧ i < xs.length) {j : Nat} (hj : j < K.sz) :
    w.cell? ((slp A i K.sz).add j) = (K.enc (gt xs i))[j]? := by
  have hl : i.toNat < xs.length := by omega
  rcases h.2 with rfl | ⟨b, off, cs, E, fr, rfl, hm, hc⟩
  · simp at hl
  · have hb := hL _ hm
    have h1 := K.row_get xs i.toNat j _ (gt_some hi) hj
    have hlt : i.toNat * K.sz + j < xs.length * K.sz := by
      have := Nat.mul_le_mul_right K.sz (show i.toNat + 1 ≤ xs.length from hl)
      rw [Nat.succ_mul] at this
      omega
    have h2 := hc _ hlt
    rw [← h1, ← h2]
    simp only [slp, Option.getD_some, add_lit]
    simp only [World.cell?, hb]
    simp [Nat.add_assoc]

/-! ### What reads -/
section
variable {P : Program} {n : Nat} {l : Slots} {x : Out} {S : List (List Chunk)} {d : Option Nat} {ty : TypeId} {pos : String} {af : Array Edge} {gd : Option (Nat × Bool)}

theorem run_isAgg {t : TypeId} {b : Bool} (h : aggB P t = some b) (w : World) : (isAgg t).run P w = .ok b w := by
  unfold aggB at h
  unfold isAgg
  split at h
  · rename_i fs hu; simp only [Option.some.injEq] at h; subst h; rw [Sem.run_bind, run_underlying hu w]; rfl
  · rename_i a b' hu; simp only [Option.some.injEq] at h; subst h; rw [Sem.run_bind, run_underlying hu w]; rfl
  · rename_i u h1 h2 hu; simp only [Option.some.injEq] at h; subst h; rw [Sem.run_bind, run_underlying hu w]; cases u <;> first | rfl | (exact absurd rfl (h1 _)) | (exact absurd rfl (h2 _ _))
  · cases h

theorem run_loadVar_one {t : TypeId} (h : aggB P t = some false) {w : World} {a : Addr} {v : Value} (hc : w.cell? a = some v) : (loadVar t a).run P w = .ok v w := by
  simp [loadVar, run_isAgg h, hc]

def sizeB (P : Program) (t : TypeId) : Option Nat := (P.info? t).map (·.size)
theorem run_sizeOf {t : TypeId} {s : Nat} (h : sizeB P t = some s) (w : World) : (sizeOf t).run P w = .ok s w := by
  unfold sizeB at h
  cases hi : P.info? t with
  | none => simp [hi] at h
  | some i => simp [hi] at h; simp [sizeOf, typeInfo, hi, h]

theorem run_loadVar_agg {t : TypeId} (h : aggB P t = some true) {w : World} {a : Addr} {vs : List Value} (hz : sizeB P t = some vs.length) (hc : ∀ j v, vs[j]? = some v → w.cell? (a.add j) = some v) : (loadVar t a).run P w = .ok (.agg vs.toArray) w := by
  have := run_loadCells_list (P := P) w a vs hc
  simp [loadVar, run_isAgg h, run_sizeOf hz, this]

/-- a cell of a block -/
theorem y_ld {t : TypeId} {X : Operand} {k b off : Nat} {cs : List Value} {T : TypeId} {v : Value} (hx : ev l X = some (.pointer (some ⟨b, off, none⟩))) (hk : S[k]? = some (bx b cs T)) (hv : cs[off]? = some v) (ht : aggB P t = some false) :
    Y P n l (St x S) ⟨d, .load t X, ty, pos, af, gd⟩ v := y_of fun a w ha hw => by
  have hb : w.heap[b]? = some (.cells cs.toArray T (0, 0)) := hw.at k hk (b, _) (by simp [bx])
  have hc : w.cell? ⟨b, off, none⟩ = some v := by simp [World.cell?, hb, hv]
  simp [execOp, ha.ev hx, Instr.loadAt, Instr.sureAddr, run_loadVar_one ht hc]

/-- the cells of a struct or an array that lies in a block -/
theorem y_lds {t : TypeId} {X : Operand} (k : Nat) {b off : Nat} {cs vs : List Value} {T : TypeId} (hx : ev l X = some (.pointer (some ⟨b, off, none⟩))) (hk : S[k]? = some (bx b cs T)) (hv : (cs.drop off).take vs.length = vs) (ht : aggB P t = some true) (hz : sizeB P t = some vs.length) :
    Y P n l (St x S) ⟨d, .load t X, ty, pos, af, gd⟩ (.agg vs.toArray) := y_of fun a w ha hw => by
  have hb : w.heap[b]? = some (.cells cs.toArray T (0, 0)) := hw.at k hk (b, _) (by simp [bx])
  have hc : ∀ j v, vs[j]? = some v → w.cell? ((⟨b, off, none⟩ : Addr).add j) = some v := by
    intro j v hj
    have hlt : j < vs.length := (List.getElem?_eq_some_iff.1 hj).1
    rw [add_lit]
    simp only [World.cell?, hb, List.getElem?_toArray]
    rw [← hv, List.getElem?_take, if_pos hlt, List.getElem?_drop] at hj
    simpa using hj
  simp [execOp, ha.ev hx, Instr.loadAt, Instr.sureAddr, run_loadVar_agg ht hz hc]

section
variable {α : Type} [Inhabited α] {K : Kd α} {A : Option Addr} {xs : List α} {c : Nat} {L : List Chunk}

omit [Inhabited α] in
theorem y_idx {C : World → Prop} {t e : TypeId} {X I : Operand} {i : Int} {ki : IntKind} (hr : Rd K A xs c L) (hX : ev l X = some (.slice A xs.length c)) (hI : ev l I = some (.int ki i)) (ht : P.underlying t = some (.slice e)) (hz : sizeB P e = some K.sz) (hi : 0 ≤ i ∧ i < xs.length) :
    Y P n l C ⟨d, .indexAddr t X I, ty, pos, af, gd⟩ (.pointer (some (slp A i K.sz))) := y_of fun a w ha hw => by
  rcases hr.2 with rfl | ⟨b, off, cs, E, fr, rfl, hm, hc⟩
  · simp at hi; omega
  · simp [execOp, ha.ev hX, ha.ev hI, Instr.indexAt, asIntOf, run_underlying ht, run_sizeOf hz, hi.1, hi.2, slp]

/-- a cell of an element -/
theorem y_el {t : TypeId} {X : Operand} {i : Int} {k off : Nat} {v : Value} (hr : Rd K A xs c L) (hx : ev l X = some (.pointer (some ((slp A i K.sz).add off)))) (hk : S[k]? = some L) (hi : 0 ≤ i ∧ i < xs.length) (hv : (K.enc (gt xs i))[off]? = some v) (ht : aggB P t = some false) :
    Y P n l (St x S) ⟨d, .load t X, ty, pos, af, gd⟩ v := y_of fun a w ha hw => by
  have hj : off < K.sz := by rw [← K.len (gt xs i)]; exact (List.getElem?_eq_some_iff.1 hv).1
  have hc := (hr.cell (w := w) (hw.at k hk) hi hj).trans hv
  simp [execOp, ha.ev hx, Instr.loadAt, Instr.sureAddr, run_loadVar_one ht hc]
theorem y_el0 {t : TypeId} {X : Operand} {i : Int} {k : Nat} {v : Value} (hr : Rd K A xs c L) (hx : ev l X = some (.pointer (some (slp A i K.sz)))) (hk : S[k]? = some L) (hi : 0 ≤ i ∧ i < xs.length) (hv : (K.enc (gt xs i))[0]? = some v) (ht : aggB P t = some false) :
    Y P n l (St x S) ⟨d, .load t X, ty, pos, af, gd⟩ v := y_el (off := 0) hr (by rw [hx]; simp [Addr.add]) hk hi hv ht
/-- a whole element of several cells -/
theorem y_els {t : TypeId} {X : Operand} {i : Int} {k : Nat} (hr : Rd K A xs c L) (hx : ev l X = some (.pointer (some (slp A i K.sz)))) (hk : S[k]? = some L) (hi : 0 ≤ i ∧ i < xs.length) (ht : aggB P t = some true) (hz : sizeB P t = some K.sz) :
    Y P n l (St x S) ⟨d, .load t X, ty, pos, af, gd⟩ (.agg (K.enc (gt xs i)).toArray) := y_of fun a w ha hw => by
  have hc : ∀ j v, (K.enc (gt xs i))[j]? = some v → w.cell? ((slp A i K.sz).add j) = some v := by
    intro j v hj
    have hlt : j < K.sz := by rw [← K.len (gt xs i)]; exact (List.getElem?_eq_some_iff.1 hj).1
    exact (hr.cell (w := w) (hw.at k hk) hi hlt).trans hj
  simp [execOp, ha.ev hx, Instr.loadAt, Instr.sureAddr, run_loadVar_agg ht (by rw [K.len]; exact hz) hc]
end
end
end Go.Proofs.Ytcmgpofcdjejnaa
