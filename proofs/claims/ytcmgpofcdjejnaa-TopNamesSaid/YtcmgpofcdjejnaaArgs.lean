/-
  The base of the proofs, seventh part: from a row's readings of its arguments to what the rules speak of, and back. It claims nothing of any program.
-/
import Derived.Test.YtcmgpofcdjejnaaStrs
import Derived.Deep.Slices
import Derived.WalkKit
import Derived.ProofKit
import Derived.OpenShut
import Derived.ShutString
import Derived.ChangeOld
import Derived.Below
set_option linter.unusedVariables false
set_option linter.unusedSectionVars false
set_option linter.unusedSimpArgs false
namespace Go.Proofs.Ytcmgpofcdjejnaa
open Go Go.WideShapes Go.RowKit Go.ChangeShapes

/-- all that is there -/
def allC (w : World) : List Chunk := w.heap.toList.zipIdx.map fun p => (p.2, p.1)

theorem mem_allC {w : World} {b : Nat} {o : Obj} : (b, o) ∈ allC w ↔ w.heap[b]? = some o := by
  unfold allC
  rw [List.mem_map]
  constructor
  · rintro ⟨⟨o', b'⟩, h, e⟩
    simp only [Prod.mk.injEq] at e
    obtain ⟨rfl, rfl⟩ := e
    have := List.mem_zipIdx_iff_getElem?.1 h
    simpa using this
  · intro h
    exact ⟨(o, b), List.mem_zipIdx_iff_getElem?.2 (by simpa using h), rfl⟩

theorem allC_keys (w : World) : (allC w).map (·.1) = List.range w.heap.size := by
  unfold allC
  rw [List.map_map]
  apply List.ext_getElem?
  intro i
  by_cases hi : i < w.heap.size
  · simp [hi]
  · simp [hi]

def outOf (w : World) : Out := (w.os, w.output, w.tape)

theorem St.start (w : World) : St (outOf w) [allC w] w := by
  refine ⟨by simpa [allC_keys] using List.nodup_range, fun p hp => ?_, rfl, rfl, rfl⟩
  obtain ⟨b, o⟩ := p
  exact mem_allC.1 (by simpa using hp)

theorem St.below {W W' : World} {S : List (List Chunk)} (h : St (outOf W) S W') (i : Nat) (hi : S[i]? = some (allC W)) : Below W.heap.size W W' := by
  have hb : ∀ k, k < W.heap.size → W'.heap[k]? = W.heap[k]? := by
    intro k hk
    have h1 : (k, W.heap[k]) ∈ allC W := mem_allC.2 (by simp [hk])
    have := h.at i hi _ h1
    rw [this]; simp [hk]
  refine ⟨h.os, h.tape, h.out, ?_, hb⟩
  by_cases h0 : W.heap.size = 0
  · omega
  · have := hb (W.heap.size - 1) (by omega)
    rw [Array.getElem?_eq_getElem (show W.heap.size - 1 < W.heap.size by omega)] at this
    have := (Array.getElem?_eq_some_iff.1 this).1
    omega

section
variable {H : Type} {enc : TypeId × Value → H} {P : Program} {w : World}

/-- what the cells of one element of a type are, if they can be read -/
def Elem (enc : TypeId × Value → H) (P : Program) (w : World) {α : Type} (e : TypeId) (K : Kd α) (good : α → Prop) : Prop :=
  P.cellsOf e = K.sz ∧ ∀ (n : Nat) (cs : List Value) (x : DataW H × List MemPlace), cs.length = K.sz → DataW.trod enc P w 0 (fun _ => true) true n e cs = some x → ∃ a, cs = K.enc a ∧ good a

theorem elem_int {e : TypeId} {k : IntKind} (he : P.underlying e = some (.int k)) (hc : P.cellsOf e = 1) : Elem enc P w e (kI k) (fun n => (Lit.int k n).wf = true) := by
  refine ⟨hc, fun n cs x hl h => ?_⟩
  obtain ⟨m, rfl, _, hw⟩ := DataW.trod_int he h
  exact ⟨m, rfl, hw⟩
theorem elem_bool {e : TypeId} (he : P.underlying e = some .bool) (hc : P.cellsOf e = 1) : Elem enc P w e kB (fun _ => True) := by
  refine ⟨hc, fun n cs x hl h => ?_⟩
  obtain ⟨m, rfl, _⟩ := DataW.trod_bool he h
  exact ⟨m, rfl, trivial⟩

theorem cells_get {base : Nat} {a : Addr} {n : Nat} {cs : List Value} (h : w.cells? base a n = some cs) : cs.length = n ∧ ∀ j, j < n → w.cell? (a.add j) = cs[j]? := by
  obtain ⟨_, h1, h2⟩ := World.cells?_some h
  refine ⟨h1, fun j hj => ?_⟩
  have := h2 j hj
  rw [this]

/-- a slice, from its reading -/
theorem read_slice {α : Type} [Inhabited α] {t e : TypeId} {K : Kd α} {good : α → Prop} (ht : P.underlying t = some (.slice e)) (he : Elem enc P w e K good) (hp : 0 < K.sz) {n : Nat} {v : Value} {x : DataW H × List MemPlace} (h : DataW.trod enc P w 0 (fun _ => true) true n t [v] = some x) :
    ∃ A xs c, v = .slice A xs.length c ∧ Rd K A xs c (allC w) ∧ (∀ a, a ∈ xs → good a) ∧ c ≤ maxLen := by
  rcases Deep.open_slice ht h with ⟨h1, _⟩ | ⟨a, len, cap, m, n', D, Pl, h1, _, hl, hm, hmm, _, hx⟩
  · simp only [List.cons.injEq, and_true] at h1
    subst h1
    exact ⟨none, [], 0, rfl, Rd.nil, by simp, Nat.zero_le _⟩
  · simp only [List.cons.injEq, and_true] at h1
    subst h1
    simp only [if_true] at hmm
    subst hmm
    have hy : ∀ i, i < m → ∃ y : α, good y ∧ ∀ j, j < K.sz → w.cell? (a.add (i * K.sz + j)) = (K.enc y)[j]? := by
      intro i hi
      obtain ⟨cs', h2, h3⟩ := hx i hi
      rw [he.1] at h2
      obtain ⟨h4, h5⟩ := cells_get h2
      obtain ⟨y, rfl, hg⟩ := he.2 n' cs' _ h4 h3
      refine ⟨y, hg, fun j hj => ?_⟩
      rw [← Deep.add_add]
      exact h5 j hj
    obtain ⟨F, hF⟩ := Deep.choose_lt hy
    have hlen : ((List.range len).map F).length = len := by simp
    refine ⟨some a, (List.range len).map F, m, by rw [hlen], ⟨by rw [hlen]; exact hl, ?_⟩, fun y hy => ?_, hm⟩
    · by_cases h0 : len = 0
      · left; subst h0; rfl
      · right
        -- the block
        obtain ⟨g, off, spot⟩ := a
        have h6 := (hF 0 (by omega)).2 0 hp
        have hcell : ∃ u, w.cell? ((⟨g, off, spot⟩ : Addr).add (0 * K.sz + 0)) = some u := by
          rw [h6]
          have := K.len (F 0)
          exact ⟨_, List.getElem?_eq_getElem (by omega)⟩
        obtain ⟨u, hu⟩ := hcell
        simp only [Nat.zero_mul, Nat.zero_add, Addr.add, if_true] at hu
        have hu' := hu
        unfold World.cell? at hu'
        split at hu'
        · rename_i cs E fr hb
          have hsp : spot = none := by
            cases spot with
            | none => rfl
            | some q => simp at hu'
          subst hsp
          refine ⟨g, off, cs, E, fr, rfl, mem_allC.2 hb, fun j hj => ?_⟩
          rw [hlen] at hj
          have hi : j / K.sz < len := Nat.div_lt_of_lt_mul (by rw [Nat.mul_comm]; exact hj)
          have hj2 : j % K.sz < K.sz := Nat.mod_lt _ hp
          have h7 := (hF (j / K.sz) (by omega)).2 (j % K.sz) hj2
          have hdm : j / K.sz * K.sz + j % K.sz = j := by rw [Nat.mul_comm]; exact Nat.div_add_mod j K.sz
          rw [hdm, add_lit] at h7
          have h8 : w.cell? ⟨g, off + j, none⟩ = cs[off + j]? := by simp [World.cell?, hb]
          rw [h8] at h7
          rw [h7]
          have h9 := K.row_get ((List.range len).map F) (j / K.sz) (j % K.sz) (F (j / K.sz)) (by simp [hi]) hj2
          rw [hdm] at h9
          exact h9.symm
        · cases hu'
    · obtain ⟨i, hi, rfl⟩ := List.mem_map.1 hy
      exact (hF i (by have := List.mem_range.1 hi; omega)).1

theorem elem_slice {α : Type} [Inhabited α] {t e : TypeId} {K : Kd α} {good : α → Prop} (ht : P.underlying t = some (.slice e)) (he : Elem enc P w e K good) (hp : 0 < K.sz) (hc : P.cellsOf t = 1) : Elem enc P w t (kR α) (fun r => Rd K r.A r.xs r.c (allC w) ∧ (∀ a ∈ r.xs, good a) ∧ r.c ≤ maxLen) := by
  refine ⟨hc, fun n cs x hl h => ?_⟩
  obtain ⟨v, rfl⟩ : ∃ v, cs = [v] := by
    cases cs with
    | nil => simp [kR] at hl
    | cons v r => cases r with
      | nil => exact ⟨v, rfl⟩
      | cons u r => simp [kR] at hl
  obtain ⟨A, xs, c, rfl, h1, h2, h3⟩ := read_slice ht he hp h
  exact ⟨⟨A, xs, c⟩, rfl, h1, h2, h3⟩
theorem arg_slice {α : Type} [Inhabited α] {t e : TypeId} {K : Kd α} {good : α → Prop} (ht : P.underlying t = some (.slice e)) (he : Elem enc P w e K good) (hp : 0 < K.sz) {r : Reach} {b0 : Nat} {v : Value} {d : DataW H} {ps : List MemPlace} (hval : Value.okWide P w r b0 t v) (h : DataW.Trod enc P w 0 (fun _ => true) true t v d ps) :
    ∃ A xs c, v = .slice A xs.length c ∧ Rd K A xs c (allC w) ∧ (∀ a, a ∈ xs → good a) ∧ c ≤ maxLen := by
  obtain ⟨a0, len, cap, rfl⟩ := okWide_slice ht hval
  obtain ⟨n, hn⟩ := h
  exact read_slice ht he hp (by simpa [Value.cells] using hn)
end

theorem wf_fits {k : IntKind} {n : Int} (h : (Lit.int k n).wf = true) : fits k n := by
  simp only [Lit.wf, IntKind.has, decide_eq_true_eq, Bool.and_eq_true] at h
  cases k <;> simp [IntKind.min, IntKind.max, IntKind.signed, IntKind.bits] at h <;> simp only [fits] <;> omega
theorem wf_u8 {n : Int} (h : (Lit.int .u8 n).wf = true) : 0 ≤ n ∧ n ≤ 255 := wf_fits h
theorem wf_i8 {n : Int} (h : (Lit.int .i8 n).wf = true) : -128 ≤ n ∧ n ≤ 127 := wf_fits h
theorem wf_i64 {n : Int} (h : (Lit.int .i64 n).wf = true) : -9223372036854775808 ≤ n ∧ n ≤ 9223372036854775807 := wf_fits h
end Go.Proofs.Ytcmgpofcdjejnaa
