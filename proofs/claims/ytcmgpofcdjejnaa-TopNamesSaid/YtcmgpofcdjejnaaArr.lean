/-
  The base of the proofs: arrays, as rows of their own block. It claims nothing of any program.
-/
import Derived.Test.YtcmgpofcdjejnaaSlc2
set_option linter.unusedVariables false
set_option linter.unusedSectionVars false
set_option linter.unusedSimpArgs false
namespace Go.Proofs.Ytcmgpofcdjejnaa
open Go

section
variable {P : Program} {ops : Array Oper} {n : Nat} {l : Slots} {K₁ K₀ : Act → World → Prop} {x : Out} {S : List (List Chunk)} {d : Nat} {dst : Option Nat} {ty : TypeId} {pos : String} {af : Array Edge} {gd : Option (Nat × Bool)}
variable {α : Type} {K : Kd α} {xs : List α} {c : Nat} {L : List Chunk} {E : TypeId}

/-- an array is a row in a block of its own -/
theorem tl_arr {T : TypeId} {v : Value} {m : Nat} (stp : Step P ops ⟨dst, .alloc T, ty, pos, af, gd⟩ K₁ K₀) (xs : List α) (hm : xs.length = m) (hz : (P.info? T).bind (·.zero) = some v) (hcs : v.cells = (K.row xs).toArray) (hd : okw ops l ⟨dst, .alloc T, ty, pos, af, gd⟩ n = some (true, d))
    (k : ∀ b L, Own T K (some ⟨b, 0, none⟩) xs m L → TG K₁ n ((d, .pointer (some ⟨b, 0, none⟩)) :: l) (St x (L :: S))) : TG K₀ n l (St x S) := by
  subst hm
  refine tl_eff (C' := fun v w => ∃ b L, v = .pointer (some ⟨b, 0, none⟩) ∧ Own T K (some ⟨b, 0, none⟩) xs xs.length L ∧ St x (L :: S) w) stp hd (fun a w ha hw => ⟨.pointer (some ⟨w.heap.size, 0, none⟩), _, ?_, w.heap.size, _, rfl, .inr ⟨w.heap.size, [], [], rfl, rfl, Nat.le_refl _, by simp⟩, hw.newRow _ T⟩) (fun v => tl_ex fun b => tl_ex fun L => tl_pure fun e => tl_pure fun h => tl_val e (k b L h))
  cases hi : P.info? T with
  | none => simp [hi] at hz
  | some i =>
    simp [hi] at hz
    simp [execOp, Instr.alloc, zeroValue, typeInfo, hi, hz, newVar, Go.newRow, hcs]

/-- the address of an element of an array -/
theorem y_aidx {C : World → Prop} {t e : TypeId} {X I : Operand} {i : Int} {ki : IntKind} {b m : Nat} (hX : ev l X = some (.pointer (some ⟨b, 0, none⟩))) (hI : ev l I = some (.int ki i)) (ht : P.underlying t = some (.array m e)) (hz : sizeB P e = some K.sz) (hi : 0 ≤ i ∧ i < m) :
    Y P n l C ⟨dst, .indexAddr t X I, ty, pos, af, gd⟩ (.pointer (some (slp (some ⟨b, 0, none⟩) i K.sz))) := y_of fun a w ha hw => by
  simp [execOp, ha.ev hX, ha.ev hI, Instr.indexAt, asIntOf, run_underlying ht, run_sizeOf hz, hi.1, hi.2, slp, Instr.sureAddr]

/-- a whole array -/
theorem y_arr {t : TypeId} {X : Operand} {b k : Nat} (h : Rd K (some ⟨b, 0, none⟩) xs c L) (hx : ev l X = some (.pointer (some ⟨b, 0, none⟩))) (hk : S[k]? = some L) (ht : aggB P t = some true) (hz : sizeB P t = some (xs.length * K.sz)) :
    Y P n l (St x S) ⟨dst, .load t X, ty, pos, af, gd⟩ (.agg (K.row xs).toArray) := y_of fun a w ha hw => by
  have hc : ∀ j v, (K.row xs)[j]? = some v → w.cell? ((⟨b, 0, none⟩ : Addr).add j) = some v := by
    intro j v hj
    have hlt : j < xs.length * K.sz := by rw [← K.row_length]; exact (List.getElem?_eq_some_iff.1 hj).1
    rcases h.2 with rfl | ⟨g, off, cs, E, fr, hA, hm, hcs⟩
    · simp at hlt
    · simp only [Option.some.injEq, Addr.mk.injEq, and_true] at hA
      obtain ⟨rfl, rfl⟩ := hA
      have hb := hw.at k hk _ hm
      rw [add_lit]
      simp only [World.cell?, hb]
      simpa using (hcs j hlt).trans hj
  simp [execOp, ha.ev hx, Instr.loadAt, Instr.sureAddr, run_loadVar_agg ht (by rw [K.row_length]; exact hz) hc]

theorem run_eq_loop (f : Nat → Sem Bool) (g : Nat → Bool) (w : World) : ∀ (is : List Nat), (∀ i ∈ is, (f i).run P w = .ok (g i) w) →
    (do for i in is do
          if !(← f i) then return false
        pure true : Sem Bool).run P w = .ok (is.all g) w
  | [], _ => by simp
  | i :: is, h => by
    have h1 := h i (by simp)
    have ih := run_eq_loop f g w is (fun j hj => h j (by simp [hj]))
    simp only [List.forIn_cons, Sem.run_bind, h1, Result.andThen_ok] at ih ⊢
    cases hg : g i
    · simp [hg]
    · simpa [hg] using ih

/-- arrays of integers compared -/
theorem run_equalIn_arr {T e : TypeId} {m : Nat} {k : IntKind} {xs ys : List Int} (ht : P.underlying T = some (.array m e)) (he : P.underlying e = some (.int k)) (hz : sizeB P e = some 1) (hx : xs.length = m) (hy : ys.length = m) (w : World) (d : Nat) :
    (Op.equalIn (d + 2) T (.agg ((kI k).row xs).toArray) (.agg ((kI k).row ys).toArray)).run P w = .ok (decide (xs = ys)) w := by
  have hagg : aggB P e = some false := by simp [aggB, he]
  have hrow : ∀ (zs : List Int), (kI k).row zs = zs.map (Value.int k) := by
    intro zs
    induction zs with
    | nil => rfl
    | cons z zs ih => rw [Kd.row_cons, ih]; rfl
  have hpart : ∀ (zs : List Int) (i : Nat) (hi : i < zs.length), (part e ((kI k).row zs).toArray (i * 1)).run P w = .ok (.int k zs[i]) w := by
    intro zs i hi
    simp [part, run_isAgg hagg, hrow, hi]
  unfold Op.equalIn
  simp only [Sem.run_bind, run_underlying ht, Result.andThen_ok, run_sizeOf hz, Std.Legacy.Range.forIn_eq_forIn_range', Std.Legacy.Range.size]
  have h := run_eq_loop (P := P) (fun i => do Op.equalIn (d + 1) e (← part e ((kI k).row xs).toArray (i * 1)) (← part e ((kI k).row ys).toArray (i * 1))) (fun i => xs[i]! == ys[i]!) w (List.range' 0 m) (fun i hi => by
    have him : i < m := by simpa using hi
    have h1 : i < xs.length := by omega
    have h2 : i < ys.length := by omega
    simp only [Sem.run_bind, hpart xs i h1, hpart ys i h2, Result.andThen_ok, run_equalIn_int w d e k k _ _ he]
    simp [h1, h2])
  have hall : ((List.range' 0 m).all fun i => xs[i]! == ys[i]!) = decide (xs = ys) := by
    rw [Bool.eq_iff_iff]
    simp only [List.all_eq_true, beq_iff_eq, decide_eq_true_eq]
    constructor
    · intro h
      apply List.ext_getElem (by omega)
      intro i h1 h2
      have := h i (by simp; omega)
      simpa [h1, h2] using this
    · rintro rfl i _; rfl
  rw [hall] at h
  simpa [Sem.run_bind] using h

theorem y_ne_arr {T T' e : TypeId} {m : Nat} {k : IntKind} {X Z : Operand} {xs ys : List Int} (hX : ev l X = some (.agg ((kI k).row xs).toArray)) (hZ : ev l Z = some (.agg ((kI k).row ys).toArray)) (ht : P.underlying T = some (.array m e)) (he : P.underlying e = some (.int k)) (hz : sizeB P e = some 1) (hx : xs.length = m) (hy : ys.length = m) (hg : P.eqGuardType P.depth T = false) {C : World → Prop} :
    Y P n l C ⟨dst, .binOp .neq T X Z T', ty, pos, af, gd⟩ (.bool (decide (xs ≠ ys))) := by
  have : (!decide (xs = ys)) = decide (xs ≠ ys) := by simp
  rw [← this]
  exact y_nev hX hZ (fun w => run_eqGuard_agg w _ _ _ _ _ _ hg) rfl (fun w _ => run_equalIn_arr ht he hz hx hy w 9998)
theorem y_eq_arr {T T' e : TypeId} {m : Nat} {k : IntKind} {X Z : Operand} {xs ys : List Int} (hX : ev l X = some (.agg ((kI k).row xs).toArray)) (hZ : ev l Z = some (.agg ((kI k).row ys).toArray)) (ht : P.underlying T = some (.array m e)) (he : P.underlying e = some (.int k)) (hz : sizeB P e = some 1) (hx : xs.length = m) (hy : ys.length = m) (hg : P.eqGuardType P.depth T = false) {C : World → Prop} :
    Y P n l C ⟨dst, .binOp .eql T X Z T', ty, pos, af, gd⟩ (.bool (decide (xs = ys))) :=
  y_eqv hX hZ (fun w => run_eqGuard_agg w _ _ _ _ _ _ hg) rfl (fun w _ => run_equalIn_arr ht he hz hx hy w 9998)
end
end Go.Proofs.Ytcmgpofcdjejnaa
