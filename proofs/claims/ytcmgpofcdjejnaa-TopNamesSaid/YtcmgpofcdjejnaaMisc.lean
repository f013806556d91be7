/-
  The base of the proofs, sixth part: small rules. It claims nothing of any program.
-/
import Derived.Test.YtcmgpofcdjejnaaSlc
import Derived.KernelRfl
set_option linter.unusedVariables false
set_option linter.unusedSectionVars false
set_option linter.unusedSimpArgs false
namespace Go.Proofs.Ytcmgpofcdjejnaa
open Go

section
variable {P : Program} {ops : Array Oper} {Q : Exit → Act → World → Prop} {n : Nat} {l : Slots} {os : List Oper} {x : Out} {S : List (List Chunk)} {C C' : World → Prop} {d : Nat} {dst : Option Nat} {ty : TypeId} {pos : String} {af : Array Edge} {gd : Option (Nat × Bool)}

theorem TL.mem {K : Act → World → Prop} (h : ∀ w, C w → C' w) (k : TG K n l C') : TG K n l C := fun a w ha hw => k a w ha (h w hw)
theorem St.empty {w : World} (h : St x S w) : St x ([] :: S) w := ⟨by simpa using h.nodup, by simpa using h.holds, h.os, h.out, h.tape⟩

theorem St.merge {L M : List Chunk} {w : World} (h : St x (L :: M :: S) w) : St x ((L ++ M) :: S) w := h.ofFlat (by simp)
theorem St.part {L M : List Chunk} {w : World} (h : St x ((L ++ M) :: S) w) : St x (L :: M :: S) w := h.ofFlat (by simp)

theorem St.merge_at {L M N : List Chunk} {w : World} (h : St x (L :: M :: N :: S) w) : St x (L :: (M ++ N) :: S) w := h.ofFlat (by simp)

theorem St.merge_at2 {L M N O : List Chunk} {w : World} (h : St x (L :: M :: N :: O :: S) w) : St x (L :: M :: (N ++ O) :: S) w := h.ofFlat (by simp)

theorem St.merge3 {L M N O Q : List Chunk} {w : World} (h : St x (L :: M :: N :: O :: Q :: S) w) : St x (L :: M :: N :: (O ++ Q) :: S) w := h.ofFlat (by simp)

/-- what a kind of integer holds -/
def fits (k : IntKind) (m : Int) : Prop :=
  match k with
  | .i8 => -128 ≤ m ∧ m ≤ 127
  | .i16 => -32768 ≤ m ∧ m ≤ 32767
  | .i32 => -2147483648 ≤ m ∧ m ≤ 2147483647
  | .i64 => -9223372036854775808 ≤ m ∧ m ≤ 9223372036854775807
  | .u8 => 0 ≤ m ∧ m ≤ 255
  | .u16 => 0 ≤ m ∧ m ≤ 65535
  | .u32 => 0 ≤ m ∧ m ≤ 4294967295
  | .u64 => 0 ≤ m ∧ m ≤ 18446744073709551615
theorem fits_wrap {k : IntKind} {m : Int} (h : fits k m) : k.wrap m = m := by
  cases k
  · exact IntWalk.i8_in _ h
  · exact IntWalk.i16_in _ h
  · exact IntWalk.i32_in _ h
  · exact IntWalk.i64_in _ h
  · exact IntWalk.u8_in _ h
  · exact IntWalk.u16_in _ h
  · exact IntWalk.u32_in _ h
  · exact IntWalk.u64_in _ h
theorem y_conv64 {s t : TypeId} {X : Operand} {k' : IntKind} {m : Int} {ds : TypeDesc} (hx : ev l X = some (.int k' m)) (hs : P.underlying s = some ds) (ht : P.underlying t = some (.int .i64)) (h : -9223372036854775808 ≤ m ∧ m ≤ 9223372036854775807) : Y P n l C ⟨dst, .convert s t X, ty, pos, af, gd⟩ (.int .i64 m) := by
  have := y_conv (P := P) (n := n) (C := C) (d := dst) (ty := ty) (pos := pos) (af := af) (gd := gd) hx hs ht
  rwa [IntWalk.i64_in _ h] at this
theorem y_convk {s t : TypeId} {X : Operand} {k k' : IntKind} {m : Int} {ds : TypeDesc} (hx : ev l X = some (.int k' m)) (hs : P.underlying s = some ds) (ht : P.underlying t = some (.int k)) (h : fits k m) : Y P n l C ⟨dst, .convert s t X, ty, pos, af, gd⟩ (.int k m) := by
  have := y_conv (P := P) (n := n) (C := C) (d := dst) (ty := ty) (pos := pos) (af := af) (gd := gd) hx hs ht
  rwa [fits_wrap h] at this

section
variable {α : Type} {E : TypeId} {K : Kd α} {A : Option Addr} {xs : List α} {c : Nat} {L : List Chunk}
theorem Own.cut_h (o : Own E K A xs c L) {h : Int} (hb : 0 ≤ h ∧ h ≤ xs.length) : Own E K (sla A 0 c K.sz) (xs.take h.toNat) c L := by
  have := o.cut 0 h.toNat (Nat.zero_le _) (by omega); simpa using this
theorem Own.cut_l (o : Own E K A xs c L) {h : Int} (hb : 0 ≤ h ∧ h ≤ xs.length) : Own E K (sla A h.toNat c K.sz) (xs.drop h.toNat) (c - h.toNat) L := by
  have := o.cut h.toNat xs.length (by omega) (Nat.le_refl _); simpa using this
theorem Own.cut_lh (o : Own E K A xs c L) {g h : Int} (hb : 0 ≤ g ∧ g ≤ h ∧ h ≤ xs.length) : Own E K (sla A g.toNat c K.sz) ((xs.take h.toNat).drop g.toNat) (c - g.toNat) L := o.cut g.toNat h.toNat (by omega) (by omega)
theorem Rd.cut_h (o : Rd K A xs c L) {h : Int} (hb : 0 ≤ h ∧ h ≤ xs.length) : Rd K (sla A 0 c K.sz) (xs.take h.toNat) c L := by
  have := o.cut 0 h.toNat (Nat.zero_le _) (by omega); simpa using this
theorem Rd.cut_l (o : Rd K A xs c L) {h : Int} (hb : 0 ≤ h ∧ h ≤ xs.length) : Rd K (sla A h.toNat c K.sz) (xs.drop h.toNat) (c - h.toNat) L := by
  have := o.cut h.toNat xs.length (by omega) (Nat.le_refl _); simpa using this
theorem Rd.cut_lh (o : Rd K A xs c L) {g h : Int} (hb : 0 ≤ g ∧ g ≤ h ∧ h ≤ xs.length) : Rd K (sla A g.toNat c K.sz) ((xs.take h.toNat).drop g.toNat) (c - g.toNat) L := o.cut g.toNat h.toNat (by omega) (by omega)
end

theorem run_equal_succ (T : TypeId) (a b : Value) (w : World) : (Op.equal T a b).run P w = (Op.equalIn (9999 + 1) T a b).run P w := rfl
theorem run_equalIn_func {T : TypeId} {f : Fn} {a c : Array Value} {p q : Array TypeId} {b : Bool} (ht : P.underlying T = some (.func p q b)) (w : World) (d : Nat) : (Op.equalIn (d + 1) T (.func f a c) .nilFunc).run P w = .ok false w := by
  unfold Op.equalIn; rw [Sem.run_bind, run_underlying ht]; rfl
theorem run_equalIn_nilfunc {T : TypeId} {p q : Array TypeId} {b : Bool} (ht : P.underlying T = some (.func p q b)) (w : World) (d : Nat) : (Op.equalIn (d + 1) T .nilFunc .nilFunc).run P w = .ok true w := by
  unfold Op.equalIn; rw [Sem.run_bind, run_underlying ht]; rfl
theorem run_equal_func {T : TypeId} {f : Fn} {a c : Array Value} {p q : Array TypeId} {b : Bool} (ht : P.underlying T = some (.func p q b)) (w : World) : (Op.equal T (.func f a c) .nilFunc).run P w = .ok false w := run_equalIn_func ht w 9999
theorem run_equal_nilfunc {T : TypeId} {p q : Array TypeId} {b : Bool} (ht : P.underlying T = some (.func p q b)) (w : World) : (Op.equal T .nilFunc .nilFunc).run P w = .ok true w := run_equalIn_nilfunc ht w 9999

/-- an equality that is no matter of two integers or strings -/
theorem run_binOp_eql {T : TypeId} {a b : Value} {r : Bool} {w : World} (h1 : binOp .eql T a b = (do pure (.bool (← Op.equal T a b)))) (h : (Op.equal T a b).run P w = .ok r w) : (binOp .eql T a b).run P w = .ok (.bool r) w := by rw [h1, Sem.run_bind, h]; rfl
theorem run_binOp_neq {T : TypeId} {a b : Value} {r : Bool} {w : World} (h1 : binOp .neq T a b = (do pure (.bool (!(← Op.equal T a b))))) (h : (Op.equal T a b).run P w = .ok r w) : (binOp .neq T a b).run P w = .ok (.bool (!r)) w := by rw [h1, Sem.run_bind, h]; rfl
theorem y_eqv {T T' : TypeId} {X Z : Operand} {a b : Value} {r : Bool} (hx : ev l X = some a) (hz : ev l Z = some b) (h0 : ∀ w, (eqGuard .eql T X Z a b).run P w = .ok () w) (h1 : binOp .eql T a b = (do pure (.bool (← Op.equal T a b)))) (h : ∀ w, C w → (Op.equal T a b).run P w = .ok r w) : Y P n l C ⟨dst, .binOp .eql T X Z T', ty, pos, af, gd⟩ (.bool r) := y_of fun A w ha hw => by
  simp only [execOp, ha.ev hx, ha.ev hz, Sem.run_bind, h0, Result.andThen_ok, run_binOp_eql h1 (h w hw), Sem.run_pure]
theorem y_nev {T T' : TypeId} {X Z : Operand} {a b : Value} {r : Bool} (hx : ev l X = some a) (hz : ev l Z = some b) (h0 : ∀ w, (eqGuard .neq T X Z a b).run P w = .ok () w) (h1 : binOp .neq T a b = (do pure (.bool (!(← Op.equal T a b))))) (h : ∀ w, C w → (Op.equal T a b).run P w = .ok r w) : Y P n l C ⟨dst, .binOp .neq T X Z T', ty, pos, af, gd⟩ (.bool (!r)) := y_of fun A w ha hw => by
  simp only [execOp, ha.ev hx, ha.ev hz, Sem.run_bind, h0, Result.andThen_ok, run_binOp_neq h1 (h w hw), Sem.run_pure]
theorem y_func_nil_eql {T T' : TypeId} {X Z : Operand} {f : Fn} {a c : Array Value} {p q : Array TypeId} {b : Bool} (hx : ev l X = some (.func f a c)) (hz : ev l Z = some .nilFunc) (ht : P.underlying T = some (.func p q b)) : Y P n l C ⟨dst, .binOp .eql T X Z T', ty, pos, af, gd⟩ (.bool false) :=
  y_eqv hx hz (fun _ => rfl) rfl (fun w _ => run_equal_func ht w)
theorem y_func_nil_neq {T T' : TypeId} {X Z : Operand} {f : Fn} {a c : Array Value} {p q : Array TypeId} {b : Bool} (hx : ev l X = some (.func f a c)) (hz : ev l Z = some .nilFunc) (ht : P.underlying T = some (.func p q b)) : Y P n l C ⟨dst, .binOp .neq T X Z T', ty, pos, af, gd⟩ (.bool true) :=
  y_nev (r := false) hx hz (fun _ => rfl) rfl (fun w _ => run_equal_func ht w)
theorem y_nilfunc_eql {T T' : TypeId} {X Z : Operand} {p q : Array TypeId} {b : Bool} (hx : ev l X = some .nilFunc) (hz : ev l Z = some .nilFunc) (ht : P.underlying T = some (.func p q b)) : Y P n l C ⟨dst, .binOp .eql T X Z T', ty, pos, af, gd⟩ (.bool true) :=
  y_eqv hx hz (fun _ => rfl) rfl (fun w _ => run_equal_nilfunc ht w)
end
theorem eq_of_gt {α : Type} [Inhabited α] {xs ys : List α} (hl : xs.length = ys.length) (h : ∀ q : Int, 0 ≤ q ∧ q < xs.length → gt xs q = gt ys q) : xs = ys := by
  apply List.ext_getElem hl
  intro i h1 h2
  have := h i (by omega)
  simpa [gt, List.getD_eq_getElem?_getD, h1, h2] using this
theorem bool_iff {p q : Prop} [Decidable p] [Decidable q] (h : p ↔ q) : Value.bool (decide p) = Value.bool (decide q) := by
  by_cases hp : p
  · rw [decide_eq_true hp, decide_eq_true (h.1 hp)]
  · rw [decide_eq_false hp, decide_eq_false (fun hq => hp (h.2 hq))]
theorem bool_is {p : Prop} [Decidable p] {b : Bool} (h : p ↔ b = true) : Value.bool (decide p) = Value.bool b := by
  cases b with
  | true => rw [decide_eq_true (h.2 rfl)]
  | false => rw [decide_eq_false (fun hp => by cases h.1 hp)]
section
variable {α : Type} [Inhabited α] {xs ys : List α} {v : α} {k q : Int}
theorem gt_eq (h : 0 ≤ q ∧ q < xs.length) : gt xs q = xs[q.toNat]'(by omega) := by
  have hl : q.toNat < xs.length := by omega
  simp [gt, List.getD_eq_getElem?_getD, hl]
omit [Inhabited α] in
theorem take_self (h : xs.length ≤ k.toNat) : xs.take k.toNat = xs := List.take_of_length_le h
theorem take_gt (h : 0 ≤ k ∧ k < xs.length) : xs.take (k + 1).toNat = xs.take k.toNat ++ [gt xs k] := by
  rw [show (k + 1).toNat = k.toNat + 1 by omega, gt_eq h, List.take_succ_eq_append_getElem]
theorem mem_gt (h : 0 ≤ q ∧ q < xs.length) : gt xs q ∈ xs := by rw [gt_eq h]; exact List.getElem_mem _
theorem mem_snoc {p : α → Prop} (h1 : ∀ m ∈ xs, p m) (h2 : p v) : ∀ m ∈ xs ++ [v], p m := by
  intro m hm
  rcases List.mem_append.1 hm with h | h
  · exact h1 m h
  · simp only [List.mem_singleton] at h; rw [h]; exact h2
theorem nodup_snoc (h1 : xs.Nodup) (h2 : v ∉ xs) : (xs ++ [v]).Nodup := by
  rw [List.nodup_append]
  exact ⟨h1, by simp, fun a ha b hb => by simp only [List.mem_singleton] at hb; rw [hb]; rintro rfl; exact h2 ha⟩
theorem nodup_gt (h : xs.Nodup) (hk : 0 ≤ k ∧ k < xs.length) : gt xs k ∉ xs.take k.toNat := by
  intro hm
  have h1 : xs.take (k + 1).toNat = xs.take k.toNat ++ [gt xs k] := take_gt hk
  have h2 : (xs.take (k + 1).toNat).Nodup := h.sublist (List.take_sublist _ _)
  rw [h1, List.nodup_append] at h2
  exact h2.2.2 _ hm _ (List.mem_singleton.2 rfl) rfl
theorem gt_of_mem (h : v ∈ xs) : ∃ q : Int, 0 ≤ q ∧ q < xs.length ∧ gt xs q = v := by
  obtain ⟨i, hi, rfl⟩ := List.mem_iff_getElem.1 h
  exact ⟨i, by omega, by omega, by rw [gt_eq (by omega)]; rfl⟩
theorem st_length {i : Int} : (st xs i v).length = xs.length := by simp [st]
theorem gt_st {i : Int} (hi : 0 ≤ i ∧ i < xs.length) (hq : 0 ≤ q) : gt (st xs i v) q = if q = i then v else gt xs q := by
  have h1 : i.toNat < xs.length := by omega
  unfold gt st
  simp only [List.getD_eq_getElem?_getD, List.getElem?_set]
  by_cases h : q = i
  · subst h; simp [h1]
  · have : i.toNat ≠ q.toNat := by omega
    simp [this, h]
theorem gt_app_left (h : 0 ≤ q ∧ q < xs.length) : gt (xs ++ ys) q = gt xs q := by
  have hl : q.toNat < xs.length := by omega
  simp only [gt, List.getD_eq_getElem?_getD, List.getElem?_append_left hl]
theorem gt_app_last : gt (xs ++ [v]) xs.length = v := by
  simp [gt, List.getD_eq_getElem?_getD]
theorem gt_take {m : Nat} (h : 0 ≤ q ∧ q < m) : gt (xs.take m) q = gt xs q := by
  have hl : q.toNat < m := by omega
  simp [gt, List.getD_eq_getElem?_getD, List.getElem?_take, hl]
theorem gt_drop {m : Nat} (h : 0 ≤ q) : gt (xs.drop m) q = gt xs (q + m) := by
  have : (q + m).toNat = m + q.toNat := by omega
  simp [gt, List.getD_eq_getElem?_getD, List.getElem?_drop, this]
theorem gt_replicate {m : Nat} (h : 0 ≤ q ∧ q < m) : gt (List.replicate m v) q = v := by
  have hl : q.toNat < m := by omega
  simp [gt, List.getD_eq_getElem?_getD, List.getElem?_replicate, hl]
theorem gt_map {β : Type} [Inhabited β] {f : α → β} (h : 0 ≤ q ∧ q < xs.length) : gt (xs.map f) q = f (gt xs q) := by
  have hl : q.toNat < xs.length := by omega
  simp [gt, List.getD_eq_getElem?_getD, hl]
theorem gt_zip {β : Type} [Inhabited β] {ys : List β} (h : 0 ≤ q ∧ q < xs.length ∧ q < ys.length) : gt (xs.zip ys) q = (gt xs q, gt ys q) := by
  have h1 : q.toNat < xs.length := by omega
  have h2 : q.toNat < ys.length := by omega
  have h3 : q.toNat < (xs.zip ys).length := by rw [List.length_zip]; omega
  rw [gt_eq (by omega), gt_eq (by omega), gt_eq (by omega), List.getElem_zip]
end
end Go.Proofs.Ytcmgpofcdjejnaa
