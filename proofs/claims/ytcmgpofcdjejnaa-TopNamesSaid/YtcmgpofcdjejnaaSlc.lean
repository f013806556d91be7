/-
  The base of the proofs, fifth part: slices made, appended to and cut; structs and their fields. It claims nothing of any program.
-/
import Derived.Test.YtcmgpofcdjejnaaEff
set_option linter.unusedVariables false
set_option linter.unusedSectionVars false
set_option linter.unusedSimpArgs false
namespace Go.Proofs.Ytcmgpofcdjejnaa
open Go

section
variable {P : Program} {ops : Array Oper} {Q : Exit → Act → World → Prop} {n : Nat} {l : Slots} {os : List Oper} {K₁ K₀ : Act → World → Prop} {x : Out} {S : List (List Chunk)} {C : World → Prop} {d : Nat} {dst : Option Nat} {ty : TypeId} {pos : String} {af : Array Edge} {gd : Option (Nat × Bool)}

/-! ### Cutting a slice -/

/-- the address of a slice cut at l -/
def sla (A : Option Addr) (lo c s : Nat) : Option Addr := if c = lo then A else A.map (·.add (lo * s))

section
variable {α : Type} {K : Kd α} {A : Option Addr} {xs : List α} {c : Nat} {L : List Chunk} {E : TypeId}

theorem run_sliceV {t e : TypeId} (ht : P.underlying t = some (.slice e)) (hz : sizeB P e = some K.sz) (w : World) (lo hi mx : Option Value) (len cap a b m : Nat) (h : (Instr.sliceBounds true len cap lo hi mx).run P w = .ok (a, b, m) w) :
    (Instr.sliceAt t (.slice A len cap) lo hi mx).run P w = .ok (.slice (sla A a m K.sz) (b - a) (m - a)) w := by
  simp [Instr.sliceAt, Instr.slice, run_underlying ht, h, run_sizeOf hz, sla]

theorem Own.cut (h : Own E K A xs c L) (a b : Nat) (hab : a ≤ b) (hb : b ≤ xs.length) : Own E K (sla A a c K.sz) ((xs.take b).drop a) (c - a) L := by
  rcases h with ⟨rfl, rfl, rfl, rfl⟩ | ⟨g, pre, post, rfl, rfl, h1, h2⟩
  · left
    refine ⟨by simp [sla], by simp, by omega, rfl⟩
  · right
    have hl : ((xs.take b).drop a).length = b - a := by rw [List.length_drop, List.length_take]; omega
    have e1 : K.row xs = K.row (xs.take a) ++ K.row ((xs.take b).drop a) ++ K.row (xs.drop b) := by
      rw [← K.row_append, ← K.row_append]
      congr 1
      have e2 : xs.take b = (xs.take b).take a ++ (xs.take b).drop a := (List.take_append_drop a _).symm
      rw [List.take_take, Nat.min_eq_left hab] at e2
      rw [← e2, List.take_append_drop]
    by_cases hc : c = a
    · have hb' : b = a := by omega
      refine ⟨g, pre, K.row xs ++ post, by simp [sla, hc], ?_, by omega, by rw [hl, hc]; simp⟩
      have : (xs.take b).drop a = [] := List.eq_nil_of_length_eq_zero (by omega)
      rw [this, K.row_nil, List.append_nil, List.append_assoc]
    · refine ⟨g, pre ++ K.row (xs.take a), K.row (xs.drop b) ++ post, ?_, ?_, by rw [hl]; omega, ?_⟩
      · have ha : (pre ++ K.row (xs.take a)).length = pre.length + a * K.sz := by rw [List.length_append, K.row_length, List.length_take, Nat.min_eq_left (by omega)]
        simp only [sla, if_neg hc, Option.map_some, add_lit, ha]
      · rw [e1]; simp only [List.append_assoc]
      · rw [hl, List.length_append, K.row_length, List.length_drop]
        have e3 : (c - a - (b - a)) * K.sz = (xs.length - b) * K.sz + (c - xs.length) * K.sz := by rw [← Nat.add_mul]; congr 1; omega
        omega

theorem Rd.cut (h : Rd K A xs c L) (a b : Nat) (hab : a ≤ b) (hb : b ≤ xs.length) : Rd K (sla A a c K.sz) ((xs.take b).drop a) (c - a) L := by
  have hl : ((xs.take b).drop a).length = b - a := by rw [List.length_drop, List.length_take]; omega
  refine ⟨by have := h.1; omega, ?_⟩
  by_cases hn : b = a
  · left; exact List.eq_nil_of_length_eq_zero (by omega)
  · rcases h.2 with rfl | ⟨g, off, cs, E, fr, rfl, hm, hc⟩
    · left; simp
    · right
      have hca : c ≠ a := by have := h.1; omega
      refine ⟨g, off + a * K.sz, cs, E, fr, by simp only [sla, if_neg hca, Option.map_some, add_lit], hm, fun j hj => ?_⟩
      have e2 : xs.take b = (xs.take b).take a ++ (xs.take b).drop a := (List.take_append_drop a _).symm
      have e1 : K.row xs = K.row ((xs.take b).take a) ++ K.row ((xs.take b).drop a) ++ K.row (xs.drop b) := by
        rw [← K.row_append, ← K.row_append, List.take_append_drop, List.take_append_drop]
      have hta : (K.row ((xs.take b).take a)).length = a * K.sz := by rw [K.row_length, List.length_take, List.length_take]; congr 1; omega
      rw [hl] at hj
      have hlt : a * K.sz + j < xs.length * K.sz := by
        have : a * K.sz + (b - a) * K.sz ≤ xs.length * K.sz := by rw [← Nat.add_mul]; exact Nat.mul_le_mul_right _ (by omega)
        omega
      rw [Nat.add_assoc, hc _ hlt, e1, List.append_assoc, List.getElem?_append_right (by omega), hta, Nat.add_sub_cancel_left, List.getElem?_append_left (by rw [K.row_length, hl]; exact hj)]

/-- xs[:h] -/
theorem y_slh {t e : TypeId} {X H : Operand} {kh : IntKind} {h : Int} (hX : ev l X = some (.slice A xs.length c)) (hH : ev l H = some (.int kh h)) (ht : P.underlying t = some (.slice e)) (hz : sizeB P e = some K.sz) (hr : xs.length ≤ c) (hb : 0 ≤ h ∧ h ≤ xs.length) :
    Y P n l C ⟨dst, .slice t X none (some H) none, ty, pos, af, gd⟩ (.slice (sla A 0 c K.sz) (xs.take h.toNat).length c) := y_of fun a w ha hw => by
  have hs := run_sliceV (P := P) (A := A) ht hz w none (some (.int kh h)) none xs.length c 0 h.toNat c (by
    have h1 : 0 ≤ h ∧ h ≤ (c : Int) := by omega
    simp [Instr.sliceBounds, Instr.sliceBound, asIntOf, h1])
  have e : (xs.take h.toNat).length = h.toNat := by rw [List.length_take]; omega
  simp [execOp, ha.ev hX, ha.ev hH, hs, e, Option.map]
/-- xs[l:] -/
theorem y_sll {t e : TypeId} {X H : Operand} {kh : IntKind} {h : Int} (hX : ev l X = some (.slice A xs.length c)) (hH : ev l H = some (.int kh h)) (ht : P.underlying t = some (.slice e)) (hz : sizeB P e = some K.sz) (hr : xs.length ≤ c) (hb : 0 ≤ h ∧ h ≤ xs.length) :
    Y P n l C ⟨dst, .slice t X (some H) none none, ty, pos, af, gd⟩ (.slice (sla A h.toNat c K.sz) (xs.drop h.toNat).length (c - h.toNat)) := y_of fun a w ha hw => by
  have hs := run_sliceV (P := P) (A := A) ht hz w (some (.int kh h)) none none xs.length c h.toNat xs.length c (by
    have h1 : 0 ≤ h ∧ h ≤ (xs.length : Int) := by omega
    simp [Instr.sliceBounds, Instr.sliceBound, asIntOf, h1])
  have e : (xs.drop h.toNat).length = xs.length - h.toNat := by rw [List.length_drop]
  simp [execOp, ha.ev hX, ha.ev hH, hs, e, Option.map]
/-- xs[l:h] -/
theorem y_sllh {t e : TypeId} {X G H : Operand} {kg kh : IntKind} {g h : Int} (hX : ev l X = some (.slice A xs.length c)) (hG : ev l G = some (.int kg g)) (hH : ev l H = some (.int kh h)) (ht : P.underlying t = some (.slice e)) (hz : sizeB P e = some K.sz) (hr : xs.length ≤ c) (hb : 0 ≤ g ∧ g ≤ h ∧ h ≤ xs.length) :
    Y P n l C ⟨dst, .slice t X (some G) (some H) none, ty, pos, af, gd⟩ (.slice (sla A g.toNat c K.sz) ((xs.take h.toNat).drop g.toNat).length (c - g.toNat)) := y_of fun a w ha hw => by
  have hs := run_sliceV (P := P) (A := A) ht hz w (some (.int kg g)) (some (.int kh h)) none xs.length c g.toNat h.toNat c (by
    have h1 : 0 ≤ h ∧ h ≤ (c : Int) := by omega
    have h2 : max h 0 = h := by omega
    simp [Instr.sliceBounds, Instr.sliceBound, asIntOf, h1, h2, hb.1, hb.2.1])
  have e : ((xs.take h.toNat).drop g.toNat).length = h.toNat - g.toNat := by rw [List.length_drop, List.length_take]; omega
  simp [execOp, ha.ev hX, ha.ev hG, ha.ev hH, hs, e, Option.map]
end

/-! ### Made slices -/

theorem fold_set (vs : List Value) : ∀ (k : Nat) (cs : List Value) (off : Nat), off + k + vs.length ≤ cs.length →
    (vs.zipIdx k).foldl (fun (cs : Array Value) (p : Value × Nat) => cs.setIfInBounds (off + p.2) p.1) cs.toArray = (cs.take (off + k) ++ vs ++ cs.drop (off + k + vs.length)).toArray := by
  induction vs with
  | nil => intro k cs off h; simp
  | cons v r ih =>
    intro k cs off h
    simp only [List.length_cons] at h
    rw [List.zipIdx_cons, List.foldl_cons]
    simp only [List.setIfInBounds_toArray]
    rw [ih (k + 1) _ off (by rw [List.length_set]; omega)]
    congr 1
    have := list_seg_step cs (off + k) v r (by omega)
    rw [← Nat.add_assoc, this]
    rfl

theorem fill_one {place : Nat → Option (Nat × Nat)} {cs : List Value} {i off sz : Nat} {v : Value} {vs : List Value} (hp : place i = some (off, sz)) (hv : v.cells = vs.toArray) (hs : vs.length = sz) (hle : off + vs.length ≤ cs.length) (rest : List (Nat × Value)) :
    Instr.fill place cs.toArray ((i, v) :: rest) = Instr.fill place (cs.take off ++ vs ++ cs.drop (off + vs.length)).toArray rest := by
  have hf := fold_set vs 0 cs off (by simpa using hle)
  simp only [Nat.add_zero] at hf
  simp only [Instr.fill, hp, hv, List.size_toArray, hs]
  rw [if_neg (by simp; omega)]
  rw [← hs]
  have : Array.foldl (fun cs (x : Value × Nat) => match x with | (c, j) => cs.setIfInBounds (off + j) c) cs.toArray vs.toArray.zipIdx = (cs.take off ++ vs ++ cs.drop (off + vs.length)).toArray := by
    rw [← hf, ← Array.foldl_toList]
    simp
  rw [this]

section
variable {α : Type} [Inhabited α] {K : Kd α} {E : TypeId}

/-- []T{v}, as append(s, v) makes it -/
theorem tl_one {t : TypeId} {V : Operand} (stp : Step P ops ⟨dst, .buildSlice t 1 #[(0, V)], ty, pos, af, gd⟩ K₁ K₀) (y : α) {v : Value} {zs : List Value} {z : Value} (hv : ev l V = some v) (hy : v.cells = (K.enc y).toArray) (ht : P.underlying t = some (.slice E)) (hz : sizeB P E = some K.sz) (hzz : (P.info? E).bind (·.zero) = some z) (hzs : z.cells = zs.toArray) (hpos : Nat.ble 1 K.sz = true) (hsm : Nat.ble K.sz 16777216 = true) (hd : okw ops l ⟨dst, .buildSlice t 1 #[(0, V)], ty, pos, af, gd⟩ n = some (true, d))
    (k : ∀ A L, Own E K A [y] 1 L → TG K₁ n ((d, .slice A [y].length 1) :: l) (St x (L :: S))) : TG K₀ n l (St x S) := by
  refine tl_eff (C' := fun v w => ∃ A L, v = .slice A [y].length 1 ∧ Own E K A [y] 1 L ∧ St x (L :: S) w) stp hd (fun a w ha hw => ?_) (fun v => tl_ex fun A => tl_ex fun L => tl_pure fun e => tl_pure fun h => tl_val e (k A L h))
  refine ⟨.slice (some ⟨w.heap.size, 0, none⟩) 1 1, _, ?_, _, _, rfl, .inr ⟨w.heap.size, [], [], rfl, rfl, by simp, by simp⟩, hw.new _⟩
  cases hi : P.info? E with
  | none => simp [hi] at hzz
  | some inf =>
    simp only [hi, Option.bind_some] at hzz
    have hsz : inf.size = K.sz := by simpa [sizeB, hi] using hz
    have hle := Nat.le_of_ble_eq_true hsm
    have hcs : ((Array.range (1 * K.sz)).map fun (j : Nat) => z.cells[j % z.cells.size]!) = ((List.range K.sz).map fun j => z.cells[j % z.cells.size]!).toArray := by
      apply Array.ext'; simp [Array.toList_range]
    have hfill : Instr.fill (fun i => some (i * K.sz, K.sz)) ((List.range K.sz).map fun j => z.cells[j % z.cells.size]!).toArray [(0, v)] = some (K.enc y).toArray := by
      rw [fill_one (i := 0) (off := 0) (sz := K.sz) (by simp) hy (K.len y) (by simp [K.len]) []]
      simp [Instr.fill, K.len]
    have hp := Nat.le_of_ble_eq_true hpos
    simp only [execOp, Instr.buildSlice, Sem.run_bind, run_underlying ht, sizeOf, typeInfo, run_program, Result.andThen_ok, hi, Sem.run_pure, hsz]
    have h1 : ¬ (1 * K.sz > 2 ^ 24) := by omega
    have h2 : ¬ (1 * K.sz = 0) := by omega
    simp only [h1, h2, if_false, Sem.run_bind, zeroValue, typeInfo, run_program, Result.andThen_ok, hi, Sem.run_pure, hzz]
    simp only [List.map_toArray, List.map_cons, List.map_nil, ha.ev hv]
    rw [hcs, hfill]
    simp [newRow, K.row_cons, K.row_nil]

/-! ### append -/

theorem Rd.first {A : Option Addr} {xs : List α} {c : Nat} {L : List Chunk} {w : World} (h : Rd K A xs c L) (hL : ∀ p, p ∈ L → w.heap[p.1]? = some p.2) (c' : Nat) : (Builtin.firstCells K.sz xs.length (.slice A xs.length c')).run P w = .ok (K.row xs).toArray w := by
  rcases h.2 with rfl | ⟨b, off, cs, E, fr, rfl, hm, hc⟩
  · cases A with
    | none => simp [Builtin.firstCells, K.row_nil]
    | some a => simp [Builtin.firstCells, K.row_nil, loadCells, loadCellsFrom]
  · refine run_firstCells_some w K.sz xs.length _ _ _ (K.row xs) (K.row_length xs) fun j v hj => ?_
    have hlt : j < xs.length * K.sz := by rw [← K.row_length]; exact (List.getElem?_eq_some_iff.1 hj).1
    have hb := hL _ hm
    rw [add_lit]
    simp only [World.cell?, hb]
    simpa using (hc j hlt).trans hj

theorem St.replace {w : World} {N : List Chunk} {k : Nat} (h : St x (N :: S) w) (hk : k < S.length) : St x (S.set k N) w := by
  have e1 : S = S.take k ++ S[k] :: S.drop (k + 1) := by rw [List.getElem_cons_drop, List.take_append_drop]
  have e2 : S.set k N = S.take k ++ N :: S.drop (k + 1) := by rw [List.set_eq_take_append_cons_drop, if_pos hk]
  have h1 : St x (N :: (S.take k ++ S.drop (k + 1))) w := h.sublist (by
    conv => rhs; rw [e1]
    exact (List.Sublist.append_left (List.sublist_cons_self _ _) _).cons_cons _)
  exact h1.perm (List.Perm.trans List.perm_middle.symm (.of_eq e2.symm))

theorem zeroCells_eq (z : Array Value) (m : Nat) : ∃ zs : List Value, Builtin.zeroCells z m = zs.toArray ∧ zs.length = m * z.size := ⟨(Builtin.zeroCells z m).toList, by simp, by simp [Builtin.zeroCells]⟩

theorem append_room {t ty : TypeId} {A B : Option Addr} {xs ys : List α} {c cb : Nat} {L Lr : List Chunk} {i : TypeInfo} (own : Own E K A xs c L) (hr : Rd K B ys cb Lr) (ht : P.underlying t = some (.slice E)) (hi : P.info? E = some i) (hsz : i.size = K.sz) {k kb : Nat} (hk : S[k]? = some L) (hkb : S[kb]? = some Lr) (hle : xs.length + ys.length ≤ c) {w : World} (hw : St x S w) :
    ∃ w' L', (Builtin.append_ #[t, t] ty #[.slice A xs.length c, .slice B ys.length cb]).run P w = .ok (.slice A (xs ++ ys).length c) w' ∧ Own E K A (xs ++ ys) c L' ∧ St x (S.set k L') w' := by
  have hf := hr.first (P := P) (w := w) (hw.at kb hkb) cb
  have hkl : k < S.length := (List.getElem?_eq_some_iff.1 hk).1
  have hset : S.set k L = S := set_self hk
  rcases own with ⟨rfl, rfl, rfl, rfl⟩ | ⟨g, pre, post, rfl, rfl, h1, h2⟩
  · have hy : ys = [] := List.eq_nil_of_length_eq_zero (by simpa using hle)
    subst hy
    refine ⟨w, [], ?_, Own.nil, by rw [hset]; exact hw⟩
    simp only [K.row_nil, List.length_nil] at hf
    simp [Builtin.append_, run_underlying ht, sizeOf, typeInfo, hi, hsz, Builtin.lenOf, hf]
  · have hb : w.heap[g]? = some (.cells (pre ++ K.row xs ++ post).toArray E (0, 0)) := hw.at k hk (g, _) (by simp)
    have hm : ys.length * K.sz ≤ (c - xs.length) * K.sz := Nat.mul_le_mul_right _ (by omega)
    have hst := run_storeCells_at P g (pre.length + xs.length * K.sz) E (K.row ys) 0 _ w hb (by simp only [List.size_toArray, List.length_append, K.row_length]; omega) (K.row_flat ys)
    have hlen : (pre ++ K.row xs).length = pre.length + xs.length * K.sz := by rw [List.length_append, K.row_length]
    simp only [Nat.add_zero] at hst
    rw [← hlen, List.take_left, List.drop_length_add_append] at hst
    refine ⟨_, [(g, .cells (pre ++ K.row (xs ++ ys) ++ post.drop (ys.length * K.sz)).toArray E (0, 0))], ?_, .inr ⟨g, pre, _, rfl, rfl, by rw [List.length_append]; exact hle, ?_⟩, hw.setRow hk⟩
    · have hst' : (storeCells ⟨g, pre.length + xs.length * K.sz, none⟩ (K.row ys)).run P w = .ok () (w.setRow g (pre ++ K.row (xs ++ ys) ++ post.drop (ys.length * K.sz)).toArray) := by
        rw [← hlen, hst, K.row_append, K.row_length]; simp only [List.append_assoc]
      have hle' : xs.length + ys.length ≤ c := hle
      simp [Builtin.append_, run_underlying ht, sizeOf, typeInfo, hi, hsz, Builtin.lenOf, hle', hf, Addr.add_lit, hst']
    · rw [List.length_drop, List.length_append]
      have : (c - (xs.length + ys.length)) * K.sz = (c - xs.length) * K.sz - ys.length * K.sz := by rw [← Nat.sub_mul]; congr 1; omega
      omega

theorem append_grow {t ty : TypeId} {A B : Option Addr} {xs ys : List α} {c cb : Nat} {L Lr : List Chunk} {i : TypeInfo} {z : Value} (own : Own E K A xs c L) (hr : Rd K B ys cb Lr) (ht : P.underlying t = some (.slice E)) (hi : P.info? E = some i) (hsz : i.size = K.sz) (hz : i.zero = some z) (hzs : z.cells.size = K.sz)
    (hby : (xs.length + ys.length) * i.bytes ≤ 140737488355328) (h63 : xs.length + ys.length ≤ 9223372036854775807) {k kb : Nat} (hk : S[k]? = some L) (hkb : S[kb]? = some Lr) (hgt : c < xs.length + ys.length) {w : World} (hw : St x S w) :
    ∃ A' c' w' L', (Builtin.append_ #[t, t] ty #[.slice A xs.length c, .slice B ys.length cb]).run P w = .ok (.slice A' (xs ++ ys).length c') w' ∧ Own E K A' (xs ++ ys) c' L' ∧ St x (S.set k L') w' := by
  have hkl : k < S.length := (List.getElem?_eq_some_iff.1 hk).1
  have hxc : xs.length ≤ c := own.rd.1
  have hge := grownCap_ge w (xs.length + ys.length) c E
  -- the new cells
  have news : ∃ a, B = some a ∧ ∀ j v, (K.row ys)[j]? = some v → w.cell? (a.add j) = some v := by
    rcases hr.2 with rfl | ⟨b, off, cs, E', fr, rfl, hm, hc⟩
    · simp at hgt; omega
    · refine ⟨_, rfl, fun j v hj => ?_⟩
      have hlt : j < ys.length * K.sz := by rw [← K.row_length]; exact (List.getElem?_eq_some_iff.1 hj).1
      have hb := hw.at kb hkb _ hm
      rw [add_lit]
      simp only [World.cell?, hb]
      simpa using (hc j hlt).trans hj
  obtain ⟨a, rfl, hnews⟩ := news
  have fin : ∀ cap, (xs.length + ys.length) ≤ cap → ∀ cells : Array Value, cells = (K.row xs).toArray ++ (K.row ys).toArray ++ Builtin.zeroCells z.cells (cap - (xs.length + ys.length)) →
      ∃ L', Own E K (some ⟨w.heap.size, 0, none⟩) (xs ++ ys) cap L' ∧ St x (S.set k L') (w.drew.alloc (.cells cells E)) := by
    intro cap hcap cells hcells
    obtain ⟨zs, hzs1, hzs2⟩ := zeroCells_eq z.cells (cap - (xs.length + ys.length))
    refine ⟨[(w.heap.size, .cells cells E (0, 0))], .inr ⟨w.heap.size, [], zs, rfl, ?_, by rw [List.length_append]; exact hcap, by rw [hzs2, hzs, List.length_append]; exact Nat.le_refl _⟩, St.replace ((hw.drew).new _) hkl⟩
    rw [hcells, hzs1, K.row_append]
    simp
  by_cases hc0 : A = none
  · subst hc0
    rcases own with ⟨_, rfl, rfl, rfl⟩ | ⟨g, pre, post, h, _⟩
    · have hr' := run_append_nil (P := P) w t ty E i z ht hi hz a ys.length cb (K.row ys) (by rw [K.row_length, hsz]) hnews (by simpa using hgt) (by simp at h63; omega) (by simp only [List.length_nil, Nat.zero_add] at hby; omega)
      obtain ⟨L', h1, h2⟩ := fin (grownCap w ys.length 0 E) (by simpa using hge) _ rfl
      refine ⟨_, _, _, L', ?_, h1, h2⟩
      simp only [List.nil_append, List.length_nil, Nat.zero_add] at hr' ⊢
      rw [hr']
      simp [K.row_nil]
    · cases h
  · rcases own with ⟨rfl, _⟩ | ⟨g, pre, post, rfl, rfl, h1, h2⟩
    · exact absurd rfl hc0
    · have hb : w.heap[g]? = some (.cells (pre ++ K.row xs ++ post).toArray E (0, 0)) := hw.at k hk (g, _) (by simp)
      have holds : ∀ j v, (K.row xs)[j]? = some v → w.cell? ((⟨g, pre.length, none⟩ : Addr).add j) = some v := by
        intro j v hj
        have hlt : j < (K.row xs).length := (List.getElem?_eq_some_iff.1 hj).1
        rw [add_lit]
        simp only [World.cell?, hb, List.getElem?_toArray]
        rw [List.append_assoc, List.getElem?_append_right (by omega), Nat.add_sub_cancel_left, List.getElem?_append_left hlt, hj]
        rfl
      have hr' := run_append_grow (P := P) w t ty E i z ht hi hz ⟨g, pre.length, none⟩ xs.length c (K.row xs) (by rw [K.row_length, hsz]) holds a ys.length cb (K.row ys) (by rw [K.row_length, hsz]) hnews hgt (by omega) (growslice_fits hgt hby)
      obtain ⟨L', h3, h4⟩ := fin (grownCap w (xs.length + ys.length) c E) hge _ rfl
      exact ⟨_, _, _, L', by rw [hr', List.length_append], h3, h4⟩

/-- append(s, t...), both slices -/
theorem tl_append {t : TypeId} {X V : Operand} {A B : Option Addr} {xs ys : List α} {c cb : Nat} {L Lr : List Chunk} {i : TypeInfo} {z : Value} (stp : Step P ops ⟨dst, .call { callee := .builtin .append, args := #[X, V], argTypes := #[t, t] }, ty, pos, af, gd⟩ K₁ K₀) (k kb : Nat) (own : Own E K A xs c L) (hr : Rd K B ys cb Lr) (hX : ev l X = some (.slice A xs.length c)) (hV : ev l V = some (.slice B ys.length cb)) (ht : P.underlying t = some (.slice E)) (hi : P.info? E = some i) (hsz : i.size = K.sz) (hz : i.zero = some z) (hzs : z.cells.size = K.sz)
    (hk : S[k]? = some L) (hkb : S[kb]? = some Lr) {by_ : Nat} (hbb : i.bytes = by_) (hby : (xs.length + ys.length) * by_ ≤ 140737488355328) (h63 : xs.length + ys.length ≤ 9223372036854775807) (hd : okw ops l ⟨dst, .call { callee := .builtin .append, args := #[X, V], argTypes := #[t, t] }, ty, pos, af, gd⟩ n = some (true, d))
    (kk : ∀ A' c' L', Own E K A' (xs ++ ys) c' L' → c ≤ c' → TG K₁ n ((d, .slice A' (xs ++ ys).length c') :: l) (St x (S.set k L'))) :
    TG K₀ n l (St x S) := by
  subst hbb
  refine tl_eff (C' := fun v w => ∃ A' c' L', v = .slice A' (xs ++ ys).length c' ∧ Own E K A' (xs ++ ys) c' L' ∧ c ≤ c' ∧ St x (S.set k L') w) stp hd (fun a w ha hw => ?_) (fun v => tl_ex fun A' => tl_ex fun c' => tl_ex fun L' => tl_pure fun e => tl_pure fun h => tl_pure fun hc => tl_val e (kk A' c' L' h hc))
  by_cases hle : xs.length + ys.length ≤ c
  · obtain ⟨w', L', h1, h2, h3⟩ := append_room (P := P) (ty := ty) own hr ht hi hsz hk hkb hle hw
    exact ⟨_, w', by simp [execOp, resolve, invoke, builtin, ha.ev hX, ha.ev hV, h1], A, c, L', rfl, h2, Nat.le_refl _, h3⟩
  · obtain ⟨A', c', w', L', h1, h2, h3⟩ := append_grow (P := P) (ty := ty) own hr ht hi hsz hz hzs hby h63 hk hkb (by omega) hw
    exact ⟨_, w', by simp [execOp, resolve, invoke, builtin, ha.ev hX, ha.ev hV, h1], A', c', L', rfl, h2, by have := h2.rd.1; rw [List.length_append] at this; omega, h3⟩

/-- make([]T, m) and make([]T, m, c) -/
theorem tl_make {t : TypeId} {X V : Operand} {i : TypeInfo} {z : Value} (stp : Step P ops ⟨dst, .makeSlice t X V, ty, pos, af, gd⟩ K₁ K₀) (y : α) {k1 k2 : IntKind} {m c : Int} (hX : ev l X = some (.int k1 m)) (hV : ev l V = some (.int k2 c)) (ht : P.underlying t = some (.slice E)) (hi : P.info? E = some i) (hsz : i.size = K.sz) (hz : i.zero = some z) (hy : z.cells = (K.enc y).toArray)
    (hpos : Nat.ble 1 K.sz = true) (hm : 0 ≤ m ∧ m ≤ c) {by_ : Nat} (hbb : i.bytes = by_) (hc : c * by_ ≤ 281474976710656 ∧ c ≤ 9223372036854775807) (hd : okw ops l ⟨dst, .makeSlice t X V, ty, pos, af, gd⟩ n = some (true, d))
    (kk : ∀ A L, Own E K A (List.replicate m.toNat y) c.toNat L → TG K₁ n ((d, .slice A (List.replicate m.toNat y).length c.toNat) :: l) (St x (L :: S))) :
    TG K₀ n l (St x S) := by
  subst hbb
  have hp := Nat.le_of_ble_eq_true hpos
  have hwm : IntKind.i64.wrap m = m := IntWalk.i64_in _ (by omega)
  have hwc : IntKind.i64.wrap c = c := IntWalk.i64_in _ (by omega)
  have hrow : ∀ q : Nat, ((Array.range (q * K.sz)).map fun (j : Nat) => z.cells[j % z.cells.size]!) = (K.row (List.replicate q y)).toArray := by
    intro q
    apply Array.ext'
    simp only [Array.toList_map, Array.toList_range]
    induction q with
    | zero => simp [Kd.row]
    | succ q ih =>
      rw [Nat.succ_mul, List.range_add, List.map_append, ih, List.replicate_succ', K.row_append]
      simp only [K.row_cons, K.row_nil, List.append_nil, List.map_map]
      congr 1
      apply List.ext_getElem?
      intro j
      rw [List.getElem?_map]
      have hl := K.len y
      by_cases hj : j < K.sz
      · rw [List.getElem?_range hj, List.getElem?_eq_getElem (by rw [hl]; exact hj)]
        simp only [Option.map_some, Function.comp_apply, hy, List.size_toArray, hl]
        rw [Nat.mul_comm, Nat.mul_add_mod, Nat.mod_eq_of_lt hj]
        simp [hl, hj]
      · rw [List.getElem?_eq_none (by simp; omega), List.getElem?_eq_none (by rw [hl]; omega)]; rfl
  refine tl_eff (C' := fun v w => ∃ A L, v = .slice A (List.replicate m.toNat y).length c.toNat ∧ Own E K A (List.replicate m.toNat y) c.toNat L ∧ St x (L :: S) w) stp hd (fun a w ha hw => ?_) (fun v => tl_ex fun A => tl_ex fun L => tl_pure fun e => tl_pure fun h => tl_val e (kk A L h))
  have hsplit : List.replicate c.toNat y = List.replicate m.toNat y ++ List.replicate (c.toNat - m.toNat) y := by rw [List.replicate_append_replicate]; congr 1; omega
  refine ⟨.slice (some ⟨w.heap.size, 0, none⟩) m.toNat c.toNat, _, ?_, some ⟨w.heap.size, 0, none⟩, _, by rw [List.length_replicate], .inr ⟨w.heap.size, [], K.row (List.replicate (c.toNat - m.toNat) y), rfl, rfl, by rw [List.length_replicate]; omega, by rw [K.row_length, List.length_replicate, List.length_replicate]; exact Nat.le_refl _⟩, hw.new _⟩
  have h1 : ¬ (c < 0) := by omega
  have h2 : ¬ (281474976710656 < (i.bytes : Int) * c) := by rw [Int.mul_comm]; omega
  have h3 : ¬ (m < 0) := by omega
  have h4 : ¬ (c < m) := by omega
  have hcells : ([] ++ K.row (List.replicate m.toNat y) ++ K.row (List.replicate (c.toNat - m.toNat) y)).toArray = (K.row (List.replicate c.toNat y)).toArray := by rw [List.nil_append, ← K.row_append, ← hsplit]
  rw [hcells, ← hrow]
  simp only [execOp, Instr.makeSlice, Sem.run_bind, run_underlying ht, Result.andThen_ok, ha.ev hX, ha.ev hV, asInt, asIntOf, Sem.run_pure, typeInfo, run_program, hi, hwm, hwc]
  by_cases h0 : c.toNat * K.sz = 0
  · simp [h1, h2, h3, h4, sizeOf, typeInfo, hi, hsz, h0, newRow, show Array.range 0 = #[] from rfl]
  · simp [h1, h2, h3, h4, sizeOf, typeInfo, hi, hsz, h0, newRow, zeroValue, hz]
end

/-! ### Structs and fields -/

def fieldB (P : Program) (s : TypeId) (f : Nat) : Option (Nat × TypeId) :=
  match P.underlying s with
  | some (.struct fs) => (fs[f]?).map fun f => (f.offset, f.type)
  | _ => none

theorem run_fieldAt {s : TypeId} {f o : Nat} {t : TypeId} {sz : Nat} (h : fieldB P s f = some (o, t)) (hz : sizeB P t = some (sz + 1)) (a : Addr) (w : World) : (Instr.fieldAt s (.pointer (some a)) f).run P w = .ok (.pointer (some (a.add o))) w := by
  unfold fieldB at h
  split at h
  · rename_i fs hu
    cases hf : fs[f]? with
    | none => simp [hf] at h
    | some fd =>
      simp [hf] at h
      obtain ⟨h1, h2⟩ := h
      subst h1; subst h2
      simp [Instr.fieldAt, run_underlying hu, hf, Instr.sureAddr, fieldPlace, run_sizeOf hz]
  · cases h

/-- the address of a field in a block -/
theorem y_fa {s : TypeId} {X : Operand} {f b off o sz : Nat} {t : TypeId} (hx : ev l X = some (.pointer (some ⟨b, off, none⟩))) (h : fieldB P s f = some (o, t)) (hz : sizeB P t = some (sz + 1)) : Y P n l C ⟨dst, .fieldAddr s X f, ty, pos, af, gd⟩ (.pointer (some ⟨b, off + o, none⟩)) :=
  y_of fun a w ha _ => by simp [execOp, ha.ev hx, run_fieldAt h hz, add_lit]
/-- of an element -/
theorem y_fae {s : TypeId} {X : Operand} {f o sz q : Nat} {A : Option Addr} {i : Int} {t : TypeId} (hx : ev l X = some (.pointer (some (slp A i q)))) (h : fieldB P s f = some (o, t)) (hz : sizeB P t = some (sz + 1)) : Y P n l C ⟨dst, .fieldAddr s X f, ty, pos, af, gd⟩ (.pointer (some ((slp A i q).add o))) :=
  y_of fun a w ha _ => by simp [execOp, ha.ev hx, run_fieldAt h hz]
theorem add_add (a : Addr) (i j : Nat) : (a.add i).add j = a.add (i + j) := by
  unfold Addr.add
  by_cases hi : i = 0
  · simp [hi]
  · by_cases hj : j = 0
    · simp [hi, hj]
    · simp [hi, hj, Nat.add_assoc]
theorem y_faf {s : TypeId} {X : Operand} {f o sz q p : Nat} {A : Option Addr} {i : Int} {t : TypeId} (hx : ev l X = some (.pointer (some ((slp A i q).add p)))) (h : fieldB P s f = some (o, t)) (hz : sizeB P t = some (sz + 1)) : Y P n l C ⟨dst, .fieldAddr s X f, ty, pos, af, gd⟩ (.pointer (some ((slp A i q).add (p + o)))) :=
  y_of fun a w ha _ => by simp [execOp, ha.ev hx, run_fieldAt h hz, add_add]

/-- a field of a value, of one cell -/
theorem y_field {s : TypeId} {X : Operand} {f o : Nat} {t : TypeId} {cs : List Value} {v : Value} (hx : ev l X = some (.agg cs.toArray)) (h : fieldB P s f = some (o, t)) (ht : aggB P t = some false) (hv : cs[o]? = some v) : Y P n l C ⟨dst, .field s X f, ty, pos, af, gd⟩ v := y_of fun a w ha _ => by
  unfold fieldB at h
  split at h
  · rename_i fs hu
    cases hf : fs[f]? with
    | none => simp [hf] at h
    | some fd =>
      simp [hf] at h
      obtain ⟨h1, h2⟩ := h
      subst h1; subst h2
      simp [execOp, ha.ev hx, Instr.field, run_underlying hu, hf, part, run_isAgg ht, asAgg, hv]
  · cases h
/-- of several cells -/
theorem y_fields {s : TypeId} {X : Operand} {f o : Nat} {t : TypeId} {cs vs : List Value} (hx : ev l X = some (.agg cs.toArray)) (h : fieldB P s f = some (o, t)) (ht : aggB P t = some true) (hz : sizeB P t = some vs.length) (hv : (cs.drop o).take vs.length = vs) : Y P n l C ⟨dst, .field s X f, ty, pos, af, gd⟩ (.agg vs.toArray) := y_of fun a w ha _ => by
  unfold fieldB at h
  split at h
  · rename_i fs hu
    cases hf : fs[f]? with
    | none => simp [hf] at h
    | some fd =>
      simp [hf] at h
      obtain ⟨h1, h2⟩ := h
      subst h1; subst h2
      have e : cs.toArray.extract fd.offset (fd.offset + vs.length) = vs.toArray := by
        apply Array.ext'
        simp only [Array.toList_extract, List.extract_eq_take_drop]
        rw [show fd.offset + vs.length - fd.offset = vs.length by omega, hv]
      simp [execOp, ha.ev hx, Instr.field, run_underlying hu, hf, part, run_isAgg ht, run_sizeOf hz, asAgg, e]
      exact hv
  · cases h

/-- parts put together, by reckoning -/
def buildB (P : Program) (t : TypeId) (parts : List (Nat × Value)) : Option (Array Value) := P.built t parts
theorem y_build {t : TypeId} {ps : List (Nat × Operand)} {is : List Nat} {xs : List Operand} {vs cs : List Value} (hp : ps = is.zip xs) (hx : evs l xs = some vs) (hb : P.built t (is.zip vs) = some cs.toArray) : Y P n l C ⟨dst, .build t ps.toArray, ty, pos, af, gd⟩ (.agg cs.toArray) := y_of fun a w ha _ => by
  have e : (ps.toArray.map fun p => (p.1, a.eval p.2)).toList = is.zip vs := by
    subst hp
    have := ha.evs hx
    rw [← this, List.map_toArray]
    show ((is.zip xs).map fun p => (p.1, a.eval p.2)) = is.zip (xs.map a.eval)
    rw [List.zip_map_right]
    rfl
  have h := run_build (P := P) w t (ps.toArray.map fun p => (p.1, a.eval p.2)) cs.toArray (by rw [e]; exact hb)
  simp only [execOp, Sem.run_bind, h, Result.andThen_ok, Sem.run_pure]
end
end Go.Proofs.Ytcmgpofcdjejnaa
