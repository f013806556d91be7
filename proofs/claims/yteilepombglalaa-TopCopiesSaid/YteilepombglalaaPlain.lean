/-
  Parallel assignments made sequential, told plainly; and how copies lie in memory.
-/
import Derived.Test.YteilepombglalaaArgs
set_option linter.unusedVariables false
namespace Go.Proofs.Yteilepombglalaa
open Go

/-- a pair of two integers -/
def kP : Kd (Int × Int) := ⟨fun p => [.int .i64 p.1, .int .i64 p.2], 2, fun _ => rfl, by intro a v h; simp at h; rcases h with rfl | rfl <;> rfl⟩
/-- a copy: where to, where from, and where its list of sources lies -/
structure Mv where
  d : Int
  s : Int
  A : Option Addr
instance : Inhabited Mv := ⟨⟨0, 0, none⟩⟩
def Mv.p (m : Mv) : Int × Int := (m.d, m.s)
def kM : Kd Mv := ⟨fun m => [.int .i64 4, .int .i64 0, .int .i64 m.d, .slice m.A 1 1, .int .i64 0, .int .i64 0, .int .i64 0, .bool false], 8, fun _ => rfl, by intro a v h; simp at h; rcases h with rfl | rfl | rfl | rfl | rfl | rfl <;> rfl⟩

theorem same_T {a b : Mv} (h : a.d = b.d) : Value.bool (decide ([a.s] = [b.s])) = Value.bool (decide (a.p = b.p)) := bool_iff (by simp [Mv.p, h])
theorem same_F {a b : Mv} (h : ¬ a.d = b.d) : Value.bool false = Value.bool (decide (a.p = b.p)) := by rw [decide_eq_false (fun e => h (congrArg Prod.fst e))]

/-! ### What the copies are -/
/-- whose target nobody reads -/
def Free (l : List (Int × Int)) (p : Int × Int) : Prop := ∀ q ∈ l, q.2 ≠ p.1
instance (l : List (Int × Int)) (p : Int × Int) : Decidable (Free l p) := by unfold Free; infer_instance
def freeIx (l : List (Int × Int)) : Option Nat := l.findIdx? fun p => decide (Free l p)
def remap (t a : Int) (l : List (Int × Int)) : List (Int × Int) := l.map fun q => if q.2 = a then (q.1, t) else q
def sq : Nat → List (Int × Int) → Int → List (Int × Int)
  | 0, _, _ => []
  | f + 1, l, t => if l = [] then [] else match freeIx l with
    | some i => gt l i :: sq f (l.eraseIdx i) t
    | none => (t, (gt l 0).1) :: sq f (remap t (gt l 0).1 l) t
/-- rounds enough -/
def mz (l : List (Int × Int)) : Nat := 2 * l.length + (if l ≠ [] ∧ freeIx l = none then 1 else 0)
def seqz (ds ss : List Int) (t : Int) : List (Int × Int) :=
  if ds.length = ss.length ∧ ds.Nodup ∧ t ∉ ds ∧ t ∉ ss then sq (2 * ds.length + 1) ((ds.zip ss).filter fun p => decide (p.2 ≠ p.1)) t else []

theorem sq_nil {f : Nat} {t : Int} : sq f [] t = [] := by cases f <;> simp [sq]
theorem sq_free {f : Nat} {l : List (Int × Int)} {t : Int} {i : Nat} (hf : 0 < f) (hl : l ≠ []) (h : freeIx l = some i) : sq f l t = gt l i :: sq (f - 1) (l.eraseIdx i) t := by
  obtain ⟨f, rfl⟩ : ∃ m, f = m + 1 := ⟨f - 1, by omega⟩
  simp [sq, hl, h]
theorem sq_none {f : Nat} {l : List (Int × Int)} {t : Int} (hf : 0 < f) (hl : l ≠ []) (h : freeIx l = none) : sq f l t = (t, (gt l 0).1) :: sq (f - 1) (remap t (gt l 0).1 l) t := by
  obtain ⟨f, rfl⟩ : ∃ m, f = m + 1 := ⟨f - 1, by omega⟩
  simp [sq, hl, h]

theorem freeIx_some {l : List (Int × Int)} {k : Int} (hk : 0 ≤ k ∧ k < l.length) (h : ∀ q : Int, 0 ≤ q ∧ q < k → ¬ Free l (gt l q)) (hf : Free l (gt l k)) : freeIx l = some k.toNat := by
  unfold freeIx
  rw [List.findIdx?_eq_some_iff_getElem]
  refine ⟨by omega, ?_, fun j hj => ?_⟩
  · have := gt_eq (xs := l) hk
    rw [← this]; exact decide_eq_true hf
  · have := h j (by omega)
    rw [gt_eq (by omega)] at this
    simpa using this
theorem freeIx_none {l : List (Int × Int)} (h : ∀ q : Int, 0 ≤ q ∧ q < l.length → ¬ Free l (gt l q)) : freeIx l = none := by
  unfold freeIx
  rw [List.findIdx?_eq_none_iff]
  intro p hp
  obtain ⟨q, h1, h2, rfl⟩ := gt_of_mem hp
  simpa using h q ⟨h1, h2⟩
theorem freeIx_lt {l : List (Int × Int)} {i : Nat} (h : freeIx l = some i) : i < l.length := by
  unfold freeIx at h
  rw [List.findIdx?_eq_some_iff_getElem] at h
  exact h.1
theorem free_not {l : List (Int × Int)} {p : Int × Int} (h : Free l p) (h2 : ∃ a ∈ l, decide (a.2 = p.1) = true) : False := by
  obtain ⟨a, ha, he⟩ := h2
  exact h a ha (of_decide_eq_true he)
theorem free_of {l : List (Int × Int)} {p : Int × Int} (h : ¬ ∃ a ∈ l, decide (a.2 = p.1) = true) : Free l p := fun a ha he => h ⟨a, ha, decide_eq_true he⟩
theorem remap_step_T {l ys : List (Int × Int)} {k t a : Int} (hk : 0 ≤ k ∧ k < l.length) (hl : ys.length = l.length) (h1 : ∀ q : Int, 0 ≤ q ∧ q < k → gt ys q = (if (gt l q).2 = a then ((gt l q).1, t) else gt l q)) (h2 : gt ys k = gt l k) (h : (gt ys k).2 = a) :
    ∀ q : Int, 0 ≤ q ∧ q < k + 1 → gt (st ys k ((gt ys k).1, t)) q = (if (gt l q).2 = a then ((gt l q).1, t) else gt l q) := by
  intro q hq
  rw [gt_st (by omega) hq.1]
  by_cases e : q = k
  · subst e; rw [h2] at h; simp [h, h2]
  · rw [if_neg e]; exact h1 q (by omega)
theorem remap_step_F {l ys : List (Int × Int)} {k t a : Int} (hk : 0 ≤ k ∧ k < l.length) (hl : ys.length = l.length) (h1 : ∀ q : Int, 0 ≤ q ∧ q < k → gt ys q = (if (gt l q).2 = a then ((gt l q).1, t) else gt l q)) (h2 : gt ys k = gt l k) (h : ¬ (gt ys k).2 = a) :
    ∀ q : Int, 0 ≤ q ∧ q < k + 1 → gt ys q = (if (gt l q).2 = a then ((gt l q).1, t) else gt l q) := by
  intro q hq
  by_cases e : q = k
  · subst e; rw [h2] at h; rw [if_neg h, h2]
  · exact h1 q (by omega)
theorem remap_done {l ys : List (Int × Int)} {k t : Int} (hk : k = l.length) (hl : ys.length = l.length) (h1 : ∀ q : Int, 0 ≤ q ∧ q < k → gt ys q = (if (gt l q).2 = (gt l 0).1 then ((gt l q).1, t) else gt l q)) : ys = remap t (gt l 0).1 l :=
  eq_of_gt (by rw [hl]; simp [remap]) (fun q hq => by rw [h1 q (by omega), remap, gt_map (by omega)])
theorem any_step_T {l : List (Int × Int)} {m a : Int} {u : Bool} (hm : 0 ≤ m ∧ m < l.length) (hu : u = (l.take m.toNat).any (fun q => decide (q.2 = a))) (h : u = true) : true = (l.take (m + 1).toNat).any (fun q => decide (q.2 = a)) := by
  rw [take_gt hm, List.any_append, ← hu, h]; rfl
theorem any_step_F {l : List (Int × Int)} {m a : Int} {u : Bool} (hm : 0 ≤ m ∧ m < l.length) (hu : u = (l.take m.toNat).any (fun q => decide (q.2 = a))) (h : u = false) : decide ((gt l m).2 = a) = (l.take (m + 1).toNat).any (fun q => decide (q.2 = a)) := by
  rw [take_gt hm, List.any_append, ← hu, h]; simp
theorem free_any {l : List (Int × Int)} {m : Int} {p : Int × Int} (hm : l.length ≤ m) (h : (l.take m.toNat).any (fun q => decide (q.2 = p.1)) = false) : Free l p := by
  rw [take_self (by omega)] at h
  intro q hq
  have := List.any_eq_false.1 h q hq
  simpa using this
theorem not_free_any {l : List (Int × Int)} {m : Int} {p : Int × Int} (hm : l.length ≤ m) (h : (l.take m.toNat).any (fun q => decide (q.2 = p.1)) = true) : ¬ Free l p := by
  rw [take_self (by omega)] at h
  obtain ⟨q, hq, he⟩ := List.any_eq_true.1 h
  exact fun hf => hf q hq (of_decide_eq_true he)
theorem count_notin {xs : List Int} {k : Int} (hk : 0 ≤ k ∧ k < xs.length) (h : List.count (gt xs k) xs ≤ 1) : gt xs k ∉ xs.take k.toNat := by
  intro hm
  have h1 : xs.take (k + 1).toNat = xs.take k.toNat ++ [gt xs k] := take_gt hk
  have h2 : List.count (gt xs k) (xs.take (k + 1).toNat) ≤ List.count (gt xs k) xs := (List.take_sublist _ _).count_le _
  rw [h1, List.count_append] at h2
  have h3 := List.count_pos_iff.2 hm
  simp at h2
  omega
theorem seq_no_T {ds ss : List Int} {t : Int} (h : ds.length = ss.length ∧ ds.Nodup ∧ t ∉ ds ∧ t ∉ ss) (h2 : ds.length ≠ ss.length ∨ 0 < List.count t ds + List.count t ss) : False := by
  rcases h2 with h2 | h2
  · exact h2 h.1
  · rw [List.count_eq_zero.2 h.2.2.1, List.count_eq_zero.2 h.2.2.2] at h2; omega
theorem remap_length {t a : Int} {l : List (Int × Int)} : (remap t a l).length = l.length := by simp [remap]
theorem remap_free {t : Int} {l : List (Int × Int)} (hl : l ≠ []) (ht : ∀ q ∈ l, q.1 ≠ t) : freeIx (remap t (gt l 0).1 l) ≠ none := by
  intro h
  unfold freeIx at h
  rw [List.findIdx?_eq_none_iff] at h
  have hlen : 0 < l.length := List.length_pos_iff.2 hl
  have h0 : gt l 0 ∈ l := mem_gt (by omega)
  have hm : (fun q : Int × Int => if q.2 = (gt l 0).1 then (q.1, t) else q) (gt l 0) ∈ remap t (gt l 0).1 l := List.mem_map_of_mem h0
  have := h _ hm
  simp only [decide_eq_false_iff_not] at this
  apply this
  intro q hq
  obtain ⟨q', hq', rfl⟩ := List.mem_map.1 hq
  have h1 : (if (gt l 0).2 = (gt l 0).1 then ((gt l 0).1, t) else gt l 0).1 = (gt l 0).1 := by split <;> rfl
  rw [h1]
  split
  · exact fun e => ht _ h0 e.symm
  · assumption
theorem mz_free {l : List (Int × Int)} {i f : Nat} (h : freeIx l = some i) (hm : mz l ≤ f) : mz (l.eraseIdx i) ≤ f - 1 := by
  have hi := freeIx_lt h
  unfold mz at hm ⊢
  rw [List.length_eraseIdx_of_lt hi]
  simp only [h, reduceCtorEq, and_false, if_false] at hm
  split <;> omega
theorem mz_none {l : List (Int × Int)} {t : Int} {f : Nat} (hl : l ≠ []) (ht : ∀ q ∈ l, q.1 ≠ t) (h : freeIx l = none) (hm : mz l ≤ f) : mz (remap t (gt l 0).1 l) ≤ f - 1 := by
  have h1 := remap_free hl ht
  unfold mz at hm ⊢
  rw [remap_length]
  simp only [h, ne_eq, hl, not_false_eq_true, and_self, if_true] at hm
  simp only [h1, and_false, if_false]
  omega
theorem mz_le {l : List (Int × Int)} : mz l ≤ 2 * l.length + 1 := by unfold mz; split <;> omega
theorem mz_pos {l : List (Int × Int)} {f : Nat} (hl : l ≠ []) (h : mz l ≤ f) : 0 < f := by
  have := List.length_pos_iff.2 hl
  unfold mz at h; omega
theorem remap_fst {t a : Int} {l : List (Int × Int)} (ht : ∀ q ∈ l, q.1 ≠ t) : ∀ q ∈ remap t a l, q.1 ≠ t := by
  intro q hq
  obtain ⟨q', hq', rfl⟩ := List.mem_map.1 hq
  have := ht q' hq'
  split <;> simpa using this
theorem sq_length : ∀ (f : Nat) (l : List (Int × Int)) (t : Int), (sq f l t).length ≤ f
  | 0, _, _ => by simp [sq]
  | f + 1, l, t => by
    unfold sq
    split
    · simp
    · split
      · have := sq_length f (l.eraseIdx (by assumption)) t; simp only [List.length_cons]; omega
      · have := sq_length f (remap t (gt l 0).1 l) t; simp only [List.length_cons]; omega
section
variable {α : Type} [Inhabited α] {p : α → Bool} {xs ys : List α} {k j r : Int}
omit [Inhabited α] in
theorem take_all {m : Nat} (hl : ys.length = xs.length) (hm : xs.length ≤ m) : (ys.take m = xs.take m) = (ys = xs) := by
  rw [List.take_of_length_le (by omega), List.take_of_length_le hm]
theorem first_kept (h : 0 ≤ r ∧ r < xs.length ∧ p (gt xs r) = true ∧ ∀ q : Int, 0 ≤ q ∧ q < r → p (gt xs q) = false) : xs.take r.toNat = (xs.take (r + 1).toNat).filter (fun a => !p a) := by
  obtain ⟨h1, h2, h3, h4⟩ := h
  rw [take_gt ⟨h1, h2⟩, List.filter_append, List.filter_eq_self.2 (fun a ha => ?_)]
  · simp [h3]
  · obtain ⟨q, h5, h6, rfl⟩ := gt_of_mem ha
    have h7 : q < r := by rw [List.length_take] at h6; omega
    rw [gt_take ⟨h5, by omega⟩, h4 q ⟨h5, h7⟩]; rfl
theorem keep_none (hj : 0 ≤ j ∧ j < xs.length) (hf : ys.take k.toNat = (xs.take j.toNat).filter (fun a => !p a)) (he : gt ys j = gt xs j) (hp : p (gt ys j) = true) : ys.take k.toNat = (xs.take (j + 1).toNat).filter (fun a => !p a) := by
  rw [take_gt hj, List.filter_append, ← hf, ← he]; simp [hp]
theorem keep_one (hj : 0 ≤ j ∧ j < xs.length) (hk : 0 ≤ k ∧ k < j) (hl : ys.length = xs.length) (hf : ys.take k.toNat = (xs.take j.toNat).filter (fun a => !p a)) (he : gt ys j = gt xs j) (hp : p (gt ys j) = false) : (st ys k (gt ys j)).take (k + 1).toNat = (xs.take (j + 1).toNat).filter (fun a => !p a) := by
  have h1 : (st ys k (gt ys j)).take (k + 1).toNat = ys.take k.toNat ++ [gt ys j] := by
    rw [take_gt (by rw [st_length]; omega), gt_st (by omega) (by omega), if_pos rfl]
    congr 1
    unfold st
    rw [List.take_set_of_le (Nat.le_refl _)]
  rw [h1, take_gt hj, List.filter_append, ← hf, ← he]; simp [hp]
end
theorem erase_take_drop {l : List (Int × Int)} {k : Int} (hk : 0 ≤ k) : l.eraseIdx k.toNat = l.take k.toNat ++ l.drop (k + 1).toNat := by
  rw [List.eraseIdx_eq_take_drop_succ, show (k + 1).toNat = k.toNat + 1 by omega]
theorem seqz_neg {ds ss : List Int} {t : Int} (h : ¬ (ds.length = ss.length ∧ ds.Nodup ∧ t ∉ ds ∧ t ∉ ss)) : [] = seqz ds ss t := by unfold seqz; rw [if_neg h]
theorem seqz_pos {ds ss : List Int} {t : Int} (h : ds.length = ss.length ∧ ds.Nodup ∧ t ∉ ds ∧ t ∉ ss) : seqz ds ss t = sq (2 * ds.length + 1) ((ds.zip ss).filter fun p => decide (p.2 ≠ p.1)) t := by unfold seqz; rw [if_pos h]
theorem filter_ne (l : List (Int × Int)) : l.filter (fun p => !decide (p.2 = p.1)) = l.filter (fun p => decide (p.2 ≠ p.1)) := by congr 1; funext p; simp
theorem seqz_length {ds ss : List Int} {t : Int} : (seqz ds ss t).length ≤ 2 * ds.length + 1 := by
  unfold seqz
  split
  · exact sq_length _ _ _
  · simp
end Go.Proofs.Yteilepombglalaa
