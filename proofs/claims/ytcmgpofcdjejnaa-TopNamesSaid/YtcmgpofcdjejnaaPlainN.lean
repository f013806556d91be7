/-
  A table that numbers byte strings, told plainly.
-/
import Derived.Test.YtcmgpofcdjejnaaArgs
set_option linter.unusedVariables false
namespace Go.Proofs.Ytcmgpofcdjejnaa
open Go

/-- the table's parts: its map, its row of keys, and what they say -/
structure Tab (m : Nat) (f : ByteArray → Option Int) (A : Option Addr) (rs : List (Row Int)) (c : Nat) (M K LL : List Chunk) (all : List ByteArray) : Prop where
  map : OwnM yS (Value.int .i64) m f M
  own : Own 26 (kR Int) A rs c K
  len : rs.length = all.length
  row : ∀ r ∈ rs, Rd (kI .u8) r.A r.xs r.c LL ∧ (∀ n ∈ r.xs, isByte n) ∧ r.xs.length ≤ 6
  key : ∀ i : Int, 0 ≤ i ∧ i < all.length → bs (gt rs i).xs = gt all i
  at_ : ∀ b i, f b = some i ↔ 0 ≤ i ∧ i < all.length ∧ gt all i = b
  few : all.length ≤ 40

theorem Tab.add {m : Nat} {f : ByteArray → Option Int} {A A' : Option Addr} {rs : List (Row Int)} {c c' : Nat} {M K LL M' K' L' : List Chunk} {all : List ByteArray} (T : Tab m f A rs c M K LL all) {r : Row Int} {b : ByteArray}
    (hQ : OwnM yS (Value.int .i64) m (upd f b (all.length : Int)) M') (hO : Own 26 (kR Int) A' (rs ++ [r]) c' K') (hr : Rd (kI .u8) r.A r.xs r.c L') (hb : ∀ n ∈ r.xs, isByte n) (hl : r.xs.length ≤ 6) (hbs : bs r.xs = b) (hno : f b = none) (hfew : all.length < 40) :
    Tab m (upd f b (all.length : Int)) A' (rs ++ [r]) c' M' K' (L' ++ LL) (all ++ [b]) := by
  refine ⟨hQ, hO, by simp [T.len], fun q hq => ?_, fun i hi => ?_, fun q i => ?_, by simp; omega⟩
  · rcases List.mem_append.1 hq with h | h
    · obtain ⟨h1, h2⟩ := T.row q h
      exact ⟨h1.mono (fun p hp => List.mem_append_right _ hp), h2⟩
    · simp only [List.mem_singleton] at h; subst h
      exact ⟨hr.mono (fun p hp => List.mem_append_left _ hp), hb, hl⟩
  · have hlen := T.len
    simp only [List.length_append, List.length_singleton] at hi
    by_cases h : i = all.length
    · subst h
      rw [gt_app_last, show ((all.length : Nat) : Int) = (rs.length : Int) by omega, gt_app_last, hbs]
    · rw [gt_app_left (by omega), gt_app_left (by omega)]; exact T.key i (by omega)
  · have hno' : ∀ i : Int, 0 ≤ i ∧ i < all.length → gt all i ≠ b := fun i hi e => by
      have := (T.at_ b i).2 ⟨hi.1, hi.2, e⟩; rw [hno] at this; cases this
    unfold upd
    by_cases h : q = b
    · subst h
      rw [if_pos rfl]
      constructor
      · intro e
        simp only [Option.some.injEq] at e
        subst e
        exact ⟨by omega, by simp; omega, gt_app_last⟩
      · rintro ⟨h1, h2, h3⟩
        simp only [List.length_append, List.length_singleton] at h2
        by_cases hi : i = all.length
        · rw [hi]
        · rw [gt_app_left (by omega)] at h3; exact absurd h3 (hno' i (by omega))
    · rw [if_neg h, T.at_ q i]
      constructor
      · rintro ⟨h1, h2, h3⟩
        exact ⟨h1, by simp; omega, by rw [gt_app_left (by omega)]; exact h3⟩
      · rintro ⟨h1, h2, h3⟩
        simp only [List.length_append, List.length_singleton] at h2
        by_cases hi : i = all.length
        · rw [hi, gt_app_last] at h3; exact absurd h3.symm h
        · rw [gt_app_left (by omega)] at h3; exact ⟨h1, by omega, h3⟩
theorem Tab.new {m : Nat} {M : List Chunk} (hQ : OwnM yS (Value.int .i64) m (fun _ => none) M) : Tab m (fun _ => none) none [] 0 M [] [] [] :=
  ⟨hQ, Own.nil, rfl, by simp, fun i hi => absurd hi (by simp), fun b i => ⟨fun h => (by cases h), fun ⟨h1, h2, _⟩ => absurd h2 (by simp; omega)⟩, by simp⟩
def Ix (all : List ByteArray) (b : ByteArray) (r : Int) : Prop := (0 ≤ r ∧ r < all.length ∧ gt all r = b ∧ ∀ q : Int, 0 ≤ q ∧ q < r → gt all q ≠ b) ∨ (r = -1 ∧ b ∉ all)
section
variable {m : Nat} {f : ByteArray → Option Int} {A : Option Addr} {rs : List (Row Int)} {c : Nat} {M K LL : List Chunk} {all all' : List ByteArray} {b : ByteArray} {r n er lim : Int} {ad : Bool}
theorem Tab.found (T : Tab m f A rs c M K LL all) (h : Ix all b r) : f b = if 0 ≤ r then some r else none := by
  rcases h with ⟨h1, h2, h3, _⟩ | ⟨h1, h2⟩
  · rw [if_pos h1]; exact (T.at_ b r).2 ⟨h1, h2, h3⟩
  · rw [if_neg (by omega)]
    cases hf : f b with
    | none => rfl
    | some i => obtain ⟨h3, h4, h5⟩ := (T.at_ b i).1 hf; exact absurd (h5 ▸ mem_gt ⟨h3, h4⟩) h2
theorem Tab.isSome (T : Tab m f A rs c M K LL all) (h : Ix all b r) : (f b).isSome = decide (0 ≤ r) := by
  rw [T.found h]; by_cases h0 : 0 ≤ r <;> simp [h0]
theorem Tab.getD (T : Tab m f A rs c M K LL all) (h : Ix all b r) : (f b).getD 0 = max r 0 := by
  rw [T.found h]
  by_cases h0 : 0 ≤ r
  · rw [if_pos h0]; simp; omega
  · rw [if_neg h0]; simp; omega
def Added (f : ByteArray → Option Int) (b : ByteArray) (lim : Int) (all : List ByteArray) (n er : Int) (ad : Bool) (all' : List ByteArray) : Prop :=
  (∃ i, f b = some i ∧ n = i ∧ ad = false ∧ er = 0 ∧ all' = all) ∨ (f b = none ∧ lim ≤ all.length ∧ n = 0 ∧ ad = false ∧ er = 13 ∧ all' = all) ∨ (f b = none ∧ all.length < lim ∧ n = all.length ∧ ad = true ∧ er = 0 ∧ all' = all ++ [b])
theorem added_found (T : Tab m f A rs c M K LL all) (h : Ix all b r) (ha : Added f b lim all n er ad all') (h0 : 0 ≤ r) : n = r ∧ ad = false ∧ er = 0 ∧ all' = all := by
  have := T.found h
  rw [if_pos h0] at this
  rcases ha with ⟨i, h1, h2, h3, h4, h5⟩ | ⟨h1, _⟩ | ⟨h1, _⟩
  · rw [this] at h1; simp only [Option.some.injEq] at h1; exact ⟨by omega, h3, h4, h5⟩
  · rw [this] at h1; cases h1
  · rw [this] at h1; cases h1
theorem added_full (T : Tab m f A rs c M K LL all) (h : Ix all b r) (ha : Added f b lim all n er ad all') (h0 : ¬ 0 ≤ r) (hl : lim ≤ all.length) : n = 0 ∧ ad = false ∧ er = 13 ∧ all' = all := by
  have := T.found h
  rw [if_neg h0] at this
  rcases ha with ⟨i, h1, _⟩ | ⟨_, _, h⟩ | ⟨_, h1, _⟩
  · rw [this] at h1; cases h1
  · exact h
  · omega
theorem added_new (T : Tab m f A rs c M K LL all) (h : Ix all b r) (ha : Added f b lim all n er ad all') (h0 : ¬ 0 ≤ r) (hl : all.length < lim) : n = all.length ∧ ad = true ∧ er = 0 ∧ all' = all ++ [b] := by
  have := T.found h
  rw [if_neg h0] at this
  rcases ha with ⟨i, h1, _⟩ | ⟨_, h1, _⟩ | ⟨_, _, h⟩
  · rw [this] at h1; cases h1
  · omega
  · exact h
end
/-- the hash of bytes -/
def hsh (xs : List Int) : Int := xs.foldl (fun h n => IntKind.u64.wrap (ixor .u64 h n * 1099511628211)) 14695981039346656037
theorem hsh_step {xs : List Int} {k h : Int} (hk : 0 ≤ k ∧ k < xs.length) (hh : h = hsh (xs.take k.toNat)) : IntKind.u64.wrap (ixor .u64 h (gt xs k) * 1099511628211) = hsh (xs.take (k + 1).toNat) := by
  rw [take_gt hk, hh]; simp [hsh]
end Go.Proofs.Ytcmgpofcdjejnaa
