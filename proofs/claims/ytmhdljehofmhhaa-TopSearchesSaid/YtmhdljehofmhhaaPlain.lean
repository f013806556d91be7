/-
  Binary search, told plainly: which places are asked, and where it ends.
-/
namespace Go.Proofs.Ytmhdljehofmhhaa

/-- a search between two places, with a bound on its rounds: where it ends, and what it asks -/
def bs (p : Int → Bool) : Nat → Int → Int → Int × List Int
  | 0, lo, _ => (lo, [])
  | f + 1, lo, hi => if lo < hi then (if p (lo + (hi - lo) / 2) then ((bs p f lo (lo + (hi - lo) / 2)).1, (lo + (hi - lo) / 2) :: (bs p f lo (lo + (hi - lo) / 2)).2) else ((bs p f (lo + (hi - lo) / 2 + 1) hi).1, (lo + (hi - lo) / 2) :: (bs p f (lo + (hi - lo) / 2 + 1) hi).2)) else (lo, [])

theorem bs_T {p : Int → Bool} {f : Nat} {lo hi m : Int} (hf : 0 < f) (h : lo < hi) (hm : m = lo + (hi - lo) / 2) (hp : p m = true) : bs p f lo hi = ((bs p (f - 1) lo m).1, m :: (bs p (f - 1) lo m).2) := by
  obtain ⟨f, rfl⟩ : ∃ m, f = m + 1 := ⟨f - 1, by omega⟩
  subst hm
  simp [bs, h, hp]
theorem bs_F {p : Int → Bool} {f : Nat} {lo hi m : Int} (hf : 0 < f) (h : lo < hi) (hm : m = lo + (hi - lo) / 2) (hp : p m = false) : bs p f lo hi = ((bs p (f - 1) (m + 1) hi).1, m :: (bs p (f - 1) (m + 1) hi).2) := by
  obtain ⟨f, rfl⟩ : ∃ m, f = m + 1 := ⟨f - 1, by omega⟩
  subst hm
  simp [bs, h, hp]
theorem bs_end {p : Int → Bool} {f : Nat} {lo hi : Int} (h : ¬ lo < hi) : bs p f lo hi = (lo, []) := by cases f <;> simp [bs, h]
/-- it ends between the two places -/
theorem bs_range {p : Int → Bool} : ∀ (f : Nat) (lo hi : Int), lo ≤ hi → hi - lo ≤ f → lo ≤ (bs p f lo hi).1 ∧ (bs p f lo hi).1 ≤ hi := by
  intro f
  induction f with
  | zero => intro lo hi h1 h2; rw [bs_end (by omega)]; exact ⟨by simp, by simp; omega⟩
  | succ f ih =>
    intro lo hi h1 h2
    by_cases h : lo < hi
    · cases hp : p (lo + (hi - lo) / 2) with
      | true => rw [bs_T (by omega) h rfl hp]; have := ih lo (lo + (hi - lo) / 2) (by omega) (by omega); simp only [Nat.add_sub_cancel]; omega
      | false => rw [bs_F (by omega) h rfl hp]; have := ih (lo + (hi - lo) / 2 + 1) hi (by omega) (by omega); simp only [Nat.add_sub_cancel]; omega
    · rw [bs_end h]; exact ⟨by simp, by simp; omega⟩

/-- few questions -/
theorem bs_few {p : Int → Bool} : ∀ (j f : Nat) (lo hi : Int), hi - lo < 2 ^ j → (bs p f lo hi).2.length ≤ j := by
  intro j
  induction j with
  | zero => intro f lo hi h; rw [bs_end (by simp at h; omega)]; simp
  | succ j ih =>
    intro f lo hi h
    by_cases hl : lo < hi
    · cases f with
      | zero => simp [bs]
      | succ f =>
        have h2 : (2 : Int) ^ (j + 1) = 2 * 2 ^ j := by rw [Int.pow_succ]; omega
        cases hp : p (lo + (hi - lo) / 2) with
        | true => rw [bs_T (by omega) hl rfl hp]; have := ih f lo (lo + (hi - lo) / 2) (by omega); simp only [List.length_cons, Nat.add_sub_cancel]; omega
        | false => rw [bs_F (by omega) hl rfl hp]; have := ih f (lo + (hi - lo) / 2 + 1) hi (by omega); simp only [List.length_cons, Nat.add_sub_cancel]; omega
    · rw [bs_end hl]; simp

/-- a threshold is found -/
theorem bs_thr {k : Int} : ∀ (f : Nat) (lo hi : Int), lo ≤ k → k ≤ hi → hi - lo ≤ f → (bs (fun i => decide (k ≤ i)) f lo hi).1 = k := by
  intro f
  induction f with
  | zero => intro lo hi h1 h2 h3; rw [bs_end (by omega)]; simp; omega
  | succ f ih =>
    intro lo hi h1 h2 h3
    by_cases h : lo < hi
    · cases hp : (fun i => decide (k ≤ i)) (lo + (hi - lo) / 2) with
      | true => rw [bs_T (by omega) h rfl hp]; simp at hp; simpa using ih lo (lo + (hi - lo) / 2) h1 (by omega) (by omega)
      | false => rw [bs_F (by omega) h rfl hp]; simp at hp; simpa using ih (lo + (hi - lo) / 2 + 1) hi (by omega) h2 (by omega)
    · rw [bs_end h]; simp; omega

theorem bs_eight : bs (fun i => decide (5 ≤ i)) 8 0 8 = (5, [4, 6, 5]) := by decide
end Go.Proofs.Ytmhdljehofmhhaa
