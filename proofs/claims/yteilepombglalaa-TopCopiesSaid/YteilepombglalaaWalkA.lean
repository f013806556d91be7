/-
  The library's small functions on rows, each with what it does: proved by following its operations.
-/
import Derived.Test.YteilepombglalaaRows
import Derived.Test.YteilepombglalaaArgs
import Derived.Test.YteilepombglalaaPlain
set_option linter.unusedVariables false
namespace Go.Proofs.Yteilepombglalaa
open Go
theorem equal_spec {x : Out} {S : List (List Chunk)} {A B : Option Addr} {xs ys : List Int} {c c' i j : Nat} {L L' : List Chunk} (hx : Rd (kI .i64) A xs c L) (hy : Rd (kI .i64) B ys c' L') (hi : S[i]? = some L) (hj : S[j]? = some L') (hl : xs.length ≤ 4611686018427387904) :
    Spec Try.prog 20 #[.slice A xs.length c, .slice B ys.length c'] (St x S) (fun v w => v = .bool (decide (xs = ys)) ∧ St x S w) := by
  refine spec_of (args := [.slice A xs.length c, .slice B ys.length c']) Try.func20 rfl rfl rfl ?_
  refine tc_seq ?_
  refine tc_region ?_
  refine tl (y_assign rfl) rfl ?_
  refine tl_end ?_
  refine ex_next ?_
  refine tc_seq ?_
  refine tc_seq ?_
  refine tc_region ?_
  refine tl (y_move rfl) rfl ?_
  refine tl (y_len rfl rfl) rfl ?_
  refine tl (y_move rfl) rfl ?_
  refine tl (y_len rfl rfl) rfl ?_
  refine tl (y_ne rfl rfl) rfl ?_
  refine tl_end ?_
  refine ex_next ?_
  refine tc_if rfl (fun h10 => ?_) (fun h10 => ?_)
  · refine tc_seq ?_
    refine tc_region ?_
    refine tl (y_assign rfl) rfl ?_
    refine tl_end ?_
    refine ex_next ?_
    refine tc_ret ?_
    refine ex_pass_ret ?_
    refine ex_ret1 rfl rfl (fun w hw => ?_)
    exact ⟨by rw [decide_eq_false (fun e => by rw [e] at h10; omega)], hw⟩
  · refine tc_skip ?_
    refine ex_next ?_
    refine tc_seq ?_
    refine tc_seq ?_
    refine tc_region ?_
    refine tl (y_move rfl) rfl ?_
    refine tl (y_len rfl rfl) rfl ?_
    refine tl (y_move rfl) rfl ?_
    refine tl_end ?_
    refine ex_next ?_
    refine tc_block ?_
    refine tc_loop (fun l_ C_ m_ => ∃ k : Int, (0 ≤ k ∧ k ≤ xs.length) ∧ (∀ q : Int, 0 ≤ q ∧ q < k → gt xs q = gt ys q) ∧ l_ = [(0, .slice A xs.length c), (1, .slice B ys.length c'), (12, .int .i64 (xs.length : Int)), (13, .int .i64 k)] ∧ C_ = St x S ∧ m_ = (xs.length - k).toNat) ⟨_, by omega, fun q hq => absurd hq (by omega), rfl, rfl, rfl⟩ (sc rfl (sc rfl (sc rfl (sc rfl sn)))) (fun _ h => h) ?_
    rintro _ _ _ ⟨k, hk, hq', rfl, rfl, rfl⟩
    refine tc_seq ?_
    refine tc_region ?_
    refine tl (y_lt rfl rfl) rfl ?_
    refine tl_end ?_
    refine ex_next ?_
    refine tc_seq ?_
    refine tc_if rfl (fun h14 => ?_) (fun h14 => ?_)
    · refine tc_skip ?_
      refine ex_next ?_
      refine tc_seq ?_
      refine tc_block ?_
      refine tc_seq ?_
      refine tc_region ?_
      refine tl (y_move rfl) rfl ?_
      refine tl (y_assign rfl) rfl ?_
      refine tl_end ?_
      refine ex_next ?_
      refine tc_seq ?_
      refine tc_draw x (by kernel_rfl) (by kernel_rfl) ?_
      refine tq (y_move rfl) rfl ?_
      refine tq (y_move rfl) rfl ?_
      refine tq (y_idx hx rfl rfl rfl rfl (by omega)) rfl ?_
      refine tq (y_el0 (k := i) hx rfl hi (by omega) rfl rfl) rfl ?_
      refine tq (y_move rfl) rfl ?_
      refine tq (y_move rfl) rfl ?_
      refine tq (y_idx hy rfl rfl rfl rfl (by omega)) rfl ?_
      refine tq (y_el0 (k := j) hy rfl hj (by omega) rfl rfl) rfl ?_
      refine tq (y_ne rfl rfl) rfl ?_
      refine tq_end ?_
      refine ex_next ?_
      refine tc_if rfl (fun h24 => ?_) (fun h24 => ?_)
      · refine tc_seq ?_
        refine tc_region ?_
        refine tl (y_assign rfl) rfl ?_
        refine tl_end ?_
        refine ex_next ?_
        refine tc_ret ?_
        refine ex_block_ret (ex_pass_ret (ex_pass_ret (ex_block_ret (ex_pass_ret ?_))))
        refine ex_ret1 rfl rfl (fun w hw => ?_)
        exact ⟨by rw [decide_eq_false (fun e => by rw [e] at h24; exact absurd rfl h24)], hw⟩
      · refine tc_skip ?_
        refine ex_block_end (ex_next ?_)
        refine tc_region ?_
        refine tl (y_addi rfl rfl (by omega)) rfl ?_
        refine tl (y_move rfl) rfl ?_
        refine tl_end ?_
        exact ex_round ⟨_, by omega, fun q hq => by rcases (by omega : q < k ∨ q = k) with h | h; exact hq' q ⟨hq.1, h⟩; rw [h]; exact Classical.not_not.1 h24, rfl, rfl, rfl⟩ (by omega) (sc rfl (sc rfl (sc rfl (sc rfl sn)))) (fun _ h => h)
    · refine tc_exit ?_
      refine ex_pass_exit (ex_pass_exit (ex_block_hit (ex_next ?_)))
      refine tc_seq ?_
      refine tc_region ?_
      refine tl (y_assign rfl) rfl ?_
      refine tl_end ?_
      refine ex_next ?_
      refine tc_ret ?_
      refine ex_ret1 rfl rfl (fun w hw => ?_)
      exact ⟨by rw [decide_eq_true (eq_of_gt (by omega) (fun q hq => hq' q (by omega)))], hw⟩

theorem index_spec {x : Out} {S : List (List Chunk)} {A : Option Addr} {xs : List Int} {c i : Nat} {L : List Chunk} (hx : Rd (kI .i64) A xs c L) (hi : S[i]? = some L) (v : Int) (hl : xs.length ≤ 4611686018427387904) :
    Spec Try.prog 21 #[.slice A xs.length c, .int .i64 v] (St x S) (fun u w => ∃ r : Int, u = .int .i64 r ∧ (0 ≤ r ↔ v ∈ xs) ∧ St x S w) := by
  refine spec_of (args := [.slice A xs.length c, .int .i64 v]) Try.func21 rfl rfl rfl ?_
  refine tc_seq ?_
  refine tc_region ?_
  refine tl (y_assign rfl) rfl ?_
  refine tl_end ?_
  refine ex_next ?_
  refine tc_seq ?_
  refine tc_seq ?_
  refine tc_region ?_
  refine tl (y_move rfl) rfl ?_
  refine tl (y_len rfl rfl) rfl ?_
  refine tl (y_move rfl) rfl ?_
  refine tl_end ?_
  refine ex_next ?_
  refine tc_block ?_
  refine tc_loop (fun l_ C_ m_ => ∃ k : Int, (0 ≤ k ∧ k ≤ xs.length) ∧ (∀ q : Int, 0 ≤ q ∧ q < k → gt xs q ≠ v) ∧ l_ = [(0, .slice A xs.length c), (1, .int .i64 v), (6, .slice A xs.length c), (7, .int .i64 (xs.length : Int)), (8, .int .i64 k)] ∧ C_ = St x S ∧ m_ = (xs.length - k).toNat) ⟨_, by omega, fun q hq => absurd hq (by omega), rfl, rfl, rfl⟩ (sc rfl (sc rfl (sc rfl (sc rfl (sc rfl sn))))) (fun _ h => h) ?_
  rintro _ _ _ ⟨k, hk, hq', rfl, rfl, rfl⟩
  refine tc_seq ?_
  refine tc_region ?_
  refine tl (y_lt rfl rfl) rfl ?_
  refine tl_end ?_
  refine ex_next ?_
  refine tc_seq ?_
  refine tc_if rfl (fun h9 => ?_) (fun h9 => ?_)
  · refine tc_skip ?_
    refine ex_next ?_
    refine tc_seq ?_
    refine tc_block ?_
    refine tc_seq ?_
    refine tc_region ?_
    refine tl (y_move rfl) rfl ?_
    refine tl (y_assign rfl) rfl ?_
    refine tl_end ?_
    refine ex_next ?_
    refine tc_seq ?_
    refine tc_region ?_
    refine tl (y_move rfl) rfl ?_
    refine tl (y_move rfl) rfl ?_
    refine tl (y_move rfl) rfl ?_
    refine tl (y_idx hx rfl rfl rfl rfl (by omega)) rfl ?_
    refine tl (y_el0 (k := i) hx rfl hi (by omega) rfl rfl) rfl ?_
    refine tl (y_eq rfl rfl) rfl ?_
    refine tl_end ?_
    refine ex_next ?_
    refine tc_if rfl (fun h16 => ?_) (fun h16 => ?_)
    · refine tc_seq ?_
      refine tc_region ?_
      refine tl (y_move rfl) rfl ?_
      refine tl (y_assign rfl) rfl ?_
      refine tl_end ?_
      refine ex_next ?_
      refine tc_ret ?_
      refine ex_block_ret (ex_pass_ret (ex_pass_ret (ex_block_ret (ex_pass_ret ?_))))
      refine ex_ret1 rfl rfl (fun w hw => ?_)
      exact ⟨k, rfl, ⟨fun _ => by rw [h16]; exact mem_gt (by omega), fun _ => hk.1⟩, hw⟩
    · refine tc_skip ?_
      refine ex_block_end (ex_next ?_)
      refine tc_region ?_
      refine tl (y_addi rfl rfl (by omega)) rfl ?_
      refine tl (y_move rfl) rfl ?_
      refine tl_end ?_
      exact ex_round ⟨_, by omega, fun q hq => by rcases (by omega : q < k ∨ q = k) with h | h; exact hq' q ⟨hq.1, h⟩; rw [h]; exact fun e => h16 e.symm, rfl, rfl, rfl⟩ (by omega) (sc rfl (sc rfl (sc rfl (sc rfl (sc rfl sn))))) (fun _ h => h)
  · refine tc_exit ?_
    refine ex_pass_exit (ex_pass_exit (ex_block_hit (ex_next ?_)))
    refine tc_seq ?_
    refine tc_region ?_
    refine tl (y_assign rfl) rfl ?_
    refine tl_end ?_
    refine ex_next ?_
    refine tc_ret ?_
    refine ex_ret1 rfl rfl (fun w hw => ?_)
    refine ⟨-1, rfl, ⟨fun h => absurd h (by omega), fun h => ?_⟩, hw⟩
    obtain ⟨q, h1, h2, h3⟩ := gt_of_mem h; exact absurd h3 (hq' q ⟨h1, by omega⟩)

theorem contains_spec {x : Out} {S : List (List Chunk)} {A : Option Addr} {xs : List Int} {c i : Nat} {L : List Chunk} (hx : Rd (kI .i64) A xs c L) (hi : S[i]? = some L) (v : Int) (hl : xs.length ≤ 4611686018427387904) :
    Spec Try.prog 11 #[.slice A xs.length c, .int .i64 v] (St x S) (fun u w => u = .bool (decide (v ∈ xs)) ∧ St x S w) := by
  refine spec_of (args := [.slice A xs.length c, .int .i64 v]) Try.func11 rfl rfl rfl ?_
  refine tc_seq ?_
  refine tc_region ?_
  refine tl (y_assign rfl) rfl ?_
  refine tl_end ?_
  refine ex_next ?_
  refine tc_seq ?_
  refine tc_region ?_
  refine tl (y_move rfl) rfl ?_
  refine tl (y_move rfl) rfl ?_
  refine tl_call step_tl rfl rfl (index_spec (x := x) (S := S) (i := i) hx hi v hl) (fun _ h => h) rfl (fun v_ => tl_ex fun r => tl_pure fun e_ => tl_val e_ ?_)
  refine tl_pure fun hr => ?_
  refine tl (y_ge rfl rfl) rfl ?_
  refine tl (y_assign rfl) rfl ?_
  refine tl_end ?_
  refine ex_next ?_
  refine tc_ret ?_
  refine ex_ret1 rfl rfl (fun w hw => ?_)
  exact ⟨by simp only [hr], hw⟩

theorem clone_spec {x : Out} {S : List (List Chunk)} {A : Option Addr} {xs : List Int} {c i : Nat} {L : List Chunk} (hx : Rd (kI .i64) A xs c L) (hi : S[i]? = some L) (hl : xs.length ≤ 1048576) :
    Spec Try.prog 12 #[.slice A xs.length c] (St x (S)) (fun v w => ∃ A' : Option Addr, ∃ c' : Nat, ∃ L' : List Chunk, v = .slice A' xs.length c' ∧ Own 3 (kI .i64) A' xs c' L' ∧ St x (L' :: S) w) := by
  refine spec_of (args := [.slice A xs.length c]) Try.func12 rfl rfl rfl ?_
  refine tc_seq ?_
  refine tc_region ?_
  refine tl (y_assign rfl) rfl ?_
  refine tl_end ?_
  refine ex_next ?_
  refine tc_seq ?_
  refine tc_seq ?_
  refine tc_region ?_
  refine tl (y_move rfl) rfl ?_
  refine tl (y_isnil (A := A) rfl rfl rfl) rfl ?_
  refine tl_end ?_
  refine ex_next ?_
  refine tc_cond rfl (fun h4 => ?_) (fun h4 => ?_)
  · refine tc_seq ?_
    refine tc_region ?_
    refine tl (y_assign rfl) rfl ?_
    refine tl_end ?_
    refine ex_next ?_
    refine tc_ret ?_
    refine ex_pass_ret ?_
    refine ex_ret1 rfl rfl (fun w hw => ?_)
    have e : xs = [] := by rcases hx.2 with h | ⟨b, _, _, _, _, h, _⟩; exact h; rw [h] at h4; cases h4
    exact ⟨none, 0, [], by rw [e]; rfl, by rw [e]; exact Own.nil, hw.empty⟩
  · refine tc_skip ?_
    refine ex_next ?_
    refine tc_seq ?_
    refine tc_region ?_
    refine tl_lit step_tl (K := (kI .i64)) (xs := []) (vs := []) ([] : List Int) rfl rfl trivial rfl rfl rfl rfl rfl (fun A_1 L_1 O_1 => ?_)
    refine tl (y_move rfl) rfl ?_
    refine tl_append step_tl (by_ := 8) 0 (i + 1) O_1 hx rfl rfl rfl rfl rfl rfl rfl rfl hi rfl (by simp; omega) (by simp; omega) rfl (fun A_2 c_1 L_2 O_2 le_1 => ?_)
    change TG _ _ _ (St x (L_2 :: S))
    refine tl (y_assign rfl) rfl ?_
    refine tl_end ?_
    refine ex_next ?_
    refine tc_ret ?_
    refine ex_ret1 rfl rfl (fun w hw => ?_)
    exact ⟨_, _, _, rfl, O_2, hw⟩

theorem clonep_spec {x : Out} {S : List (List Chunk)} {A : Option Addr} {xs : List (Int × Int)} {c i : Nat} {L : List Chunk} (hx : Rd kP A xs c L) (hi : S[i]? = some L) (hl : xs.length ≤ 1048576) :
    Spec Try.prog 23 #[.slice A xs.length c] (St x (S)) (fun v w => ∃ A' : Option Addr, ∃ c' : Nat, ∃ L' : List Chunk, v = .slice A' xs.length c' ∧ Own 54 kP A' xs c' L' ∧ St x (L' :: S) w) := by
  refine spec_of (args := [.slice A xs.length c]) Try.func23 rfl rfl rfl ?_
  refine tc_seq ?_
  refine tc_region ?_
  refine tl (y_assign rfl) rfl ?_
  refine tl_end ?_
  refine ex_next ?_
  refine tc_seq ?_
  refine tc_seq ?_
  refine tc_region ?_
  refine tl (y_move rfl) rfl ?_
  refine tl (y_isnil (A := A) rfl rfl rfl) rfl ?_
  refine tl_end ?_
  refine ex_next ?_
  refine tc_cond rfl (fun h4 => ?_) (fun h4 => ?_)
  · refine tc_seq ?_
    refine tc_region ?_
    refine tl (y_assign rfl) rfl ?_
    refine tl_end ?_
    refine ex_next ?_
    refine tc_ret ?_
    refine ex_pass_ret ?_
    refine ex_ret1 rfl rfl (fun w hw => ?_)
    have e : xs = [] := by rcases hx.2 with h | ⟨b, _, _, _, _, h, _⟩; exact h; rw [h] at h4; cases h4
    exact ⟨none, 0, [], by rw [e]; rfl, by rw [e]; exact Own.nil, hw.empty⟩
  · refine tc_skip ?_
    refine ex_next ?_
    refine tc_seq ?_
    refine tc_region ?_
    refine tl_lit step_tl (K := kP) (xs := []) (vs := []) ([] : List (Int × Int)) rfl rfl trivial rfl rfl rfl rfl rfl (fun A_1 L_1 O_1 => ?_)
    refine tl (y_move rfl) rfl ?_
    refine tl_append step_tl (by_ := 16) 0 (i + 1) O_1 hx rfl rfl rfl rfl rfl rfl rfl rfl hi rfl (by simp; omega) (by simp; omega) rfl (fun A_2 c_1 L_2 O_2 le_1 => ?_)
    change TG _ _ _ (St x (L_2 :: S))
    refine tl (y_assign rfl) rfl ?_
    refine tl_end ?_
    refine ex_next ?_
    refine tc_ret ?_
    refine ex_ret1 rfl rfl (fun w hw => ?_)
    exact ⟨_, _, _, rfl, O_2, hw⟩

end Go.Proofs.Yteilepombglalaa
