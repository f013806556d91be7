/-
  Sequentialize, the program's and the reference's: proved by following their operations.
-/
import Derived.Test.YteilepombglalaaWalkD
set_option linter.unusedVariables false
namespace Go.Proofs.Yteilepombglalaa
open Go
theorem seq_spec {x : Out} {S : List (List Chunk)} {A B : Option Addr} {xs ys : List Int} {c c' i j : Nat} {L M : List Chunk} (hx : Rd (kI .i64) A xs c L) (hy : Rd (kI .i64) B ys c' M) (hi : S[i]? = some L) (hj : S[j]? = some M) (t : Int) (hl : xs.length ≤ 1000) (hl' : ys.length ≤ 1000) :
    Spec Try.prog 8 #[.slice A xs.length c, .slice B ys.length c', .int .i64 t] (St x (S)) (fun v w => ∃ A' : Option Addr, ∃ ms : List Mv, ∃ c' : Nat, ∃ L' LA : List Chunk, v = .slice A' ms.length c' ∧ Own 28 kM A' ms c' L' ∧ ms.map Mv.p = seqz xs ys t ∧ (∀ m ∈ ms, Rd (kI .i64) m.A [m.s] 1 LA) ∧ St x (L' :: LA :: S) w) := by
  refine spec_of (args := [.slice A xs.length c, .slice B ys.length c', .int .i64 t]) Try.func8 rfl rfl rfl ?_
  refine tc_seq ?_
  refine tc_region ?_
  refine tl (y_assign rfl) rfl ?_
  refine tl_end ?_
  refine ex_next ?_
  refine tc_seq ?_
  refine tc_seq ?_
  refine tc_region ?_
  refine tl (y_move rfl) rfl ?_
  refine tl (y_len rfl rfl) rfl ?_
  refine tl (y_move rfl) rfl ?_
  refine tl (y_len rfl rfl) rfl ?_
  refine tl (y_ne rfl rfl) rfl ?_
  refine tl (y_move rfl) rfl ?_
  refine tl_if (t := 14) rfl (fun h14 => ?_) (fun h14 => ?_)
  · refine tl_off rfl ?_
    refine tl_off rfl ?_
    refine tl_off rfl ?_
    refine tl (y_pick_t rfl rfl) rfl ?_
    refine tl (y_move rfl) rfl ?_
    refine tl_off rfl ?_
    refine tl_off rfl ?_
    refine tl_off rfl ?_
    refine tl (y_pick_t rfl rfl) rfl ?_
    refine tl (y_move rfl) rfl ?_
    refine tl_off rfl ?_
    refine tl_off rfl ?_
    refine tl_off rfl ?_
    refine tl (y_pick_t rfl rfl) rfl ?_
    refine tl_end ?_
    refine ex_next ?_
    refine tc_yes rfl ?_
    refine tc_seq ?_
    refine tc_region ?_
    refine tl (y_assign rfl) rfl ?_
    refine tl_end ?_
    refine ex_next ?_
    refine tc_ret ?_
    refine ex_pass_ret ?_
    refine ex_ret1 rfl rfl (fun w hw => ?_)
    exact ⟨none, [], 0, [], [], rfl, Own.nil, seqz_neg (fun h => h14 (by omega)), by simp, hw.empty.empty⟩
  · refine tl (y_move rfl) rfl ?_
    refine tl_call step_tl rfl rfl (distinct_spec (x := x) (S := (S)) (i := i) hx hi (by omega)) (fun _ h => h) rfl (fun v_ => tl_pure fun e_ => tl_val e_ ?_)
    refine tl (y_notd rfl) rfl ?_
    refine tl (y_pick_f rfl rfl) rfl ?_
    refine tl (y_move rfl) rfl ?_
    refine tl_if (t := 19) rfl (fun h19 => ?_) (fun h19 => ?_)
    · refine tl_off rfl ?_
      refine tl_off rfl ?_
      refine tl_off rfl ?_
      refine tl (y_pick_t rfl rfl) rfl ?_
      refine tl (y_move rfl) rfl ?_
      refine tl_off rfl ?_
      refine tl_off rfl ?_
      refine tl_off rfl ?_
      refine tl (y_pick_t rfl rfl) rfl ?_
      refine tl_end ?_
      refine ex_next ?_
      refine tc_yes rfl ?_
      refine tc_seq ?_
      refine tc_region ?_
      refine tl (y_assign rfl) rfl ?_
      refine tl_end ?_
      refine ex_next ?_
      refine tc_ret ?_
      refine ex_pass_ret ?_
      refine ex_ret1 rfl rfl (fun w hw => ?_)
      exact ⟨none, [], 0, [], [], rfl, Own.nil, seqz_neg (fun h => h19 h.2.1), by simp, hw.empty.empty⟩
    · refine tl (y_move rfl) rfl ?_
      refine tl (y_move rfl) rfl ?_
      refine tl_call step_tl rfl rfl (contains_spec (x := x) (S := (S)) (i := i) hx hi t (by omega)) (fun _ h => h) rfl (fun v_ => tl_pure fun e_ => tl_val e_ ?_)
      refine tl (y_pick_f rfl rfl) rfl ?_
      refine tl (y_move rfl) rfl ?_
      refine tl_if (t := 24) rfl (fun h24 => ?_) (fun h24 => ?_)
      · refine tl_off rfl ?_
        refine tl_off rfl ?_
        refine tl_off rfl ?_
        refine tl (y_pick_t rfl rfl) rfl ?_
        refine tl_end ?_
        refine ex_next ?_
        refine tc_yes rfl ?_
        refine tc_seq ?_
        refine tc_region ?_
        refine tl (y_assign rfl) rfl ?_
        refine tl_end ?_
        refine ex_next ?_
        refine tc_ret ?_
        refine ex_pass_ret ?_
        refine ex_ret1 rfl rfl (fun w hw => ?_)
        exact ⟨none, [], 0, [], [], rfl, Own.nil, seqz_neg (fun h => h.2.2.1 h24), by simp, hw.empty.empty⟩
      · refine tl (y_move rfl) rfl ?_
        refine tl (y_move rfl) rfl ?_
        refine tl_call step_tl rfl rfl (contains_spec (x := x) (S := (S)) (i := j) hy hj t (by omega)) (fun _ h => h) rfl (fun v_ => tl_pure fun e_ => tl_val e_ ?_)
        refine tl (y_pick_f rfl rfl) rfl ?_
        refine tl_end ?_
        refine ex_next ?_
        refine tc_if rfl (fun h28 => ?_) (fun h28 => ?_)
        · refine tc_seq ?_
          refine tc_region ?_
          refine tl (y_assign rfl) rfl ?_
          refine tl_end ?_
          refine ex_next ?_
          refine tc_ret ?_
          refine ex_pass_ret ?_
          refine ex_ret1 rfl rfl (fun w hw => ?_)
          exact ⟨none, [], 0, [], [], rfl, Own.nil, seqz_neg (fun h => h.2.2.2 h28), by simp, hw.empty.empty⟩
        · refine tc_skip ?_
          refine ex_next ?_
          refine tc_seq ?_
          refine tc_region ?_
          refine tl (y_move rfl) rfl ?_
          refine tl (y_move rfl) rfl ?_
          refine tl_call step_tl rfl rfl (pairs_spec (x := x) (S := (S)) hx hy hi hj (by omega) (by omega)) (fun _ h => h) rfl (fun v_ => tl_ex fun A_1 => tl_ex fun c_1 => tl_ex fun L_1 => tl_pure fun e_ => tl_val e_ ?_)
          refine tl_pure fun O_1 => ?_
          refine tl (y_move rfl) rfl ?_
          have hzl : (List.zip xs ys).length = xs.length := by rw [List.length_zip]; omega
          have hzt : ∀ q ∈ List.zip xs ys, q.1 ≠ t := fun q hq e => h24 (e ▸ (List.of_mem_zip hq).1)
          refine tl_call step_tl rfl rfl (order_spec (x := x) (S := (L_1 :: S)) (i := 0) O_1.rd rfl t hzt (by omega)) (fun _ h => h) rfl (fun v_ => tl_ex fun A_2 => tl_ex fun c_2 => tl_ex fun L_2 => tl_ex fun cy_ => tl_pure fun e_ => tl_val e_ ?_)
          refine tl_pure fun O_2 => ?_
          refine tl (y_move rfl) rfl ?_
          refine tl (y_extract (vs := [.slice A_2 (sq (2 * (List.zip xs ys).length + 1) (List.filter (fun p => !decide (p.2 = p.1)) (List.zip xs ys)) t).length c_2, .bool cy_]) rfl rfl) rfl ?_
          refine tl (y_extract (vs := [.slice A_2 (sq (2 * (List.zip xs ys).length + 1) (List.filter (fun p => !decide (p.2 = p.1)) (List.zip xs ys)) t).length c_2, .bool cy_]) rfl rfl) rfl ?_
          refine tl (y_assign rfl) rfl ?_
          refine tl (y_assign rfl) rfl ?_
          refine tl_end ?_
          refine ex_next ?_
          refine tc_seq ?_
          refine tc_region ?_
          refine tl (y_move rfl) rfl ?_
          have hsq : (sq (2 * (List.zip xs ys).length + 1) (List.filter (fun p => !decide (p.2 = p.1)) (List.zip xs ys)) t).length ≤ 2 * xs.length + 1 := by have := sq_length (2 * (List.zip xs ys).length + 1) (List.filter (fun p => !decide (p.2 = p.1)) (List.zip xs ys)) t; omega
          refine tl_call step_tl rfl rfl (copies_spec (x := x) (S := (L_2 :: L_1 :: S)) (i := 0) O_2.rd rfl (by omega)) (fun _ h => h) rfl (fun v_ => tl_ex fun Am => tl_ex fun ms => tl_ex fun cm => tl_ex fun Lm => tl_ex fun LA => tl_pure fun e_ => tl_val e_ ?_)
          refine tl_pure fun Om => tl_pure fun hm => tl_pure fun hr => ?_
          refine tl (y_assign rfl) rfl ?_
          refine tl_end ?_
          refine ex_next ?_
          refine tc_ret ?_
          refine ex_ret1 rfl rfl (fun w hw => ?_)
          exact ⟨_, _, _, _, _, rfl, Om, by rw [hm, seqz_pos ⟨by omega, Classical.not_not.1 h19, h24, h28⟩, hzl, filter_ne], hr, hw.pickT [0, 1] 4 rfl rfl⟩

theorem free_spec {x : Out} {S : List (List Chunk)} {A : Option Addr} {xs : List (Int × Int)} {c i : Nat} {L : List Chunk} (hx : Rd kP A xs c L) (hi : S[i]? = some L) (hl : xs.length ≤ 1048576) :
    Spec Try.prog 19 #[.slice A xs.length c] (St x S) (fun v w => ∃ r : Int, v = .int .i64 r ∧ ((0 ≤ r ∧ r < xs.length ∧ freeIx xs = some r.toNat) ∨ (r = -1 ∧ freeIx xs = none)) ∧ St x S w) := by
  refine spec_of (args := [.slice A xs.length c]) Try.func19 rfl rfl rfl ?_
  refine tc_seq ?_
  refine tc_region ?_
  refine tl (y_assign rfl) rfl ?_
  refine tl_end ?_
  refine ex_next ?_
  refine tc_seq ?_
  refine tc_seq ?_
  refine tc_region ?_
  refine tl (y_move rfl) rfl ?_
  refine tl (y_len rfl rfl) rfl ?_
  refine tl (y_move rfl) rfl ?_
  refine tl_end ?_
  refine ex_next ?_
  refine tc_block ?_
  refine tc_loop (fun l_ C_ m_ => ∃ k : Int, (0 ≤ k ∧ k ≤ xs.length) ∧ (∀ q : Int, 0 ≤ q ∧ q < k → ¬ Free xs (gt xs q)) ∧ l_ = [(0, .slice A xs.length c), (6, .slice A xs.length c), (7, .int .i64 (xs.length : Int)), (8, .int .i64 k)] ∧ C_ = St x S ∧ m_ = (xs.length - k).toNat) ⟨_, by omega, fun q hq => absurd hq (by omega), rfl, rfl, rfl⟩ (sc rfl (sc rfl (sc rfl (sc rfl sn)))) (fun _ h => h) ?_
  rintro _ _ _ ⟨k, hk, hnf, rfl, rfl, rfl⟩
  refine tc_seq ?_
  refine tc_region ?_
  refine tl (y_lt rfl rfl) rfl ?_
  refine tl_end ?_
  refine ex_next ?_
  refine tc_seq ?_
  refine tc_if rfl (fun h9 => ?_) (fun h9 => ?_)
  · refine tc_skip ?_
    refine ex_next ?_
    refine tc_seq ?_
    refine tc_block ?_
    refine tc_seq ?_
    refine tc_region ?_
    refine tl (y_move rfl) rfl ?_
    refine tl (y_assign rfl) rfl ?_
    refine tl_end ?_
    refine ex_next ?_
    refine tc_seq ?_
    refine tc_region ?_
    refine tl (y_assign rfl) rfl ?_
    refine tl_end ?_
    refine ex_next ?_
    refine tc_seq ?_
    refine tc_seq ?_
    refine tc_region ?_
    refine tl (y_move rfl) rfl ?_
    refine tl (y_len rfl rfl) rfl ?_
    refine tl (y_move rfl) rfl ?_
    refine tl_end ?_
    refine ex_next ?_
    refine tc_block ?_
    refine tc_loop (fun l_ C_ m_ => ∃ m : Int, ∃ u : Bool, (0 ≤ m ∧ m ≤ xs.length) ∧ (u = (xs.take m.toNat).any (fun q => decide (q.2 = (gt xs k).1))) ∧ l_ = [(0, .slice A xs.length c), (3, .int .i64 k), (4, .bool u), (6, .slice A xs.length c), (7, .int .i64 (xs.length : Int)), (8, .int .i64 k), (11, .slice A xs.length c), (12, .int .i64 (xs.length : Int)), (13, .int .i64 m)] ∧ C_ = St x S ∧ m_ = (xs.length - m).toNat) ⟨_, false, by omega, rfl, rfl, rfl, rfl⟩ (sc rfl (sc rfl (sc rfl (sc rfl (sc rfl (sc rfl (sc rfl (sc rfl (sc rfl sn))))))))) (fun _ h => h) ?_
    rintro _ _ _ ⟨m, u, hm, hu, rfl, rfl, rfl⟩
    refine tc_seq ?_
    refine tc_region ?_
    refine tl (y_lt rfl rfl) rfl ?_
    refine tl_end ?_
    refine ex_next ?_
    refine tc_seq ?_
    refine tc_if rfl (fun h14 => ?_) (fun h14 => ?_)
    · refine tc_skip ?_
      refine ex_next ?_
      refine tc_seq ?_
      refine tc_block ?_
      refine tc_seq ?_
      refine tc_region ?_
      refine tl (y_move rfl) rfl ?_
      refine tl (y_assign rfl) rfl ?_
      refine tl_end ?_
      refine ex_next ?_
      refine tc_draw x (by kernel_rfl) (by kernel_rfl) ?_
      refine tq (y_move rfl) rfl ?_
      refine tq (y_move rfl) rfl ?_
      refine tq_split (t := 17) rfl (fun h17 => ?_) (fun h17 => ?_)
      · refine tq_off rfl ?_
        refine tq_off rfl ?_
        refine tq_off rfl ?_
        refine tq_off rfl ?_
        refine tq_off rfl ?_
        refine tq_off rfl ?_
        refine tq_off rfl ?_
        refine tq_off rfl ?_
        refine tq_off rfl ?_
        refine tq_off rfl ?_
        refine tq_off rfl ?_
        refine tq (y_pick_t rfl rfl) rfl ?_
        refine tq (y_assign rfl) rfl ?_
        refine tq_end ?_
        refine ex_block_end (ex_next ?_)
        refine tc_region ?_
        refine tl (y_addi rfl rfl (by omega)) rfl ?_
        refine tl (y_move rfl) rfl ?_
        refine tl_end ?_
        exact ex_round ⟨_, true, by omega, any_step_T (by omega) hu h17, rfl, rfl, rfl⟩ (by omega) (sc rfl (sc rfl (sc rfl (sc rfl (sc rfl (sc rfl (sc rfl (sc rfl (sc rfl sn))))))))) (fun _ h => h)
      · refine tq (y_move rfl) rfl ?_
        refine tq (y_move rfl) rfl ?_
        refine tq (y_idx hx rfl rfl rfl rfl (by omega)) rfl ?_
        refine tq (y_fae rfl rfl rfl) rfl ?_
        refine tq (y_el (k := i) hx rfl hi (by omega) rfl rfl) rfl ?_
        refine tq (y_move rfl) rfl ?_
        refine tq (y_move rfl) rfl ?_
        refine tq (y_idx hx rfl rfl rfl rfl (by omega)) rfl ?_
        refine tq (y_fae rfl rfl rfl) rfl ?_
        refine tq (y_el (k := i) hx rfl hi (by omega) rfl rfl) rfl ?_
        refine tq (y_eq rfl rfl) rfl ?_
        refine tq (y_pick_f rfl rfl) rfl ?_
        refine tq (y_assign rfl) rfl ?_
        refine tq_end ?_
        refine ex_block_end (ex_next ?_)
        refine tc_region ?_
        refine tl (y_addi rfl rfl (by omega)) rfl ?_
        refine tl (y_move rfl) rfl ?_
        refine tl_end ?_
        exact ex_round ⟨_, decide (((gt xs m).2) = ((gt xs k).1)), by omega, any_step_F (by omega) hu h17, rfl, rfl, rfl⟩ (by omega) (sc rfl (sc rfl (sc rfl (sc rfl (sc rfl (sc rfl (sc rfl (sc rfl (sc rfl sn))))))))) (fun _ h => h)
    · refine tc_exit ?_
      refine ex_pass_exit (ex_pass_exit (ex_block_hit (ex_next ?_)))
      refine tc_seq ?_
      refine tc_region ?_
      refine tl (y_move rfl) rfl ?_
      refine tl (y_not rfl) rfl ?_
      refine tl_end ?_
      refine ex_next ?_
      refine tc_cond rfl (fun h32 => ?_) (fun h32 => ?_)
      · refine tc_seq ?_
        refine tc_region ?_
        refine tl (y_move rfl) rfl ?_
        refine tl (y_assign rfl) rfl ?_
        refine tl_end ?_
        refine ex_next ?_
        refine tc_ret ?_
        refine ex_block_ret (ex_pass_ret (ex_pass_ret (ex_block_ret (ex_pass_ret ?_))))
        refine ex_ret1 rfl rfl (fun w hw => ?_)
        exact ⟨k, rfl, .inl ⟨hk.1, by omega, freeIx_some (by omega) hnf (free_any (m := m) (by omega) (by rw [← hu]; simpa using h32))⟩, hw⟩
      · refine tc_skip ?_
        refine ex_block_end (ex_next ?_)
        refine tc_region ?_
        refine tl (y_addi rfl rfl (by omega)) rfl ?_
        refine tl (y_move rfl) rfl ?_
        refine tl_end ?_
        exact ex_round ⟨_, by omega, fun q hq => by rcases (by omega : q < k ∨ q = k) with h | h; exact hnf q ⟨hq.1, h⟩; rw [h]; exact not_free_any (m := m) (by omega) (by rw [← hu]; simpa using h32), rfl, rfl, rfl⟩ (by omega) (sc rfl (sc rfl (sc rfl (sc rfl sn)))) (fun _ h => h)
  · refine tc_exit ?_
    refine ex_pass_exit (ex_pass_exit (ex_block_hit (ex_next ?_)))
    refine tc_seq ?_
    refine tc_region ?_
    refine tl (y_assign rfl) rfl ?_
    refine tl_end ?_
    refine ex_next ?_
    refine tc_ret ?_
    refine ex_ret1 rfl rfl (fun w hw => ?_)
    exact ⟨-1, rfl, .inr ⟨rfl, freeIx_none (fun q hq => hnf q (by omega))⟩, hw⟩

theorem rseq_spec {x : Out} {S : List (List Chunk)} {A B : Option Addr} {xs ys : List Int} {c c' i j : Nat} {L M : List Chunk} (hx : Rd (kI .i64) A xs c L) (hy : Rd (kI .i64) B ys c' M) (hi : S[i]? = some L) (hj : S[j]? = some M) (t : Int) (hl : xs.length ≤ 1000) (hl' : ys.length ≤ 1000) :
    Spec Try.prog 9 #[.slice A xs.length c, .slice B ys.length c', .int .i64 t] (St x (S)) (fun v w => ∃ A' : Option Addr, ∃ ms : List Mv, ∃ c' : Nat, ∃ L' LA : List Chunk, v = .slice A' ms.length c' ∧ Own 28 kM A' ms c' L' ∧ ms.map Mv.p = seqz xs ys t ∧ (∀ m ∈ ms, Rd (kI .i64) m.A [m.s] 1 LA) ∧ St x (L' :: LA :: S) w) := by
  refine spec_of (args := [.slice A xs.length c, .slice B ys.length c', .int .i64 t]) Try.func9 rfl rfl rfl ?_
  refine tc_seq ?_
  refine tc_region ?_
  refine tl (y_assign rfl) rfl ?_
  refine tl_end ?_
  refine ex_next ?_
  refine tc_seq ?_
  refine tc_seq ?_
  refine tc_region ?_
  refine tl (y_move rfl) rfl ?_
  refine tl (y_len rfl rfl) rfl ?_
  refine tl (y_move rfl) rfl ?_
  refine tl (y_len rfl rfl) rfl ?_
  refine tl (y_ne rfl rfl) rfl ?_
  refine tl (y_move rfl) rfl ?_
  refine tl_if (t := 18) rfl (fun h18 => ?_) (fun h18 => ?_)
  · refine tl_off rfl ?_
    refine tl_off rfl ?_
    refine tl_off rfl ?_
    refine tl_off rfl ?_
    refine tl_off rfl ?_
    refine tl_off rfl ?_
    refine tl_off rfl ?_
    refine tl_off rfl ?_
    refine tl (y_pick_t rfl rfl) rfl ?_
    refine tl_end ?_
    refine ex_next ?_
    refine tc_yes rfl ?_
    refine tc_seq ?_
    refine tc_region ?_
    refine tl (y_assign rfl) rfl ?_
    refine tl_end ?_
    refine ex_next ?_
    refine tc_ret ?_
    refine ex_pass_ret ?_
    refine ex_ret1 rfl rfl (fun w hw => ?_)
    exact ⟨none, [], 0, [], [], rfl, Own.nil, seqz_neg (fun h => seq_no_T h (.inl (by omega))), by simp, hw.empty.empty⟩
  · refine tl (y_move rfl) rfl ?_
    refine tl (y_move rfl) rfl ?_
    refine tl_call step_tl rfl rfl (count_spec (x := x) (S := (S)) (i := i) hx hi t (by omega)) (fun _ h => h) rfl (fun v_ => tl_pure fun e_ => tl_val e_ ?_)
    have hct_1 := List.count_le_length (a := t) (l := xs)
    refine tl (y_move rfl) rfl ?_
    refine tl (y_move rfl) rfl ?_
    refine tl_call step_tl rfl rfl (count_spec (x := x) (S := (S)) (i := j) hy hj t (by omega)) (fun _ h => h) rfl (fun v_ => tl_pure fun e_ => tl_val e_ ?_)
    have hct_2 := List.count_le_length (a := t) (l := ys)
    refine tl (y_addi rfl rfl (by omega)) rfl ?_
    refine tl (y_gt rfl rfl) rfl ?_
    refine tl (y_pick_f rfl rfl) rfl ?_
    refine tl_end ?_
    refine ex_next ?_
    refine tc_if rfl (fun h27 => ?_) (fun h27 => ?_)
    · refine tc_seq ?_
      refine tc_region ?_
      refine tl (y_assign rfl) rfl ?_
      refine tl_end ?_
      refine ex_next ?_
      refine tc_ret ?_
      refine ex_pass_ret ?_
      refine ex_ret1 rfl rfl (fun w hw => ?_)
      exact ⟨none, [], 0, [], [], rfl, Own.nil, seqz_neg (fun h => seq_no_T h (.inr (by omega))), by simp, hw.empty.empty⟩
    · refine tc_skip ?_
      refine ex_next ?_
      refine tc_seq ?_
      refine tc_region ?_
      refine tl (y_assign rfl) rfl ?_
      refine tl_end ?_
      refine ex_next ?_
      refine tc_seq ?_
      refine tc_seq ?_
      refine tc_region ?_
      refine tl (y_move rfl) rfl ?_
      refine tl (y_len rfl rfl) rfl ?_
      refine tl (y_move rfl) rfl ?_
      refine tl_end ?_
      refine ex_next ?_
      refine tc_block ?_
      refine tc_loop (fun l_ C_ m_ => ∃ k : Int, ∃ l : List (Int × Int), ∃ cl : Nat, ∃ Al : Option Addr, ∃ Ll : List Chunk, (0 ≤ k ∧ k ≤ xs.length) ∧ ((xs.take k.toNat).Nodup ∧ ∀ q : Int, 0 ≤ q ∧ q < k → List.count (gt xs q) xs ≤ 1) ∧ (l.length ≤ k) ∧ (l = ((xs.zip ys).take k.toNat).filter (fun p => decide (p.2 ≠ p.1))) ∧ (Own 49 kP Al l cl Ll) ∧ l_ = [(0, .slice A xs.length c), (1, .slice B ys.length c'), (2, .int .i64 t), (7, .slice Al l.length cl), (29, .int .i64 (xs.length : Int)), (30, .int .i64 k)] ∧ C_ = St x (Ll :: S) ∧ m_ = (xs.length - k).toNat) ⟨_, [], _, _, _, by omega, ⟨by simp, fun q hq => absurd hq (by omega)⟩, by simp, rfl, Own.nil, rfl, rfl, rfl⟩ (sc rfl (sc rfl (sc rfl (sc rfl (sc rfl (sc rfl sn)))))) (fun _ h => h.empty) ?_
      rintro _ _ _ ⟨k, l, cl, Al, Ll, hk, hn, hll, hlf, Ol, rfl, rfl, rfl⟩
      refine tc_seq ?_
      refine tc_region ?_
      refine tl (y_lt rfl rfl) rfl ?_
      refine tl_end ?_
      refine ex_next ?_
      refine tc_seq ?_
      refine tc_if rfl (fun h31 => ?_) (fun h31 => ?_)
      · refine tc_skip ?_
        refine ex_next ?_
        refine tc_seq ?_
        refine tc_block ?_
        refine tc_seq ?_
        refine tc_region ?_
        refine tl (y_move rfl) rfl ?_
        refine tl (y_assign rfl) rfl ?_
        refine tl_end ?_
        refine ex_next ?_
        refine tc_seq ?_
        refine tc_seq ?_
        refine tc_region ?_
        refine tl (y_move rfl) rfl ?_
        refine tl (y_move rfl) rfl ?_
        refine tl (y_move rfl) rfl ?_
        refine tl (y_idx hx rfl rfl rfl rfl (by omega)) rfl ?_
        refine tl (y_el0 (k := (i + 1)) hx rfl hi (by omega) rfl rfl) rfl ?_
        refine tl_call step_tl rfl rfl (count_spec (x := x) (S := (Ll :: S)) (i := (i + 1)) hx hi (gt xs k) (by omega)) (fun _ h => h) rfl (fun v_ => tl_pure fun e_ => tl_val e_ ?_)
        have hct_3 := List.count_le_length (a := gt xs k) (l := xs)
        refine tl (y_gt rfl rfl) rfl ?_
        refine tl_end ?_
        refine ex_next ?_
        refine tc_if rfl (fun h39 => ?_) (fun h39 => ?_)
        · refine tc_seq ?_
          refine tc_region ?_
          refine tl (y_assign rfl) rfl ?_
          refine tl_end ?_
          refine ex_next ?_
          refine tc_ret ?_
          refine ex_pass_ret (ex_block_ret (ex_pass_ret (ex_pass_ret (ex_block_ret (ex_pass_ret ?_)))))
          refine ex_ret1 rfl rfl (fun w hw => ?_)
          exact ⟨none, [], 0, [], [], rfl, Own.nil, seqz_neg (fun h => by have := List.nodup_iff_count.1 h.2.1 (gt xs k); omega), by simp, (hw.pickT [] 1 rfl rfl).empty.empty⟩
        · refine tc_skip ?_
          refine ex_next ?_
          refine tc_seq ?_
          refine tc_draw x (by kernel_rfl) (by kernel_rfl) ?_
          refine tq (y_move rfl) rfl ?_
          refine tq (y_move rfl) rfl ?_
          refine tq (y_idx hx rfl rfl rfl rfl (by omega)) rfl ?_
          refine tq (y_el0 (k := (i + 1)) hx rfl hi (by omega) rfl rfl) rfl ?_
          refine tq (y_move rfl) rfl ?_
          refine tq (y_move rfl) rfl ?_
          refine tq (y_idx hy rfl rfl rfl rfl (by omega)) rfl ?_
          refine tq (y_el0 (k := (j + 1)) hy rfl hj (by omega) rfl rfl) rfl ?_
          refine tq (y_ne rfl rfl) rfl ?_
          refine tq_end ?_
          refine ex_next ?_
          refine tc_if rfl (fun h48 => ?_) (fun h48 => ?_)
          · refine tc_tree [(0, .p), (1, .p), (2, .p), (3, .p), (4, .r), (5, .p), (6, .p), (7, .p), (8, .r), (9, .p), (12, .p)] (.quiet 0 .p (.quiet 1 .p (.quiet 2 .p (.quiet 3 .p (.quiet 4 .r (.quiet 5 .p (.quiet 6 .p (.quiet 7 .p (.quiet 8 .r (.quiet 9 .p (.fork 10 [] (.fork 11 [] (.quiet 12 .p .done) .stop) .stop))))))))))) (by kernel_rfl) (by kernel_rfl) ?_
            refine tt_p rfl (y_move rfl) rfl ?_
            refine tt_p rfl (y_move rfl) rfl ?_
            refine tt_p rfl (y_move rfl) rfl ?_
            refine tt_p rfl (y_idx hx rfl rfl rfl rfl (by omega)) rfl ?_
            refine tt_r rfl (y_el0 (k := (i + 1)) hx rfl hi (by omega) rfl rfl) rfl ?_
            refine tt_p rfl (y_move rfl) rfl ?_
            refine tt_p rfl (y_move rfl) rfl ?_
            refine tt_p rfl (y_idx hy rfl rfl rfl rfl (by omega)) rfl ?_
            refine tt_r rfl (y_el0 (k := (j + 1)) hy rfl hj (by omega) rfl rfl) rfl ?_
            refine tt_p rfl (y_build (is := [0, 1]) (xs := [.tmp 53, .tmp 57]) (vs := [.int .i64 (gt xs k), .int .i64 (gt ys k)]) (cs := [.int .i64 (gt xs k), .int .i64 (gt ys k)]) rfl rfl rfl) rfl ?_
            refine tl_one (step_tt rfl) (K := kP) (gt xs k, gt ys k) rfl rfl rfl rfl rfl rfl rfl rfl rfl (fun A_1 L_1 O_1 => ?_)
            refine kept_nil ?_
            refine tl_append (step_tt rfl) (by_ := 16) 1 0 Ol O_1.rd rfl rfl rfl rfl rfl rfl rfl rfl rfl rfl (by simp; omega) (by simp; omega) rfl (fun A_2 c_1 L_2 O_2 le_1 => ?_)
            change TG _ _ _ (St x (L_1 :: L_2 :: S))
            refine kept_nil ?_
            refine tt_p rfl (y_assign rfl) rfl ?_
            refine tt_end ?_
            refine ex_block_end (ex_next ?_)
            refine tc_region ?_
            refine tl (y_addi rfl rfl (by omega)) rfl ?_
            refine tl (y_move rfl) rfl ?_
            refine tl_end ?_
            exact ex_round ⟨_, l ++ [(gt xs k, gt ys k)], _, _, _, by omega, ⟨by rw [take_gt (by omega)]; exact nodup_snoc hn.1 (count_notin (by omega) (by omega)), fun q hq => by rcases (by omega : q < k ∨ q = k) with h | h; exact hn.2 q ⟨hq.1, h⟩; rw [h]; omega⟩, by first | omega | (simp; omega), by rw [take_gt (by rw [List.length_zip]; omega), List.filter_append, ← hlf, gt_zip (by omega)]; simp [Ne.symm h48], O_2, rfl, rfl, rfl⟩ (by omega) (sc rfl (sc rfl (sc rfl (sc rfl (sc rfl (sc rfl sn)))))) (fun _ h => h.pickT [1] 2 rfl rfl)
          · refine tc_skip ?_
            refine ex_block_end (ex_next ?_)
            refine tc_region ?_
            refine tl (y_addi rfl rfl (by omega)) rfl ?_
            refine tl (y_move rfl) rfl ?_
            refine tl_end ?_
            exact ex_round ⟨_, l, _, _, _, by omega, ⟨by rw [take_gt (by omega)]; exact nodup_snoc hn.1 (count_notin (by omega) (by omega)), fun q hq => by rcases (by omega : q < k ∨ q = k) with h | h; exact hn.2 q ⟨hq.1, h⟩; rw [h]; omega⟩, by first | omega | (simp; omega), by rw [take_gt (by rw [List.length_zip]; omega), List.filter_append, ← hlf, gt_zip (by omega)]; simp [Classical.not_not.1 h48], Ol, rfl, rfl, rfl⟩ (by omega) (sc rfl (sc rfl (sc rfl (sc rfl (sc rfl (sc rfl sn)))))) (fun _ h => h.pickT [0] 1 rfl rfl)
      · refine tc_exit ?_
        refine ex_pass_exit (ex_pass_exit (ex_block_hit (ex_next ?_)))
        refine tc_seq ?_
        have hzl : (List.zip xs ys).length = xs.length := by rw [List.length_zip]; omega
        have hok : xs.length = ys.length ∧ xs.Nodup ∧ t ∉ xs ∧ t ∉ ys := ⟨by omega, by have := hn.1; rwa [take_self (by omega)] at this, fun hm => by have := List.count_pos_iff.2 hm; omega, fun hm => by have := List.count_pos_iff.2 hm; omega⟩
        have hl0 : l = (xs.zip ys).filter (fun p => decide (p.2 ≠ p.1)) := by rw [hlf, take_self (by omega)]
        have hl0l : l.length ≤ xs.length := by omega
        have hl0t : ∀ q ∈ l, q.1 ≠ t := fun q hq e => hok.2.2.1 (by rw [hl0] at hq; exact e ▸ (List.of_mem_zip (List.mem_filter.1 hq).1).1)
        refine tc_region ?_
        refine tl (y_assign rfl) rfl ?_
        refine tl_end ?_
        refine ex_next ?_
        refine tc_seq ?_
        refine tc_block ?_
        refine tc_loop (fun l_ C_ m_ => ∃ cur : List (Int × Int), ∃ ms : List Mv, ∃ f : Nat, ∃ cp : Nat, ∃ co : Nat, ∃ Ap : Option Addr, ∃ Ao : Option Addr, ∃ Lp : List Chunk, ∃ Lo : List Chunk, ∃ LA : List Chunk, ((ms.map Mv.p) ++ sq f cur t = sq (2 * xs.length + 1) l t) ∧ (mz cur ≤ f) ∧ (∀ q ∈ cur, q.1 ≠ t) ∧ (cur.length ≤ xs.length) ∧ (ms.length + f ≤ 2 * xs.length + 1) ∧ (∀ m ∈ ms, Rd (kI .i64) m.A [m.s] 1 LA) ∧ (Own 49 kP Ap cur cp Lp) ∧ (Own 28 kM Ao ms co Lo) ∧ l_ = [(0, .slice A xs.length c), (1, .slice B ys.length c'), (2, .int .i64 t), (7, .slice Ap cur.length cp), (9, .slice Ao ms.length co)] ∧ C_ = St x (Lp :: Lo :: LA :: S) ∧ m_ = f + 1) ⟨l, [], 2 * xs.length + 1, _, _, _, _, _, _, _, rfl, by have := mz_le (l := l); omega, hl0t, hl0l, by simp, by simp, Ol, Own.nil, rfl, rfl, rfl⟩ (sc rfl (sc rfl (sc rfl (sc rfl (sc rfl sn))))) (fun _ h => (h.pickT [0] 1 rfl rfl).empty.empty.pickT [2, 0, 1] 3 rfl rfl) ?_
        rintro _ _ _ ⟨cur, ms, f, cp, co, Ap, Ao, Lp, Lo, LA, hR, hz, ht', hcl, hol, hr, Op, Oo, rfl, rfl, rfl⟩
        refine tc_seq ?_
        refine tc_seq ?_
        refine tc_region ?_
        refine tl (y_move rfl) rfl ?_
        refine tl (y_len rfl rfl) rfl ?_
        refine tl (y_gt rfl rfl) rfl ?_
        refine tl_end ?_
        refine ex_next ?_
        refine tc_if rfl (fun h64 => ?_) (fun h64 => ?_)
        · refine tc_skip ?_
          refine ex_next ?_
          refine tc_block ?_
          refine tc_seq ?_
          refine tc_seq ?_
          have hne : cur ≠ [] := fun e => by rw [e] at h64; simp at h64
          have hfp : 0 < f := mz_pos hne hz
          refine tc_region ?_
          refine tl (y_move rfl) rfl ?_
          refine tl_call step_tl rfl rfl (free_spec (x := x) (S := (Lp :: Lo :: LA :: S)) (i := 0) Op.rd rfl (by omega)) (fun _ h => h) rfl (fun v_ => tl_ex fun r => tl_pure fun e_ => tl_val e_ ?_)
          refine tl_pure fun hr' => ?_
          refine tl (y_assign rfl) rfl ?_
          refine tl_end ?_
          refine ex_next ?_
          refine tc_seq ?_
          refine tc_region ?_
          refine tl (y_move rfl) rfl ?_
          refine tl (y_ge rfl rfl) rfl ?_
          refine tl_end ?_
          refine ex_next ?_
          refine tc_if rfl (fun h68 => ?_) (fun h68 => ?_)
          · refine tc_seq ?_
            obtain ⟨hr1, hfi⟩ : r < cur.length ∧ freeIx cur = some r.toNat := by rcases hr' with h | ⟨h, _⟩; exact h.2; omega
            refine tc_tree [(0, .p), (1, .p), (2, .p), (3, .p), (4, .p), (5, .r), (6, .p), (7, .p), (8, .p), (9, .p), (10, .r), (12, .p), (15, .p)] (.quiet 0 .p (.quiet 1 .p (.quiet 2 .p (.quiet 3 .p (.quiet 4 .p (.quiet 5 .r (.quiet 6 .p (.quiet 7 .p (.quiet 8 .p (.quiet 9 .p (.quiet 10 .r (.fork 11 [5] (.quiet 12 .p (.fork 13 [] (.fork 14 [] (.quiet 15 .p .done) .stop) .stop)) .stop)))))))))))) (by kernel_rfl) (by kernel_rfl) ?_
            refine tt_p rfl (y_move rfl) rfl ?_
            refine tt_p rfl (y_move rfl) rfl ?_
            refine tt_p rfl (y_move rfl) rfl ?_
            refine tt_p rfl (y_idx Op.rd rfl rfl rfl rfl (by omega)) rfl ?_
            refine tt_p rfl (y_fae rfl rfl rfl) rfl ?_
            refine tt_r rfl (y_el (k := 0) Op.rd rfl rfl (by omega) rfl rfl) rfl ?_
            refine tt_p rfl (y_move rfl) rfl ?_
            refine tt_p rfl (y_move rfl) rfl ?_
            refine tt_p rfl (y_idx Op.rd rfl rfl rfl rfl (by omega)) rfl ?_
            refine tt_p rfl (y_fae rfl rfl rfl) rfl ?_
            refine tt_r rfl (y_el (k := 0) Op.rd rfl rfl (by omega) rfl rfl) rfl ?_
            refine tl_one (step_tt rfl) (K := (kI .i64)) ((gt cur r).2) rfl rfl rfl rfl rfl rfl rfl rfl rfl (fun A_3 L_3 O_3 => ?_)
            refine kept_on rfl rfl rfl (y_el (k := 1) Op.rd rfl rfl (by omega) rfl rfl) ?_
            refine kept_nil ?_
            refine tt_p rfl (y_build (is := [0, 2, 3]) (xs := [.const (Value.int IntKind.i64 4), .tmp 74, .tmp 80]) (vs := [.int .i64 4, .int .i64 ((gt cur r).1), .slice A_3 [(gt cur r).2].length 1]) (cs := [.int .i64 4, .int .i64 0, .int .i64 ((gt cur r).1), .slice A_3 [(gt cur r).2].length 1, .int .i64 0, .int .i64 0, .int .i64 0, .bool false]) rfl rfl rfl) rfl ?_
            refine tl_one (step_tt rfl) (K := kM) (⟨(gt cur r).1, (gt cur r).2, A_3⟩ : Mv) rfl rfl rfl rfl rfl rfl rfl rfl rfl (fun A_4 L_4 O_4 => ?_)
            refine kept_nil ?_
            refine tl_append (step_tt rfl) (by_ := 80) 3 0 Oo O_4.rd rfl rfl rfl rfl rfl rfl rfl rfl rfl rfl (by simp; omega) (by simp; omega) rfl (fun A_5 c_2 L_5 O_5 le_2 => ?_)
            change TG _ _ _ (St x (L_4 :: L_3 :: Lp :: L_5 :: LA :: S))
            refine kept_nil ?_
            refine tt_p rfl (y_assign rfl) rfl ?_
            refine tt_end ?_
            refine ex_next ?_
            refine tc_seq ?_
            refine tc_tree [(1, .p), (2, .p), (3, .p), (5, .p), (6, .p), (7, .p), (8, .p), (10, .p)] (.quiet 1 .p (.quiet 2 .p (.quiet 3 .p (.quiet 5 .p (.quiet 6 .p (.quiet 7 .p (.quiet 8 .p (.fork 0 [] (.fork 4 [] (.fork 9 [] (.quiet 10 .p .done) .stop) .stop) .stop)))))))) (by kernel_rfl) (by kernel_rfl) ?_
            refine tt_p rfl (y_move rfl) rfl ?_
            refine tt_p rfl (y_move rfl) rfl ?_
            refine tt_p rfl (y_slh (K := kP) rfl rfl rfl rfl Op.rd.le (by omega)) rfl ?_
            refine tt_p rfl (y_move rfl) rfl ?_
            refine tt_p rfl (y_move rfl) rfl ?_
            refine tt_p rfl (y_addi rfl rfl (by omega)) rfl ?_
            refine tt_p rfl (y_sll (K := kP) rfl rfl rfl rfl Op.rd.le (by omega)) rfl ?_
            refine tl_lit (step_tt rfl) (K := kP) (xs := []) (vs := []) ([] : List (Int × Int)) rfl rfl trivial rfl rfl rfl rfl rfl (fun A_6 L_6 O_6 => ?_)
            refine kept_nil ?_
            refine tl_append (step_tt rfl) (by_ := 16) 0 3 O_6 (Op.cut_h (h := r) (by omega)).rd rfl rfl rfl rfl rfl rfl rfl rfl rfl rfl (by simp; omega) (by simp; omega) rfl (fun A_7 c_3 L_7 O_7 le_3 => ?_)
            change TG _ _ _ (St x (L_7 :: L_4 :: L_3 :: Lp :: L_5 :: LA :: S))
            refine kept_nil ?_
            refine tl_append (step_tt rfl) (by_ := 16) 0 3 O_7 (Op.cut_l (h := r + 1) (by omega)).rd rfl rfl rfl rfl rfl rfl rfl rfl rfl rfl (by simp; omega) (by simp; omega) rfl (fun A_8 c_4 L_8 O_8 le_4 => ?_)
            change TG _ _ _ (St x (L_8 :: L_4 :: L_3 :: Lp :: L_5 :: LA :: S))
            refine kept_nil ?_
            refine tt_p rfl (y_assign rfl) rfl ?_
            refine tt_end ?_
            refine ex_next ?_
            refine tc_exit ?_
            refine ex_pass_exit (ex_block_hit ?_)
            exact ex_round ⟨List.take r.toNat cur ++ List.drop (r + 1).toNat cur, ms ++ [(⟨(gt cur r).1, (gt cur r).2, A_3⟩ : Mv)], f - 1, _, _, _, _, _, _, _, by rw [sq_free hfp hne hfi, erase_take_drop h68, Int.toNat_of_nonneg h68] at hR; rw [← hR, List.map_append, List.append_assoc]; rfl, by rw [← erase_take_drop h68]; exact mz_free hfi hz, fun q hq => ht' q (by rw [← erase_take_drop h68] at hq; exact List.mem_of_mem_eraseIdx hq), by simp; omega, by simp; omega, mem_snoc (fun m h => (hr m h).mono (fun p hp => List.mem_append_right _ hp)) (O_3.rd.mono (fun p hp => List.mem_append_left _ hp)), O_8, O_5, rfl, rfl, rfl⟩ (by omega) (sc rfl (sc rfl (sc rfl (sc rfl (sc rfl sn))))) (fun _ h => (h.pickT [0, 4, 2, 5] 6 rfl rfl).merge_at2)
          · refine tc_skip ?_
            refine ex_next ?_
            refine tc_seq ?_
            have hfi : freeIx cur = none := by rcases hr' with h | h; omega; exact h.2
            have hcp : 0 < cur.length := List.length_pos_iff.2 hne
            refine tc_region ?_
            refine tl (y_move rfl) rfl ?_
            refine tl (y_idx Op.rd rfl rfl rfl rfl (by omega)) rfl ?_
            refine tl (y_fae rfl rfl rfl) rfl ?_
            refine tl (y_el (k := 0) Op.rd rfl rfl (by omega) rfl rfl) rfl ?_
            refine tl (y_assign rfl) rfl ?_
            refine tl_end ?_
            refine ex_next ?_
            refine tc_seq ?_
            refine tc_region ?_
            refine tl (y_move rfl) rfl ?_
            refine tl (y_move rfl) rfl ?_
            refine tl (y_move rfl) rfl ?_
            refine tl_one step_tl (K := (kI .i64)) ((gt cur 0).1) rfl rfl rfl rfl rfl rfl rfl rfl rfl (fun A_9 L_9 O_9 => ?_)
            refine tl (y_build (is := [0, 2, 3]) (xs := [.const (Value.int IntKind.i64 4), .tmp 99, .tmp 101]) (vs := [.int .i64 4, .int .i64 t, .slice A_9 [(gt cur 0).1].length 1]) (cs := [.int .i64 4, .int .i64 0, .int .i64 t, .slice A_9 [(gt cur 0).1].length 1, .int .i64 0, .int .i64 0, .int .i64 0, .bool false]) rfl rfl rfl) rfl ?_
            refine tl_one step_tl (K := kM) (⟨t, (gt cur 0).1, A_9⟩ : Mv) rfl rfl rfl rfl rfl rfl rfl rfl rfl (fun A_10 L_10 O_10 => ?_)
            refine tl_append step_tl (by_ := 80) 3 0 Oo O_10.rd rfl rfl rfl rfl rfl rfl rfl rfl rfl rfl (by simp; omega) (by simp; omega) rfl (fun A_11 c_5 L_11 O_11 le_5 => ?_)
            change TG _ _ _ (St x (L_10 :: L_9 :: Lp :: L_11 :: LA :: S))
            refine tl (y_assign rfl) rfl ?_
            refine tl_end ?_
            refine ex_next ?_
            refine tc_seq ?_
            refine tc_region ?_
            refine tl (y_move rfl) rfl ?_
            refine tl (y_len rfl rfl) rfl ?_
            refine tl (y_move rfl) rfl ?_
            refine tl_end ?_
            refine ex_next ?_
            refine tc_block ?_
            refine tc_loop (fun l_ C_ m_ => ∃ k : Int, ∃ zs : List (Int × Int), ∃ L₀ : List Chunk, (0 ≤ k ∧ k ≤ cur.length) ∧ (zs.length = cur.length) ∧ (∀ q : Int, 0 ≤ q ∧ q < k → gt zs q = (if (gt cur q).2 = (gt cur 0).1 then ((gt cur q).1, t) else gt cur q)) ∧ (∀ q : Int, k ≤ q ∧ q < cur.length → gt zs q = gt cur q) ∧ (Own 49 kP Ap zs cp L₀) ∧ l_ = [(0, .slice A xs.length c), (1, .slice B ys.length c'), (2, .int .i64 t), (9, .slice A_11 (ms ++ [(⟨t, (gt cur 0).1, A_9⟩ : Mv)]).length c_5), (11, .int .i64 ((gt cur 0).1)), (7, .slice Ap zs.length cp), (106, .int .i64 (cur.length : Int)), (107, .int .i64 k)] ∧ C_ = St x (L₀ :: L_10 :: L_9 :: L_11 :: LA :: S) ∧ m_ = (cur.length - k).toNat) ⟨_, cur, Lp, by omega, rfl, fun q hq => absurd hq (by omega), fun _ _ => rfl, Op, rfl, rfl, rfl⟩ (sc rfl (sc rfl (sc rfl (sc rfl (sc rfl (sc rfl (sc rfl (sc rfl sn)))))))) (fun _ h => h.pickT [2, 0, 1, 3, 4] 5 rfl rfl) ?_
            rintro _ _ _ ⟨k, zs, L₀, hk2, hyl, h1, h2, Oy, rfl, rfl, rfl⟩
            refine tc_seq ?_
            refine tc_region ?_
            refine tl (y_lt rfl rfl) rfl ?_
            refine tl_end ?_
            refine ex_next ?_
            refine tc_seq ?_
            refine tc_if rfl (fun h108 => ?_) (fun h108 => ?_)
            · refine tc_skip ?_
              refine ex_next ?_
              refine tc_seq ?_
              refine tc_block ?_
              refine tc_seq ?_
              refine tc_region ?_
              refine tl (y_move rfl) rfl ?_
              refine tl (y_assign rfl) rfl ?_
              refine tl_end ?_
              refine ex_next ?_
              refine tc_seq ?_
              refine tc_region ?_
              refine tl (y_move rfl) rfl ?_
              refine tl (y_move rfl) rfl ?_
              refine tl (y_idx Oy.rd rfl rfl rfl rfl (by omega)) rfl ?_
              refine tl (y_fae rfl rfl rfl) rfl ?_
              refine tl (y_el (k := 0) Oy.rd rfl rfl (by omega) rfl rfl) rfl ?_
              refine tl (y_move rfl) rfl ?_
              refine tl (y_eq rfl rfl) rfl ?_
              refine tl_end ?_
              refine ex_next ?_
              refine tc_if rfl (fun h116 => ?_) (fun h116 => ?_)
              · refine tc_region ?_
                refine tl (y_move rfl) rfl ?_
                refine tl (y_move rfl) rfl ?_
                refine tl (y_move rfl) rfl ?_
                refine tl (y_idx Oy.rd rfl rfl rfl rfl (by omega)) rfl ?_
                refine tl (y_fae rfl rfl rfl) rfl ?_
                refine tl_stel step_tl 0 ((gt zs k).1, t) Oy rfl rfl (vs := [.int .i64 t]) rfl rfl rfl (by omega) (Nat.le_of_ble_eq_true rfl) rfl rfl (fun L_12 O_12 => ?_)
                change TG _ _ _ (St x (L_12 :: L_10 :: L_9 :: L_11 :: LA :: S))
                refine tl_end ?_
                refine ex_block_end (ex_next ?_)
                refine tc_region ?_
                refine tl (y_addi rfl rfl (by omega)) rfl ?_
                refine tl (y_move rfl) rfl ?_
                refine tl_end ?_
                exact ex_round ⟨_, _, _, by omega, by first | omega | (rw [st_length]; omega), fun q hq => remap_step_T (by omega) hyl h1 (h2 k (by omega)) h116 q hq, fun q hq => by rw [gt_st (by omega) (by omega), if_neg (by omega)]; exact h2 q (by omega), O_12, rfl, rfl, rfl⟩ (by omega) (sc rfl (sc rfl (sc rfl (sc rfl (sc rfl (sce rfl (by first | rfl | simp [st]) (sc rfl (sc rfl sn)))))))) (fun _ h => h.pickT [0, 1, 2, 3, 4] 5 rfl rfl)
              · refine tc_skip ?_
                refine ex_block_end (ex_next ?_)
                refine tc_region ?_
                refine tl (y_addi rfl rfl (by omega)) rfl ?_
                refine tl (y_move rfl) rfl ?_
                refine tl_end ?_
                exact ex_round ⟨_, _, _, by omega, by first | omega | (rw [st_length]; omega), fun q hq => remap_step_F (by omega) hyl h1 (h2 k (by omega)) h116 q hq, fun q hq => h2 q (by omega), Oy, rfl, rfl, rfl⟩ (by omega) (sc rfl (sc rfl (sc rfl (sc rfl (sc rfl (sce rfl (by first | rfl | simp [st]) (sc rfl (sc rfl sn)))))))) (fun _ h => h.pickT [0, 1, 2, 3, 4] 5 rfl rfl)
            · have hys : zs = remap t (gt cur 0).1 cur := remap_done (by omega) hyl h1
              refine tc_exit ?_
              refine ex_pass_exit (ex_pass_exit (ex_block_hit (ex_block_end ?_)))
              exact ex_round ⟨zs, ms ++ [(⟨t, (gt cur 0).1, A_9⟩ : Mv)], f - 1, _, _, _, _, _, _, _, by rw [sq_none hfp hne hfi, ← hys] at hR; rw [← hR, List.map_append, List.append_assoc]; rfl, by rw [hys]; exact mz_none hne ht' hfi hz, by rw [hys]; exact remap_fst ht', by omega, by simp; omega, mem_snoc (fun m h => (hr m h).mono (fun p hp => List.mem_append_right _ hp)) (O_9.rd.mono (fun p hp => List.mem_append_left _ hp)), Oy, O_11, rfl, rfl, rfl⟩ (by omega) (sc rfl (sc rfl (sc rfl (sc rfl (sc rfl sn))))) (fun _ h => (h.pickT [0, 3, 2, 4] 5 rfl rfl).merge_at2)
        · refine tc_exit ?_
          refine ex_pass_exit (ex_pass_exit (ex_block_hit (ex_next ?_)))
          refine tc_seq ?_
          refine tc_region ?_
          refine tl (y_move rfl) rfl ?_
          refine tl (y_assign rfl) rfl ?_
          refine tl_end ?_
          refine ex_next ?_
          refine tc_ret ?_
          refine ex_ret1 rfl rfl (fun w hw => ?_)
          have h0 : cur = [] := List.eq_nil_of_length_eq_zero (by omega)
          rw [h0, sq_nil, List.append_nil] at hR
          exact ⟨_, _, _, _, _, rfl, Oo, by rw [hR, seqz_pos hok, ← hl0], hr, hw.pickT [1, 2] 3 rfl rfl⟩

end Go.Proofs.Yteilepombglalaa
