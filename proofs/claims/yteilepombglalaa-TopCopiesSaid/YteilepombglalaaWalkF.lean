/-
  The law's own small functions: copies compared, lists of copies compared: proved by following their operations.
-/
import Derived.Test.YteilepombglalaaWalkE
set_option linter.unusedVariables false
namespace Go.Proofs.Yteilepombglalaa
open Go
theorem same_spec {x : Out} {S : List (List Chunk)} {a b : Mv} {i j : Nat} {L M : List Chunk} (ha : Rd (kI .i64) a.A [a.s] 1 L) (hb : Rd (kI .i64) b.A [b.s] 1 M) (hi : S[i]? = some L) (hj : S[j]? = some M) :
    Spec Try.prog 10 #[.agg #[.int .i64 4, .int .i64 0, .int .i64 a.d, .slice a.A [a.s].length 1, .int .i64 0, .int .i64 0, .int .i64 0, .bool false], .agg #[.int .i64 4, .int .i64 0, .int .i64 b.d, .slice b.A [b.s].length 1, .int .i64 0, .int .i64 0, .int .i64 0, .bool false]] (St x (S)) (fun v w => v = .bool (decide (a.p = b.p)) ∧ St x S w) := by
  refine spec_of (args := [.agg #[.int .i64 4, .int .i64 0, .int .i64 a.d, .slice a.A [a.s].length 1, .int .i64 0, .int .i64 0, .int .i64 0, .bool false], .agg #[.int .i64 4, .int .i64 0, .int .i64 b.d, .slice b.A [b.s].length 1, .int .i64 0, .int .i64 0, .int .i64 0, .bool false]]) Try.func10 rfl rfl rfl ?_
  refine tc_seq ?_
  refine tc_region ?_
  refine tl_box step_tl (cs := [.int .i64 4, .int .i64 0, .int .i64 a.d, .slice a.A [a.s].length 1, .int .i64 0, .int .i64 0, .int .i64 0, .bool false]) rfl rfl rfl (fun b_1 => ?_)
  refine tl_box step_tl (cs := [.int .i64 4, .int .i64 0, .int .i64 b.d, .slice b.A [b.s].length 1, .int .i64 0, .int .i64 0, .int .i64 0, .bool false]) rfl rfl rfl (fun b_2 => ?_)
  refine tl (y_assign rfl) rfl ?_
  refine tl_end ?_
  refine ex_next ?_
  refine tc_seq ?_
  refine tc_region ?_
  refine tl (y_fa rfl rfl rfl) rfl ?_
  refine tl (y_ld (k := 1) rfl rfl rfl rfl) rfl ?_
  refine tl (y_fa rfl rfl rfl) rfl ?_
  refine tl (y_ld (k := 0) rfl rfl rfl rfl) rfl ?_
  refine tl (y_eq rfl rfl) rfl ?_
  refine tl (y_move rfl) rfl ?_
  refine tl_true (t := 10) rfl (rfl) ?_
  refine tl (y_fa rfl rfl rfl) rfl ?_
  refine tl (y_ld (k := 1) rfl rfl rfl rfl) rfl ?_
  refine tl (y_fa rfl rfl rfl) rfl ?_
  refine tl (y_ld (k := 0) rfl rfl rfl rfl) rfl ?_
  refine tl (y_eq rfl rfl) rfl ?_
  refine tl (y_pick_t rfl rfl) rfl ?_
  refine tl (y_move rfl) rfl ?_
  refine tl_true (t := 17) rfl (rfl) ?_
  refine tl (y_fa rfl rfl rfl) rfl ?_
  refine tl (y_ld (k := 1) rfl rfl rfl rfl) rfl ?_
  refine tl (y_fa rfl rfl rfl) rfl ?_
  refine tl (y_ld (k := 0) rfl rfl rfl rfl) rfl ?_
  refine tl (y_eq rfl rfl) rfl ?_
  refine tl (y_pick_t rfl rfl) rfl ?_
  refine tl (y_move rfl) rfl ?_
  refine tl_if (t := 24) rfl (fun h24 => ?_) (fun h24 => ?_)
  · refine tl (y_fa rfl rfl rfl) rfl ?_
    refine tl (y_ld (k := 1) rfl rfl rfl rfl) rfl ?_
    refine tl (y_fa rfl rfl rfl) rfl ?_
    refine tl (y_ld (k := 0) rfl rfl rfl rfl) rfl ?_
    refine tl (y_eq rfl rfl) rfl ?_
    refine tl (y_pick_t rfl rfl) rfl ?_
    refine tl (y_move rfl) rfl ?_
    refine tl_true (t := 31) rfl (rfl) ?_
    refine tl (y_fa rfl rfl rfl) rfl ?_
    refine tl (y_ld (k := 1) rfl rfl rfl rfl) rfl ?_
    refine tl (y_fa rfl rfl rfl) rfl ?_
    refine tl (y_ld (k := 0) rfl rfl rfl rfl) rfl ?_
    refine tl (y_eq rfl rfl) rfl ?_
    refine tl (y_pick_t rfl rfl) rfl ?_
    refine tl (y_move rfl) rfl ?_
    refine tl_true (t := 38) rfl (rfl) ?_
    refine tl (y_fa rfl rfl rfl) rfl ?_
    refine tl (y_ld (k := 1) rfl rfl rfl rfl) rfl ?_
    refine tl (y_fa rfl rfl rfl) rfl ?_
    refine tl (y_ld (k := 0) rfl rfl rfl rfl) rfl ?_
    refine tl (y_eq rfl rfl) rfl ?_
    refine tl (y_pick_t rfl rfl) rfl ?_
    refine tl (y_move rfl) rfl ?_
    refine tl_true (t := 45) rfl (rfl) ?_
    refine tl (y_fa rfl rfl rfl) rfl ?_
    refine tl (y_ld (k := 1) rfl rfl rfl rfl) rfl ?_
    refine tl (y_fa rfl rfl rfl) rfl ?_
    refine tl (y_ld (k := 0) rfl rfl rfl rfl) rfl ?_
    refine tl (y_eqb rfl rfl rfl) rfl ?_
    refine tl (y_pick_t rfl rfl) rfl ?_
    refine tl (y_move rfl) rfl ?_
    refine tl_true (t := 52) rfl (rfl) ?_
    refine tl (y_fa rfl rfl rfl) rfl ?_
    refine tl (y_ld (k := 1) rfl rfl rfl rfl) rfl ?_
    refine tl (y_fa rfl rfl rfl) rfl ?_
    refine tl (y_ld (k := 0) rfl rfl rfl rfl) rfl ?_
    refine tl_call step_tl rfl rfl (equal_spec (x := x) (S := (bx b_2 [.int .i64 4, .int .i64 0, .int .i64 b.d, .slice b.A [b.s].length 1, .int .i64 0, .int .i64 0, .int .i64 0, .bool false] 28 :: bx b_1 [.int .i64 4, .int .i64 0, .int .i64 a.d, .slice a.A [a.s].length 1, .int .i64 0, .int .i64 0, .int .i64 0, .bool false] 28 :: S)) (i := (i + 2)) (j := (j + 2)) ha hb hi hj (by simp)) (fun _ h => h) rfl (fun v_ => tl_pure fun e_ => tl_val e_ ?_)
    refine tl (y_pick_t rfl rfl) rfl ?_
    refine tl (y_assign rfl) rfl ?_
    refine tl_end ?_
    refine ex_next ?_
    refine tc_ret ?_
    refine ex_ret1 rfl rfl (fun w hw => ?_)
    exact ⟨same_T h24, hw.pickT [] 2 rfl rfl⟩
  · refine tl_off rfl ?_
    refine tl_off rfl ?_
    refine tl_off rfl ?_
    refine tl_off rfl ?_
    refine tl_off rfl ?_
    refine tl (y_pick_f rfl rfl) rfl ?_
    refine tl (y_move rfl) rfl ?_
    refine tl_off rfl ?_
    refine tl_off rfl ?_
    refine tl_off rfl ?_
    refine tl_off rfl ?_
    refine tl_off rfl ?_
    refine tl (y_pick_f rfl rfl) rfl ?_
    refine tl (y_move rfl) rfl ?_
    refine tl_off rfl ?_
    refine tl_off rfl ?_
    refine tl_off rfl ?_
    refine tl_off rfl ?_
    refine tl_off rfl ?_
    refine tl (y_pick_f rfl rfl) rfl ?_
    refine tl (y_move rfl) rfl ?_
    refine tl_off rfl ?_
    refine tl_off rfl ?_
    refine tl_off rfl ?_
    refine tl_off rfl ?_
    refine tl_off rfl ?_
    refine tl (y_pick_f rfl rfl) rfl ?_
    refine tl (y_move rfl) rfl ?_
    refine tl_off rfl ?_
    refine tl_off rfl ?_
    refine tl_off rfl ?_
    refine tl_off rfl ?_
    refine tl_off rfl ?_
    refine tl (y_pick_f rfl rfl) rfl ?_
    refine tl (y_assign rfl) rfl ?_
    refine tl_end ?_
    refine ex_next ?_
    refine tc_ret ?_
    refine ex_ret1 rfl rfl (fun w hw => ?_)
    exact ⟨same_F h24, hw.pickT [] 2 rfl rfl⟩

theorem equalf_spec {x : Out} {S : List (List Chunk)} {A B : Option Addr} {xs ys : List Mv} {c c' i j : Nat} {L M : List Chunk} (hx : Rd kM A xs c L) (hy : Rd kM B ys c' M) (hi : S[i]? = some L) (hj : S[j]? = some M) (hxs : (∀ m ∈ xs, ∃ (i : Nat) (L : List Chunk), S[i]? = some L ∧ Rd (kI .i64) m.A [m.s] 1 L)) (hys : (∀ m ∈ ys, ∃ (i : Nat) (L : List Chunk), S[i]? = some L ∧ Rd (kI .i64) m.A [m.s] 1 L)) (hl : xs.length ≤ 1048576) :
    Spec Try.prog 7 #[.slice A xs.length c, .slice B ys.length c', .func (.func 10) #[] #[]] (St x (S)) (fun v w => v = .bool (decide (xs.map Mv.p = ys.map Mv.p)) ∧ St x S w) := by
  refine spec_of (args := [.slice A xs.length c, .slice B ys.length c', .func (.func 10) #[] #[]]) Try.func7 rfl rfl rfl ?_
  refine tc_seq ?_
  refine tc_region ?_
  refine tl (y_assign rfl) rfl ?_
  refine tl_end ?_
  refine ex_next ?_
  refine tc_seq ?_
  refine tc_seq ?_
  refine tc_region ?_
  refine tl (y_move rfl) rfl ?_
  refine tl (y_len rfl rfl) rfl ?_
  refine tl (y_move rfl) rfl ?_
  refine tl (y_len rfl rfl) rfl ?_
  refine tl (y_ne rfl rfl) rfl ?_
  refine tl_end ?_
  refine ex_next ?_
  refine tc_if rfl (fun h14 => ?_) (fun h14 => ?_)
  · refine tc_seq ?_
    refine tc_region ?_
    refine tl (y_assign rfl) rfl ?_
    refine tl_end ?_
    refine ex_next ?_
    refine tc_ret ?_
    refine ex_pass_ret ?_
    refine ex_ret1 rfl rfl (fun w hw => ?_)
    exact ⟨by rw [decide_eq_false (fun e => by have := congrArg List.length e; simp at this; omega)], hw⟩
  · refine tc_skip ?_
    refine ex_next ?_
    refine tc_seq ?_
    refine tc_seq ?_
    refine tc_region ?_
    refine tl (y_move rfl) rfl ?_
    refine tl (y_len rfl rfl) rfl ?_
    refine tl (y_move rfl) rfl ?_
    refine tl_end ?_
    refine ex_next ?_
    refine tc_block ?_
    refine tc_loop (fun l_ C_ m_ => ∃ k : Int, (0 ≤ k ∧ k ≤ xs.length) ∧ (∀ q : Int, 0 ≤ q ∧ q < k → (gt xs q).p = (gt ys q).p) ∧ l_ = [(0, .slice A xs.length c), (1, .slice B ys.length c'), (2, .func (.func 10) #[] #[]), (15, .slice A xs.length c), (16, .int .i64 (xs.length : Int)), (17, .int .i64 k)] ∧ C_ = St x (S) ∧ m_ = (xs.length - k).toNat) ⟨_, by omega, fun q hq => absurd hq (by omega), rfl, rfl, rfl⟩ (sc rfl (sc rfl (sc rfl (sc rfl (sc rfl (sc rfl sn)))))) (fun _ h => h.pickT [] 0 rfl rfl) ?_
    rintro _ _ _ ⟨k, hk, hq', rfl, rfl, rfl⟩
    refine tc_seq ?_
    refine tc_region ?_
    refine tl (y_lt rfl rfl) rfl ?_
    refine tl_end ?_
    refine ex_next ?_
    refine tc_seq ?_
    refine tc_if rfl (fun h18 => ?_) (fun h18 => ?_)
    · refine tc_skip ?_
      refine ex_next ?_
      refine tc_seq ?_
      refine tc_block ?_
      refine tc_seq ?_
      refine tc_region ?_
      refine tl (y_move rfl) rfl ?_
      refine tl (y_idx hx rfl rfl rfl rfl (by omega)) rfl ?_
      refine tl (y_els (k := i) hx rfl hi (by omega) rfl rfl) rfl ?_
      refine tl_alloc step_tl (cs := [.int .i64 0, .int .i64 0, .int .i64 0, .slice none 0 0, .int .i64 0, .int .i64 0, .int .i64 0, .bool false]) rfl rfl rfl (fun b_1 => ?_)
      refine tl (y_assign rfl) rfl ?_
      refine tl_store step_tl 0 (vs := [.int .i64 4, .int .i64 0, .int .i64 ((gt xs k).d), .slice ((gt xs k).A) [(gt xs k).s].length 1, .int .i64 0, .int .i64 0, .int .i64 0, .bool false]) (cs' := [.int .i64 4, .int .i64 0, .int .i64 ((gt xs k).d), .slice ((gt xs k).A) [(gt xs k).s].length 1, .int .i64 0, .int .i64 0, .int .i64 0, .bool false]) (S' := (bx b_1 [.int .i64 4, .int .i64 0, .int .i64 ((gt xs k).d), .slice ((gt xs k).A) [(gt xs k).s].length 1, .int .i64 0, .int .i64 0, .int .i64 0, .bool false] 28 :: S)) rfl rfl rfl rfl rfl rfl rfl rfl rfl rfl ?_
      refine tl_end ?_
      refine ex_next ?_
      refine tc_seq ?_
      refine tc_region ?_
      refine tl (y_move rfl) rfl ?_
      refine tl (y_move rfl) rfl ?_
      refine tl (y_idx hy rfl rfl rfl rfl (by omega)) rfl ?_
      refine tl (y_els (k := (j + 1)) hy rfl hj (by omega) rfl rfl) rfl ?_
      refine tl_alloc step_tl (cs := [.int .i64 0, .int .i64 0, .int .i64 0, .slice none 0 0, .int .i64 0, .int .i64 0, .int .i64 0, .bool false]) rfl rfl rfl (fun b_2 => ?_)
      refine tl_store step_tl 0 (vs := [.int .i64 4, .int .i64 0, .int .i64 ((gt ys k).d), .slice ((gt ys k).A) [(gt ys k).s].length 1, .int .i64 0, .int .i64 0, .int .i64 0, .bool false]) (cs' := [.int .i64 4, .int .i64 0, .int .i64 ((gt ys k).d), .slice ((gt ys k).A) [(gt ys k).s].length 1, .int .i64 0, .int .i64 0, .int .i64 0, .bool false]) (S' := (bx b_2 [.int .i64 4, .int .i64 0, .int .i64 ((gt ys k).d), .slice ((gt ys k).A) [(gt ys k).s].length 1, .int .i64 0, .int .i64 0, .int .i64 0, .bool false] 28 :: bx b_1 [.int .i64 4, .int .i64 0, .int .i64 ((gt xs k).d), .slice ((gt xs k).A) [(gt xs k).s].length 1, .int .i64 0, .int .i64 0, .int .i64 0, .bool false] 28 :: S)) rfl rfl rfl rfl rfl rfl rfl rfl rfl rfl ?_
      refine tl_end ?_
      refine ex_next ?_
      refine tc_seq ?_
      refine tc_region ?_
      refine tl (y_move rfl) rfl ?_
      refine tl (y_lds 1 (vs := [.int .i64 4, .int .i64 0, .int .i64 ((gt xs k).d), .slice ((gt xs k).A) [(gt xs k).s].length 1, .int .i64 0, .int .i64 0, .int .i64 0, .bool false]) rfl rfl rfl rfl rfl) rfl ?_
      refine tl (y_lds 0 (vs := [.int .i64 4, .int .i64 0, .int .i64 ((gt ys k).d), .slice ((gt ys k).A) [(gt ys k).s].length 1, .int .i64 0, .int .i64 0, .int .i64 0, .bool false]) rfl rfl rfl rfl rfl) rfl ?_
      obtain ⟨i1, L1, hi1, hr1⟩ := hxs (gt xs k) (mem_gt (by omega))
      obtain ⟨i2, L2, hi2, hr2⟩ := hys (gt ys k) (mem_gt (by omega))
      refine tl_callv step_tl (first := []) (vs := [.agg #[.int .i64 4, .int .i64 0, .int .i64 ((gt xs k).d), .slice ((gt xs k).A) [(gt xs k).s].length 1, .int .i64 0, .int .i64 0, .int .i64 0, .bool false], .agg #[.int .i64 4, .int .i64 0, .int .i64 ((gt ys k).d), .slice ((gt ys k).A) [(gt ys k).s].length 1, .int .i64 0, .int .i64 0, .int .i64 0, .bool false]]) (caps := []) rfl rfl rfl (same_spec (x := x) (S := (bx b_2 [.int .i64 4, .int .i64 0, .int .i64 ((gt ys k).d), .slice ((gt ys k).A) [(gt ys k).s].length 1, .int .i64 0, .int .i64 0, .int .i64 0, .bool false] 28 :: bx b_1 [.int .i64 4, .int .i64 0, .int .i64 ((gt xs k).d), .slice ((gt xs k).A) [(gt xs k).s].length 1, .int .i64 0, .int .i64 0, .int .i64 0, .bool false] 28 :: S)) (i := i1 + 2) (j := i2 + 2) hr1 hr2 hi1 hi2) (fun _ h => h) rfl (fun v_ => tl_pure fun e_ => tl_val e_ ?_)
      refine tl (y_notd rfl) rfl ?_
      refine tl_end ?_
      refine ex_next ?_
      refine tc_if rfl (fun h30 => ?_) (fun h30 => ?_)
      · refine tc_seq ?_
        refine tc_region ?_
        refine tl (y_assign rfl) rfl ?_
        refine tl_end ?_
        refine ex_next ?_
        refine tc_ret ?_
        refine ex_block_ret (ex_pass_ret (ex_pass_ret (ex_block_ret (ex_pass_ret ?_))))
        refine ex_ret1 rfl rfl (fun w hw => ?_)
        exact ⟨by rw [decide_eq_false (fun e => h30 (by rw [← gt_map (f := Mv.p) (by omega), ← gt_map (f := Mv.p) (by omega), e]))], hw.pickT [] 2 rfl rfl⟩
      · refine tc_skip ?_
        refine ex_block_end (ex_next ?_)
        refine tc_region ?_
        refine tl (y_addi rfl rfl (by omega)) rfl ?_
        refine tl (y_move rfl) rfl ?_
        refine tl_end ?_
        exact ex_round ⟨_, by omega, fun q hq => by rcases (by omega : q < k ∨ q = k) with h | h; exact hq' q ⟨hq.1, h⟩; rw [h]; exact Classical.not_not.1 h30, rfl, rfl, rfl⟩ (by omega) (sc rfl (sc rfl (sc rfl (sc rfl (sc rfl (sc rfl sn)))))) (fun _ h => h.pickT [] 2 rfl rfl)
    · refine tc_exit ?_
      refine ex_pass_exit (ex_pass_exit (ex_block_hit (ex_next ?_)))
      refine tc_seq ?_
      refine tc_region ?_
      refine tl (y_assign rfl) rfl ?_
      refine tl_end ?_
      refine ex_next ?_
      refine tc_ret ?_
      refine ex_ret1 rfl rfl (fun w hw => ?_)
      exact ⟨by rw [decide_eq_true (eq_of_gt (by simp; omega) (fun q hq => by rw [List.length_map] at hq; rw [gt_map (by omega), gt_map (by omega)]; exact hq' q (by omega)))], hw.pickT [] 0 rfl rfl⟩

theorem move_spec {x : Out} {S : List (List Chunk)} (d s : Int) :
    Spec Try.prog 13 #[.int .i64 d, .int .i64 s] (St x (S)) (fun v w => ∃ A : Option Addr, ∃ L : List Chunk, v = .agg (kM.enc ⟨d, s, A⟩).toArray ∧ Rd (kI .i64) A [s] 1 L ∧ St x (L :: S) w) := by
  refine spec_of (args := [.int .i64 d, .int .i64 s]) Try.func13 rfl rfl rfl ?_
  refine tc_seq ?_
  refine tc_region ?_
  refine tl_alloc step_tl (cs := [.int .i64 0, .int .i64 0, .int .i64 0, .slice none 0 0, .int .i64 0, .int .i64 0, .int .i64 0, .bool false]) rfl rfl rfl (fun b_1 => ?_)
  refine tl_end ?_
  refine ex_next ?_
  refine tc_seq ?_
  refine tc_region ?_
  refine tl (y_move rfl) rfl ?_
  refine tl (y_move rfl) rfl ?_
  refine tl_one step_tl (K := (kI .i64)) s rfl rfl rfl rfl rfl rfl rfl rfl rfl (fun A_1 L_1 O_1 => ?_)
  refine tl (y_build (is := [0, 2, 3]) (xs := [.const (Value.int IntKind.i64 4), .tmp 5, .tmp 7]) (vs := [.int .i64 4, .int .i64 d, .slice A_1 [s].length 1]) (cs := [.int .i64 4, .int .i64 0, .int .i64 d, .slice A_1 [s].length 1, .int .i64 0, .int .i64 0, .int .i64 0, .bool false]) rfl rfl rfl) rfl ?_
  refine tl_store step_tl 1 (vs := [.int .i64 4, .int .i64 0, .int .i64 d, .slice A_1 [s].length 1, .int .i64 0, .int .i64 0, .int .i64 0, .bool false]) (cs' := [.int .i64 4, .int .i64 0, .int .i64 d, .slice A_1 [s].length 1, .int .i64 0, .int .i64 0, .int .i64 0, .bool false]) (S' := (L_1 :: bx b_1 [.int .i64 4, .int .i64 0, .int .i64 d, .slice A_1 [s].length 1, .int .i64 0, .int .i64 0, .int .i64 0, .bool false] 28 :: S)) rfl rfl rfl rfl rfl rfl rfl rfl rfl rfl ?_
  refine tl_end ?_
  refine ex_next ?_
  refine tc_ret ?_
  refine ex_retc (cs := [.int .i64 4, .int .i64 0, .int .i64 d, .slice A_1 [s].length 1, .int .i64 0, .int .i64 0, .int .i64 0, .bool false]) 1 rfl rfl rfl rfl rfl (fun w hw => ?_)
  exact ⟨_, _, rfl, O_1.rd, hw.pickT [0] 2 rfl rfl⟩

end Go.Proofs.Yteilepombglalaa
