/-
  The small functions of the program and of its reference, each with what it does: proved by following its operations.
-/
import Derived.Test.YteilepombglalaaWalkA
set_option linter.unusedVariables false
namespace Go.Proofs.Yteilepombglalaa
open Go
theorem distinct_spec {x : Out} {S : List (List Chunk)} {A : Option Addr} {xs : List Int} {c i : Nat} {L : List Chunk} (hx : Rd (kI .i64) A xs c L) (hi : S[i]? = some L) (hl : xs.length ≤ 1048576) :
    Spec Try.prog 14 #[.slice A xs.length c] (St x S) (fun v w => v = .bool (decide xs.Nodup) ∧ St x S w) := by
  refine spec_of (args := [.slice A xs.length c]) Try.func14 rfl rfl rfl ?_
  refine tc_seq ?_
  refine tc_region ?_
  refine tl (y_assign rfl) rfl ?_
  refine tl_end ?_
  refine ex_next ?_
  refine tc_seq ?_
  refine tc_seq ?_
  refine tc_region ?_
  refine tl (y_move rfl) rfl ?_
  refine tl (y_len rfl rfl) rfl ?_
  refine tl (y_move rfl) rfl ?_
  refine tl_end ?_
  refine ex_next ?_
  refine tc_block ?_
  refine tc_loop (fun l_ C_ m_ => ∃ k : Int, (0 ≤ k ∧ k ≤ xs.length) ∧ ((xs.take k.toNat).Nodup) ∧ l_ = [(0, .slice A xs.length c), (5, .slice A xs.length c), (6, .int .i64 (xs.length : Int)), (7, .int .i64 k)] ∧ C_ = St x S ∧ m_ = (xs.length - k).toNat) ⟨_, by omega, by simp, rfl, rfl, rfl⟩ (sc rfl (sc rfl (sc rfl (sc rfl sn)))) (fun _ h => h) ?_
  rintro _ _ _ ⟨k, hk, hn, rfl, rfl, rfl⟩
  refine tc_seq ?_
  refine tc_region ?_
  refine tl (y_lt rfl rfl) rfl ?_
  refine tl_end ?_
  refine ex_next ?_
  refine tc_seq ?_
  refine tc_if rfl (fun h8 => ?_) (fun h8 => ?_)
  · refine tc_skip ?_
    refine ex_next ?_
    refine tc_seq ?_
    refine tc_block ?_
    refine tc_seq ?_
    refine tc_region ?_
    refine tl (y_move rfl) rfl ?_
    refine tl (y_idx hx rfl rfl rfl rfl (by omega)) rfl ?_
    refine tl (y_el0 (k := i) hx rfl hi (by omega) rfl rfl) rfl ?_
    refine tl (y_assign rfl) rfl ?_
    refine tl (y_assign rfl) rfl ?_
    refine tl_end ?_
    refine ex_next ?_
    refine tc_seq ?_
    refine tc_region ?_
    refine tl (y_move rfl) rfl ?_
    refine tl (y_move rfl) rfl ?_
    refine tl (y_slh (K := (kI .i64)) rfl rfl rfl rfl hx.le (by omega)) rfl ?_
    refine tl (y_move rfl) rfl ?_
    refine tl_call step_tl rfl rfl (contains_spec (x := x) (S := S) (i := i) (hx.cut_h (h := k) (by omega)) hi (gt xs k) (by rw [List.length_take]; omega)) (fun _ h => h) rfl (fun v_ => tl_pure fun e_ => tl_val e_ ?_)
    refine tl_end ?_
    refine ex_next ?_
    refine tc_if rfl (fun h16 => ?_) (fun h16 => ?_)
    · refine tc_seq ?_
      refine tc_region ?_
      refine tl (y_assign rfl) rfl ?_
      refine tl_end ?_
      refine ex_next ?_
      refine tc_ret ?_
      refine ex_block_ret (ex_pass_ret (ex_pass_ret (ex_block_ret (ex_pass_ret ?_))))
      refine ex_ret1 rfl rfl (fun w hw => ?_)
      have h2 : gt xs k ∈ List.take k.toNat xs := h16
      exact ⟨by rw [decide_eq_false (fun h => nodup_gt h (by omega) h2)], hw⟩
    · refine tc_skip ?_
      refine ex_block_end (ex_next ?_)
      refine tc_region ?_
      refine tl (y_addi rfl rfl (by omega)) rfl ?_
      refine tl (y_move rfl) rfl ?_
      refine tl_end ?_
      exact ex_round ⟨_, by omega, by rw [take_gt (by omega)]; exact nodup_snoc hn h16, rfl, rfl, rfl⟩ (by omega) (sc rfl (sc rfl (sc rfl (sc rfl sn)))) (fun _ h => h)
  · refine tc_exit ?_
    refine ex_pass_exit (ex_pass_exit (ex_block_hit (ex_next ?_)))
    refine tc_seq ?_
    refine tc_region ?_
    refine tl (y_assign rfl) rfl ?_
    refine tl_end ?_
    refine ex_next ?_
    refine tc_ret ?_
    refine ex_ret1 rfl rfl (fun w hw => ?_)
    have e : xs.take k.toNat = xs := List.take_of_length_le (by omega)
    rw [e] at hn
    exact ⟨by rw [decide_eq_true hn], hw⟩

theorem count_spec {x : Out} {S : List (List Chunk)} {A : Option Addr} {xs : List Int} {c i : Nat} {L : List Chunk} (hx : Rd (kI .i64) A xs c L) (hi : S[i]? = some L) (n : Int) (hl : xs.length ≤ 1048576) :
    Spec Try.prog 18 #[.slice A xs.length c, .int .i64 n] (St x S) (fun v w => v = .int .i64 (xs.count n : Int) ∧ St x S w) := by
  refine spec_of (args := [.slice A xs.length c, .int .i64 n]) Try.func18 rfl rfl rfl ?_
  refine tc_seq ?_
  refine tc_region ?_
  refine tl (y_assign rfl) rfl ?_
  refine tl_end ?_
  refine ex_next ?_
  refine tc_seq ?_
  refine tc_region ?_
  refine tl (y_assign rfl) rfl ?_
  refine tl_end ?_
  refine ex_next ?_
  refine tc_seq ?_
  refine tc_seq ?_
  refine tc_region ?_
  refine tl (y_move rfl) rfl ?_
  refine tl (y_len rfl rfl) rfl ?_
  refine tl (y_move rfl) rfl ?_
  refine tl_end ?_
  refine ex_next ?_
  refine tc_block ?_
  refine tc_loop (fun l_ C_ m_ => ∃ k : Int, ∃ m : Int, (0 ≤ k ∧ k ≤ xs.length) ∧ (m = ((xs.take k.toNat).count n : Int)) ∧ (0 ≤ m ∧ m ≤ k) ∧ l_ = [(0, .slice A xs.length c), (1, .int .i64 n), (5, .int .i64 m), (8, .slice A xs.length c), (9, .int .i64 (xs.length : Int)), (10, .int .i64 k)] ∧ C_ = St x S ∧ m_ = (xs.length - k).toNat) ⟨_, _, by omega, by simp, by omega, rfl, rfl, rfl⟩ (sc rfl (sc rfl (sc rfl (sc rfl (sc rfl (sc rfl sn)))))) (fun _ h => h) ?_
  rintro _ _ _ ⟨k, m, hk, hm, hm2, rfl, rfl, rfl⟩
  refine tc_seq ?_
  refine tc_region ?_
  refine tl (y_lt rfl rfl) rfl ?_
  refine tl_end ?_
  refine ex_next ?_
  refine tc_seq ?_
  refine tc_if rfl (fun h11 => ?_) (fun h11 => ?_)
  · refine tc_skip ?_
    refine ex_next ?_
    refine tc_seq ?_
    refine tc_block ?_
    refine tc_seq ?_
    refine tc_region ?_
    refine tl (y_idx hx rfl rfl rfl rfl (by omega)) rfl ?_
    refine tl (y_el0 (k := i) hx rfl hi (by omega) rfl rfl) rfl ?_
    refine tl (y_assign rfl) rfl ?_
    refine tl_end ?_
    refine ex_next ?_
    refine tc_seq ?_
    refine tc_region ?_
    refine tl (y_move rfl) rfl ?_
    refine tl (y_move rfl) rfl ?_
    refine tl (y_eq rfl rfl) rfl ?_
    refine tl_end ?_
    refine ex_next ?_
    refine tc_if rfl (fun h16 => ?_) (fun h16 => ?_)
    · refine tc_region ?_
      refine tl (y_move rfl) rfl ?_
      refine tl (y_addi rfl rfl (by omega)) rfl ?_
      refine tl (y_assign rfl) rfl ?_
      refine tl_end ?_
      refine ex_block_end (ex_next ?_)
      refine tc_region ?_
      refine tl (y_addi rfl rfl (by omega)) rfl ?_
      refine tl (y_move rfl) rfl ?_
      refine tl_end ?_
      exact ex_round ⟨_, _, by omega, by rw [take_gt (by omega), List.count_append, hm]; simp [h16], by omega, rfl, rfl, rfl⟩ (by omega) (sc rfl (sc rfl (sc rfl (sc rfl (sc rfl (sc rfl sn)))))) (fun _ h => h)
    · refine tc_skip ?_
      refine ex_block_end (ex_next ?_)
      refine tc_region ?_
      refine tl (y_addi rfl rfl (by omega)) rfl ?_
      refine tl (y_move rfl) rfl ?_
      refine tl_end ?_
      exact ex_round ⟨_, _, by omega, by rw [take_gt (by omega), List.count_append, hm]; simp [h16], by omega, rfl, rfl, rfl⟩ (by omega) (sc rfl (sc rfl (sc rfl (sc rfl (sc rfl (sc rfl sn)))))) (fun _ h => h)
  · refine tc_exit ?_
    refine ex_pass_exit (ex_pass_exit (ex_block_hit (ex_next ?_)))
    refine tc_seq ?_
    refine tc_region ?_
    refine tl (y_move rfl) rfl ?_
    refine tl (y_assign rfl) rfl ?_
    refine tl_end ?_
    refine ex_next ?_
    refine tc_ret ?_
    refine ex_ret1 rfl rfl (fun w hw => ?_)
    have e : xs.take k.toNat = xs := List.take_of_length_le (by omega)
    rw [e] at hm
    exact ⟨by rw [hm], hw⟩

theorem pairs_spec {x : Out} {S : List (List Chunk)} {A B : Option Addr} {xs ys : List Int} {c c' i j : Nat} {L M : List Chunk} (hx : Rd (kI .i64) A xs c L) (hy : Rd (kI .i64) B ys c' M) (hi : S[i]? = some L) (hj : S[j]? = some M) (hl : xs.length = ys.length) (hb : xs.length ≤ 1048576) :
    Spec Try.prog 16 #[.slice A xs.length c, .slice B ys.length c'] (St x (S)) (fun v w => ∃ A' : Option Addr, ∃ c' : Nat, ∃ L' : List Chunk, v = .slice A' (xs.zip ys).length c' ∧ Own 54 kP A' (xs.zip ys) c' L' ∧ St x (L' :: S) w) := by
  refine spec_of (args := [.slice A xs.length c, .slice B ys.length c']) Try.func16 rfl rfl rfl ?_
  refine tc_seq ?_
  refine tc_region ?_
  refine tl (y_assign rfl) rfl ?_
  refine tl_end ?_
  refine ex_next ?_
  refine tc_seq ?_
  refine tc_region ?_
  refine tl (y_move rfl) rfl ?_
  refine tl (y_len rfl rfl) rfl ?_
  refine tl_make step_tl (by_ := 16) (K := kP) (0, 0) rfl rfl rfl rfl rfl rfl rfl rfl (by omega) rfl (by omega) rfl (fun A_1 L_1 O_1 => ?_)
  refine tl (y_assign rfl) rfl ?_
  refine tl_end ?_
  refine ex_next ?_
  refine tc_seq ?_
  refine tc_seq ?_
  refine tc_region ?_
  refine tl (y_move rfl) rfl ?_
  refine tl (y_len rfl rfl) rfl ?_
  refine tl (y_move rfl) rfl ?_
  refine tl_end ?_
  refine ex_next ?_
  refine tc_block ?_
  refine tc_loop (fun l_ C_ m_ => ∃ k : Int, ∃ ps : List (Int × Int), ∃ L₀ : List Chunk, (0 ≤ k ∧ k ≤ xs.length) ∧ (ps.length = xs.length) ∧ (∀ q : Int, 0 ≤ q ∧ q < k → gt ps q = (gt xs q, gt ys q)) ∧ (Own 54 kP A_1 ps ((xs.length : Int).toNat) L₀) ∧ l_ = [(0, .slice A xs.length c), (1, .slice B ys.length c'), (5, .slice A_1 ps.length ((xs.length : Int).toNat)), (11, .int .i64 (xs.length : Int)), (12, .int .i64 k)] ∧ C_ = St x (L₀ :: S) ∧ m_ = (xs.length - k).toNat) ⟨_, _, _, by omega, by simp, fun q hq => absurd hq (by omega), O_1, rfl, rfl, rfl⟩ (sc rfl (sc rfl (sce rfl (by simp) (sc rfl (sc rfl sn))))) (fun _ h => h.pickT [0] 1 rfl rfl) ?_
  rintro _ _ _ ⟨k, ps, L₀, hk, hpl, hps, O, rfl, rfl, rfl⟩
  refine tc_seq ?_
  refine tc_region ?_
  refine tl (y_lt rfl rfl) rfl ?_
  refine tl_end ?_
  refine ex_next ?_
  refine tc_seq ?_
  refine tc_if rfl (fun h13 => ?_) (fun h13 => ?_)
  · refine tc_skip ?_
    refine ex_next ?_
    refine tc_seq ?_
    refine tc_block ?_
    refine tc_seq ?_
    refine tc_region ?_
    refine tl (y_move rfl) rfl ?_
    refine tl (y_assign rfl) rfl ?_
    refine tl_end ?_
    refine ex_next ?_
    refine tc_tree [(0, .p), (1, .p), (2, .p), (3, .p), (4, .p), (5, .r), (6, .p), (7, .p), (8, .p), (9, .r), (10, .p), (11, .p)] (.quiet 0 .p (.quiet 1 .p (.quiet 2 .p (.quiet 3 .p (.quiet 4 .p (.quiet 5 .r (.quiet 6 .p (.quiet 7 .p (.quiet 8 .p (.quiet 9 .r (.quiet 10 .p (.quiet 11 .p (.fork 12 [] .done .stop))))))))))))) (by kernel_rfl) (by kernel_rfl) ?_
    refine tt_p rfl (y_move rfl) rfl ?_
    refine tt_p rfl (y_move rfl) rfl ?_
    refine tt_p rfl (y_move rfl) rfl ?_
    refine tt_p rfl (y_move rfl) rfl ?_
    refine tt_p rfl (y_idx hx rfl rfl rfl rfl (by omega)) rfl ?_
    refine tt_r rfl (y_el0 (k := (i + 1)) hx rfl hi (by omega) rfl rfl) rfl ?_
    refine tt_p rfl (y_move rfl) rfl ?_
    refine tt_p rfl (y_move rfl) rfl ?_
    refine tt_p rfl (y_idx hy rfl rfl rfl rfl (by omega)) rfl ?_
    refine tt_r rfl (y_el0 (k := (j + 1)) hy rfl hj (by omega) rfl rfl) rfl ?_
    refine tt_p rfl (y_build (is := [0, 1]) (xs := [.tmp 20, .tmp 24]) (vs := [.int .i64 (gt xs k), .int .i64 (gt ys k)]) (cs := [.int .i64 (gt xs k), .int .i64 (gt ys k)]) rfl rfl rfl) rfl ?_
    refine tt_p rfl (y_idx O.rd rfl rfl rfl rfl (by omega)) rfl ?_
    refine tl_stel0 (step_tt rfl) 0 (gt xs k, gt ys k) O rfl rfl (vs := [.int .i64 (gt xs k), .int .i64 (gt ys k)]) rfl rfl rfl (by omega) (Nat.le_of_ble_eq_true rfl) rfl rfl (fun L_2 O_2 => ?_)
    change TG _ _ _ (St x (L_2 :: S))
    refine kept_nil ?_
    refine tt_end ?_
    refine ex_block_end (ex_next ?_)
    refine tc_region ?_
    refine tl (y_addi rfl rfl (by omega)) rfl ?_
    refine tl (y_move rfl) rfl ?_
    refine tl_end ?_
    exact ex_round ⟨_, _, _, by omega, by rw [st_length, hpl], fun q hq => by rw [gt_st (by omega) hq.1]; by_cases h : q = k; simp [h]; simp only [h, if_false]; exact hps q (by omega), O_2, rfl, rfl, rfl⟩ (by omega) (sc rfl (sc rfl (sce rfl (by simp [st]) (sc rfl (sc rfl sn))))) (fun _ h => h.pickT [0] 1 rfl rfl)
  · refine tc_exit ?_
    refine ex_pass_exit (ex_pass_exit (ex_block_hit (ex_next ?_)))
    refine tc_seq ?_
    refine tc_region ?_
    refine tl (y_move rfl) rfl ?_
    refine tl (y_assign rfl) rfl ?_
    refine tl_end ?_
    refine ex_next ?_
    refine tc_ret ?_
    refine ex_ret1 rfl rfl (fun w hw => ?_)
    have e : ps = xs.zip ys := eq_of_gt (by rw [List.length_zip]; omega) (fun q hq => by rw [hps q (by omega), gt_zip (by omega)])
    subst e
    exact ⟨_, _, _, rfl, O, hw⟩

theorem copies_spec {x : Out} {S : List (List Chunk)} {A : Option Addr} {ps : List (Int × Int)} {c i : Nat} {L : List Chunk} (hx : Rd kP A ps c L) (hi : S[i]? = some L) (hl : ps.length ≤ 1048576) :
    Spec Try.prog 17 #[.slice A ps.length c, .int .i64 0] (St x (S)) (fun v w => ∃ A' : Option Addr, ∃ ms : List Mv, ∃ c' : Nat, ∃ L' LA : List Chunk, v = .slice A' ms.length c' ∧ Own 28 kM A' ms c' L' ∧ ms.map Mv.p = ps ∧ (∀ m ∈ ms, Rd (kI .i64) m.A [m.s] 1 LA) ∧ St x (L' :: LA :: S) w) := by
  refine spec_of (args := [.slice A ps.length c, .int .i64 0]) Try.func17 rfl rfl rfl ?_
  refine tc_seq ?_
  refine tc_region ?_
  refine tl (y_assign rfl) rfl ?_
  refine tl_end ?_
  refine ex_next ?_
  refine tc_seq ?_
  refine tc_region ?_
  refine tl (y_assign rfl) rfl ?_
  refine tl_end ?_
  refine ex_next ?_
  refine tc_seq ?_
  refine tc_seq ?_
  refine tc_region ?_
  refine tl (y_move rfl) rfl ?_
  refine tl (y_len rfl rfl) rfl ?_
  refine tl (y_move rfl) rfl ?_
  refine tl_end ?_
  refine ex_next ?_
  refine tc_block ?_
  refine tc_loop (fun l_ C_ m_ => ∃ k : Int, ∃ ms : List Mv, ∃ c₀ : Nat, ∃ A₀ : Option Addr, ∃ L₀ : List Chunk, ∃ LA : List Chunk, (0 ≤ k ∧ k ≤ ps.length) ∧ (ms.length = k.toNat) ∧ (ms.map Mv.p = ps.take k.toNat) ∧ (∀ m ∈ ms, Rd (kI .i64) m.A [m.s] 1 LA) ∧ (Own 28 kM A₀ ms c₀ L₀) ∧ l_ = [(0, .slice A ps.length c), (1, .int .i64 0), (5, .slice A₀ ms.length c₀), (8, .slice A ps.length c), (9, .int .i64 (ps.length : Int)), (10, .int .i64 k)] ∧ C_ = St x (L₀ :: LA :: S) ∧ m_ = (ps.length - k).toNat) ⟨_, [], _, _, _, _, by omega, rfl, rfl, by simp, Own.nil, rfl, rfl, rfl⟩ (sc rfl (sc rfl (sc rfl (sc rfl (sc rfl (sc rfl sn)))))) (fun _ h => h.empty.empty) ?_
  rintro _ _ _ ⟨k, ms, c₀, A₀, L₀, LA, hk, hml, hm, hr, O, rfl, rfl, rfl⟩
  refine tc_seq ?_
  refine tc_region ?_
  refine tl (y_lt rfl rfl) rfl ?_
  refine tl_end ?_
  refine ex_next ?_
  refine tc_seq ?_
  refine tc_if rfl (fun h11 => ?_) (fun h11 => ?_)
  · refine tc_skip ?_
    refine ex_next ?_
    refine tc_seq ?_
    refine tc_block ?_
    refine tc_seq ?_
    refine tc_region ?_
    refine tl (y_idx hx rfl rfl rfl rfl (by omega)) rfl ?_
    refine tl (y_els (k := (i + 2)) hx rfl hi (by omega) rfl rfl) rfl ?_
    refine tl_alloc step_tl (cs := [.int .i64 0, .int .i64 0]) rfl rfl rfl (fun b_1 => ?_)
    refine tl_store step_tl 0 (vs := [.int .i64 ((gt ps k).1), .int .i64 ((gt ps k).2)]) (cs' := [.int .i64 ((gt ps k).1), .int .i64 ((gt ps k).2)]) (S' := (bx b_1 [.int .i64 ((gt ps k).1), .int .i64 ((gt ps k).2)] 54 :: L₀ :: LA :: S)) rfl rfl rfl rfl rfl rfl rfl rfl rfl rfl ?_
    refine tl_end ?_
    refine ex_next ?_
    refine tc_region ?_
    refine tl (y_move rfl) rfl ?_
    refine tl (y_move rfl) rfl ?_
    refine tl (y_fa rfl rfl rfl) rfl ?_
    refine tl (y_ld (k := 0) rfl rfl rfl rfl) rfl ?_
    refine tl (y_fa rfl rfl rfl) rfl ?_
    refine tl (y_ld (k := 0) rfl rfl rfl rfl) rfl ?_
    refine tl_one step_tl (K := (kI .i64)) ((gt ps k).2) rfl rfl rfl rfl rfl rfl rfl rfl rfl (fun A_1 L_1 O_1 => ?_)
    refine tl (y_build (is := [0, 1, 2, 3]) (xs := [.const (Value.int IntKind.i64 4), .tmp 15, .tmp 17, .tmp 20]) (vs := [.int .i64 4, .int .i64 0, .int .i64 ((gt ps k).1), .slice A_1 [(gt ps k).2].length 1]) (cs := [.int .i64 4, .int .i64 0, .int .i64 ((gt ps k).1), .slice A_1 [(gt ps k).2].length 1, .int .i64 0, .int .i64 0, .int .i64 0, .bool false]) rfl rfl rfl) rfl ?_
    refine tl_one step_tl (K := kM) (⟨(gt ps k).1, (gt ps k).2, A_1⟩ : Mv) rfl rfl rfl rfl rfl rfl rfl rfl rfl (fun A_2 L_2 O_2 => ?_)
    refine tl_append step_tl (by_ := 80) 3 0 O O_2.rd rfl rfl rfl rfl rfl rfl rfl rfl rfl rfl (by simp; omega) (by simp; omega) rfl (fun A_3 c_1 L_3 O_3 le_1 => ?_)
    change TG _ _ _ (St x (L_2 :: L_1 :: bx b_1 [.int .i64 ((gt ps k).1), .int .i64 ((gt ps k).2)] 54 :: L_3 :: LA :: S))
    refine tl (y_assign rfl) rfl ?_
    refine tl_end ?_
    refine ex_block_end (ex_next ?_)
    refine tc_region ?_
    refine tl (y_addi rfl rfl (by omega)) rfl ?_
    refine tl (y_move rfl) rfl ?_
    refine tl_end ?_
    exact ex_round ⟨_, ms ++ [(⟨(gt ps k).1, (gt ps k).2, A_1⟩ : Mv)], _, _, _, _, by omega, by simp; omega, by rw [take_gt (by omega), List.map_append, hm]; rfl, mem_snoc (fun m h => (hr m h).mono (fun p hp => List.mem_append_right _ hp)) (O_1.rd.mono (fun p hp => List.mem_append_left _ hp)), O_3, rfl, rfl, rfl⟩ (by omega) (sc rfl (sc rfl (sc rfl (sc rfl (sc rfl (sc rfl sn)))))) (fun _ h => (h.pickT [3, 1, 4] 5 rfl rfl).merge_at)
  · refine tc_exit ?_
    refine ex_pass_exit (ex_pass_exit (ex_block_hit (ex_next ?_)))
    refine tc_seq ?_
    refine tc_region ?_
    refine tl (y_move rfl) rfl ?_
    refine tl (y_assign rfl) rfl ?_
    refine tl_end ?_
    refine ex_next ?_
    refine tc_ret ?_
    refine ex_ret1 rfl rfl (fun w hw => ?_)
    have e : ps.take k.toNat = ps := List.take_of_length_le (by omega)
    rw [e] at hm
    exact ⟨_, _, _, _, _, rfl, O, hm, hr, hw⟩

end Go.Proofs.Yteilepombglalaa
