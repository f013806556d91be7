/-
  The checks that the law opens with, and the first law: proved by following their operations.
-/
import Derived.Test.YteilepombglalaaWalkF
set_option linter.unusedVariables false
namespace Go.Proofs.Yteilepombglalaa
open Go
theorem awake_spec {x : Out} {S : List (List Chunk)} :
    Spec Try.prog 6 #[] (St x (S)) (fun v w => v = .bool true ∧ St x S w) := by
  refine spec_of (args := []) Try.func6 rfl rfl rfl ?_
  refine tc_seq ?_
  refine tc_region ?_
  refine tl (y_assign rfl) rfl ?_
  refine tl_end ?_
  refine ex_next ?_
  refine tc_seq ?_
  refine tc_region ?_
  refine tl_lit step_tl (K := (kI .i64)) (xs := [.const (Value.int IntKind.i64 1), .const (Value.int IntKind.i64 2)]) (vs := [.int .i64 1, .int .i64 2]) [1, 2] rfl rfl ⟨rfl, rfl, trivial⟩ rfl rfl rfl rfl rfl (fun A_1 L_1 O_1 => ?_)
  refine tl_lit step_tl (K := (kI .i64)) (xs := [.const (Value.int IntKind.i64 2), .const (Value.int IntKind.i64 1)]) (vs := [.int .i64 2, .int .i64 1]) [2, 1] rfl rfl ⟨rfl, rfl, trivial⟩ rfl rfl rfl rfl rfl (fun A_2 L_2 O_2 => ?_)
  refine tl_call step_tl rfl rfl (seq_spec (x := x) (S := (L_2 :: L_1 :: S)) (i := 1) (j := 0) O_1.rd O_2.rd rfl rfl 9 (by first | omega | (simp; done) | (simp; omega)) (by first | omega | (simp; done) | (simp; omega))) (fun _ h => h) rfl (fun v_ => tl_ex fun Az_1 => tl_ex fun zs_1 => tl_ex fun cz_1 => tl_ex fun Lz_1 => tl_ex fun LA_1 => tl_pure fun e_ => tl_val e_ ?_)
  refine tl_pure fun Oz_1 => tl_pure fun hm_1 => tl_pure fun hr_1 => ?_
  have hnz_1 : zs_1.length ≤ 2001 := by have := congrArg List.length hm_1; rw [List.length_map] at this; have h2 := seqz_length (ds := [1, 2]) (ss := [2, 1]) (t := 9); first | omega | (simp at h2; omega) | (simp only [List.length_append, List.length_cons, List.length_nil] at h2; omega)
  refine tl (y_assign rfl) rfl ?_
  refine tl_end ?_
  refine ex_next ?_
  refine tc_seq ?_
  refine tc_region ?_
  refine tl_lit step_tl (K := (kI .i64)) (xs := [.const (Value.int IntKind.i64 1), .const (Value.int IntKind.i64 2)]) (vs := [.int .i64 1, .int .i64 2]) [1, 2] rfl rfl ⟨rfl, rfl, trivial⟩ rfl rfl rfl rfl rfl (fun A_3 L_3 O_3 => ?_)
  refine tl_lit step_tl (K := (kI .i64)) (xs := [.const (Value.int IntKind.i64 2), .const (Value.int IntKind.i64 3)]) (vs := [.int .i64 2, .int .i64 3]) [2, 3] rfl rfl ⟨rfl, rfl, trivial⟩ rfl rfl rfl rfl rfl (fun A_4 L_4 O_4 => ?_)
  refine tl_call step_tl rfl rfl (seq_spec (x := x) (S := (L_4 :: L_3 :: Lz_1 :: LA_1 :: L_2 :: L_1 :: S)) (i := 1) (j := 0) O_3.rd O_4.rd rfl rfl 9 (by first | omega | (simp; done) | (simp; omega)) (by first | omega | (simp; done) | (simp; omega))) (fun _ h => h) rfl (fun v_ => tl_ex fun Az_2 => tl_ex fun zs_2 => tl_ex fun cz_2 => tl_ex fun Lz_2 => tl_ex fun LA_2 => tl_pure fun e_ => tl_val e_ ?_)
  refine tl_pure fun Oz_2 => tl_pure fun hm_2 => tl_pure fun hr_2 => ?_
  have hnz_2 : zs_2.length ≤ 2001 := by have := congrArg List.length hm_2; rw [List.length_map] at this; have h2 := seqz_length (ds := [1, 2]) (ss := [2, 3]) (t := 9); first | omega | (simp at h2; omega) | (simp only [List.length_append, List.length_cons, List.length_nil] at h2; omega)
  refine tl (y_assign rfl) rfl ?_
  refine tl_end ?_
  refine ex_next ?_
  refine tc_seq ?_
  refine tc_region ?_
  refine tl (y_move rfl) rfl ?_
  refine tl_call step_tl rfl rfl (move_spec (x := x) (S := (Lz_2 :: LA_2 :: L_4 :: L_3 :: Lz_1 :: LA_1 :: L_2 :: L_1 :: S)) 9 1) (fun _ h => h) rfl (fun v_ => tl_ex fun Av_1 => tl_ex fun Lv_1 => tl_pure fun e_ => tl_val e_ ?_)
  refine tl_pure fun Rv_1 => ?_
  refine tl_call step_tl rfl rfl (move_spec (x := x) (S := (Lv_1 :: Lz_2 :: LA_2 :: L_4 :: L_3 :: Lz_1 :: LA_1 :: L_2 :: L_1 :: S)) 1 2) (fun _ h => h) rfl (fun v_ => tl_ex fun Av_2 => tl_ex fun Lv_2 => tl_pure fun e_ => tl_val e_ ?_)
  refine tl_pure fun Rv_2 => ?_
  refine tl_call step_tl rfl rfl (move_spec (x := x) (S := (Lv_2 :: Lv_1 :: Lz_2 :: LA_2 :: L_4 :: L_3 :: Lz_1 :: LA_1 :: L_2 :: L_1 :: S)) 2 9) (fun _ h => h) rfl (fun v_ => tl_ex fun Av_3 => tl_ex fun Lv_3 => tl_pure fun e_ => tl_val e_ ?_)
  refine tl_pure fun Rv_3 => ?_
  refine tl_lit step_tl (K := kM) (xs := [.tmp 10, .tmp 11, .tmp 12]) (vs := [.agg #[.int .i64 4, .int .i64 0, .int .i64 9, .slice Av_1 [1].length 1, .int .i64 0, .int .i64 0, .int .i64 0, .bool false], .agg #[.int .i64 4, .int .i64 0, .int .i64 1, .slice Av_2 [2].length 1, .int .i64 0, .int .i64 0, .int .i64 0, .bool false], .agg #[.int .i64 4, .int .i64 0, .int .i64 2, .slice Av_3 [9].length 1, .int .i64 0, .int .i64 0, .int .i64 0, .bool false]]) [(⟨9, 1, Av_1⟩ : Mv), (⟨1, 2, Av_2⟩ : Mv), (⟨2, 9, Av_3⟩ : Mv)] rfl rfl ⟨rfl, rfl, rfl, trivial⟩ rfl rfl rfl rfl rfl (fun A_5 L_5 O_5 => ?_)
  refine tl_call step_tl rfl rfl (equalf_spec (x := x) (S := (L_5 :: Lv_3 :: Lv_2 :: Lv_1 :: Lz_2 :: LA_2 :: L_4 :: L_3 :: Lz_1 :: LA_1 :: L_2 :: L_1 :: S)) (i := 8) (j := 0) Oz_1.rd O_5.rd rfl rfl (fun m hm => ⟨9, LA_1, rfl, hr_1 m hm⟩) (fun m hm => by rcases List.mem_cons.1 hm with rfl | hm; exact ⟨3, Lv_1, rfl, Rv_1⟩ ; rcases List.mem_cons.1 hm with rfl | hm; exact ⟨2, Lv_2, rfl, Rv_2⟩ ; rcases List.mem_cons.1 hm with rfl | hm; exact ⟨1, Lv_3, rfl, Rv_3⟩ ; cases hm) (by omega)) (fun _ h => h) rfl (fun v_ => tl_pure fun e_ => tl_val e_ ?_)
  refine tl (y_move rfl) rfl ?_
  refine tl_true (t := 15) rfl (by rw [hm_1]; show seqz [1, 2] [2, 1] 9 = [(9, 1), (1, 2), (2, 9)]; decide) ?_
  refine tl (y_move rfl) rfl ?_
  refine tl_call step_tl rfl rfl (move_spec (x := x) (S := (L_5 :: Lv_3 :: Lv_2 :: Lv_1 :: Lz_2 :: LA_2 :: L_4 :: L_3 :: Lz_1 :: LA_1 :: L_2 :: L_1 :: S)) 1 2) (fun _ h => h) rfl (fun v_ => tl_ex fun Av_4 => tl_ex fun Lv_4 => tl_pure fun e_ => tl_val e_ ?_)
  refine tl_pure fun Rv_4 => ?_
  refine tl_call step_tl rfl rfl (move_spec (x := x) (S := (Lv_4 :: L_5 :: Lv_3 :: Lv_2 :: Lv_1 :: Lz_2 :: LA_2 :: L_4 :: L_3 :: Lz_1 :: LA_1 :: L_2 :: L_1 :: S)) 2 3) (fun _ h => h) rfl (fun v_ => tl_ex fun Av_5 => tl_ex fun Lv_5 => tl_pure fun e_ => tl_val e_ ?_)
  refine tl_pure fun Rv_5 => ?_
  refine tl_lit step_tl (K := kM) (xs := [.tmp 17, .tmp 18]) (vs := [.agg #[.int .i64 4, .int .i64 0, .int .i64 1, .slice Av_4 [2].length 1, .int .i64 0, .int .i64 0, .int .i64 0, .bool false], .agg #[.int .i64 4, .int .i64 0, .int .i64 2, .slice Av_5 [3].length 1, .int .i64 0, .int .i64 0, .int .i64 0, .bool false]]) [(⟨1, 2, Av_4⟩ : Mv), (⟨2, 3, Av_5⟩ : Mv)] rfl rfl ⟨rfl, rfl, trivial⟩ rfl rfl rfl rfl rfl (fun A_6 L_6 O_6 => ?_)
  refine tl_call step_tl rfl rfl (equalf_spec (x := x) (S := (L_6 :: Lv_5 :: Lv_4 :: L_5 :: Lv_3 :: Lv_2 :: Lv_1 :: Lz_2 :: LA_2 :: L_4 :: L_3 :: Lz_1 :: LA_1 :: L_2 :: L_1 :: S)) (i := 7) (j := 0) Oz_2.rd O_6.rd rfl rfl (fun m hm => ⟨8, LA_2, rfl, hr_2 m hm⟩) (fun m hm => by rcases List.mem_cons.1 hm with rfl | hm; exact ⟨2, Lv_4, rfl, Rv_4⟩ ; rcases List.mem_cons.1 hm with rfl | hm; exact ⟨1, Lv_5, rfl, Rv_5⟩ ; cases hm) (by omega)) (fun _ h => h) rfl (fun v_ => tl_pure fun e_ => tl_val e_ ?_)
  refine tl (y_pick_t rfl rfl) rfl ?_
  refine tl (y_move rfl) rfl ?_
  refine tl_true (t := 22) rfl (by rw [hm_2]; show seqz [1, 2] [2, 3] 9 = [(1, 2), (2, 3)]; decide) ?_
  refine tl_lit step_tl (K := (kI .i64)) (xs := [.const (Value.int IntKind.i64 1), .const (Value.int IntKind.i64 1)]) (vs := [.int .i64 1, .int .i64 1]) [1, 1] rfl rfl ⟨rfl, rfl, trivial⟩ rfl rfl rfl rfl rfl (fun A_7 L_7 O_7 => ?_)
  refine tl_lit step_tl (K := (kI .i64)) (xs := [.const (Value.int IntKind.i64 2), .const (Value.int IntKind.i64 3)]) (vs := [.int .i64 2, .int .i64 3]) [2, 3] rfl rfl ⟨rfl, rfl, trivial⟩ rfl rfl rfl rfl rfl (fun A_8 L_8 O_8 => ?_)
  refine tl_call step_tl rfl rfl (seq_spec (x := x) (S := (L_8 :: L_7 :: L_6 :: Lv_5 :: Lv_4 :: L_5 :: Lv_3 :: Lv_2 :: Lv_1 :: Lz_2 :: LA_2 :: L_4 :: L_3 :: Lz_1 :: LA_1 :: L_2 :: L_1 :: S)) (i := 1) (j := 0) O_7.rd O_8.rd rfl rfl 9 (by first | omega | (simp; done) | (simp; omega)) (by first | omega | (simp; done) | (simp; omega))) (fun _ h => h) rfl (fun v_ => tl_ex fun Az_3 => tl_ex fun zs_3 => tl_ex fun cz_3 => tl_ex fun Lz_3 => tl_ex fun LA_3 => tl_pure fun e_ => tl_val e_ ?_)
  refine tl_pure fun Oz_3 => tl_pure fun hm_3 => tl_pure fun hr_3 => ?_
  have hnz_3 : zs_3.length ≤ 2001 := by have := congrArg List.length hm_3; rw [List.length_map] at this; have h2 := seqz_length (ds := [1, 1]) (ss := [2, 3]) (t := 9); first | omega | (simp at h2; omega) | (simp only [List.length_append, List.length_cons, List.length_nil] at h2; omega)
  refine tl (y_len rfl rfl) rfl ?_
  refine tl (y_eq rfl rfl) rfl ?_
  refine tl (y_pick_t rfl rfl) rfl ?_
  refine tl (y_assign rfl) rfl ?_
  refine tl_end ?_
  refine ex_next ?_
  refine tc_ret ?_
  refine ex_ret1 rfl rfl (fun w hw => ?_)
  have h3 : zs_3.length = 0 := by have := congrArg List.length hm_3; rw [List.length_map] at this; rw [this]; show (seqz [1, 1] [2, 3] 9).length = 0; decide
  exact ⟨by rw [h3]; rfl, hw.pickT [] 19 rfl rfl⟩

theorem seqlaw_walk {x : Out} {S : List (List Chunk)} {A B : Option Addr} {xs ys : List Int} {c c' i j : Nat} {L M : List Chunk} (hx : Rd (kI .i64) A xs c L) (hy : Rd (kI .i64) B ys c' M) (hi : S[i]? = some L) (hj : S[j]? = some M) (t : Int) :
    Spec Try.prog 3 #[.slice A xs.length c, .slice B ys.length c', .int .i64 t] (St x (S)) (fun v w => v = .bool true ∧ St x S w) := by
  refine spec_of (args := [.slice A xs.length c, .slice B ys.length c', .int .i64 t]) Try.func3 rfl rfl rfl ?_
  refine tc_seq ?_
  refine tc_region ?_
  refine tl (y_assign rfl) rfl ?_
  refine tl_end ?_
  refine ex_next ?_
  refine tc_seq ?_
  refine tc_seq ?_
  refine tc_region ?_
  refine tl (y_move rfl) rfl ?_
  refine tl (y_len rfl rfl) rfl ?_
  refine tl (y_gt rfl rfl) rfl ?_
  refine tl (y_move rfl) rfl ?_
  refine tl_if (t := 10) rfl (fun h10 => ?_) (fun h10 => ?_)
  · refine tl_off rfl ?_
    refine tl_off rfl ?_
    refine tl_off rfl ?_
    refine tl (y_pick_t rfl rfl) rfl ?_
    refine tl_end ?_
    refine ex_next ?_
    refine tc_yes rfl ?_
    refine tc_seq ?_
    refine tc_region ?_
    refine tl_call step_tl rfl rfl (awake_spec (x := x) (S := (S))) (fun _ h => h) rfl (fun v_ => tl_pure fun e_ => tl_val e_ ?_)
    refine tl (y_assign rfl) rfl ?_
    refine tl_end ?_
    refine ex_next ?_
    refine tc_ret ?_
    refine ex_pass_ret ?_
    refine ex_ret1 rfl rfl (fun w hw => ?_)
    exact ⟨rfl, hw.pickT [] 0 rfl rfl⟩
  · refine tl (y_move rfl) rfl ?_
    refine tl (y_len rfl rfl) rfl ?_
    refine tl (y_gt rfl rfl) rfl ?_
    refine tl (y_pick_f rfl rfl) rfl ?_
    refine tl_end ?_
    refine ex_next ?_
    refine tc_if rfl (fun h14 => ?_) (fun h14 => ?_)
    · refine tc_seq ?_
      refine tc_region ?_
      refine tl_call step_tl rfl rfl (awake_spec (x := x) (S := (S))) (fun _ h => h) rfl (fun v_ => tl_pure fun e_ => tl_val e_ ?_)
      refine tl (y_assign rfl) rfl ?_
      refine tl_end ?_
      refine ex_next ?_
      refine tc_ret ?_
      refine ex_pass_ret ?_
      refine ex_ret1 rfl rfl (fun w hw => ?_)
      exact ⟨rfl, hw.pickT [] 0 rfl rfl⟩
    · refine tc_skip ?_
      refine ex_next ?_
      refine tc_seq ?_
      refine tc_region ?_
      refine tl_call step_tl rfl rfl (awake_spec (x := x) (S := (S))) (fun _ h => h) rfl (fun v_ => tl_pure fun e_ => tl_val e_ ?_)
      refine tl (y_move rfl) rfl ?_
      refine tl (y_move rfl) rfl ?_
      refine tl (y_move rfl) rfl ?_
      refine tl (y_move rfl) rfl ?_
      refine tl_call step_tl rfl rfl (seq_spec (x := x) (S := (S)) (i := i) (j := j) hx hy hi hj t (by first | omega | (simp; done) | (simp; omega)) (by first | omega | (simp; done) | (simp; omega))) (fun _ h => h) rfl (fun v_ => tl_ex fun Az_1 => tl_ex fun zs_1 => tl_ex fun cz_1 => tl_ex fun Lz_1 => tl_ex fun LA_1 => tl_pure fun e_ => tl_val e_ ?_)
      refine tl_pure fun Oz_1 => tl_pure fun hm_1 => tl_pure fun hr_1 => ?_
      have hnz_1 : zs_1.length ≤ 2001 := by have := congrArg List.length hm_1; rw [List.length_map] at this; have h2 := seqz_length (ds := xs) (ss := ys) (t := t); first | omega | (simp at h2; omega) | (simp only [List.length_append, List.length_cons, List.length_nil] at h2; omega)
      refine tl (y_move rfl) rfl ?_
      refine tl (y_move rfl) rfl ?_
      refine tl (y_move rfl) rfl ?_
      refine tl_call step_tl rfl rfl (rseq_spec (x := x) (S := (Lz_1 :: LA_1 :: S)) (i := (i + 2)) (j := (j + 2)) hx hy hi hj t (by first | omega | (simp; done) | (simp; omega)) (by first | omega | (simp; done) | (simp; omega))) (fun _ h => h) rfl (fun v_ => tl_ex fun Az_2 => tl_ex fun zs_2 => tl_ex fun cz_2 => tl_ex fun Lz_2 => tl_ex fun LA_2 => tl_pure fun e_ => tl_val e_ ?_)
      refine tl_pure fun Oz_2 => tl_pure fun hm_2 => tl_pure fun hr_2 => ?_
      have hnz_2 : zs_2.length ≤ 2001 := by have := congrArg List.length hm_2; rw [List.length_map] at this; have h2 := seqz_length (ds := xs) (ss := ys) (t := t); first | omega | (simp at h2; omega) | (simp only [List.length_append, List.length_cons, List.length_nil] at h2; omega)
      refine tl_call step_tl rfl rfl (equalf_spec (x := x) (S := (Lz_2 :: LA_2 :: Lz_1 :: LA_1 :: S)) (i := 2) (j := 0) Oz_1.rd Oz_2.rd rfl rfl (fun m hm => ⟨3, LA_1, rfl, hr_1 m hm⟩) (fun m hm => ⟨1, LA_2, rfl, hr_2 m hm⟩) (by omega)) (fun _ h => h) rfl (fun v_ => tl_pure fun e_ => tl_val e_ ?_)
      refine tl (y_pick_t rfl rfl) rfl ?_
      refine tl (y_assign rfl) rfl ?_
      refine tl_end ?_
      refine ex_next ?_
      refine tc_ret ?_
      refine ex_ret1 rfl rfl (fun w hw => ?_)
      exact ⟨by rw [decide_eq_true (hm_1.trans hm_2.symm)], hw.pickT [] 4 rfl rfl⟩

end Go.Proofs.Yteilepombglalaa
