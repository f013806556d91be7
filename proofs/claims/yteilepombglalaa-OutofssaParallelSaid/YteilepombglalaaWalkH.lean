/-
  The second law: proved by following its operations.
-/
import Derived.Test.YteilepombglalaaWalkG
import Derived.Test.YteilepombglalaaPlain2
set_option linter.unusedVariables false
namespace Go.Proofs.Yteilepombglalaa
open Go
theorem parlaw_walk {x : Out} {S : List (List Chunk)} {A B : Option Addr} {xs ys : List Int} {c c' i j : Nat} {L M : List Chunk} (hx : Rd (kI .i64) A xs c L) (hy : Rd (kI .i64) B ys c' M) (hi : S[i]? = some L) (hj : S[j]? = some M) (t : Int) :
    Spec Try.prog 4 #[.slice A xs.length c, .slice B ys.length c', .int .i64 t] (St x (S)) (fun v w => v = .bool true ∧ St x S w) := by
  refine spec_of (args := [.slice A xs.length c, .slice B ys.length c', .int .i64 t]) Try.func4 rfl rfl rfl ?_
  refine tc_seq ?_
  refine tc_region ?_
  refine tl (y_assign rfl) rfl ?_
  refine tl_end ?_
  refine ex_next ?_
  refine tc_seq ?_
  refine tc_seq ?_
  refine tc_region ?_
  refine tl (y_move rfl) rfl ?_
  refine tl (y_len rfl rfl) rfl ?_
  refine tl (y_gt rfl rfl) rfl ?_
  refine tl (y_move rfl) rfl ?_
  refine tl_if (t := 19) rfl (fun h19 => ?_) (fun h19 => ?_)
  · refine tl_off rfl ?_
    refine tl_off rfl ?_
    refine tl_off rfl ?_
    refine tl_off rfl ?_
    refine tl_off rfl ?_
    refine tl (y_pick_t rfl rfl) rfl ?_
    refine tl (y_move rfl) rfl ?_
    refine tl_off rfl ?_
    refine tl_off rfl ?_
    refine tl_off rfl ?_
    refine tl (y_pick_t rfl rfl) rfl ?_
    refine tl (y_move rfl) rfl ?_
    refine tl_off rfl ?_
    refine tl_off rfl ?_
    refine tl_off rfl ?_
    refine tl (y_pick_t rfl rfl) rfl ?_
    refine tl_end ?_
    refine ex_next ?_
    refine tc_yes rfl ?_
    refine tc_seq ?_
    refine tc_region ?_
    refine tl_call step_tl rfl rfl (awake_spec (x := x) (S := (S))) (fun _ h => h) rfl (fun v_ => tl_pure fun e_ => tl_val e_ ?_)
    refine tl (y_assign rfl) rfl ?_
    refine tl_end ?_
    refine ex_next ?_
    refine tc_ret ?_
    refine ex_pass_ret ?_
    refine ex_ret1 rfl rfl (fun w hw => ?_)
    exact ⟨rfl, hw.pickT [] 0 rfl rfl⟩
  · refine tl (y_move rfl) rfl ?_
    refine tl (y_len rfl rfl) rfl ?_
    refine tl (y_move rfl) rfl ?_
    refine tl (y_len rfl rfl) rfl ?_
    refine tl (y_ne rfl rfl) rfl ?_
    refine tl (y_pick_f rfl rfl) rfl ?_
    refine tl (y_move rfl) rfl ?_
    refine tl_if (t := 26) rfl (fun h26 => ?_) (fun h26 => ?_)
    · refine tl_off rfl ?_
      refine tl_off rfl ?_
      refine tl_off rfl ?_
      refine tl (y_pick_t rfl rfl) rfl ?_
      refine tl (y_move rfl) rfl ?_
      refine tl_off rfl ?_
      refine tl_off rfl ?_
      refine tl_off rfl ?_
      refine tl (y_pick_t rfl rfl) rfl ?_
      refine tl_end ?_
      refine ex_next ?_
      refine tc_yes rfl ?_
      refine tc_seq ?_
      refine tc_region ?_
      refine tl_call step_tl rfl rfl (awake_spec (x := x) (S := (S))) (fun _ h => h) rfl (fun v_ => tl_pure fun e_ => tl_val e_ ?_)
      refine tl (y_assign rfl) rfl ?_
      refine tl_end ?_
      refine ex_next ?_
      refine tc_ret ?_
      refine ex_pass_ret ?_
      refine ex_ret1 rfl rfl (fun w hw => ?_)
      exact ⟨rfl, hw.pickT [] 0 rfl rfl⟩
    · refine tl (y_move rfl) rfl ?_
      refine tl (y_move rfl) rfl ?_
      refine tl_call step_tl rfl rfl (contains_spec (x := x) (S := (S)) (i := i) hx hi t (by omega)) (fun _ h => h) rfl (fun v_ => tl_pure fun e_ => tl_val e_ ?_)
      refine tl (y_pick_f rfl rfl) rfl ?_
      refine tl (y_move rfl) rfl ?_
      refine tl_if (t := 31) rfl (fun h31 => ?_) (fun h31 => ?_)
      · refine tl_off rfl ?_
        refine tl_off rfl ?_
        refine tl_off rfl ?_
        refine tl (y_pick_t rfl rfl) rfl ?_
        refine tl_end ?_
        refine ex_next ?_
        refine tc_yes rfl ?_
        refine tc_seq ?_
        refine tc_region ?_
        refine tl_call step_tl rfl rfl (awake_spec (x := x) (S := (S))) (fun _ h => h) rfl (fun v_ => tl_pure fun e_ => tl_val e_ ?_)
        refine tl (y_assign rfl) rfl ?_
        refine tl_end ?_
        refine ex_next ?_
        refine tc_ret ?_
        refine ex_pass_ret ?_
        refine ex_ret1 rfl rfl (fun w hw => ?_)
        exact ⟨rfl, hw.pickT [] 0 rfl rfl⟩
      · refine tl (y_move rfl) rfl ?_
        refine tl (y_move rfl) rfl ?_
        refine tl_call step_tl rfl rfl (contains_spec (x := x) (S := (S)) (i := j) hy hj t (by omega)) (fun _ h => h) rfl (fun v_ => tl_pure fun e_ => tl_val e_ ?_)
        refine tl (y_pick_f rfl rfl) rfl ?_
        refine tl_end ?_
        refine ex_next ?_
        refine tc_if rfl (fun h35 => ?_) (fun h35 => ?_)
        · refine tc_seq ?_
          refine tc_region ?_
          refine tl_call step_tl rfl rfl (awake_spec (x := x) (S := (S))) (fun _ h => h) rfl (fun v_ => tl_pure fun e_ => tl_val e_ ?_)
          refine tl (y_assign rfl) rfl ?_
          refine tl_end ?_
          refine ex_next ?_
          refine tc_ret ?_
          refine ex_pass_ret ?_
          refine ex_ret1 rfl rfl (fun w hw => ?_)
          exact ⟨rfl, hw.pickT [] 0 rfl rfl⟩
        · refine tc_skip ?_
          refine ex_next ?_
          refine tc_seq ?_
          refine tc_region ?_
          refine tl_map Int Int (yI .i64) (Value.int .i64) step_tl rfl (fun m_1 M_1 Q_1 => ?_)
          refine tl (y_assign rfl) rfl ?_
          refine tl_end ?_
          refine ex_next ?_
          refine tc_seq ?_
          refine tc_seq ?_
          refine tc_region ?_
          refine tl (y_move rfl) rfl ?_
          refine tl (y_len rfl rfl) rfl ?_
          refine tl (y_move rfl) rfl ?_
          refine tl_end ?_
          refine ex_next ?_
          refine tc_block ?_
          refine tc_loop (fun l_ C_ m_ => ∃ k : Int, ∃ g : Int → Option Int, ∃ M₀ : List Chunk, (0 ≤ k ∧ k ≤ xs.length) ∧ ((xs.take k.toNat).Nodup) ∧ (∀ q, (q ∈ xs.take k.toNat ∨ q ∈ ys.take k.toNat) → g q = some q) ∧ (OwnM (yI .i64) (Value.int .i64) m_1 g M₀) ∧ l_ = [(0, .slice A xs.length c), (1, .slice B ys.length c'), (2, .int .i64 t), (7, .map (some m_1)), (38, .slice A xs.length c), (39, .int .i64 (xs.length : Int)), (40, .int .i64 k)] ∧ C_ = St x (M₀ :: S) ∧ m_ = (xs.length - k).toNat) ⟨_, fun _ => none, _, by omega, by simp, fun q hq => by simp at hq, Q_1, rfl, rfl, rfl⟩ (sc rfl (sc rfl (sc rfl (sc rfl (sc rfl (sc rfl (sc rfl sn))))))) (fun _ h => h.pickT [0] 1 rfl rfl) ?_
          rintro _ _ _ ⟨k, g, M₀, hk, hn, hg, Q, rfl, rfl, rfl⟩
          refine tc_seq ?_
          refine tc_region ?_
          refine tl (y_lt rfl rfl) rfl ?_
          refine tl_end ?_
          refine ex_next ?_
          refine tc_seq ?_
          refine tc_if rfl (fun h41 => ?_) (fun h41 => ?_)
          · refine tc_skip ?_
            refine ex_next ?_
            refine tc_seq ?_
            refine tc_block ?_
            refine tc_seq ?_
            refine tc_region ?_
            refine tl (y_move rfl) rfl ?_
            refine tl (y_idx hx rfl rfl rfl rfl (by omega)) rfl ?_
            refine tl (y_el0 (k := (i + 1)) hx rfl hi (by omega) rfl rfl) rfl ?_
            refine tl (y_assign rfl) rfl ?_
            refine tl (y_assign rfl) rfl ?_
            refine tl_end ?_
            refine ex_next ?_
            refine tc_seq ?_
            refine tc_seq ?_
            refine tc_region ?_
            refine tl (y_move rfl) rfl ?_
            refine tl (y_move rfl) rfl ?_
            refine tl (y_slh (K := (kI .i64)) rfl rfl rfl rfl hx.le (by omega)) rfl ?_
            refine tl (y_move rfl) rfl ?_
            refine tl_call step_tl rfl rfl (contains_spec (x := x) (S := (M₀ :: S)) (i := (i + 1)) (hx.cut_h (h := k) (by omega)) hi (gt xs k) (by rw [List.length_take]; omega)) (fun _ h => h) rfl (fun v_ => tl_pure fun e_ => tl_val e_ ?_)
            refine tl_end ?_
            refine ex_next ?_
            refine tc_if rfl (fun h49 => ?_) (fun h49 => ?_)
            · refine tc_seq ?_
              refine tc_region ?_
              refine tl_call step_tl rfl rfl (awake_spec (x := x) (S := (M₀ :: S))) (fun _ h => h) rfl (fun v_ => tl_pure fun e_ => tl_val e_ ?_)
              refine tl (y_assign rfl) rfl ?_
              refine tl_end ?_
              refine ex_next ?_
              refine tc_ret ?_
              refine ex_pass_ret (ex_block_ret (ex_pass_ret (ex_pass_ret (ex_block_ret (ex_pass_ret ?_)))))
              refine ex_ret1 rfl rfl (fun w hw => ?_)
              exact ⟨rfl, hw.pickT [] 1 rfl rfl⟩
            · refine tc_skip ?_
              refine ex_next ?_
              refine tc_seq ?_
              refine tc_region ?_
              refine tl (y_move rfl) rfl ?_
              refine tl (y_move rfl) rfl ?_
              refine tl (y_move rfl) rfl ?_
              refine tl_update step_tl 0 (gt xs k) (gt xs k) Q rfl rfl rfl rfl rfl rfl rfl (fun M_2 Q_2 => ?_)
              change TG _ _ _ (St x (M_2 :: S))
              refine tl_end ?_
              refine ex_next ?_
              refine tc_tree [(0, .p), (1, .p), (2, .p), (3, .p), (4, .r), (5, .p), (6, .p), (7, .p), (8, .r)] (.quiet 0 .p (.quiet 1 .p (.quiet 2 .p (.quiet 3 .p (.quiet 4 .r (.quiet 5 .p (.quiet 6 .p (.quiet 7 .p (.quiet 8 .r (.fork 9 [] .done .stop)))))))))) (by kernel_rfl) (by kernel_rfl) ?_
              refine tt_p rfl (y_move rfl) rfl ?_
              refine tt_p rfl (y_move rfl) rfl ?_
              refine tt_p rfl (y_move rfl) rfl ?_
              refine tt_p rfl (y_idx hy rfl rfl rfl rfl (by omega)) rfl ?_
              refine tt_r rfl (y_el0 (k := (j + 1)) hy rfl hj (by omega) rfl rfl) rfl ?_
              refine tt_p rfl (y_move rfl) rfl ?_
              refine tt_p rfl (y_move rfl) rfl ?_
              refine tt_p rfl (y_idx hy rfl rfl rfl rfl (by omega)) rfl ?_
              refine tt_r rfl (y_el0 (k := (j + 1)) hy rfl hj (by omega) rfl rfl) rfl ?_
              refine tl_update (step_tt rfl) 0 (gt ys k) (gt ys k) Q_2 rfl rfl rfl rfl rfl rfl rfl (fun M_3 Q_3 => ?_)
              change TG _ _ _ (St x (M_3 :: S))
              refine kept_nil ?_
              refine tt_end ?_
              refine ex_block_end (ex_next ?_)
              refine tc_region ?_
              refine tl (y_addi rfl rfl (by omega)) rfl ?_
              refine tl (y_move rfl) rfl ?_
              refine tl_end ?_
              exact ex_round ⟨_, upd (upd g (gt xs k) (gt xs k)) (gt ys k) (gt ys k), _, by omega, by rw [take_gt (by omega)]; exact nodup_snoc hn h49, known_step (by omega) hg, Q_3, rfl, rfl, rfl⟩ (by omega) (sc rfl (sc rfl (sc rfl (sc rfl (sc rfl (sc rfl (sc rfl sn))))))) (fun _ h => h.pickT [0] 1 rfl rfl)
          · refine tc_exit ?_
            refine ex_pass_exit (ex_pass_exit (ex_block_hit (ex_next ?_)))
            refine tc_seq ?_
            refine tc_seq ?_
            refine tc_region ?_
            refine tl (y_move rfl) rfl ?_
            refine tl (y_move rfl) rfl ?_
            refine tl (y_move rfl) rfl ?_
            refine tl_call step_tl rfl rfl (seq_spec (x := x) (S := (M₀ :: S)) (i := (i + 1)) (j := (j + 1)) hx hy hi hj t (by first | omega | (simp; done)) (by first | omega | (simp; done))) (fun _ h => h) rfl (fun v_ => tl_ex fun Az_1 => tl_ex fun zs_1 => tl_ex fun cz_1 => tl_ex fun Lz_1 => tl_ex fun LA_1 => tl_pure fun e_ => tl_val e_ ?_)
            refine tl_pure fun Oz_1 => tl_pure fun hm_1 => tl_pure fun hr_1 => ?_
            have hnz_1 : zs_1.length ≤ 2001 := by have := congrArg List.length hm_1; rw [List.length_map] at this; have h2 := seqz_length (ds := xs) (ss := ys) (t := t); first | omega | (simp at h2; omega)
            refine tl (y_len rfl rfl) rfl ?_
            refine tl (y_move rfl) rfl ?_
            refine tl_end ?_
            refine ex_next ?_
            refine tc_block ?_
            have hlen : xs.length = ys.length := by omega
            rw [take_self (by omega), take_self (by omega)] at hg
            rw [take_self (by omega)] at hn
            have hrun0 := runs_seqz (ok := (fun d => d = t ∨ d ∈ xs)) hlen hn h31 h35 (.inl rfl) (fun d hd => .inr hd) hg
            rw [← hm_1] at hrun0
            refine tc_loop (fun l_ C_ m_ => ∃ k : Int, ∃ g : Int → Option Int, ∃ M₀ : List Chunk, (0 ≤ k ∧ k ≤ zs_1.length) ∧ (Runs (fun d => d = t ∨ d ∈ xs) (fun g => ∀ p ∈ xs.zip ys, g p.1 = some p.2) ((zs_1.map Mv.p).drop k.toNat) g) ∧ (OwnM (yI .i64) (Value.int .i64) m_1 g M₀) ∧ l_ = [(0, .slice A xs.length c), (1, .slice B ys.length c'), (2, .int .i64 t), (7, .map (some m_1)), (67, .slice Az_1 zs_1.length cz_1), (68, .int .i64 (zs_1.length : Int)), (69, .int .i64 k)] ∧ C_ = St x (M₀ :: Lz_1 :: LA_1 :: S) ∧ m_ = (zs_1.length - k).toNat) ⟨0, g, _, by omega, hrun0, Q, rfl, rfl, rfl⟩ (sc rfl (sc rfl (sc rfl (sc rfl (sc rfl (sc rfl (sc rfl sn))))))) (fun _ h => h.pickT [2, 0, 1] 3 rfl rfl) ?_
            rintro _ _ _ ⟨k, g, M₀, hk, hrun, Q, rfl, rfl, rfl⟩
            refine tc_seq ?_
            refine tc_region ?_
            refine tl (y_lt rfl rfl) rfl ?_
            refine tl_end ?_
            refine ex_next ?_
            refine tc_seq ?_
            refine tc_if rfl (fun h70 => ?_) (fun h70 => ?_)
            · refine tc_skip ?_
              refine ex_next ?_
              refine tc_seq ?_
              refine tc_block ?_
              refine tc_seq ?_
              refine tc_region ?_
              refine tl (y_idx Oz_1.rd rfl rfl rfl rfl (by omega)) rfl ?_
              refine tl (y_els (k := 1) Oz_1.rd rfl rfl (by omega) rfl rfl) rfl ?_
              refine tl_alloc step_tl (cs := [.int .i64 0, .int .i64 0, .int .i64 0, .slice none 0 0, .int .i64 0, .int .i64 0, .int .i64 0, .bool false]) rfl rfl rfl (fun b_1 => ?_)
              refine tl_store step_tl 0 (vs := [.int .i64 4, .int .i64 0, .int .i64 ((gt zs_1 k).d), .slice ((gt zs_1 k).A) [(gt zs_1 k).s].length 1, .int .i64 0, .int .i64 0, .int .i64 0, .bool false]) (cs' := [.int .i64 4, .int .i64 0, .int .i64 ((gt zs_1 k).d), .slice ((gt zs_1 k).A) [(gt zs_1 k).s].length 1, .int .i64 0, .int .i64 0, .int .i64 0, .bool false]) (S' := (bx b_1 [.int .i64 4, .int .i64 0, .int .i64 ((gt zs_1 k).d), .slice ((gt zs_1 k).A) [(gt zs_1 k).s].length 1, .int .i64 0, .int .i64 0, .int .i64 0, .bool false] 28 :: M₀ :: Lz_1 :: LA_1 :: S)) rfl rfl rfl rfl rfl rfl rfl rfl rfl rfl ?_
              refine tl_end ?_
              refine ex_next ?_
              refine tc_seq ?_
              refine tc_seq ?_
              obtain ⟨v, hv, hok, hrun'⟩ := runs_step (by omega) hrun
              refine tc_region ?_
              refine tl (y_fa rfl rfl rfl) rfl ?_
              refine tl (y_ld (k := 0) rfl rfl rfl rfl) rfl ?_
              refine tl (y_ne rfl rfl) rfl ?_
              refine tl (y_move rfl) rfl ?_
              refine tl_false (t := 76) rfl (by decide) ?_
              refine tl (y_fa rfl rfl rfl) rfl ?_
              refine tl (y_ld (k := 0) rfl rfl rfl rfl) rfl ?_
              refine tl (y_len rfl rfl) rfl ?_
              refine tl (y_ne rfl rfl) rfl ?_
              refine tl (y_pick_f rfl rfl) rfl ?_
              refine tl_end ?_
              refine ex_next ?_
              have h81 : ¬ (([(gt zs_1 k).s].length : Int) ≠ 1) := by simp
              refine tc_if rfl (fun h' => absurd h' h81) (fun _ => ?_)
              refine tc_skip ?_
              refine ex_next ?_
              refine tc_seq ?_
              refine tc_region ?_
              refine tl (y_move rfl) rfl ?_
              refine tl (y_fa rfl rfl rfl) rfl ?_
              refine tl (y_ld (k := 0) rfl rfl rfl rfl) rfl ?_
              refine tl (y_idx (hr_1 (gt zs_1 k) (mem_gt (by omega))) rfl rfl rfl rfl (by omega)) rfl ?_
              refine tl (y_el0 (k := 3) (hr_1 (gt zs_1 k) (mem_gt (by omega))) rfl rfl (by omega) rfl rfl) rfl ?_
              refine tl (y_lookup2 (Y := (yI .i64)) (kv := (Value.int .i64)) (a := (gt [(gt zs_1 k).s] 0)) (z0 := 0) (k := 1) Q rfl rfl rfl rfl rfl rfl) rfl ?_
              refine tl (y_move rfl) rfl ?_
              refine tl (y_extract (vs := [.int .i64 (((g) (gt [(gt zs_1 k).s] 0)).getD 0), .bool (((g) (gt [(gt zs_1 k).s] 0)).isSome)]) rfl rfl) rfl ?_
              refine tl (y_extract (vs := [.int .i64 (((g) (gt [(gt zs_1 k).s] 0)).getD 0), .bool (((g) (gt [(gt zs_1 k).s] 0)).isSome)]) rfl rfl) rfl ?_
              refine tl (y_assign rfl) rfl ?_
              refine tl (y_assign rfl) rfl ?_
              refine tl_end ?_
              refine ex_next ?_
              refine tc_seq ?_
              refine tc_seq ?_
              refine tc_region ?_
              refine tl (y_move rfl) rfl ?_
              refine tl (y_not rfl) rfl ?_
              refine tl (y_move rfl) rfl ?_
              refine tl_is (t := 93) (b' := false) rfl (by show (!(g (gt zs_1 k).s).isSome) = false; rw [hv]; rfl) ?_
              refine tl (y_fa rfl rfl rfl) rfl ?_
              refine tl (y_ld (k := 0) rfl rfl rfl rfl) rfl ?_
              refine tl (y_move rfl) rfl ?_
              refine tl (y_ne rfl rfl) rfl ?_
              refine tl (y_move rfl) rfl ?_
              refine tl_if (t := 98) rfl (fun h98 => ?_) (fun h98 => ?_)
              · refine tl (y_move rfl) rfl ?_
                refine tl (y_fa rfl rfl rfl) rfl ?_
                refine tl (y_ld (k := 0) rfl rfl rfl rfl) rfl ?_
                refine tl_call step_tl rfl rfl (contains_spec (x := x) (S := (bx b_1 [.int .i64 4, .int .i64 0, .int .i64 ((gt zs_1 k).d), .slice ((gt zs_1 k).A) [(gt zs_1 k).s].length 1, .int .i64 0, .int .i64 0, .int .i64 0, .bool false] 28 :: M₀ :: Lz_1 :: LA_1 :: S)) (i := (i + 4)) hx hi ((gt zs_1 k).d) (by omega)) (fun _ h => h) rfl (fun v_ => tl_pure fun e_ => tl_val e_ ?_)
                refine tl (y_notd rfl) rfl ?_
                refine tl (y_pick_t rfl rfl) rfl ?_
                refine tl (y_pick_f rfl rfl) rfl ?_
                refine tl_end ?_
                refine ex_next ?_
                have h105 : ¬ (¬ ((gt zs_1 k).d ∈ xs)) := fun h => h (hok.resolve_left h98)
                refine tc_if rfl (fun h' => absurd h' h105) (fun _ => ?_)
                refine tc_skip ?_
                refine ex_next ?_
                refine tc_region ?_
                refine tl (y_move rfl) rfl ?_
                refine tl (y_fa rfl rfl rfl) rfl ?_
                refine tl (y_ld (k := 0) rfl rfl rfl rfl) rfl ?_
                refine tl (y_move rfl) rfl ?_
                refine tl_update step_tl 1 ((gt zs_1 k).d) (((g) (gt [(gt zs_1 k).s] 0)).getD 0) Q rfl rfl rfl rfl rfl rfl rfl (fun M_4 Q_4 => ?_)
                change TG _ _ _ (St x (bx b_1 [.int .i64 4, .int .i64 0, .int .i64 ((gt zs_1 k).d), .slice ((gt zs_1 k).A) [(gt zs_1 k).s].length 1, .int .i64 0, .int .i64 0, .int .i64 0, .bool false] 28 :: M_4 :: Lz_1 :: LA_1 :: S))
                refine tl_end ?_
                refine ex_block_end (ex_next ?_)
                refine tc_region ?_
                refine tl (y_addi rfl rfl (by omega)) rfl ?_
                refine tl (y_move rfl) rfl ?_
                refine tl_end ?_
                exact ex_round ⟨_, upd g ((gt zs_1 k).d) (((g) (gt [(gt zs_1 k).s] 0)).getD 0), _, by omega, by show Runs _ _ _ (upd g (gt zs_1 k).d ((g (gt zs_1 k).s).getD 0)); rw [hv]; exact hrun', Q_4, rfl, rfl, rfl⟩ (by omega) (sc rfl (sc rfl (sc rfl (sc rfl (sc rfl (sc rfl (sc rfl sn))))))) (fun _ h => h.pickT [1, 2, 3] 4 rfl rfl)
              · refine tl_off rfl ?_
                refine tl_off rfl ?_
                refine tl_off rfl ?_
                refine tl_off rfl ?_
                refine tl_off rfl ?_
                refine tl (y_pick_f rfl rfl) rfl ?_
                refine tl (y_pick_f rfl rfl) rfl ?_
                refine tl_end ?_
                refine ex_next ?_
                refine tc_no rfl ?_
                refine tc_skip ?_
                refine ex_next ?_
                refine tc_region ?_
                refine tl (y_move rfl) rfl ?_
                refine tl (y_fa rfl rfl rfl) rfl ?_
                refine tl (y_ld (k := 0) rfl rfl rfl rfl) rfl ?_
                refine tl (y_move rfl) rfl ?_
                refine tl_update step_tl 1 ((gt zs_1 k).d) (((g) (gt [(gt zs_1 k).s] 0)).getD 0) Q rfl rfl rfl rfl rfl rfl rfl (fun M_5 Q_5 => ?_)
                change TG _ _ _ (St x (bx b_1 [.int .i64 4, .int .i64 0, .int .i64 ((gt zs_1 k).d), .slice ((gt zs_1 k).A) [(gt zs_1 k).s].length 1, .int .i64 0, .int .i64 0, .int .i64 0, .bool false] 28 :: M_5 :: Lz_1 :: LA_1 :: S))
                refine tl_end ?_
                refine ex_block_end (ex_next ?_)
                refine tc_region ?_
                refine tl (y_addi rfl rfl (by omega)) rfl ?_
                refine tl (y_move rfl) rfl ?_
                refine tl_end ?_
                exact ex_round ⟨_, upd g ((gt zs_1 k).d) (((g) (gt [(gt zs_1 k).s] 0)).getD 0), _, by omega, by show Runs _ _ _ (upd g (gt zs_1 k).d ((g (gt zs_1 k).s).getD 0)); rw [hv]; exact hrun', Q_5, rfl, rfl, rfl⟩ (by omega) (sc rfl (sc rfl (sc rfl (sc rfl (sc rfl (sc rfl (sc rfl sn))))))) (fun _ h => h.pickT [1, 2, 3] 4 rfl rfl)
            · refine tc_exit ?_
              refine ex_pass_exit (ex_pass_exit (ex_block_hit (ex_next ?_)))
              refine tc_seq ?_
              refine tc_seq ?_
              have hpost := runs_end (by omega) hrun
              refine tc_region ?_
              refine tl (y_move rfl) rfl ?_
              refine tl (y_len rfl rfl) rfl ?_
              refine tl (y_move rfl) rfl ?_
              refine tl_end ?_
              refine ex_next ?_
              refine tc_block ?_
              refine tc_loop (fun l_ C_ m_ => ∃ k : Int, (0 ≤ k ∧ k ≤ xs.length) ∧ l_ = [(0, .slice A xs.length c), (1, .slice B ys.length c'), (2, .int .i64 t), (7, .map (some m_1)), (111, .slice A xs.length c), (112, .int .i64 (xs.length : Int)), (113, .int .i64 k)] ∧ C_ = St x (M₀ :: S) ∧ m_ = (xs.length - k).toNat) ⟨_, by omega, rfl, rfl, rfl⟩ (sc rfl (sc rfl (sc rfl (sc rfl (sc rfl (sc rfl (sc rfl sn))))))) (fun _ h => h.pickT [0] 3 rfl rfl) ?_
              rintro _ _ _ ⟨k, hk3, rfl, rfl, rfl⟩
              refine tc_seq ?_
              refine tc_region ?_
              refine tl (y_lt rfl rfl) rfl ?_
              refine tl_end ?_
              refine ex_next ?_
              refine tc_seq ?_
              refine tc_if rfl (fun h114 => ?_) (fun h114 => ?_)
              · refine tc_skip ?_
                refine ex_next ?_
                refine tc_seq ?_
                refine tc_block ?_
                refine tc_seq ?_
                refine tc_region ?_
                refine tl (y_move rfl) rfl ?_
                refine tl (y_idx hx rfl rfl rfl rfl (by omega)) rfl ?_
                refine tl (y_el0 (k := (i + 1)) hx rfl hi (by omega) rfl rfl) rfl ?_
                refine tl (y_assign rfl) rfl ?_
                refine tl (y_assign rfl) rfl ?_
                refine tl_end ?_
                refine ex_next ?_
                refine tc_seq ?_
                refine tc_draw x (by kernel_rfl) (by kernel_rfl) ?_
                refine tq (y_move rfl) rfl ?_
                refine tq (y_move rfl) rfl ?_
                refine tq (y_lookup (Y := (yI .i64)) (kv := (Value.int .i64)) (a := (gt xs k)) (z0 := 0) (k := 0) Q rfl rfl rfl rfl rfl rfl) rfl ?_
                refine tq (y_move rfl) rfl ?_
                refine tq (y_move rfl) rfl ?_
                refine tq (y_idx hy rfl rfl rfl rfl (by omega)) rfl ?_
                refine tq (y_el0 (k := (j + 1)) hy rfl hj (by omega) rfl rfl) rfl ?_
                refine tq (y_ne rfl rfl) rfl ?_
                refine tq_end ?_
                refine ex_next ?_
                have h125 : ¬ ((((g) (gt xs k)).getD 0) ≠ (gt ys k)) := fun h => h (by rw [show g (gt xs k) = some (gt ys k) from hpost (gt xs k, gt ys k) (zip_gt (by omega))]; rfl)
                refine tc_if rfl (fun h' => absurd h' h125) (fun _ => ?_)
                refine tc_skip ?_
                refine ex_block_end (ex_next ?_)
                refine tc_region ?_
                refine tl (y_addi rfl rfl (by omega)) rfl ?_
                refine tl (y_move rfl) rfl ?_
                refine tl_end ?_
                exact ex_round ⟨_, by omega, rfl, rfl, rfl⟩ (by omega) (sc rfl (sc rfl (sc rfl (sc rfl (sc rfl (sc rfl (sc rfl sn))))))) (fun _ h => h.pickT [0] 1 rfl rfl)
              · refine tc_exit ?_
                refine ex_pass_exit (ex_pass_exit (ex_block_hit (ex_next ?_)))
                refine tc_seq ?_
                refine tc_region ?_
                refine tl_call step_tl rfl rfl (awake_spec (x := x) (S := (M₀ :: S))) (fun _ h => h) rfl (fun v_ => tl_pure fun e_ => tl_val e_ ?_)
                refine tl (y_assign rfl) rfl ?_
                refine tl_end ?_
                refine ex_next ?_
                refine tc_ret ?_
                refine ex_ret1 rfl rfl (fun w hw => ?_)
                exact ⟨rfl, hw.pickT [] 1 rfl rfl⟩

end Go.Proofs.Yteilepombglalaa
