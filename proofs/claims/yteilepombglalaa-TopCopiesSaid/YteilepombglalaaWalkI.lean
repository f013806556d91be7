/-
  The third law: proved by following its operations.
-/
import Derived.Test.YteilepombglalaaWalkG
import Derived.Test.YteilepombglalaaPlain3
import Derived.Test.YteilepombglalaaArr
set_option linter.unusedVariables false
namespace Go.Proofs.Yteilepombglalaa
open Go
theorem copylaw_walk {x : Out} {S : List (List Chunk)} {A B : Option Addr} {fr od : List Int} {c c' i j : Nat} {L M : List Chunk} (hx : Rd (kI .u8) A fr c L) (hy : Rd (kI .u8) B od c' M) (hi : S[i]? = some L) (hj : S[j]? = some M) (hf : ∀ a ∈ fr, 0 ≤ a ∧ a ≤ 255) (ho : ∀ a ∈ od, 0 ≤ a ∧ a ≤ 255) :
    Spec Try.prog 5 #[.slice A fr.length c, .slice B od.length c'] (St x (S)) (fun v w => v = .bool true ∧ St x S w) := by
  refine spec_of (args := [.slice A fr.length c, .slice B od.length c']) Try.func5 rfl rfl rfl ?_
  refine tc_seq ?_
  refine tc_region ?_
  refine tl (y_assign rfl) rfl ?_
  refine tl_end ?_
  refine ex_next ?_
  refine tc_seq ?_
  refine tc_region ?_
  refine tl (y_move rfl) rfl ?_
  refine tl (y_len rfl rfl) rfl ?_
  refine tl (y_min rfl rfl) rfl ?_
  refine tl (y_assign rfl) rfl ?_
  refine tl_end ?_
  refine ex_next ?_
  refine tc_seq ?_
  refine tc_region ?_
  refine tl (y_assign rfl) rfl ?_
  refine tl (y_assign rfl) rfl ?_
  refine tl_end ?_
  refine ex_next ?_
  refine tc_seq ?_
  refine tc_seq ?_
  refine tc_region ?_
  refine tl (y_move rfl) rfl ?_
  refine tl (y_move rfl) rfl ?_
  refine tl (y_len rfl rfl) rfl ?_
  refine tl (y_min rfl rfl) rfl ?_
  refine tl (y_slh (K := (kI .u8)) rfl rfl rfl rfl hy.le (by omega)) rfl ?_
  refine tl (y_len rfl rfl) rfl ?_
  refine tl (y_move rfl) rfl ?_
  refine tl_end ?_
  refine ex_next ?_
  refine tc_block ?_
  refine tc_loop (fun l_ C_ m_ => ∃ k : Int, ∃ ds : List Int, ∃ ss : List Int, ∃ cd : Nat, ∃ cs : Nat, ∃ Ad : Option Addr, ∃ As : Option Addr, ∃ Ld : List Chunk, ∃ Ls : List Chunk, (0 ≤ k ∧ k ≤ (List.take (min (od.length : Int) 20).toNat od).length ∧ (List.take (min (od.length : Int) 20).toNat od).length ≤ 20) ∧ (Fits ds ss) ∧ (ds.length ≤ k) ∧ (Own 3 (kI .i64) Ad ds cd Ld) ∧ (Own 3 (kI .i64) As ss cs Ls) ∧ l_ = [(0, .slice A fr.length c), (5, .int .i64 (min (fr.length : Int) 10)), (6, .slice Ad ds.length cd), (7, .slice As ss.length cs), (27, .slice (sla B 0 c' (kI .u8).sz) (List.take (min (od.length : Int) 20).toNat od).length c'), (28, .int .i64 ((List.take (min (od.length : Int) 20).toNat od).length : Int)), (29, .int .i64 k)] ∧ C_ = St x (Ld :: Ls :: S) ∧ m_ = ((List.take (min (od.length : Int) 20).toNat od).length - k).toNat) ⟨_, [], [], _, _, _, _, _, _, ⟨by omega, by omega, by rw [List.length_take]; omega⟩, ⟨rfl, by simp, by simp, by simp⟩, by simp, Own.nil, Own.nil, rfl, rfl, rfl⟩ (sc rfl (sc rfl (sc rfl (sc rfl (sc rfl (sc rfl (sc rfl sn))))))) (fun _ h => h.empty.empty) ?_
  rintro _ _ _ ⟨k, ds, ss, cd, cs, Ad, As, Ld, Ls, hk, F, hdl, Od, Os, rfl, rfl, rfl⟩
  refine tc_seq ?_
  refine tc_region ?_
  refine tl (y_lt rfl rfl) rfl ?_
  refine tl_end ?_
  refine ex_next ?_
  refine tc_seq ?_
  refine tc_if rfl (fun h30 => ?_) (fun h30 => ?_)
  · refine tc_skip ?_
    refine ex_next ?_
    refine tc_seq ?_
    refine tc_block ?_
    refine tc_seq ?_
    refine tc_region ?_
    refine tl (y_idx (hy.cut_h (h := min (od.length : Int) 20) (by omega)) rfl rfl rfl rfl (by omega)) rfl ?_
    refine tl (y_el0 (k := (j + 2)) (hy.cut_h (h := min (od.length : Int) 20) (by omega)) rfl hj (by omega) rfl rfl) rfl ?_
    refine tl (y_assign rfl) rfl ?_
    refine tl_end ?_
    refine ex_next ?_
    refine tc_seq ?_
    have h20 : (List.take (min (od.length : Int) 20).toNat od).length ≤ 20 := by rw [List.length_take]; omega
    have hlen := F.len
    have ho1 := ho _ (List.mem_of_mem_take (mem_gt (xs := List.take (min (od.length : Int) 20).toNat od) (q := k) (by omega)))
    refine tc_region ?_
    refine tl (y_move rfl) rfl ?_
    refine tl (y_conv64 rfl rfl rfl (by omega)) rfl ?_
    refine tl (y_remi rfl rfl (by omega)) rfl ?_
    refine tl (y_assign rfl) rfl ?_
    refine tl_end ?_
    refine ex_next ?_
    refine tc_seq ?_
    refine tc_region ?_
    refine tl (y_move rfl) rfl ?_
    refine tl (y_move rfl) rfl ?_
    refine tl (y_lt rfl rfl) rfl ?_
    refine tl (y_move rfl) rfl ?_
    refine tl_if (t := 39) rfl (fun h39 => ?_) (fun h39 => ?_)
    · refine tl (y_move rfl) rfl ?_
      refine tl (y_move rfl) rfl ?_
      refine tl_call step_tl rfl rfl (contains_spec (x := x) (S := (Ld :: Ls :: S)) (i := 0) Od.rd rfl ((gt (List.take (min (od.length : Int) 20).toNat od) k) % 10) (by omega)) (fun _ h => h) rfl (fun v_ => tl_pure fun e_ => tl_val e_ ?_)
      refine tl (y_notd rfl) rfl ?_
      refine tl (y_pick_t rfl rfl) rfl ?_
      refine tl_end ?_
      refine ex_next ?_
      refine tc_if rfl (fun h44 => ?_) (fun h44 => ?_)
      · have hf1 := hf _ (mem_gt (xs := fr) (q := (gt (List.take (min (od.length : Int) 20).toNat od) k) % 10) (by omega))
        refine tc_join (fun l_ C_ => (∃ A_2 : Option Addr, ∃ c_1 : Nat, ∃ L_2 : List Chunk, ∃ A_4 : Option Addr, ∃ c_2 : Nat, ∃ L_4 : List Chunk, (Own 3 (kI .i64) A_2 (ds ++ [(gt (List.take (min (od.length : Int) 20).toNat od) k) % 10]) c_1 L_2) ∧ (Own 3 (kI .i64) A_4 (ss ++ [(gt fr ((gt (List.take (min (od.length : Int) 20).toNat od) k) % 10)) % 10]) c_2 L_4) ∧ l_ = [(0, .slice A fr.length c), (5, .int .i64 (min (fr.length : Int) 10)), (6, .slice A_2 (ds ++ [(gt (List.take (min (od.length : Int) 20).toNat od) k) % 10]).length c_1), (7, .slice A_4 (ss ++ [(gt fr ((gt (List.take (min (od.length : Int) 20).toNat od) k) % 10)) % 10]).length c_2), (27, .slice (sla B 0 c' (kI .u8).sz) (List.take (min (od.length : Int) 20).toNat od).length c'), (28, .int .i64 ((List.take (min (od.length : Int) 20).toNat od).length : Int)), (29, .int .i64 k), (30, .bool (decide (k < ((List.take (min (od.length : Int) 20).toNat od).length : Int)))), (31, .pointer (some (slp (sla B 0 c' (kI .u8).sz) k (kI .u8).sz))), (32, .int .u8 (gt (List.take (min (od.length : Int) 20).toNat od) k)), (9, .int .u8 (gt (List.take (min (od.length : Int) 20).toNat od) k)), (33, .int .u8 (gt (List.take (min (od.length : Int) 20).toNat od) k)), (34, .int .i64 (gt (List.take (min (od.length : Int) 20).toNat od) k)), (35, .int .i64 ((gt (List.take (min (od.length : Int) 20).toNat od) k) % 10)), (10, .int .i64 ((gt (List.take (min (od.length : Int) 20).toNat od) k) % 10)), (36, .int .i64 ((gt (List.take (min (od.length : Int) 20).toNat od) k) % 10)), (37, .int .i64 (min (fr.length : Int) 10)), (38, .bool (decide (((gt (List.take (min (od.length : Int) 20).toNat od) k) % 10) < (min (fr.length : Int) 10)))), (39, .bool true), (40, .slice Ad ds.length cd), (41, .int .i64 ((gt (List.take (min (od.length : Int) 20).toNat od) k) % 10)), (42, .bool (decide ((gt (List.take (min (od.length : Int) 20).toNat od) k) % 10 ∈ ds))), (43, .bool (decide (¬ ((gt (List.take (min (od.length : Int) 20).toNat od) k) % 10 ∈ ds)))), (44, .bool (decide (¬ ((gt (List.take (min (od.length : Int) 20).toNat od) k) % 10 ∈ ds))))] ∧ C_ = St x (L_2 :: L_4 :: S))) ?_ ?_
        · refine tc_tree [(0, .p), (1, .p), (4, .p), (5, .p), (6, .p), (7, .p), (8, .r), (9, .p), (10, .p), (13, .p), (14, .p)] (.quiet 0 .p (.quiet 1 .p (.quiet 4 .p (.quiet 5 .p (.quiet 6 .p (.quiet 7 .p (.quiet 8 .r (.quiet 9 .p (.quiet 10 .p (.fork 2 [8] (.fork 3 [8] (.fork 11 [] (.fork 12 [] (.quiet 13 .p (.quiet 14 .p .done)) .stop) .stop) (.fork 11 [] (.fork 3 [] (.fork 12 [] (.quiet 13 .p (.quiet 14 .p .done)) .stop) .stop) .stop)) (.fork 11 [] (.fork 2 [] (.fork 3 [] (.fork 12 [] (.quiet 13 .p (.quiet 14 .p .done)) .stop) .stop) .stop) .stop))))))))))) (by kernel_rfl) (by kernel_rfl) ?_
          refine tt_p rfl (y_move rfl) rfl ?_
          refine tt_p rfl (y_move rfl) rfl ?_
          refine tt_p rfl (y_move rfl) rfl ?_
          refine tt_p rfl (y_move rfl) rfl ?_
          refine tt_p rfl (y_move rfl) rfl ?_
          refine tt_p rfl (y_idx hx rfl rfl rfl rfl (by omega)) rfl ?_
          refine tt_r rfl (y_el0 (k := (i + 2)) hx rfl hi (by omega) rfl rfl) rfl ?_
          refine tt_p rfl (y_conv64 rfl rfl rfl (by omega)) rfl ?_
          refine tt_p rfl (y_remi rfl rfl (by omega)) rfl ?_
          refine tt_alt ?_ ?_
          · refine tl_one (step_tt rfl) (K := (kI .i64)) ((gt (List.take (min (od.length : Int) 20).toNat od) k) % 10) rfl rfl rfl rfl rfl rfl rfl rfl rfl (fun A_1 L_1 O_1 => ?_)
            refine kept_on rfl rfl rfl (y_el0 (k := (i + 3)) hx rfl hi (by omega) rfl rfl) ?_
            refine kept_nil ?_
            refine tt_alt ?_ ?_
            · refine tl_append (step_tt rfl) (by_ := 8) 1 0 Od O_1.rd rfl rfl rfl rfl rfl rfl rfl rfl rfl rfl (by simp; omega) (by simp; omega) rfl (fun A_2 c_1 L_2 O_2 le_1 => ?_)
              change TG _ _ _ (St x (L_1 :: L_2 :: Ls :: S))
              refine kept_on rfl rfl rfl (y_el0 (k := (i + 3)) hx rfl hi (by omega) rfl rfl) ?_
              refine kept_nil ?_
              refine tl_one (step_tt rfl) (K := (kI .i64)) ((gt fr ((gt (List.take (min (od.length : Int) 20).toNat od) k) % 10)) % 10) rfl rfl rfl rfl rfl rfl rfl rfl rfl (fun A_3 L_3 O_3 => ?_)
              refine kept_nil ?_
              refine tl_append (step_tt rfl) (by_ := 8) 3 0 Os O_3.rd rfl rfl rfl rfl rfl rfl rfl rfl rfl rfl (by simp; omega) (by simp; omega) rfl (fun A_4 c_2 L_4 O_4 le_2 => ?_)
              change TG _ _ _ (St x (L_3 :: L_1 :: L_2 :: L_4 :: S))
              refine kept_nil ?_
              refine tt_p rfl (y_assign rfl) rfl ?_
              refine tt_p rfl (y_assign rfl) rfl ?_
              refine tt_end ?_
              exact ex_join (⟨A_2, c_1, L_2, A_4, c_2, L_4, O_2, O_4, rfl, rfl⟩) (sc rfl (sc rfl (sc rfl (sc rfl (sc rfl (sc rfl (sc rfl (sc rfl (sc rfl (sc rfl (sc rfl (sc rfl (sc rfl (sc rfl (sc rfl (sc rfl (sc rfl (sc rfl (sc rfl (sc rfl (sc rfl (sc rfl (sc rfl (sc rfl sn)))))))))))))))))))))))) (fun _ h => h.pickT [2, 3] 4 rfl rfl)
            · refine tl_one (step_tt rfl) (K := (kI .i64)) ((gt fr ((gt (List.take (min (od.length : Int) 20).toNat od) k) % 10)) % 10) rfl rfl rfl rfl rfl rfl rfl rfl rfl (fun A_5 L_5 O_5 => ?_)
              refine kept_nil ?_
              refine tl_append (step_tt rfl) (by_ := 8) 2 1 Od O_1.rd rfl rfl rfl rfl rfl rfl rfl rfl rfl rfl (by simp; omega) (by simp; omega) rfl (fun A_6 c_3 L_6 O_6 le_3 => ?_)
              change TG _ _ _ (St x (L_5 :: L_1 :: L_6 :: Ls :: S))
              refine kept_nil ?_
              refine tl_append (step_tt rfl) (by_ := 8) 3 0 Os O_5.rd rfl rfl rfl rfl rfl rfl rfl rfl rfl rfl (by simp; omega) (by simp; omega) rfl (fun A_7 c_4 L_7 O_7 le_4 => ?_)
              change TG _ _ _ (St x (L_5 :: L_1 :: L_6 :: L_7 :: S))
              refine kept_nil ?_
              refine tt_p rfl (y_assign rfl) rfl ?_
              refine tt_p rfl (y_assign rfl) rfl ?_
              refine tt_end ?_
              exact ex_join (⟨A_6, c_3, L_6, A_7, c_4, L_7, O_6, O_7, rfl, rfl⟩) (sc rfl (sc rfl (sc rfl (sc rfl (sc rfl (sc rfl (sc rfl (sc rfl (sc rfl (sc rfl (sc rfl (sc rfl (sc rfl (sc rfl (sc rfl (sc rfl (sc rfl (sc rfl (sc rfl (sc rfl (sc rfl (sc rfl (sc rfl (sc rfl sn)))))))))))))))))))))))) (fun _ h => h.pickT [2, 3] 4 rfl rfl)
          · refine tl_one (step_tt rfl) (K := (kI .i64)) ((gt fr ((gt (List.take (min (od.length : Int) 20).toNat od) k) % 10)) % 10) rfl rfl rfl rfl rfl rfl rfl rfl rfl (fun A_8 L_8 O_8 => ?_)
            refine kept_nil ?_
            refine tl_one (step_tt rfl) (K := (kI .i64)) ((gt (List.take (min (od.length : Int) 20).toNat od) k) % 10) rfl rfl rfl rfl rfl rfl rfl rfl rfl (fun A_9 L_9 O_9 => ?_)
            refine kept_nil ?_
            refine tl_append (step_tt rfl) (by_ := 8) 2 0 Od O_9.rd rfl rfl rfl rfl rfl rfl rfl rfl rfl rfl (by simp; omega) (by simp; omega) rfl (fun A_10 c_5 L_10 O_10 le_5 => ?_)
            change TG _ _ _ (St x (L_9 :: L_8 :: L_10 :: Ls :: S))
            refine kept_nil ?_
            refine tl_append (step_tt rfl) (by_ := 8) 3 1 Os O_8.rd rfl rfl rfl rfl rfl rfl rfl rfl rfl rfl (by simp; omega) (by simp; omega) rfl (fun A_11 c_6 L_11 O_11 le_6 => ?_)
            change TG _ _ _ (St x (L_9 :: L_8 :: L_10 :: L_11 :: S))
            refine kept_nil ?_
            refine tt_p rfl (y_assign rfl) rfl ?_
            refine tt_p rfl (y_assign rfl) rfl ?_
            refine tt_end ?_
            exact ex_join (⟨A_10, c_5, L_10, A_11, c_6, L_11, O_10, O_11, rfl, rfl⟩) (sc rfl (sc rfl (sc rfl (sc rfl (sc rfl (sc rfl (sc rfl (sc rfl (sc rfl (sc rfl (sc rfl (sc rfl (sc rfl (sc rfl (sc rfl (sc rfl (sc rfl (sc rfl (sc rfl (sc rfl (sc rfl (sc rfl (sc rfl (sc rfl sn)))))))))))))))))))))))) (fun _ h => h.pickT [2, 3] 4 rfl rfl)
        · rintro _ _ (⟨A_2, c_1, L_2, A_4, c_2, L_4, O_2, O_4, rfl, rfl⟩)
          refine ex_block_end (ex_next ?_)
          refine tc_region ?_
          refine tl (y_addi rfl rfl (by omega)) rfl ?_
          refine tl (y_move rfl) rfl ?_
          refine tl_end ?_
          exact ex_round ⟨_, ds ++ [(gt (List.take (min (od.length : Int) 20).toNat od) k) % 10], ss ++ [(gt fr ((gt (List.take (min (od.length : Int) 20).toNat od) k) % 10)) % 10], _, _, _, _, _, _, by omega, F.snoc (by simpa using h44) (by omega) (by omega), by first | omega | (simp; omega), O_2, O_4, rfl, rfl, rfl⟩ (by omega) (sc rfl (sc rfl (sc rfl (sc rfl (sc rfl (sc rfl (sc rfl sn))))))) (fun _ h => h.pickT [0, 1] 2 rfl rfl)
      · refine tc_skip ?_
        refine ex_block_end (ex_next ?_)
        refine tc_region ?_
        refine tl (y_addi rfl rfl (by omega)) rfl ?_
        refine tl (y_move rfl) rfl ?_
        refine tl_end ?_
        exact ex_round ⟨_, ds, ss, _, _, _, _, _, _, by omega, F, by first | omega | (simp; omega), Od, Os, rfl, rfl, rfl⟩ (by omega) (sc rfl (sc rfl (sc rfl (sc rfl (sc rfl (sc rfl (sc rfl sn))))))) (fun _ h => h.pickT [0, 1] 2 rfl rfl)
    · refine tl_off rfl ?_
      refine tl_off rfl ?_
      refine tl_off rfl ?_
      refine tl_off rfl ?_
      refine tl (y_pick_f rfl rfl) rfl ?_
      refine tl_end ?_
      refine ex_next ?_
      refine tc_no rfl ?_
      refine tc_skip ?_
      refine ex_block_end (ex_next ?_)
      refine tc_region ?_
      refine tl (y_addi rfl rfl (by omega)) rfl ?_
      refine tl (y_move rfl) rfl ?_
      refine tl_end ?_
      exact ex_round ⟨_, ds, ss, _, _, _, _, _, _, by omega, F, by first | omega | (simp; omega), Od, Os, rfl, rfl, rfl⟩ (by omega) (sc rfl (sc rfl (sc rfl (sc rfl (sc rfl (sc rfl (sc rfl sn))))))) (fun _ h => h.pickT [0, 1] 2 rfl rfl)
  · refine tc_exit ?_
    refine ex_pass_exit (ex_pass_exit (ex_block_hit (ex_next ?_)))
    refine tc_seq ?_
    have hlen0 := F.len
    refine tc_region ?_
    refine tl_arr step_tl (K := (kI .i64)) (List.replicate 12 0) rfl rfl rfl rfl (fun b_1 L_12 O_12 => ?_)
    refine tl_arr step_tl (K := (kI .i64)) (List.replicate 12 0) rfl rfl rfl rfl (fun b_2 L_13 O_13 => ?_)
    refine tl_end ?_
    refine ex_next ?_
    refine tc_seq ?_
    refine tc_seq ?_
    refine tc_region ?_
    refine tl (y_move rfl) rfl ?_
    refine tl_end ?_
    refine ex_next ?_
    refine tc_block ?_
    refine tc_loop (fun l_ C_ m_ => ∃ k : Int, ∃ nw : List Int, ∃ wn : List Int, ∃ Ln : List Chunk, ∃ Lw : List Chunk, (0 ≤ k ∧ k ≤ 12) ∧ (nw.length = 12) ∧ (wn.length = 12) ∧ (∀ q : Int, 0 ≤ q ∧ q < k → gt nw q = 100 + q) ∧ (∀ q : Int, 0 ≤ q ∧ q < k → gt wn q = 100 + q) ∧ (Own 36 (kI .i64) (some ⟨b_1, 0, none⟩) nw 12 Ln) ∧ (Own 36 (kI .i64) (some ⟨b_2, 0, none⟩) wn 12 Lw) ∧ l_ = [(6, .slice Ad ds.length cd), (7, .slice As ss.length cs), (11, .pointer (some ⟨b_1, 0, none⟩)), (12, .pointer (some ⟨b_2, 0, none⟩)), (59, .int .i64 k)] ∧ C_ = St x (Ln :: Lw :: Ld :: Ls :: S) ∧ m_ = (12 - k).toNat) ⟨_, _, _, _, _, by omega, by simp, by simp, fun q hq => absurd hq (by omega), fun q hq => absurd hq (by omega), O_12, O_13, rfl, rfl, rfl⟩ (sc rfl (sc rfl (sc rfl (sc rfl (sc rfl sn))))) (fun _ h => h.pickT [1, 0, 2, 3] 4 rfl rfl) ?_
    rintro _ _ _ ⟨k, nw, wn, Ln, Lw, hk2, hnl, hwl, hnv, hwv, On, Ow, rfl, rfl, rfl⟩
    refine tc_seq ?_
    refine tc_region ?_
    refine tl (y_lt rfl rfl) rfl ?_
    refine tl_end ?_
    refine ex_next ?_
    refine tc_seq ?_
    refine tc_if rfl (fun h60 => ?_) (fun h60 => ?_)
    · refine tc_skip ?_
      refine ex_next ?_
      refine tc_seq ?_
      refine tc_block ?_
      refine tc_seq ?_
      refine tc_region ?_
      refine tl (y_move rfl) rfl ?_
      refine tl (y_assign rfl) rfl ?_
      refine tl_end ?_
      refine ex_next ?_
      refine tc_region ?_
      refine tl (y_move rfl) rfl ?_
      refine tl (y_move rfl) rfl ?_
      refine tl (y_move rfl) rfl ?_
      refine tl (y_addi rfl rfl (by omega)) rfl ?_
      refine tl (y_move rfl) rfl ?_
      refine tl (y_addi rfl rfl (by omega)) rfl ?_
      refine tl (y_aidx (K := (kI .i64)) rfl rfl rfl rfl (by omega)) rfl ?_
      refine tl_stel0 step_tl 0 (100 + k) On rfl rfl (vs := [.int .i64 (100 + k)]) rfl rfl rfl (by omega) (Nat.le_of_ble_eq_true rfl) rfl rfl (fun L_14 O_14 => ?_)
      change TG _ _ _ (St x (L_14 :: Lw :: Ld :: Ls :: S))
      refine tl (y_aidx (K := (kI .i64)) rfl rfl rfl rfl (by omega)) rfl ?_
      refine tl_stel0 step_tl 1 (100 + k) Ow rfl rfl (vs := [.int .i64 (100 + k)]) rfl rfl rfl (by omega) (Nat.le_of_ble_eq_true rfl) rfl rfl (fun L_15 O_15 => ?_)
      change TG _ _ _ (St x (L_14 :: L_15 :: Ld :: Ls :: S))
      refine tl_end ?_
      refine ex_block_end (ex_next ?_)
      refine tc_region ?_
      refine tl (y_addi rfl rfl (by omega)) rfl ?_
      refine tl (y_move rfl) rfl ?_
      refine tl_end ?_
      exact ex_round ⟨_, _, _, _, _, by omega, by rw [st_length]; exact hnl, by rw [st_length]; exact hwl, fun q hq => by rw [gt_st (by omega) hq.1]; by_cases h : q = k; rw [if_pos h, h]; rw [if_neg h]; exact hnv q (by omega), fun q hq => by rw [gt_st (by omega) hq.1]; by_cases h : q = k; rw [if_pos h, h]; rw [if_neg h]; exact hwv q (by omega), O_14, O_15, rfl, rfl, rfl⟩ (by omega) (sc rfl (sc rfl (sc rfl (sc rfl (sc rfl sn))))) (fun _ h => h.pickT [0, 1, 2, 3] 4 rfl rfl)
    · refine tc_exit ?_
      refine ex_pass_exit (ex_pass_exit (ex_block_hit (ex_next ?_)))
      refine tc_seq ?_
      refine tc_region ?_
      refine tl (y_assign rfl) rfl ?_
      refine tl_end ?_
      refine ex_next ?_
      refine tc_seq ?_
      refine tc_seq ?_
      refine tc_region ?_
      refine tl (y_move rfl) rfl ?_
      refine tl (y_len rfl rfl) rfl ?_
      refine tl (y_move rfl) rfl ?_
      refine tl_end ?_
      refine ex_next ?_
      refine tc_block ?_
      refine tc_loop (fun l_ C_ m_ => ∃ k : Int, ∃ m : Int, ∃ wn : List Int, ∃ Lw : List Chunk, (0 ≤ k ∧ k ≤ ds.length) ∧ (wn.length = 12) ∧ (∀ q : Int, 0 ≤ q ∧ q < 12 → gt wn q = 100 + tgt ((ds.zip ss).take k.toNat) q) ∧ (m = ((((ds.zip ss).take k.toNat).filter fun p => decide (p.2 ≠ p.1)).length : Int)) ∧ (0 ≤ m ∧ m ≤ k) ∧ (Own 36 (kI .i64) (some ⟨b_2, 0, none⟩) wn 12 Lw) ∧ l_ = [(6, .slice Ad ds.length cd), (7, .slice As ss.length cs), (11, .pointer (some ⟨b_1, 0, none⟩)), (12, .pointer (some ⟨b_2, 0, none⟩)), (14, .int .i64 m), (71, .slice Ad ds.length cd), (72, .int .i64 (ds.length : Int)), (73, .int .i64 k)] ∧ C_ = St x (Ln :: Lw :: Ld :: Ls :: S) ∧ m_ = (ds.length - k).toNat) ⟨_, 0, wn, _, by omega, hwl, fun q hq => by rw [hwv q (by omega)]; rfl, by simp, by omega, Ow, rfl, rfl, rfl⟩ (sc rfl (sc rfl (sc rfl (sc rfl (sc rfl (sc rfl (sc rfl (sc rfl sn)))))))) (fun _ h => h.pickT [0, 1, 2, 3] 4 rfl rfl) ?_
      rintro _ _ _ ⟨k, m, wn, Lw, hk3, hwl, hwv, hm, hm2, Ow, rfl, rfl, rfl⟩
      refine tc_seq ?_
      refine tc_region ?_
      refine tl (y_lt rfl rfl) rfl ?_
      refine tl_end ?_
      refine ex_next ?_
      refine tc_seq ?_
      refine tc_if rfl (fun h74 => ?_) (fun h74 => ?_)
      · refine tc_skip ?_
        refine ex_next ?_
        refine tc_seq ?_
        refine tc_block ?_
        refine tc_seq ?_
        refine tc_region ?_
        refine tl (y_move rfl) rfl ?_
        refine tl (y_idx Od.rd rfl rfl rfl rfl (by omega)) rfl ?_
        refine tl (y_el0 (k := 2) Od.rd rfl rfl (by omega) rfl rfl) rfl ?_
        refine tl (y_assign rfl) rfl ?_
        refine tl (y_assign rfl) rfl ?_
        refine tl_end ?_
        refine ex_next ?_
        refine tc_seq ?_
        have hlen := F.len
        have hd1 := F.dok _ (mem_gt (xs := ds) (q := k) (by omega))
        have hs1 := F.sok _ (mem_gt (xs := ss) (q := k) (by omega))
        refine tc_region ?_
        refine tl (y_move rfl) rfl ?_
        refine tl (y_move rfl) rfl ?_
        refine tl (y_move rfl) rfl ?_
        refine tl (y_idx Os.rd rfl rfl rfl rfl (by omega)) rfl ?_
        refine tl (y_el0 (k := 3) Os.rd rfl rfl (by omega) rfl rfl) rfl ?_
        refine tl (y_addi rfl rfl (by omega)) rfl ?_
        refine tl (y_aidx (K := (kI .i64)) rfl rfl rfl rfl (by omega)) rfl ?_
        refine tl_stel0 step_tl 1 (100 + (gt ss k)) Ow rfl rfl (vs := [.int .i64 (100 + (gt ss k))]) rfl rfl rfl (by omega) (Nat.le_of_ble_eq_true rfl) rfl rfl (fun L_16 O_16 => ?_)
        change TG _ _ _ (St x (Ln :: L_16 :: Ld :: Ls :: S))
        refine tl_end ?_
        refine ex_next ?_
        refine tc_seq ?_
        refine tc_region ?_
        refine tl (y_move rfl) rfl ?_
        refine tl (y_move rfl) rfl ?_
        refine tl (y_move rfl) rfl ?_
        refine tl (y_idx Os.rd rfl rfl rfl rfl (by omega)) rfl ?_
        refine tl (y_el0 (k := 3) Os.rd rfl rfl (by omega) rfl rfl) rfl ?_
        refine tl (y_ne rfl rfl) rfl ?_
        refine tl_end ?_
        refine ex_next ?_
        refine tc_if rfl (fun h90 => ?_) (fun h90 => ?_)
        · refine tc_region ?_
          refine tl (y_move rfl) rfl ?_
          refine tl (y_addi rfl rfl (by omega)) rfl ?_
          refine tl (y_assign rfl) rfl ?_
          refine tl_end ?_
          refine ex_block_end (ex_next ?_)
          refine tc_region ?_
          refine tl (y_addi rfl rfl (by omega)) rfl ?_
          refine tl (y_move rfl) rfl ?_
          refine tl_end ?_
          exact ex_round ⟨_, _, _, _, by omega, by rw [st_length]; exact hwl, fun q hq => by rw [gt_st (by omega) hq.1, take_zip (by omega), tgt_snoc (not_before F (by omega))]; by_cases h : q = gt ds k; rw [if_pos h, if_pos h]; rw [if_neg h, if_neg h]; exact hwv q hq, by rw [take_zip (by omega), List.filter_append, List.length_append, hm]; simp [Ne.symm h90], by omega, O_16, rfl, rfl, rfl⟩ (by omega) (sc rfl (sc rfl (sc rfl (sc rfl (sc rfl (sc rfl (sc rfl (sc rfl sn)))))))) (fun _ h => h.pickT [0, 1, 2, 3] 4 rfl rfl)
        · refine tc_skip ?_
          refine ex_block_end (ex_next ?_)
          refine tc_region ?_
          refine tl (y_addi rfl rfl (by omega)) rfl ?_
          refine tl (y_move rfl) rfl ?_
          refine tl_end ?_
          exact ex_round ⟨_, _, _, _, by omega, by rw [st_length]; exact hwl, fun q hq => by rw [gt_st (by omega) hq.1, take_zip (by omega), tgt_snoc (not_before F (by omega))]; by_cases h : q = gt ds k; rw [if_pos h, if_pos h]; rw [if_neg h, if_neg h]; exact hwv q hq, by rw [take_zip (by omega), List.filter_append, List.length_append, hm]; simp [Classical.not_not.1 h90], by omega, O_16, rfl, rfl, rfl⟩ (by omega) (sc rfl (sc rfl (sc rfl (sc rfl (sc rfl (sc rfl (sc rfl (sc rfl sn)))))))) (fun _ h => h.pickT [0, 1, 2, 3] 4 rfl rfl)
      · refine tc_exit ?_
        refine ex_pass_exit (ex_pass_exit (ex_block_hit (ex_next ?_)))
        refine tc_seq ?_
        refine tc_region ?_
        refine tl (y_move rfl) rfl ?_
        refine tl (y_move rfl) rfl ?_
        refine tl_call step_tl rfl rfl (seq_spec (x := x) (S := (Ln :: Lw :: Ld :: Ls :: S)) (i := 2) (j := 3) Od.rd Os.rd rfl rfl 10 (by first | omega | (simp; done) | (simp; omega)) (by first | omega | (simp; done) | (simp; omega))) (fun _ h => h) rfl (fun v_ => tl_ex fun Az_1 => tl_ex fun zs_1 => tl_ex fun cz_1 => tl_ex fun Lz_1 => tl_ex fun LA_1 => tl_pure fun e_ => tl_val e_ ?_)
        refine tl_pure fun Oz_1 => tl_pure fun hm_1 => tl_pure fun hr_1 => ?_
        have hnz_1 : zs_1.length ≤ 2001 := by have := congrArg List.length hm_1; rw [List.length_map] at this; have h2 := seqz_length (ds := ds) (ss := ss) (t := 10); first | omega | (simp at h2; omega) | (simp only [List.length_append, List.length_cons, List.length_nil] at h2; omega)
        refine tl (y_assign rfl) rfl ?_
        refine tl_end ?_
        refine ex_next ?_
        refine tc_seq ?_
        refine tc_seq ?_
        refine tc_region ?_
        refine tl (y_move rfl) rfl ?_
        refine tl (y_len rfl rfl) rfl ?_
        refine tl (y_move rfl) rfl ?_
        refine tl_end ?_
        refine ex_next ?_
        refine tc_block ?_
        have hrun0 := fits_runs F
        rw [← hm_1] at hrun0
        refine tc_loop (fun l_ C_ m_ => ∃ k : Int, ∃ g : Int → Option Int, ∃ nw : List Int, ∃ Ln : List Chunk, (0 ≤ k ∧ k ≤ zs_1.length) ∧ (Runs (Ok ds) (fun g => (∀ p ∈ ds.zip ss, g p.1 = some p.2) ∧ ∀ q, ¬ Ok ds q → g q = some q) ((zs_1.map Mv.p).drop k.toNat) g) ∧ (nw.length = 12) ∧ (∀ q : Int, 0 ≤ q ∧ q < 12 → gt nw q = 100 + (g q).getD 0) ∧ (Own 36 (kI .i64) (some ⟨b_1, 0, none⟩) nw 12 Ln) ∧ l_ = [(6, .slice Ad ds.length cd), (7, .slice As ss.length cs), (11, .pointer (some ⟨b_1, 0, none⟩)), (12, .pointer (some ⟨b_2, 0, none⟩)), (14, .int .i64 m), (17, .slice Az_1 zs_1.length cz_1), (97, .slice Az_1 zs_1.length cz_1), (98, .int .i64 (zs_1.length : Int)), (99, .int .i64 k)] ∧ C_ = St x (Ln :: Lw :: Ld :: Ls :: Lz_1 :: LA_1 :: S) ∧ m_ = (zs_1.length - k).toNat) ⟨0, fun q => some q, nw, _, by omega, hrun0, hnl, fun q hq => hnv q (by omega), On, rfl, rfl, rfl⟩ (sc rfl (sc rfl (sc rfl (sc rfl (sc rfl (sc rfl (sc rfl (sc rfl (sc rfl sn))))))))) (fun _ h => h.pickT [2, 3, 4, 5, 0, 1] 6 rfl rfl) ?_
        rintro _ _ _ ⟨k, g, nw, Ln, hk4, hrun, hnl, hnv, On, rfl, rfl, rfl⟩
        refine tc_seq ?_
        refine tc_region ?_
        refine tl (y_lt rfl rfl) rfl ?_
        refine tl_end ?_
        refine ex_next ?_
        refine tc_seq ?_
        refine tc_if rfl (fun h100 => ?_) (fun h100 => ?_)
        · refine tc_skip ?_
          refine ex_next ?_
          refine tc_seq ?_
          refine tc_block ?_
          refine tc_seq ?_
          refine tc_region ?_
          refine tl (y_idx Oz_1.rd rfl rfl rfl rfl (by omega)) rfl ?_
          refine tl (y_els (k := 4) Oz_1.rd rfl rfl (by omega) rfl rfl) rfl ?_
          refine tl_alloc step_tl (cs := [.int .i64 0, .int .i64 0, .int .i64 0, .slice none 0 0, .int .i64 0, .int .i64 0, .int .i64 0, .bool false]) rfl rfl rfl (fun b_3 => ?_)
          refine tl_store step_tl 0 (vs := [.int .i64 4, .int .i64 0, .int .i64 ((gt zs_1 k).d), .slice ((gt zs_1 k).A) [(gt zs_1 k).s].length 1, .int .i64 0, .int .i64 0, .int .i64 0, .bool false]) (cs' := [.int .i64 4, .int .i64 0, .int .i64 ((gt zs_1 k).d), .slice ((gt zs_1 k).A) [(gt zs_1 k).s].length 1, .int .i64 0, .int .i64 0, .int .i64 0, .bool false]) (S' := (bx b_3 [.int .i64 4, .int .i64 0, .int .i64 ((gt zs_1 k).d), .slice ((gt zs_1 k).A) [(gt zs_1 k).s].length 1, .int .i64 0, .int .i64 0, .int .i64 0, .bool false] 28 :: Ln :: Lw :: Ld :: Ls :: Lz_1 :: LA_1 :: S)) rfl rfl rfl rfl rfl rfl rfl rfl rfl rfl ?_
          refine tl_end ?_
          refine ex_next ?_
          refine tc_seq ?_
          refine tc_seq ?_
          obtain ⟨v, hv, hok, hrun'⟩ := runs_step (by omega) hrun
          have hel := fits_el F hm_1 (k := k) (by omega)
          refine tc_region ?_
          refine tl (y_fa rfl rfl rfl) rfl ?_
          refine tl (y_ld (k := 0) rfl rfl rfl rfl) rfl ?_
          refine tl (y_ne rfl rfl) rfl ?_
          refine tl (y_move rfl) rfl ?_
          refine tl_false (t := 106) rfl (by decide) ?_
          refine tl (y_fa rfl rfl rfl) rfl ?_
          refine tl (y_ld (k := 0) rfl rfl rfl rfl) rfl ?_
          refine tl (y_len rfl rfl) rfl ?_
          refine tl (y_ne rfl rfl) rfl ?_
          refine tl (y_pick_f rfl rfl) rfl ?_
          refine tl (y_move rfl) rfl ?_
          refine tl_false (t := 112) rfl (by simp) ?_
          refine tl (y_fa rfl rfl rfl) rfl ?_
          refine tl (y_ld (k := 0) rfl rfl rfl rfl) rfl ?_
          refine tl (y_lt rfl rfl) rfl ?_
          refine tl (y_pick_f rfl rfl) rfl ?_
          refine tl (y_move rfl) rfl ?_
          refine tl_false (t := 117) rfl (by omega) ?_
          refine tl (y_fa rfl rfl rfl) rfl ?_
          refine tl (y_ld (k := 0) rfl rfl rfl rfl) rfl ?_
          refine tl (y_gt rfl rfl) rfl ?_
          refine tl (y_pick_f rfl rfl) rfl ?_
          refine tl (y_move rfl) rfl ?_
          refine tl_false (t := 122) rfl (by omega) ?_
          refine tl (y_fa rfl rfl rfl) rfl ?_
          refine tl (y_ld (k := 0) rfl rfl rfl rfl) rfl ?_
          refine tl (y_idx (hr_1 (gt zs_1 k) (mem_gt (by omega))) rfl rfl rfl rfl (by simp)) rfl ?_
          refine tl (y_el0 (k := 6) (v := .int .i64 ((gt zs_1 k).s)) (hr_1 (gt zs_1 k) (mem_gt (by omega))) rfl rfl (by simp) rfl rfl) rfl ?_
          refine tl (y_lt rfl rfl) rfl ?_
          refine tl (y_pick_f rfl rfl) rfl ?_
          refine tl (y_move rfl) rfl ?_
          refine tl_false (t := 129) rfl (by show ¬ (gt zs_1 k).s < 0; omega) ?_
          refine tl (y_fa rfl rfl rfl) rfl ?_
          refine tl (y_ld (k := 0) rfl rfl rfl rfl) rfl ?_
          refine tl (y_idx (hr_1 (gt zs_1 k) (mem_gt (by omega))) rfl rfl rfl rfl (by simp)) rfl ?_
          refine tl (y_el0 (k := 6) (v := .int .i64 ((gt zs_1 k).s)) (hr_1 (gt zs_1 k) (mem_gt (by omega))) rfl rfl (by simp) rfl rfl) rfl ?_
          refine tl (y_gt rfl rfl) rfl ?_
          refine tl (y_pick_f rfl rfl) rfl ?_
          refine tl (y_move rfl) rfl ?_
          refine tl_false (t := 136) rfl (by show ¬ 10 < (gt zs_1 k).s; omega) ?_
          refine tl (y_fa rfl rfl rfl) rfl ?_
          refine tl (y_ld (k := 0) rfl rfl rfl rfl) rfl ?_
          refine tl (y_ne rfl rfl) rfl ?_
          refine tl (y_pick_f rfl rfl) rfl ?_
          refine tl_end ?_
          refine ex_next ?_
          have h140 : ¬ ((0 : Int) ≠ 0) := by show ¬ ((0 : Int) ≠ 0); decide
          refine tc_if rfl (fun h' => absurd h' h140) (fun _ => ?_)
          refine tc_skip ?_
          refine ex_next ?_
          refine tc_tree [(0, .p), (1, .r), (2, .p), (3, .r), (4, .p), (5, .r), (6, .p), (7, .r), (8, .p)] (.quiet 0 .p (.quiet 1 .r (.quiet 2 .p (.quiet 3 .r (.quiet 4 .p (.quiet 5 .r (.quiet 6 .p (.quiet 7 .r (.quiet 8 .p (.fork 9 [] .done .stop)))))))))) (by kernel_rfl) (by kernel_rfl) ?_
          refine tt_p rfl (y_fa rfl rfl rfl) rfl ?_
          refine tt_r rfl (y_ld (k := 0) rfl rfl rfl rfl) rfl ?_
          refine tt_p rfl (y_fa rfl rfl rfl) rfl ?_
          refine tt_r rfl (y_ld (k := 0) rfl rfl rfl rfl) rfl ?_
          refine tt_p rfl (y_idx (hr_1 (gt zs_1 k) (mem_gt (by omega))) rfl rfl rfl rfl (by simp)) rfl ?_
          refine tt_r rfl (y_el0 (k := 6) (v := .int .i64 ((gt zs_1 k).s)) (hr_1 (gt zs_1 k) (mem_gt (by omega))) rfl rfl (by simp) rfl rfl) rfl ?_
          refine tt_p rfl (y_aidx (K := (kI .i64)) rfl rfl rfl rfl (by omega)) rfl ?_
          refine tt_r rfl (y_el0 (k := 1) On.rd rfl rfl (by omega) rfl rfl) rfl ?_
          refine tt_p rfl (y_aidx (K := (kI .i64)) rfl rfl rfl rfl (by omega)) rfl ?_
          refine tl_stel0 (step_tt rfl) 1 (gt nw ((gt zs_1 k).s)) On rfl rfl (vs := [.int .i64 (gt nw ((gt zs_1 k).s))]) rfl rfl rfl (by omega) (Nat.le_of_ble_eq_true rfl) rfl rfl (fun L_17 O_17 => ?_)
          change TG _ _ _ (St x (bx b_3 [.int .i64 4, .int .i64 0, .int .i64 ((gt zs_1 k).d), .slice ((gt zs_1 k).A) [(gt zs_1 k).s].length 1, .int .i64 0, .int .i64 0, .int .i64 0, .bool false] 28 :: L_17 :: Lw :: Ld :: Ls :: Lz_1 :: LA_1 :: S))
          refine kept_nil ?_
          refine tt_end ?_
          refine ex_block_end (ex_next ?_)
          refine tc_region ?_
          refine tl (y_addi rfl rfl (by omega)) rfl ?_
          refine tl (y_move rfl) rfl ?_
          refine tl_end ?_
          exact ex_round ⟨_, upd g (gt zs_1 k).d v, _, _, by omega, hrun', by rw [st_length]; exact hnl, fun q hq => by show gt (st nw (gt zs_1 k).d (gt nw (gt zs_1 k).s)) q = _; rw [gt_st (by omega) hq.1]; unfold upd; by_cases h : q = (gt zs_1 k).d; rw [if_pos h, if_pos h, hnv _ (by omega), hv]; rw [if_neg h, if_neg h]; exact hnv q hq, O_17, rfl, rfl, rfl⟩ (by omega) (sc rfl (sc rfl (sc rfl (sc rfl (sc rfl (sc rfl (sc rfl (sc rfl (sc rfl sn))))))))) (fun _ h => h.pickT [1, 2, 3, 4, 5, 6] 7 rfl rfl)
        · refine tc_exit ?_
          refine ex_pass_exit (ex_pass_exit (ex_block_hit (ex_next ?_)))
          refine tc_seq ?_
          have hpost := runs_end (by omega) hrun
          rw [take_all_zip F (by omega)] at hwv hm
          have hsame := regs_same F hnl hwl hnv hwv hpost
          have hcnt := seqz_count F.len F.nodup F.ten.1 F.ten.2
          rw [← hm_1, List.length_map] at hcnt
          refine tc_region ?_
          refine tl (y_aidx (K := (kI .i64)) rfl rfl rfl rfl (by omega)) rfl ?_
          refine tl_stel0 step_tl 0 0 On rfl rfl (vs := [.int .i64 0]) rfl rfl rfl (by omega) (Nat.le_of_ble_eq_true rfl) rfl rfl (fun L_18 O_18 => ?_)
          change TG _ _ _ (St x (L_18 :: Lw :: Ld :: Ls :: Lz_1 :: LA_1 :: S))
          refine tl (y_aidx (K := (kI .i64)) rfl rfl rfl rfl (by omega)) rfl ?_
          refine tl_stel0 step_tl 1 0 Ow rfl rfl (vs := [.int .i64 0]) rfl rfl rfl (by omega) (Nat.le_of_ble_eq_true rfl) rfl rfl (fun L_19 O_19 => ?_)
          change TG _ _ _ (St x (L_18 :: L_19 :: Ld :: Ls :: Lz_1 :: LA_1 :: S))
          refine tl_end ?_
          refine ex_next ?_
          refine tc_seq ?_
          refine tc_seq ?_
          refine tc_region ?_
          refine tl (y_arr (k := 0) O_18.rd rfl rfl rfl (by rw [show (st nw 10 0).length = 12 from by first | omega | (simp [st]; omega)]; rfl)) rfl ?_
          refine tl (y_arr (k := 1) O_19.rd rfl rfl rfl (by rw [show (st wn 10 0).length = 12 from by first | omega | (simp [st]; omega)]; rfl)) rfl ?_
          refine tl (y_ne_arr rfl rfl rfl rfl rfl (by first | omega | (simp [st]; omega)) (by first | omega | (simp [st]; omega)) (by kernel_rfl)) rfl ?_
          refine tl (y_move rfl) rfl ?_
          refine tl_false (t := 156) rfl (fun h => h hsame) ?_
          refine tl (y_move rfl) rfl ?_
          refine tl (y_len rfl rfl) rfl ?_
          refine tl (y_move rfl) rfl ?_
          refine tl (y_lt rfl rfl) rfl ?_
          refine tl (y_pick_f rfl rfl) rfl ?_
          refine tl (y_move rfl) rfl ?_
          refine tl_false (t := 162) rfl (by omega) ?_
          refine tl (y_move rfl) rfl ?_
          refine tl (y_len rfl rfl) rfl ?_
          refine tl (y_move rfl) rfl ?_
          refine tl (y_move rfl) rfl ?_
          refine tl (y_quoi rfl rfl (by omega)) rfl ?_
          refine tl (y_addi rfl rfl (by omega)) rfl ?_
          refine tl (y_gt rfl rfl) rfl ?_
          refine tl (y_pick_f rfl rfl) rfl ?_
          refine tl_end ?_
          refine ex_next ?_
          have h170 : ¬ ((m + (m / 2)) < (zs_1.length : Int)) := by omega
          refine tc_if rfl (fun h' => absurd h' h170) (fun _ => ?_)
          refine tc_skip ?_
          refine ex_next ?_
          refine tc_seq ?_
          refine tc_seq ?_
          refine tc_join (fun l_ C_ => (l_ = [(6, .slice Ad ds.length cd), (7, .slice As ss.length cs), (11, .pointer (some ⟨b_1, 0, none⟩)), (12, .pointer (some ⟨b_2, 0, none⟩)), (14, .int .i64 m), (17, .slice Az_1 zs_1.length cz_1), (97, .slice Az_1 zs_1.length cz_1), (98, .int .i64 (zs_1.length : Int)), (99, .int .i64 k), (100, .bool (decide (k < (zs_1.length : Int)))), (151, .pointer (some (slp (some ⟨b_1, 0, none⟩) 10 (kI .i64).sz))), (152, .pointer (some (slp (some ⟨b_2, 0, none⟩) 10 (kI .i64).sz))), (153, .agg ((kI .i64).row (st nw 10 0)).toArray), (154, .agg ((kI .i64).row (st wn 10 0)).toArray), (155, .bool (decide (st nw 10 0 ≠ st wn 10 0))), (156, .bool false), (157, .slice Az_1 zs_1.length cz_1), (158, .int .i64 (zs_1.length : Int)), (159, .int .i64 m), (160, .bool (decide ((zs_1.length : Int) < m))), (161, .bool (decide ((zs_1.length : Int) < m))), (162, .bool false), (163, .slice Az_1 zs_1.length cz_1), (164, .int .i64 (zs_1.length : Int)), (165, .int .i64 m), (166, .int .i64 m), (167, .int .i64 (m / 2)), (168, .int .i64 (m + (m / 2))), (169, .bool (decide ((m + (m / 2)) < (zs_1.length : Int)))), (170, .bool (decide ((m + (m / 2)) < (zs_1.length : Int)))), (199, .bool false)] ∧ C_ = St x (L_18 :: L_19 :: Ld :: Ls :: Lz_1 :: LA_1 :: S)) ∨ (l_ = [(6, .slice Ad ds.length cd), (7, .slice As ss.length cs), (11, .pointer (some ⟨b_1, 0, none⟩)), (12, .pointer (some ⟨b_2, 0, none⟩)), (14, .int .i64 m), (17, .slice Az_1 zs_1.length cz_1), (97, .slice Az_1 zs_1.length cz_1), (98, .int .i64 (zs_1.length : Int)), (99, .int .i64 k), (100, .bool (decide (k < (zs_1.length : Int)))), (151, .pointer (some (slp (some ⟨b_1, 0, none⟩) 10 (kI .i64).sz))), (152, .pointer (some (slp (some ⟨b_2, 0, none⟩) 10 (kI .i64).sz))), (153, .agg ((kI .i64).row (st nw 10 0)).toArray), (154, .agg ((kI .i64).row (st wn 10 0)).toArray), (155, .bool (decide (st nw 10 0 ≠ st wn 10 0))), (156, .bool false), (157, .slice Az_1 zs_1.length cz_1), (158, .int .i64 (zs_1.length : Int)), (159, .int .i64 m), (160, .bool (decide ((zs_1.length : Int) < m))), (161, .bool (decide ((zs_1.length : Int) < m))), (162, .bool false), (163, .slice Az_1 zs_1.length cz_1), (164, .int .i64 (zs_1.length : Int)), (165, .int .i64 m), (166, .int .i64 m), (167, .int .i64 (m / 2)), (168, .int .i64 (m + (m / 2))), (169, .bool (decide ((m + (m / 2)) < (zs_1.length : Int)))), (170, .bool (decide ((m + (m / 2)) < (zs_1.length : Int)))), (199, .bool false)] ∧ C_ = St x (L_18 :: L_19 :: Ld :: Ls :: Lz_1 :: LA_1 :: S))) ?_ ?_
          · refine tc_tree [(0, .p), (1, .p), (2, .p), (3, .p), (4, .p), (6, .p), (7, .p), (8, .r), (11, .p), (16, .p), (17, .p), (18, .p), (19, .p), (20, .p), (21, .p), (22, .p), (23, .r), (25, .p), (26, .p), (27, .p), (28, .p)] (.quiet 0 .p (.quiet 1 .p (.quiet 2 .p (.quiet 3 .p (.quiet 4 .p (.quiet 6 .p (.quiet 7 .p (.quiet 8 .r (.quiet 11 .p (.fork 5 [8] (.fork 9 [] (.fork 10 [] (.fork 12 [] (.fork 13 [] (.fork 14 [] (.fork 15 [] (.quiet 16 .p (.quiet 17 .p (.quiet 18 .p (.quiet 19 .p (.quiet 20 .p (.quiet 21 .p (.quiet 22 .p (.quiet 23 .r (.fork 24 [] (.quiet 25 .p (.quiet 26 .p (.quiet 27 .p (.quiet 28 .p .done)))) .stop))))))))) .stop) .stop) .stop) (.fork 13 [] (.fork 12 [] (.fork 14 [] (.fork 15 [] (.quiet 16 .p (.quiet 17 .p (.quiet 18 .p (.quiet 19 .p (.quiet 20 .p (.quiet 21 .p (.quiet 22 .p (.quiet 23 .r (.fork 24 [] (.quiet 25 .p (.quiet 26 .p (.quiet 27 .p (.quiet 28 .p .done)))) .stop))))))))) .stop) .stop) .stop) .stop)) (.fork 13 [] (.fork 10 [] (.fork 12 [] (.fork 14 [] (.fork 15 [] (.quiet 16 .p (.quiet 17 .p (.quiet 18 .p (.quiet 19 .p (.quiet 20 .p (.quiet 21 .p (.quiet 22 .p (.quiet 23 .r (.fork 24 [] (.quiet 25 .p (.quiet 26 .p (.quiet 27 .p (.quiet 28 .p .done)))) .stop))))))))) .stop) .stop) .stop) .stop) .stop)) (.fork 13 [8] (.fork 9 [] (.fork 10 [] (.fork 12 [] (.fork 14 [] (.fork 15 [] (.quiet 16 .p (.quiet 17 .p (.quiet 18 .p (.quiet 19 .p (.quiet 20 .p (.quiet 21 .p (.quiet 22 .p (.quiet 23 .r (.fork 24 [] (.quiet 25 .p (.quiet 26 .p (.quiet 27 .p (.quiet 28 .p .done)))) .stop))))))))) .stop) .stop) .stop) .stop) .stop) .stop)) (.fork 9 [] (.fork 5 [] (.fork 10 [] (.fork 12 [] (.fork 13 [] (.fork 14 [] (.fork 15 [] (.quiet 16 .p (.quiet 17 .p (.quiet 18 .p (.quiet 19 .p (.quiet 20 .p (.quiet 21 .p (.quiet 22 .p (.quiet 23 .r (.fork 24 [] (.quiet 25 .p (.quiet 26 .p (.quiet 27 .p (.quiet 28 .p .done)))) .stop))))))))) .stop) .stop) .stop) (.fork 13 [] (.fork 12 [] (.fork 14 [] (.fork 15 [] (.quiet 16 .p (.quiet 17 .p (.quiet 18 .p (.quiet 19 .p (.quiet 20 .p (.quiet 21 .p (.quiet 22 .p (.quiet 23 .r (.fork 24 [] (.quiet 25 .p (.quiet 26 .p (.quiet 27 .p (.quiet 28 .p .done)))) .stop))))))))) .stop) .stop) .stop) .stop)) (.fork 13 [] (.fork 10 [] (.fork 12 [] (.fork 14 [] (.fork 15 [] (.quiet 16 .p (.quiet 17 .p (.quiet 18 .p (.quiet 19 .p (.quiet 20 .p (.quiet 21 .p (.quiet 22 .p (.quiet 23 .r (.fork 24 [] (.quiet 25 .p (.quiet 26 .p (.quiet 27 .p (.quiet 28 .p .done)))) .stop))))))))) .stop) .stop) .stop) .stop) .stop)) (.fork 13 [] (.fork 5 [] (.fork 10 [] (.fork 12 [] (.fork 14 [] (.fork 15 [] (.quiet 16 .p (.quiet 17 .p (.quiet 18 .p (.quiet 19 .p (.quiet 20 .p (.quiet 21 .p (.quiet 22 .p (.quiet 23 .r (.fork 24 [] (.quiet 25 .p (.quiet 26 .p (.quiet 27 .p (.quiet 28 .p .done)))) .stop))))))))) .stop) .stop) .stop) .stop) .stop) .stop)) (.fork 13 [8] (.fork 5 [8] (.fork 9 [] (.fork 10 [] (.fork 12 [] (.fork 14 [] (.fork 15 [] (.quiet 16 .p (.quiet 17 .p (.quiet 18 .p (.quiet 19 .p (.quiet 20 .p (.quiet 21 .p (.quiet 22 .p (.quiet 23 .r (.fork 24 [] (.quiet 25 .p (.quiet 26 .p (.quiet 27 .p (.quiet 28 .p .done)))) .stop))))))))) .stop) .stop) .stop) .stop) .stop) (.fork 9 [] (.fork 5 [] (.fork 10 [] (.fork 12 [] (.fork 14 [] (.fork 15 [] (.quiet 16 .p (.quiet 17 .p (.quiet 18 .p (.quiet 19 .p (.quiet 20 .p (.quiet 21 .p (.quiet 22 .p (.quiet 23 .r (.fork 24 [] (.quiet 25 .p (.quiet 26 .p (.quiet 27 .p (.quiet 28 .p .done)))) .stop))))))))) .stop) .stop) .stop) .stop) .stop) .stop)) .stop)))))))))))) (by kernel_rfl) (by kernel_rfl) ?_
            refine tt_p rfl (y_move rfl) rfl ?_
            refine tt_p rfl (y_len rfl rfl) rfl ?_
            refine tt_p rfl (y_gt rfl rfl) rfl ?_
            refine tt_p rfl (y_move rfl) rfl ?_
            refine tl_if (t := 174) rfl (fun h174 => ?_) (fun h174 => ?_)
            · refine tt_p rfl (y_move rfl) rfl ?_
              refine tt_p rfl (y_move rfl) rfl ?_
              refine tt_p rfl (y_idx Od.rd rfl rfl rfl rfl (by omega)) rfl ?_
              refine tt_r rfl (y_el0 (k := 2) Od.rd rfl rfl (by omega) rfl rfl) rfl ?_
              refine tt_p rfl (y_move rfl) rfl ?_
              refine tt_alt ?_ ?_
              · refine tl_call (step_tt rfl) rfl rfl (clone_spec (x := x) (S := (L_18 :: L_19 :: Ld :: Ls :: Lz_1 :: LA_1 :: S)) (i := 2) Od.rd rfl (by omega)) (fun _ h => h) rfl (fun v_ => tl_ex fun A_12 => tl_ex fun c_7 => tl_ex fun L_20 => tl_pure fun e_ => tl_val e_ ?_)
                refine tl_pure fun O_20 => ?_
                refine kept_on rfl rfl rfl (y_el0 (k := 3) Od.rd rfl rfl (by omega) rfl rfl) ?_
                refine kept_nil ?_
                refine tt_alt ?_ ?_
                · refine tl_one (step_tt rfl) (K := (kI .i64)) (gt ds 0) rfl rfl rfl rfl rfl rfl rfl rfl rfl (fun A_13 L_21 O_21 => ?_)
                  refine kept_nil ?_
                  refine tt_alt ?_ ?_
                  · refine tl_append (step_tt rfl) (by_ := 8) 1 0 O_20 O_21.rd rfl rfl rfl rfl rfl rfl rfl rfl rfl rfl (by simp; omega) (by simp; omega) rfl (fun A_14 c_8 L_22 O_22 le_7 => ?_)
                    change TG _ _ _ (St x (L_21 :: L_22 :: L_18 :: L_19 :: Ld :: Ls :: Lz_1 :: LA_1 :: S))
                    refine kept_nil ?_
                    refine tt_alt ?_ ?_
                    · refine tl_call (step_tt rfl) rfl rfl (clone_spec (x := x) (S := (L_21 :: L_22 :: L_18 :: L_19 :: Ld :: Ls :: Lz_1 :: LA_1 :: S)) (i := 5) Os.rd rfl (by omega)) (fun _ h => h) rfl (fun v_ => tl_ex fun A_15 => tl_ex fun c_9 => tl_ex fun L_23 => tl_pure fun e_ => tl_val e_ ?_)
                      refine tl_pure fun O_23 => ?_
                      refine kept_nil ?_
                      refine tl_one (step_tt rfl) (K := (kI .i64)) 1 rfl rfl rfl rfl rfl rfl rfl rfl rfl (fun A_16 L_24 O_24 => ?_)
                      refine kept_nil ?_
                      refine tl_append (step_tt rfl) (by_ := 8) 1 0 O_23 O_24.rd rfl rfl rfl rfl rfl rfl rfl rfl rfl rfl (by simp; omega) (by simp; omega) rfl (fun A_17 c_10 L_25 O_25 le_8 => ?_)
                      change TG _ _ _ (St x (L_24 :: L_25 :: L_21 :: L_22 :: L_18 :: L_19 :: Ld :: Ls :: Lz_1 :: LA_1 :: S))
                      refine kept_nil ?_
                      refine tl_call (step_tt rfl) rfl rfl (seq_spec (x := x) (S := (L_24 :: L_25 :: L_21 :: L_22 :: L_18 :: L_19 :: Ld :: Ls :: Lz_1 :: LA_1 :: S)) (i := 3) (j := 1) O_22.rd O_25.rd rfl rfl 10 (by first | omega | (simp; done) | (simp; omega)) (by first | omega | (simp; done) | (simp; omega))) (fun _ h => h) rfl (fun v_ => tl_ex fun Az_2 => tl_ex fun zs_2 => tl_ex fun cz_2 => tl_ex fun Lz_2 => tl_ex fun LA_2 => tl_pure fun e_ => tl_val e_ ?_)
                      refine tl_pure fun Oz_2 => tl_pure fun hm_2 => tl_pure fun hr_2 => ?_
                      have hnz_2 : zs_2.length ≤ 2001 := by have := congrArg List.length hm_2; rw [List.length_map] at this; have h2 := seqz_length (ds := ds ++ [gt ds 0]) (ss := ss ++ [1]) (t := 10); first | omega | (simp at h2; omega) | (simp only [List.length_append, List.length_cons, List.length_nil] at h2; omega)
                      refine kept_nil ?_
                      refine tt_p rfl (y_len rfl rfl) rfl ?_
                      refine tt_p rfl (y_gt rfl rfl) rfl ?_
                      refine tl_false (t := 188) rfl (by have h0 := congrArg List.length hm_2; rw [List.length_map, ← seqz_neg (fun h => twice h.2.1 (mem_gt (xs := ds) (q := 0) (by omega)))] at h0; show ¬ (0 < (zs_2.length : Int)); simp at h0; simp [h0]) ?_
                      refine tt_p rfl (y_move rfl) rfl ?_
                      refine tt_p rfl (y_move rfl) rfl ?_
                      refine tt_p rfl (y_move rfl) rfl ?_
                      refine tt_p rfl (y_move rfl) rfl ?_
                      refine tt_p rfl (y_idx Os.rd rfl rfl rfl rfl (by omega)) rfl ?_
                      refine tt_r rfl (y_el0 (k := 9) Os.rd rfl rfl (by omega) rfl rfl) rfl ?_
                      refine tl_call (step_tt rfl) rfl rfl (seq_spec (x := x) (S := (Lz_2 :: LA_2 :: L_24 :: L_25 :: L_21 :: L_22 :: L_18 :: L_19 :: Ld :: Ls :: Lz_1 :: LA_1 :: S)) (i := 8) (j := 9) Od.rd Os.rd rfl rfl (gt ss 0) (by first | omega | (simp; done) | (simp; omega)) (by first | omega | (simp; done) | (simp; omega))) (fun _ h => h) rfl (fun v_ => tl_ex fun Az_3 => tl_ex fun zs_3 => tl_ex fun cz_3 => tl_ex fun Lz_3 => tl_ex fun LA_3 => tl_pure fun e_ => tl_val e_ ?_)
                      refine tl_pure fun Oz_3 => tl_pure fun hm_3 => tl_pure fun hr_3 => ?_
                      have hnz_3 : zs_3.length ≤ 2001 := by have := congrArg List.length hm_3; rw [List.length_map] at this; have h2 := seqz_length (ds := ds) (ss := ss) (t := gt ss 0); first | omega | (simp at h2; omega) | (simp only [List.length_append, List.length_cons, List.length_nil] at h2; omega)
                      refine kept_nil ?_
                      refine tt_p rfl (y_len rfl rfl) rfl ?_
                      refine tt_p rfl (y_gt rfl rfl) rfl ?_
                      refine tl_false (t := 197) rfl (by have h0 := congrArg List.length hm_3; rw [List.length_map, ← seqz_neg (fun h => h.2.2.2 (mem_gt (xs := ss) (q := 0) (by omega)))] at h0; show ¬ (0 < (zs_3.length : Int)); simp at h0; simp [h0]) ?_
                      refine tt_p rfl (y_pick_f rfl rfl) rfl ?_
                      refine tt_p rfl (y_pick_t rfl rfl) rfl ?_
                      refine tt_end ?_
                      exact ex_join (.inl ⟨rfl, rfl⟩) (sc rfl (sc rfl (sc rfl (sc rfl (sc rfl (sc rfl (sc rfl (sc rfl (sc rfl (sc rfl (sc rfl (sc rfl (sc rfl (sc rfl (sc rfl (sc rfl (sc rfl (sc rfl (sc rfl (sc rfl (sc rfl (sc rfl (sc rfl (sc rfl (sc rfl (sc rfl (sc rfl (sc rfl (sc rfl (sc rfl (sc rfl sn))))))))))))))))))))))))))))))) (fun _ h => h.pickT [8, 9, 10, 11, 12, 13] 14 rfl rfl)
                    · refine tl_one (step_tt rfl) (K := (kI .i64)) 1 rfl rfl rfl rfl rfl rfl rfl rfl rfl (fun A_18 L_26 O_26 => ?_)
                      refine kept_nil ?_
                      refine tl_call (step_tt rfl) rfl rfl (clone_spec (x := x) (S := (L_26 :: L_21 :: L_22 :: L_18 :: L_19 :: Ld :: Ls :: Lz_1 :: LA_1 :: S)) (i := 6) Os.rd rfl (by omega)) (fun _ h => h) rfl (fun v_ => tl_ex fun A_19 => tl_ex fun c_11 => tl_ex fun L_27 => tl_pure fun e_ => tl_val e_ ?_)
                      refine tl_pure fun O_27 => ?_
                      refine kept_nil ?_
                      refine tl_append (step_tt rfl) (by_ := 8) 0 1 O_27 O_26.rd rfl rfl rfl rfl rfl rfl rfl rfl rfl rfl (by simp; omega) (by simp; omega) rfl (fun A_20 c_12 L_28 O_28 le_9 => ?_)
                      change TG _ _ _ (St x (L_28 :: L_26 :: L_21 :: L_22 :: L_18 :: L_19 :: Ld :: Ls :: Lz_1 :: LA_1 :: S))
                      refine kept_nil ?_
                      refine tl_call (step_tt rfl) rfl rfl (seq_spec (x := x) (S := (L_28 :: L_26 :: L_21 :: L_22 :: L_18 :: L_19 :: Ld :: Ls :: Lz_1 :: LA_1 :: S)) (i := 3) (j := 0) O_22.rd O_28.rd rfl rfl 10 (by first | omega | (simp; done) | (simp; omega)) (by first | omega | (simp; done) | (simp; omega))) (fun _ h => h) rfl (fun v_ => tl_ex fun Az_4 => tl_ex fun zs_4 => tl_ex fun cz_4 => tl_ex fun Lz_4 => tl_ex fun LA_4 => tl_pure fun e_ => tl_val e_ ?_)
                      refine tl_pure fun Oz_4 => tl_pure fun hm_4 => tl_pure fun hr_4 => ?_
                      have hnz_4 : zs_4.length ≤ 2001 := by have := congrArg List.length hm_4; rw [List.length_map] at this; have h2 := seqz_length (ds := ds ++ [gt ds 0]) (ss := ss ++ [1]) (t := 10); first | omega | (simp at h2; omega) | (simp only [List.length_append, List.length_cons, List.length_nil] at h2; omega)
                      refine kept_nil ?_
                      refine tt_p rfl (y_len rfl rfl) rfl ?_
                      refine tt_p rfl (y_gt rfl rfl) rfl ?_
                      refine tl_false (t := 188) rfl (by have h0 := congrArg List.length hm_4; rw [List.length_map, ← seqz_neg (fun h => twice h.2.1 (mem_gt (xs := ds) (q := 0) (by omega)))] at h0; show ¬ (0 < (zs_4.length : Int)); simp at h0; simp [h0]) ?_
                      refine tt_p rfl (y_move rfl) rfl ?_
                      refine tt_p rfl (y_move rfl) rfl ?_
                      refine tt_p rfl (y_move rfl) rfl ?_
                      refine tt_p rfl (y_move rfl) rfl ?_
                      refine tt_p rfl (y_idx Os.rd rfl rfl rfl rfl (by omega)) rfl ?_
                      refine tt_r rfl (y_el0 (k := 9) Os.rd rfl rfl (by omega) rfl rfl) rfl ?_
                      refine tl_call (step_tt rfl) rfl rfl (seq_spec (x := x) (S := (Lz_4 :: LA_4 :: L_28 :: L_26 :: L_21 :: L_22 :: L_18 :: L_19 :: Ld :: Ls :: Lz_1 :: LA_1 :: S)) (i := 8) (j := 9) Od.rd Os.rd rfl rfl (gt ss 0) (by first | omega | (simp; done) | (simp; omega)) (by first | omega | (simp; done) | (simp; omega))) (fun _ h => h) rfl (fun v_ => tl_ex fun Az_5 => tl_ex fun zs_5 => tl_ex fun cz_5 => tl_ex fun Lz_5 => tl_ex fun LA_5 => tl_pure fun e_ => tl_val e_ ?_)
                      refine tl_pure fun Oz_5 => tl_pure fun hm_5 => tl_pure fun hr_5 => ?_
                      have hnz_5 : zs_5.length ≤ 2001 := by have := congrArg List.length hm_5; rw [List.length_map] at this; have h2 := seqz_length (ds := ds) (ss := ss) (t := gt ss 0); first | omega | (simp at h2; omega) | (simp only [List.length_append, List.length_cons, List.length_nil] at h2; omega)
                      refine kept_nil ?_
                      refine tt_p rfl (y_len rfl rfl) rfl ?_
                      refine tt_p rfl (y_gt rfl rfl) rfl ?_
                      refine tl_false (t := 197) rfl (by have h0 := congrArg List.length hm_5; rw [List.length_map, ← seqz_neg (fun h => h.2.2.2 (mem_gt (xs := ss) (q := 0) (by omega)))] at h0; show ¬ (0 < (zs_5.length : Int)); simp at h0; simp [h0]) ?_
                      refine tt_p rfl (y_pick_f rfl rfl) rfl ?_
                      refine tt_p rfl (y_pick_t rfl rfl) rfl ?_
                      refine tt_end ?_
                      exact ex_join (.inl ⟨rfl, rfl⟩) (sc rfl (sc rfl (sc rfl (sc rfl (sc rfl (sc rfl (sc rfl (sc rfl (sc rfl (sc rfl (sc rfl (sc rfl (sc rfl (sc rfl (sc rfl (sc rfl (sc rfl (sc rfl (sc rfl (sc rfl (sc rfl (sc rfl (sc rfl (sc rfl (sc rfl (sc rfl (sc rfl (sc rfl (sc rfl (sc rfl (sc rfl sn))))))))))))))))))))))))))))))) (fun _ h => h.pickT [8, 9, 10, 11, 12, 13] 14 rfl rfl)
                  · refine tl_one (step_tt rfl) (K := (kI .i64)) 1 rfl rfl rfl rfl rfl rfl rfl rfl rfl (fun A_21 L_29 O_29 => ?_)
                    refine kept_nil ?_
                    refine tl_append (step_tt rfl) (by_ := 8) 2 1 O_20 O_21.rd rfl rfl rfl rfl rfl rfl rfl rfl rfl rfl (by simp; omega) (by simp; omega) rfl (fun A_22 c_13 L_30 O_30 le_10 => ?_)
                    change TG _ _ _ (St x (L_29 :: L_21 :: L_30 :: L_18 :: L_19 :: Ld :: Ls :: Lz_1 :: LA_1 :: S))
                    refine kept_nil ?_
                    refine tl_call (step_tt rfl) rfl rfl (clone_spec (x := x) (S := (L_29 :: L_21 :: L_30 :: L_18 :: L_19 :: Ld :: Ls :: Lz_1 :: LA_1 :: S)) (i := 6) Os.rd rfl (by omega)) (fun _ h => h) rfl (fun v_ => tl_ex fun A_23 => tl_ex fun c_14 => tl_ex fun L_31 => tl_pure fun e_ => tl_val e_ ?_)
                    refine tl_pure fun O_31 => ?_
                    refine kept_nil ?_
                    refine tl_append (step_tt rfl) (by_ := 8) 0 1 O_31 O_29.rd rfl rfl rfl rfl rfl rfl rfl rfl rfl rfl (by simp; omega) (by simp; omega) rfl (fun A_24 c_15 L_32 O_32 le_11 => ?_)
                    change TG _ _ _ (St x (L_32 :: L_29 :: L_21 :: L_30 :: L_18 :: L_19 :: Ld :: Ls :: Lz_1 :: LA_1 :: S))
                    refine kept_nil ?_
                    refine tl_call (step_tt rfl) rfl rfl (seq_spec (x := x) (S := (L_32 :: L_29 :: L_21 :: L_30 :: L_18 :: L_19 :: Ld :: Ls :: Lz_1 :: LA_1 :: S)) (i := 3) (j := 0) O_30.rd O_32.rd rfl rfl 10 (by first | omega | (simp; done) | (simp; omega)) (by first | omega | (simp; done) | (simp; omega))) (fun _ h => h) rfl (fun v_ => tl_ex fun Az_6 => tl_ex fun zs_6 => tl_ex fun cz_6 => tl_ex fun Lz_6 => tl_ex fun LA_6 => tl_pure fun e_ => tl_val e_ ?_)
                    refine tl_pure fun Oz_6 => tl_pure fun hm_6 => tl_pure fun hr_6 => ?_
                    have hnz_6 : zs_6.length ≤ 2001 := by have := congrArg List.length hm_6; rw [List.length_map] at this; have h2 := seqz_length (ds := ds ++ [gt ds 0]) (ss := ss ++ [1]) (t := 10); first | omega | (simp at h2; omega) | (simp only [List.length_append, List.length_cons, List.length_nil] at h2; omega)
                    refine kept_nil ?_
                    refine tt_p rfl (y_len rfl rfl) rfl ?_
                    refine tt_p rfl (y_gt rfl rfl) rfl ?_
                    refine tl_false (t := 188) rfl (by have h0 := congrArg List.length hm_6; rw [List.length_map, ← seqz_neg (fun h => twice h.2.1 (mem_gt (xs := ds) (q := 0) (by omega)))] at h0; show ¬ (0 < (zs_6.length : Int)); simp at h0; simp [h0]) ?_
                    refine tt_p rfl (y_move rfl) rfl ?_
                    refine tt_p rfl (y_move rfl) rfl ?_
                    refine tt_p rfl (y_move rfl) rfl ?_
                    refine tt_p rfl (y_move rfl) rfl ?_
                    refine tt_p rfl (y_idx Os.rd rfl rfl rfl rfl (by omega)) rfl ?_
                    refine tt_r rfl (y_el0 (k := 9) Os.rd rfl rfl (by omega) rfl rfl) rfl ?_
                    refine tl_call (step_tt rfl) rfl rfl (seq_spec (x := x) (S := (Lz_6 :: LA_6 :: L_32 :: L_29 :: L_21 :: L_30 :: L_18 :: L_19 :: Ld :: Ls :: Lz_1 :: LA_1 :: S)) (i := 8) (j := 9) Od.rd Os.rd rfl rfl (gt ss 0) (by first | omega | (simp; done) | (simp; omega)) (by first | omega | (simp; done) | (simp; omega))) (fun _ h => h) rfl (fun v_ => tl_ex fun Az_7 => tl_ex fun zs_7 => tl_ex fun cz_7 => tl_ex fun Lz_7 => tl_ex fun LA_7 => tl_pure fun e_ => tl_val e_ ?_)
                    refine tl_pure fun Oz_7 => tl_pure fun hm_7 => tl_pure fun hr_7 => ?_
                    have hnz_7 : zs_7.length ≤ 2001 := by have := congrArg List.length hm_7; rw [List.length_map] at this; have h2 := seqz_length (ds := ds) (ss := ss) (t := gt ss 0); first | omega | (simp at h2; omega) | (simp only [List.length_append, List.length_cons, List.length_nil] at h2; omega)
                    refine kept_nil ?_
                    refine tt_p rfl (y_len rfl rfl) rfl ?_
                    refine tt_p rfl (y_gt rfl rfl) rfl ?_
                    refine tl_false (t := 197) rfl (by have h0 := congrArg List.length hm_7; rw [List.length_map, ← seqz_neg (fun h => h.2.2.2 (mem_gt (xs := ss) (q := 0) (by omega)))] at h0; show ¬ (0 < (zs_7.length : Int)); simp at h0; simp [h0]) ?_
                    refine tt_p rfl (y_pick_f rfl rfl) rfl ?_
                    refine tt_p rfl (y_pick_t rfl rfl) rfl ?_
                    refine tt_end ?_
                    exact ex_join (.inl ⟨rfl, rfl⟩) (sc rfl (sc rfl (sc rfl (sc rfl (sc rfl (sc rfl (sc rfl (sc rfl (sc rfl (sc rfl (sc rfl (sc rfl (sc rfl (sc rfl (sc rfl (sc rfl (sc rfl (sc rfl (sc rfl (sc rfl (sc rfl (sc rfl (sc rfl (sc rfl (sc rfl (sc rfl (sc rfl (sc rfl (sc rfl (sc rfl (sc rfl sn))))))))))))))))))))))))))))))) (fun _ h => h.pickT [8, 9, 10, 11, 12, 13] 14 rfl rfl)
                · refine tl_one (step_tt rfl) (K := (kI .i64)) 1 rfl rfl rfl rfl rfl rfl rfl rfl rfl (fun A_25 L_33 O_33 => ?_)
                  refine kept_on rfl rfl rfl (y_el0 (k := 4) Od.rd rfl rfl (by omega) rfl rfl) ?_
                  refine kept_nil ?_
                  refine tl_one (step_tt rfl) (K := (kI .i64)) (gt ds 0) rfl rfl rfl rfl rfl rfl rfl rfl rfl (fun A_26 L_34 O_34 => ?_)
                  refine kept_nil ?_
                  refine tl_append (step_tt rfl) (by_ := 8) 2 0 O_20 O_34.rd rfl rfl rfl rfl rfl rfl rfl rfl rfl rfl (by simp; omega) (by simp; omega) rfl (fun A_27 c_16 L_35 O_35 le_12 => ?_)
                  change TG _ _ _ (St x (L_34 :: L_33 :: L_35 :: L_18 :: L_19 :: Ld :: Ls :: Lz_1 :: LA_1 :: S))
                  refine kept_nil ?_
                  refine tl_call (step_tt rfl) rfl rfl (clone_spec (x := x) (S := (L_34 :: L_33 :: L_35 :: L_18 :: L_19 :: Ld :: Ls :: Lz_1 :: LA_1 :: S)) (i := 6) Os.rd rfl (by omega)) (fun _ h => h) rfl (fun v_ => tl_ex fun A_28 => tl_ex fun c_17 => tl_ex fun L_36 => tl_pure fun e_ => tl_val e_ ?_)
                  refine tl_pure fun O_36 => ?_
                  refine kept_nil ?_
                  refine tl_append (step_tt rfl) (by_ := 8) 0 2 O_36 O_33.rd rfl rfl rfl rfl rfl rfl rfl rfl rfl rfl (by simp; omega) (by simp; omega) rfl (fun A_29 c_18 L_37 O_37 le_13 => ?_)
                  change TG _ _ _ (St x (L_37 :: L_34 :: L_33 :: L_35 :: L_18 :: L_19 :: Ld :: Ls :: Lz_1 :: LA_1 :: S))
                  refine kept_nil ?_
                  refine tl_call (step_tt rfl) rfl rfl (seq_spec (x := x) (S := (L_37 :: L_34 :: L_33 :: L_35 :: L_18 :: L_19 :: Ld :: Ls :: Lz_1 :: LA_1 :: S)) (i := 3) (j := 0) O_35.rd O_37.rd rfl rfl 10 (by first | omega | (simp; done) | (simp; omega)) (by first | omega | (simp; done) | (simp; omega))) (fun _ h => h) rfl (fun v_ => tl_ex fun Az_8 => tl_ex fun zs_8 => tl_ex fun cz_8 => tl_ex fun Lz_8 => tl_ex fun LA_8 => tl_pure fun e_ => tl_val e_ ?_)
                  refine tl_pure fun Oz_8 => tl_pure fun hm_8 => tl_pure fun hr_8 => ?_
                  have hnz_8 : zs_8.length ≤ 2001 := by have := congrArg List.length hm_8; rw [List.length_map] at this; have h2 := seqz_length (ds := ds ++ [gt ds 0]) (ss := ss ++ [1]) (t := 10); first | omega | (simp at h2; omega) | (simp only [List.length_append, List.length_cons, List.length_nil] at h2; omega)
                  refine kept_nil ?_
                  refine tt_p rfl (y_len rfl rfl) rfl ?_
                  refine tt_p rfl (y_gt rfl rfl) rfl ?_
                  refine tl_false (t := 188) rfl (by have h0 := congrArg List.length hm_8; rw [List.length_map, ← seqz_neg (fun h => twice h.2.1 (mem_gt (xs := ds) (q := 0) (by omega)))] at h0; show ¬ (0 < (zs_8.length : Int)); simp at h0; simp [h0]) ?_
                  refine tt_p rfl (y_move rfl) rfl ?_
                  refine tt_p rfl (y_move rfl) rfl ?_
                  refine tt_p rfl (y_move rfl) rfl ?_
                  refine tt_p rfl (y_move rfl) rfl ?_
                  refine tt_p rfl (y_idx Os.rd rfl rfl rfl rfl (by omega)) rfl ?_
                  refine tt_r rfl (y_el0 (k := 9) Os.rd rfl rfl (by omega) rfl rfl) rfl ?_
                  refine tl_call (step_tt rfl) rfl rfl (seq_spec (x := x) (S := (Lz_8 :: LA_8 :: L_37 :: L_34 :: L_33 :: L_35 :: L_18 :: L_19 :: Ld :: Ls :: Lz_1 :: LA_1 :: S)) (i := 8) (j := 9) Od.rd Os.rd rfl rfl (gt ss 0) (by first | omega | (simp; done) | (simp; omega)) (by first | omega | (simp; done) | (simp; omega))) (fun _ h => h) rfl (fun v_ => tl_ex fun Az_9 => tl_ex fun zs_9 => tl_ex fun cz_9 => tl_ex fun Lz_9 => tl_ex fun LA_9 => tl_pure fun e_ => tl_val e_ ?_)
                  refine tl_pure fun Oz_9 => tl_pure fun hm_9 => tl_pure fun hr_9 => ?_
                  have hnz_9 : zs_9.length ≤ 2001 := by have := congrArg List.length hm_9; rw [List.length_map] at this; have h2 := seqz_length (ds := ds) (ss := ss) (t := gt ss 0); first | omega | (simp at h2; omega) | (simp only [List.length_append, List.length_cons, List.length_nil] at h2; omega)
                  refine kept_nil ?_
                  refine tt_p rfl (y_len rfl rfl) rfl ?_
                  refine tt_p rfl (y_gt rfl rfl) rfl ?_
                  refine tl_false (t := 197) rfl (by have h0 := congrArg List.length hm_9; rw [List.length_map, ← seqz_neg (fun h => h.2.2.2 (mem_gt (xs := ss) (q := 0) (by omega)))] at h0; show ¬ (0 < (zs_9.length : Int)); simp at h0; simp [h0]) ?_
                  refine tt_p rfl (y_pick_f rfl rfl) rfl ?_
                  refine tt_p rfl (y_pick_t rfl rfl) rfl ?_
                  refine tt_end ?_
                  exact ex_join (.inl ⟨rfl, rfl⟩) (sc rfl (sc rfl (sc rfl (sc rfl (sc rfl (sc rfl (sc rfl (sc rfl (sc rfl (sc rfl (sc rfl (sc rfl (sc rfl (sc rfl (sc rfl (sc rfl (sc rfl (sc rfl (sc rfl (sc rfl (sc rfl (sc rfl (sc rfl (sc rfl (sc rfl (sc rfl (sc rfl (sc rfl (sc rfl (sc rfl (sc rfl sn))))))))))))))))))))))))))))))) (fun _ h => h.pickT [8, 9, 10, 11, 12, 13] 14 rfl rfl)
              refine tt_alt ?_ ?_
              · refine tl_one (step_tt rfl) (K := (kI .i64)) (gt ds 0) rfl rfl rfl rfl rfl rfl rfl rfl rfl (fun A_30 L_38 O_38 => ?_)
                refine kept_nil ?_
                refine tt_alt ?_ ?_
                · refine tl_call (step_tt rfl) rfl rfl (clone_spec (x := x) (S := (L_38 :: L_18 :: L_19 :: Ld :: Ls :: Lz_1 :: LA_1 :: S)) (i := 3) Od.rd rfl (by omega)) (fun _ h => h) rfl (fun v_ => tl_ex fun A_31 => tl_ex fun c_19 => tl_ex fun L_39 => tl_pure fun e_ => tl_val e_ ?_)
                  refine tl_pure fun O_39 => ?_
                  refine kept_nil ?_
                  refine tt_alt ?_ ?_
                  · refine tl_append (step_tt rfl) (by_ := 8) 0 1 O_39 O_38.rd rfl rfl rfl rfl rfl rfl rfl rfl rfl rfl (by simp; omega) (by simp; omega) rfl (fun A_32 c_20 L_40 O_40 le_14 => ?_)
                    change TG _ _ _ (St x (L_40 :: L_38 :: L_18 :: L_19 :: Ld :: Ls :: Lz_1 :: LA_1 :: S))
                    refine kept_nil ?_
                    refine tt_alt ?_ ?_
                    · refine tl_call (step_tt rfl) rfl rfl (clone_spec (x := x) (S := (L_40 :: L_38 :: L_18 :: L_19 :: Ld :: Ls :: Lz_1 :: LA_1 :: S)) (i := 5) Os.rd rfl (by omega)) (fun _ h => h) rfl (fun v_ => tl_ex fun A_33 => tl_ex fun c_21 => tl_ex fun L_41 => tl_pure fun e_ => tl_val e_ ?_)
                      refine tl_pure fun O_41 => ?_
                      refine kept_nil ?_
                      refine tl_one (step_tt rfl) (K := (kI .i64)) 1 rfl rfl rfl rfl rfl rfl rfl rfl rfl (fun A_34 L_42 O_42 => ?_)
                      refine kept_nil ?_
                      refine tl_append (step_tt rfl) (by_ := 8) 1 0 O_41 O_42.rd rfl rfl rfl rfl rfl rfl rfl rfl rfl rfl (by simp; omega) (by simp; omega) rfl (fun A_35 c_22 L_43 O_43 le_15 => ?_)
                      change TG _ _ _ (St x (L_42 :: L_43 :: L_40 :: L_38 :: L_18 :: L_19 :: Ld :: Ls :: Lz_1 :: LA_1 :: S))
                      refine kept_nil ?_
                      refine tl_call (step_tt rfl) rfl rfl (seq_spec (x := x) (S := (L_42 :: L_43 :: L_40 :: L_38 :: L_18 :: L_19 :: Ld :: Ls :: Lz_1 :: LA_1 :: S)) (i := 2) (j := 1) O_40.rd O_43.rd rfl rfl 10 (by first | omega | (simp; done) | (simp; omega)) (by first | omega | (simp; done) | (simp; omega))) (fun _ h => h) rfl (fun v_ => tl_ex fun Az_10 => tl_ex fun zs_10 => tl_ex fun cz_10 => tl_ex fun Lz_10 => tl_ex fun LA_10 => tl_pure fun e_ => tl_val e_ ?_)
                      refine tl_pure fun Oz_10 => tl_pure fun hm_10 => tl_pure fun hr_10 => ?_
                      have hnz_10 : zs_10.length ≤ 2001 := by have := congrArg List.length hm_10; rw [List.length_map] at this; have h2 := seqz_length (ds := ds ++ [gt ds 0]) (ss := ss ++ [1]) (t := 10); first | omega | (simp at h2; omega) | (simp only [List.length_append, List.length_cons, List.length_nil] at h2; omega)
                      refine kept_nil ?_
                      refine tt_p rfl (y_len rfl rfl) rfl ?_
                      refine tt_p rfl (y_gt rfl rfl) rfl ?_
                      refine tl_false (t := 188) rfl (by have h0 := congrArg List.length hm_10; rw [List.length_map, ← seqz_neg (fun h => twice h.2.1 (mem_gt (xs := ds) (q := 0) (by omega)))] at h0; show ¬ (0 < (zs_10.length : Int)); simp at h0; simp [h0]) ?_
                      refine tt_p rfl (y_move rfl) rfl ?_
                      refine tt_p rfl (y_move rfl) rfl ?_
                      refine tt_p rfl (y_move rfl) rfl ?_
                      refine tt_p rfl (y_move rfl) rfl ?_
                      refine tt_p rfl (y_idx Os.rd rfl rfl rfl rfl (by omega)) rfl ?_
                      refine tt_r rfl (y_el0 (k := 9) Os.rd rfl rfl (by omega) rfl rfl) rfl ?_
                      refine tl_call (step_tt rfl) rfl rfl (seq_spec (x := x) (S := (Lz_10 :: LA_10 :: L_42 :: L_43 :: L_40 :: L_38 :: L_18 :: L_19 :: Ld :: Ls :: Lz_1 :: LA_1 :: S)) (i := 8) (j := 9) Od.rd Os.rd rfl rfl (gt ss 0) (by first | omega | (simp; done) | (simp; omega)) (by first | omega | (simp; done) | (simp; omega))) (fun _ h => h) rfl (fun v_ => tl_ex fun Az_11 => tl_ex fun zs_11 => tl_ex fun cz_11 => tl_ex fun Lz_11 => tl_ex fun LA_11 => tl_pure fun e_ => tl_val e_ ?_)
                      refine tl_pure fun Oz_11 => tl_pure fun hm_11 => tl_pure fun hr_11 => ?_
                      have hnz_11 : zs_11.length ≤ 2001 := by have := congrArg List.length hm_11; rw [List.length_map] at this; have h2 := seqz_length (ds := ds) (ss := ss) (t := gt ss 0); first | omega | (simp at h2; omega) | (simp only [List.length_append, List.length_cons, List.length_nil] at h2; omega)
                      refine kept_nil ?_
                      refine tt_p rfl (y_len rfl rfl) rfl ?_
                      refine tt_p rfl (y_gt rfl rfl) rfl ?_
                      refine tl_false (t := 197) rfl (by have h0 := congrArg List.length hm_11; rw [List.length_map, ← seqz_neg (fun h => h.2.2.2 (mem_gt (xs := ss) (q := 0) (by omega)))] at h0; show ¬ (0 < (zs_11.length : Int)); simp at h0; simp [h0]) ?_
                      refine tt_p rfl (y_pick_f rfl rfl) rfl ?_
                      refine tt_p rfl (y_pick_t rfl rfl) rfl ?_
                      refine tt_end ?_
                      exact ex_join (.inl ⟨rfl, rfl⟩) (sc rfl (sc rfl (sc rfl (sc rfl (sc rfl (sc rfl (sc rfl (sc rfl (sc rfl (sc rfl (sc rfl (sc rfl (sc rfl (sc rfl (sc rfl (sc rfl (sc rfl (sc rfl (sc rfl (sc rfl (sc rfl (sc rfl (sc rfl (sc rfl (sc rfl (sc rfl (sc rfl (sc rfl (sc rfl (sc rfl (sc rfl sn))))))))))))))))))))))))))))))) (fun _ h => h.pickT [8, 9, 10, 11, 12, 13] 14 rfl rfl)
                    · refine tl_one (step_tt rfl) (K := (kI .i64)) 1 rfl rfl rfl rfl rfl rfl rfl rfl rfl (fun A_36 L_44 O_44 => ?_)
                      refine kept_nil ?_
                      refine tl_call (step_tt rfl) rfl rfl (clone_spec (x := x) (S := (L_44 :: L_40 :: L_38 :: L_18 :: L_19 :: Ld :: Ls :: Lz_1 :: LA_1 :: S)) (i := 6) Os.rd rfl (by omega)) (fun _ h => h) rfl (fun v_ => tl_ex fun A_37 => tl_ex fun c_23 => tl_ex fun L_45 => tl_pure fun e_ => tl_val e_ ?_)
                      refine tl_pure fun O_45 => ?_
                      refine kept_nil ?_
                      refine tl_append (step_tt rfl) (by_ := 8) 0 1 O_45 O_44.rd rfl rfl rfl rfl rfl rfl rfl rfl rfl rfl (by simp; omega) (by simp; omega) rfl (fun A_38 c_24 L_46 O_46 le_16 => ?_)
                      change TG _ _ _ (St x (L_46 :: L_44 :: L_40 :: L_38 :: L_18 :: L_19 :: Ld :: Ls :: Lz_1 :: LA_1 :: S))
                      refine kept_nil ?_
                      refine tl_call (step_tt rfl) rfl rfl (seq_spec (x := x) (S := (L_46 :: L_44 :: L_40 :: L_38 :: L_18 :: L_19 :: Ld :: Ls :: Lz_1 :: LA_1 :: S)) (i := 2) (j := 0) O_40.rd O_46.rd rfl rfl 10 (by first | omega | (simp; done) | (simp; omega)) (by first | omega | (simp; done) | (simp; omega))) (fun _ h => h) rfl (fun v_ => tl_ex fun Az_12 => tl_ex fun zs_12 => tl_ex fun cz_12 => tl_ex fun Lz_12 => tl_ex fun LA_12 => tl_pure fun e_ => tl_val e_ ?_)
                      refine tl_pure fun Oz_12 => tl_pure fun hm_12 => tl_pure fun hr_12 => ?_
                      have hnz_12 : zs_12.length ≤ 2001 := by have := congrArg List.length hm_12; rw [List.length_map] at this; have h2 := seqz_length (ds := ds ++ [gt ds 0]) (ss := ss ++ [1]) (t := 10); first | omega | (simp at h2; omega) | (simp only [List.length_append, List.length_cons, List.length_nil] at h2; omega)
                      refine kept_nil ?_
                      refine tt_p rfl (y_len rfl rfl) rfl ?_
                      refine tt_p rfl (y_gt rfl rfl) rfl ?_
                      refine tl_false (t := 188) rfl (by have h0 := congrArg List.length hm_12; rw [List.length_map, ← seqz_neg (fun h => twice h.2.1 (mem_gt (xs := ds) (q := 0) (by omega)))] at h0; show ¬ (0 < (zs_12.length : Int)); simp at h0; simp [h0]) ?_
                      refine tt_p rfl (y_move rfl) rfl ?_
                      refine tt_p rfl (y_move rfl) rfl ?_
                      refine tt_p rfl (y_move rfl) rfl ?_
                      refine tt_p rfl (y_move rfl) rfl ?_
                      refine tt_p rfl (y_idx Os.rd rfl rfl rfl rfl (by omega)) rfl ?_
                      refine tt_r rfl (y_el0 (k := 9) Os.rd rfl rfl (by omega) rfl rfl) rfl ?_
                      refine tl_call (step_tt rfl) rfl rfl (seq_spec (x := x) (S := (Lz_12 :: LA_12 :: L_46 :: L_44 :: L_40 :: L_38 :: L_18 :: L_19 :: Ld :: Ls :: Lz_1 :: LA_1 :: S)) (i := 8) (j := 9) Od.rd Os.rd rfl rfl (gt ss 0) (by first | omega | (simp; done) | (simp; omega)) (by first | omega | (simp; done) | (simp; omega))) (fun _ h => h) rfl (fun v_ => tl_ex fun Az_13 => tl_ex fun zs_13 => tl_ex fun cz_13 => tl_ex fun Lz_13 => tl_ex fun LA_13 => tl_pure fun e_ => tl_val e_ ?_)
                      refine tl_pure fun Oz_13 => tl_pure fun hm_13 => tl_pure fun hr_13 => ?_
                      have hnz_13 : zs_13.length ≤ 2001 := by have := congrArg List.length hm_13; rw [List.length_map] at this; have h2 := seqz_length (ds := ds) (ss := ss) (t := gt ss 0); first | omega | (simp at h2; omega) | (simp only [List.length_append, List.length_cons, List.length_nil] at h2; omega)
                      refine kept_nil ?_
                      refine tt_p rfl (y_len rfl rfl) rfl ?_
                      refine tt_p rfl (y_gt rfl rfl) rfl ?_
                      refine tl_false (t := 197) rfl (by have h0 := congrArg List.length hm_13; rw [List.length_map, ← seqz_neg (fun h => h.2.2.2 (mem_gt (xs := ss) (q := 0) (by omega)))] at h0; show ¬ (0 < (zs_13.length : Int)); simp at h0; simp [h0]) ?_
                      refine tt_p rfl (y_pick_f rfl rfl) rfl ?_
                      refine tt_p rfl (y_pick_t rfl rfl) rfl ?_
                      refine tt_end ?_
                      exact ex_join (.inl ⟨rfl, rfl⟩) (sc rfl (sc rfl (sc rfl (sc rfl (sc rfl (sc rfl (sc rfl (sc rfl (sc rfl (sc rfl (sc rfl (sc rfl (sc rfl (sc rfl (sc rfl (sc rfl (sc rfl (sc rfl (sc rfl (sc rfl (sc rfl (sc rfl (sc rfl (sc rfl (sc rfl (sc rfl (sc rfl (sc rfl (sc rfl (sc rfl (sc rfl sn))))))))))))))))))))))))))))))) (fun _ h => h.pickT [8, 9, 10, 11, 12, 13] 14 rfl rfl)
                  · refine tl_one (step_tt rfl) (K := (kI .i64)) 1 rfl rfl rfl rfl rfl rfl rfl rfl rfl (fun A_39 L_47 O_47 => ?_)
                    refine kept_nil ?_
                    refine tl_append (step_tt rfl) (by_ := 8) 1 2 O_39 O_38.rd rfl rfl rfl rfl rfl rfl rfl rfl rfl rfl (by simp; omega) (by simp; omega) rfl (fun A_40 c_25 L_48 O_48 le_17 => ?_)
                    change TG _ _ _ (St x (L_47 :: L_48 :: L_38 :: L_18 :: L_19 :: Ld :: Ls :: Lz_1 :: LA_1 :: S))
                    refine kept_nil ?_
                    refine tl_call (step_tt rfl) rfl rfl (clone_spec (x := x) (S := (L_47 :: L_48 :: L_38 :: L_18 :: L_19 :: Ld :: Ls :: Lz_1 :: LA_1 :: S)) (i := 6) Os.rd rfl (by omega)) (fun _ h => h) rfl (fun v_ => tl_ex fun A_41 => tl_ex fun c_26 => tl_ex fun L_49 => tl_pure fun e_ => tl_val e_ ?_)
                    refine tl_pure fun O_49 => ?_
                    refine kept_nil ?_
                    refine tl_append (step_tt rfl) (by_ := 8) 0 1 O_49 O_47.rd rfl rfl rfl rfl rfl rfl rfl rfl rfl rfl (by simp; omega) (by simp; omega) rfl (fun A_42 c_27 L_50 O_50 le_18 => ?_)
                    change TG _ _ _ (St x (L_50 :: L_47 :: L_48 :: L_38 :: L_18 :: L_19 :: Ld :: Ls :: Lz_1 :: LA_1 :: S))
                    refine kept_nil ?_
                    refine tl_call (step_tt rfl) rfl rfl (seq_spec (x := x) (S := (L_50 :: L_47 :: L_48 :: L_38 :: L_18 :: L_19 :: Ld :: Ls :: Lz_1 :: LA_1 :: S)) (i := 2) (j := 0) O_48.rd O_50.rd rfl rfl 10 (by first | omega | (simp; done) | (simp; omega)) (by first | omega | (simp; done) | (simp; omega))) (fun _ h => h) rfl (fun v_ => tl_ex fun Az_14 => tl_ex fun zs_14 => tl_ex fun cz_14 => tl_ex fun Lz_14 => tl_ex fun LA_14 => tl_pure fun e_ => tl_val e_ ?_)
                    refine tl_pure fun Oz_14 => tl_pure fun hm_14 => tl_pure fun hr_14 => ?_
                    have hnz_14 : zs_14.length ≤ 2001 := by have := congrArg List.length hm_14; rw [List.length_map] at this; have h2 := seqz_length (ds := ds ++ [gt ds 0]) (ss := ss ++ [1]) (t := 10); first | omega | (simp at h2; omega) | (simp only [List.length_append, List.length_cons, List.length_nil] at h2; omega)
                    refine kept_nil ?_
                    refine tt_p rfl (y_len rfl rfl) rfl ?_
                    refine tt_p rfl (y_gt rfl rfl) rfl ?_
                    refine tl_false (t := 188) rfl (by have h0 := congrArg List.length hm_14; rw [List.length_map, ← seqz_neg (fun h => twice h.2.1 (mem_gt (xs := ds) (q := 0) (by omega)))] at h0; show ¬ (0 < (zs_14.length : Int)); simp at h0; simp [h0]) ?_
                    refine tt_p rfl (y_move rfl) rfl ?_
                    refine tt_p rfl (y_move rfl) rfl ?_
                    refine tt_p rfl (y_move rfl) rfl ?_
                    refine tt_p rfl (y_move rfl) rfl ?_
                    refine tt_p rfl (y_idx Os.rd rfl rfl rfl rfl (by omega)) rfl ?_
                    refine tt_r rfl (y_el0 (k := 9) Os.rd rfl rfl (by omega) rfl rfl) rfl ?_
                    refine tl_call (step_tt rfl) rfl rfl (seq_spec (x := x) (S := (Lz_14 :: LA_14 :: L_50 :: L_47 :: L_48 :: L_38 :: L_18 :: L_19 :: Ld :: Ls :: Lz_1 :: LA_1 :: S)) (i := 8) (j := 9) Od.rd Os.rd rfl rfl (gt ss 0) (by first | omega | (simp; done) | (simp; omega)) (by first | omega | (simp; done) | (simp; omega))) (fun _ h => h) rfl (fun v_ => tl_ex fun Az_15 => tl_ex fun zs_15 => tl_ex fun cz_15 => tl_ex fun Lz_15 => tl_ex fun LA_15 => tl_pure fun e_ => tl_val e_ ?_)
                    refine tl_pure fun Oz_15 => tl_pure fun hm_15 => tl_pure fun hr_15 => ?_
                    have hnz_15 : zs_15.length ≤ 2001 := by have := congrArg List.length hm_15; rw [List.length_map] at this; have h2 := seqz_length (ds := ds) (ss := ss) (t := gt ss 0); first | omega | (simp at h2; omega) | (simp only [List.length_append, List.length_cons, List.length_nil] at h2; omega)
                    refine kept_nil ?_
                    refine tt_p rfl (y_len rfl rfl) rfl ?_
                    refine tt_p rfl (y_gt rfl rfl) rfl ?_
                    refine tl_false (t := 197) rfl (by have h0 := congrArg List.length hm_15; rw [List.length_map, ← seqz_neg (fun h => h.2.2.2 (mem_gt (xs := ss) (q := 0) (by omega)))] at h0; show ¬ (0 < (zs_15.length : Int)); simp at h0; simp [h0]) ?_
                    refine tt_p rfl (y_pick_f rfl rfl) rfl ?_
                    refine tt_p rfl (y_pick_t rfl rfl) rfl ?_
                    refine tt_end ?_
                    exact ex_join (.inl ⟨rfl, rfl⟩) (sc rfl (sc rfl (sc rfl (sc rfl (sc rfl (sc rfl (sc rfl (sc rfl (sc rfl (sc rfl (sc rfl (sc rfl (sc rfl (sc rfl (sc rfl (sc rfl (sc rfl (sc rfl (sc rfl (sc rfl (sc rfl (sc rfl (sc rfl (sc rfl (sc rfl (sc rfl (sc rfl (sc rfl (sc rfl (sc rfl (sc rfl sn))))))))))))))))))))))))))))))) (fun _ h => h.pickT [8, 9, 10, 11, 12, 13] 14 rfl rfl)
                · refine tl_one (step_tt rfl) (K := (kI .i64)) 1 rfl rfl rfl rfl rfl rfl rfl rfl rfl (fun A_43 L_51 O_51 => ?_)
                  refine kept_nil ?_
                  refine tl_call (step_tt rfl) rfl rfl (clone_spec (x := x) (S := (L_51 :: L_38 :: L_18 :: L_19 :: Ld :: Ls :: Lz_1 :: LA_1 :: S)) (i := 4) Od.rd rfl (by omega)) (fun _ h => h) rfl (fun v_ => tl_ex fun A_44 => tl_ex fun c_28 => tl_ex fun L_52 => tl_pure fun e_ => tl_val e_ ?_)
                  refine tl_pure fun O_52 => ?_
                  refine kept_nil ?_
                  refine tl_append (step_tt rfl) (by_ := 8) 0 2 O_52 O_38.rd rfl rfl rfl rfl rfl rfl rfl rfl rfl rfl (by simp; omega) (by simp; omega) rfl (fun A_45 c_29 L_53 O_53 le_19 => ?_)
                  change TG _ _ _ (St x (L_53 :: L_51 :: L_38 :: L_18 :: L_19 :: Ld :: Ls :: Lz_1 :: LA_1 :: S))
                  refine kept_nil ?_
                  refine tl_call (step_tt rfl) rfl rfl (clone_spec (x := x) (S := (L_53 :: L_51 :: L_38 :: L_18 :: L_19 :: Ld :: Ls :: Lz_1 :: LA_1 :: S)) (i := 6) Os.rd rfl (by omega)) (fun _ h => h) rfl (fun v_ => tl_ex fun A_46 => tl_ex fun c_30 => tl_ex fun L_54 => tl_pure fun e_ => tl_val e_ ?_)
                  refine tl_pure fun O_54 => ?_
                  refine kept_nil ?_
                  refine tl_append (step_tt rfl) (by_ := 8) 0 2 O_54 O_51.rd rfl rfl rfl rfl rfl rfl rfl rfl rfl rfl (by simp; omega) (by simp; omega) rfl (fun A_47 c_31 L_55 O_55 le_20 => ?_)
                  change TG _ _ _ (St x (L_55 :: L_53 :: L_51 :: L_38 :: L_18 :: L_19 :: Ld :: Ls :: Lz_1 :: LA_1 :: S))
                  refine kept_nil ?_
                  refine tl_call (step_tt rfl) rfl rfl (seq_spec (x := x) (S := (L_55 :: L_53 :: L_51 :: L_38 :: L_18 :: L_19 :: Ld :: Ls :: Lz_1 :: LA_1 :: S)) (i := 1) (j := 0) O_53.rd O_55.rd rfl rfl 10 (by first | omega | (simp; done) | (simp; omega)) (by first | omega | (simp; done) | (simp; omega))) (fun _ h => h) rfl (fun v_ => tl_ex fun Az_16 => tl_ex fun zs_16 => tl_ex fun cz_16 => tl_ex fun Lz_16 => tl_ex fun LA_16 => tl_pure fun e_ => tl_val e_ ?_)
                  refine tl_pure fun Oz_16 => tl_pure fun hm_16 => tl_pure fun hr_16 => ?_
                  have hnz_16 : zs_16.length ≤ 2001 := by have := congrArg List.length hm_16; rw [List.length_map] at this; have h2 := seqz_length (ds := ds ++ [gt ds 0]) (ss := ss ++ [1]) (t := 10); first | omega | (simp at h2; omega) | (simp only [List.length_append, List.length_cons, List.length_nil] at h2; omega)
                  refine kept_nil ?_
                  refine tt_p rfl (y_len rfl rfl) rfl ?_
                  refine tt_p rfl (y_gt rfl rfl) rfl ?_
                  refine tl_false (t := 188) rfl (by have h0 := congrArg List.length hm_16; rw [List.length_map, ← seqz_neg (fun h => twice h.2.1 (mem_gt (xs := ds) (q := 0) (by omega)))] at h0; show ¬ (0 < (zs_16.length : Int)); simp at h0; simp [h0]) ?_
                  refine tt_p rfl (y_move rfl) rfl ?_
                  refine tt_p rfl (y_move rfl) rfl ?_
                  refine tt_p rfl (y_move rfl) rfl ?_
                  refine tt_p rfl (y_move rfl) rfl ?_
                  refine tt_p rfl (y_idx Os.rd rfl rfl rfl rfl (by omega)) rfl ?_
                  refine tt_r rfl (y_el0 (k := 9) Os.rd rfl rfl (by omega) rfl rfl) rfl ?_
                  refine tl_call (step_tt rfl) rfl rfl (seq_spec (x := x) (S := (Lz_16 :: LA_16 :: L_55 :: L_53 :: L_51 :: L_38 :: L_18 :: L_19 :: Ld :: Ls :: Lz_1 :: LA_1 :: S)) (i := 8) (j := 9) Od.rd Os.rd rfl rfl (gt ss 0) (by first | omega | (simp; done) | (simp; omega)) (by first | omega | (simp; done) | (simp; omega))) (fun _ h => h) rfl (fun v_ => tl_ex fun Az_17 => tl_ex fun zs_17 => tl_ex fun cz_17 => tl_ex fun Lz_17 => tl_ex fun LA_17 => tl_pure fun e_ => tl_val e_ ?_)
                  refine tl_pure fun Oz_17 => tl_pure fun hm_17 => tl_pure fun hr_17 => ?_
                  have hnz_17 : zs_17.length ≤ 2001 := by have := congrArg List.length hm_17; rw [List.length_map] at this; have h2 := seqz_length (ds := ds) (ss := ss) (t := gt ss 0); first | omega | (simp at h2; omega) | (simp only [List.length_append, List.length_cons, List.length_nil] at h2; omega)
                  refine kept_nil ?_
                  refine tt_p rfl (y_len rfl rfl) rfl ?_
                  refine tt_p rfl (y_gt rfl rfl) rfl ?_
                  refine tl_false (t := 197) rfl (by have h0 := congrArg List.length hm_17; rw [List.length_map, ← seqz_neg (fun h => h.2.2.2 (mem_gt (xs := ss) (q := 0) (by omega)))] at h0; show ¬ (0 < (zs_17.length : Int)); simp at h0; simp [h0]) ?_
                  refine tt_p rfl (y_pick_f rfl rfl) rfl ?_
                  refine tt_p rfl (y_pick_t rfl rfl) rfl ?_
                  refine tt_end ?_
                  exact ex_join (.inl ⟨rfl, rfl⟩) (sc rfl (sc rfl (sc rfl (sc rfl (sc rfl (sc rfl (sc rfl (sc rfl (sc rfl (sc rfl (sc rfl (sc rfl (sc rfl (sc rfl (sc rfl (sc rfl (sc rfl (sc rfl (sc rfl (sc rfl (sc rfl (sc rfl (sc rfl (sc rfl (sc rfl (sc rfl (sc rfl (sc rfl (sc rfl (sc rfl (sc rfl sn))))))))))))))))))))))))))))))) (fun _ h => h.pickT [8, 9, 10, 11, 12, 13] 14 rfl rfl)
              · refine tl_one (step_tt rfl) (K := (kI .i64)) 1 rfl rfl rfl rfl rfl rfl rfl rfl rfl (fun A_48 L_56 O_56 => ?_)
                refine kept_on rfl rfl rfl (y_el0 (k := 3) Od.rd rfl rfl (by omega) rfl rfl) ?_
                refine kept_nil ?_
                refine tt_alt ?_ ?_
                · refine tl_call (step_tt rfl) rfl rfl (clone_spec (x := x) (S := (L_56 :: L_18 :: L_19 :: Ld :: Ls :: Lz_1 :: LA_1 :: S)) (i := 3) Od.rd rfl (by omega)) (fun _ h => h) rfl (fun v_ => tl_ex fun A_49 => tl_ex fun c_32 => tl_ex fun L_57 => tl_pure fun e_ => tl_val e_ ?_)
                  refine tl_pure fun O_57 => ?_
                  refine kept_on rfl rfl rfl (y_el0 (k := 4) Od.rd rfl rfl (by omega) rfl rfl) ?_
                  refine kept_nil ?_
                  refine tl_one (step_tt rfl) (K := (kI .i64)) (gt ds 0) rfl rfl rfl rfl rfl rfl rfl rfl rfl (fun A_50 L_58 O_58 => ?_)
                  refine kept_nil ?_
                  refine tl_append (step_tt rfl) (by_ := 8) 1 0 O_57 O_58.rd rfl rfl rfl rfl rfl rfl rfl rfl rfl rfl (by simp; omega) (by simp; omega) rfl (fun A_51 c_33 L_59 O_59 le_21 => ?_)
                  change TG _ _ _ (St x (L_58 :: L_59 :: L_56 :: L_18 :: L_19 :: Ld :: Ls :: Lz_1 :: LA_1 :: S))
                  refine kept_nil ?_
                  refine tl_call (step_tt rfl) rfl rfl (clone_spec (x := x) (S := (L_58 :: L_59 :: L_56 :: L_18 :: L_19 :: Ld :: Ls :: Lz_1 :: LA_1 :: S)) (i := 6) Os.rd rfl (by omega)) (fun _ h => h) rfl (fun v_ => tl_ex fun A_52 => tl_ex fun c_34 => tl_ex fun L_60 => tl_pure fun e_ => tl_val e_ ?_)
                  refine tl_pure fun O_60 => ?_
                  refine kept_nil ?_
                  refine tl_append (step_tt rfl) (by_ := 8) 0 3 O_60 O_56.rd rfl rfl rfl rfl rfl rfl rfl rfl rfl rfl (by simp; omega) (by simp; omega) rfl (fun A_53 c_35 L_61 O_61 le_22 => ?_)
                  change TG _ _ _ (St x (L_61 :: L_58 :: L_59 :: L_56 :: L_18 :: L_19 :: Ld :: Ls :: Lz_1 :: LA_1 :: S))
                  refine kept_nil ?_
                  refine tl_call (step_tt rfl) rfl rfl (seq_spec (x := x) (S := (L_61 :: L_58 :: L_59 :: L_56 :: L_18 :: L_19 :: Ld :: Ls :: Lz_1 :: LA_1 :: S)) (i := 2) (j := 0) O_59.rd O_61.rd rfl rfl 10 (by first | omega | (simp; done) | (simp; omega)) (by first | omega | (simp; done) | (simp; omega))) (fun _ h => h) rfl (fun v_ => tl_ex fun Az_18 => tl_ex fun zs_18 => tl_ex fun cz_18 => tl_ex fun Lz_18 => tl_ex fun LA_18 => tl_pure fun e_ => tl_val e_ ?_)
                  refine tl_pure fun Oz_18 => tl_pure fun hm_18 => tl_pure fun hr_18 => ?_
                  have hnz_18 : zs_18.length ≤ 2001 := by have := congrArg List.length hm_18; rw [List.length_map] at this; have h2 := seqz_length (ds := ds ++ [gt ds 0]) (ss := ss ++ [1]) (t := 10); first | omega | (simp at h2; omega) | (simp only [List.length_append, List.length_cons, List.length_nil] at h2; omega)
                  refine kept_nil ?_
                  refine tt_p rfl (y_len rfl rfl) rfl ?_
                  refine tt_p rfl (y_gt rfl rfl) rfl ?_
                  refine tl_false (t := 188) rfl (by have h0 := congrArg List.length hm_18; rw [List.length_map, ← seqz_neg (fun h => twice h.2.1 (mem_gt (xs := ds) (q := 0) (by omega)))] at h0; show ¬ (0 < (zs_18.length : Int)); simp at h0; simp [h0]) ?_
                  refine tt_p rfl (y_move rfl) rfl ?_
                  refine tt_p rfl (y_move rfl) rfl ?_
                  refine tt_p rfl (y_move rfl) rfl ?_
                  refine tt_p rfl (y_move rfl) rfl ?_
                  refine tt_p rfl (y_idx Os.rd rfl rfl rfl rfl (by omega)) rfl ?_
                  refine tt_r rfl (y_el0 (k := 9) Os.rd rfl rfl (by omega) rfl rfl) rfl ?_
                  refine tl_call (step_tt rfl) rfl rfl (seq_spec (x := x) (S := (Lz_18 :: LA_18 :: L_61 :: L_58 :: L_59 :: L_56 :: L_18 :: L_19 :: Ld :: Ls :: Lz_1 :: LA_1 :: S)) (i := 8) (j := 9) Od.rd Os.rd rfl rfl (gt ss 0) (by first | omega | (simp; done) | (simp; omega)) (by first | omega | (simp; done) | (simp; omega))) (fun _ h => h) rfl (fun v_ => tl_ex fun Az_19 => tl_ex fun zs_19 => tl_ex fun cz_19 => tl_ex fun Lz_19 => tl_ex fun LA_19 => tl_pure fun e_ => tl_val e_ ?_)
                  refine tl_pure fun Oz_19 => tl_pure fun hm_19 => tl_pure fun hr_19 => ?_
                  have hnz_19 : zs_19.length ≤ 2001 := by have := congrArg List.length hm_19; rw [List.length_map] at this; have h2 := seqz_length (ds := ds) (ss := ss) (t := gt ss 0); first | omega | (simp at h2; omega) | (simp only [List.length_append, List.length_cons, List.length_nil] at h2; omega)
                  refine kept_nil ?_
                  refine tt_p rfl (y_len rfl rfl) rfl ?_
                  refine tt_p rfl (y_gt rfl rfl) rfl ?_
                  refine tl_false (t := 197) rfl (by have h0 := congrArg List.length hm_19; rw [List.length_map, ← seqz_neg (fun h => h.2.2.2 (mem_gt (xs := ss) (q := 0) (by omega)))] at h0; show ¬ (0 < (zs_19.length : Int)); simp at h0; simp [h0]) ?_
                  refine tt_p rfl (y_pick_f rfl rfl) rfl ?_
                  refine tt_p rfl (y_pick_t rfl rfl) rfl ?_
                  refine tt_end ?_
                  exact ex_join (.inl ⟨rfl, rfl⟩) (sc rfl (sc rfl (sc rfl (sc rfl (sc rfl (sc rfl (sc rfl (sc rfl (sc rfl (sc rfl (sc rfl (sc rfl (sc rfl (sc rfl (sc rfl (sc rfl (sc rfl (sc rfl (sc rfl (sc rfl (sc rfl (sc rfl (sc rfl (sc rfl (sc rfl (sc rfl (sc rfl (sc rfl (sc rfl (sc rfl (sc rfl sn))))))))))))))))))))))))))))))) (fun _ h => h.pickT [8, 9, 10, 11, 12, 13] 14 rfl rfl)
                · refine tl_one (step_tt rfl) (K := (kI .i64)) (gt ds 0) rfl rfl rfl rfl rfl rfl rfl rfl rfl (fun A_54 L_62 O_62 => ?_)
                  refine kept_nil ?_
                  refine tl_call (step_tt rfl) rfl rfl (clone_spec (x := x) (S := (L_62 :: L_56 :: L_18 :: L_19 :: Ld :: Ls :: Lz_1 :: LA_1 :: S)) (i := 4) Od.rd rfl (by omega)) (fun _ h => h) rfl (fun v_ => tl_ex fun A_55 => tl_ex fun c_36 => tl_ex fun L_63 => tl_pure fun e_ => tl_val e_ ?_)
                  refine tl_pure fun O_63 => ?_
                  refine kept_nil ?_
                  refine tl_append (step_tt rfl) (by_ := 8) 0 1 O_63 O_62.rd rfl rfl rfl rfl rfl rfl rfl rfl rfl rfl (by simp; omega) (by simp; omega) rfl (fun A_56 c_37 L_64 O_64 le_23 => ?_)
                  change TG _ _ _ (St x (L_64 :: L_62 :: L_56 :: L_18 :: L_19 :: Ld :: Ls :: Lz_1 :: LA_1 :: S))
                  refine kept_nil ?_
                  refine tl_call (step_tt rfl) rfl rfl (clone_spec (x := x) (S := (L_64 :: L_62 :: L_56 :: L_18 :: L_19 :: Ld :: Ls :: Lz_1 :: LA_1 :: S)) (i := 6) Os.rd rfl (by omega)) (fun _ h => h) rfl (fun v_ => tl_ex fun A_57 => tl_ex fun c_38 => tl_ex fun L_65 => tl_pure fun e_ => tl_val e_ ?_)
                  refine tl_pure fun O_65 => ?_
                  refine kept_nil ?_
                  refine tl_append (step_tt rfl) (by_ := 8) 0 3 O_65 O_56.rd rfl rfl rfl rfl rfl rfl rfl rfl rfl rfl (by simp; omega) (by simp; omega) rfl (fun A_58 c_39 L_66 O_66 le_24 => ?_)
                  change TG _ _ _ (St x (L_66 :: L_64 :: L_62 :: L_56 :: L_18 :: L_19 :: Ld :: Ls :: Lz_1 :: LA_1 :: S))
                  refine kept_nil ?_
                  refine tl_call (step_tt rfl) rfl rfl (seq_spec (x := x) (S := (L_66 :: L_64 :: L_62 :: L_56 :: L_18 :: L_19 :: Ld :: Ls :: Lz_1 :: LA_1 :: S)) (i := 1) (j := 0) O_64.rd O_66.rd rfl rfl 10 (by first | omega | (simp; done) | (simp; omega)) (by first | omega | (simp; done) | (simp; omega))) (fun _ h => h) rfl (fun v_ => tl_ex fun Az_20 => tl_ex fun zs_20 => tl_ex fun cz_20 => tl_ex fun Lz_20 => tl_ex fun LA_20 => tl_pure fun e_ => tl_val e_ ?_)
                  refine tl_pure fun Oz_20 => tl_pure fun hm_20 => tl_pure fun hr_20 => ?_
                  have hnz_20 : zs_20.length ≤ 2001 := by have := congrArg List.length hm_20; rw [List.length_map] at this; have h2 := seqz_length (ds := ds ++ [gt ds 0]) (ss := ss ++ [1]) (t := 10); first | omega | (simp at h2; omega) | (simp only [List.length_append, List.length_cons, List.length_nil] at h2; omega)
                  refine kept_nil ?_
                  refine tt_p rfl (y_len rfl rfl) rfl ?_
                  refine tt_p rfl (y_gt rfl rfl) rfl ?_
                  refine tl_false (t := 188) rfl (by have h0 := congrArg List.length hm_20; rw [List.length_map, ← seqz_neg (fun h => twice h.2.1 (mem_gt (xs := ds) (q := 0) (by omega)))] at h0; show ¬ (0 < (zs_20.length : Int)); simp at h0; simp [h0]) ?_
                  refine tt_p rfl (y_move rfl) rfl ?_
                  refine tt_p rfl (y_move rfl) rfl ?_
                  refine tt_p rfl (y_move rfl) rfl ?_
                  refine tt_p rfl (y_move rfl) rfl ?_
                  refine tt_p rfl (y_idx Os.rd rfl rfl rfl rfl (by omega)) rfl ?_
                  refine tt_r rfl (y_el0 (k := 9) Os.rd rfl rfl (by omega) rfl rfl) rfl ?_
                  refine tl_call (step_tt rfl) rfl rfl (seq_spec (x := x) (S := (Lz_20 :: LA_20 :: L_66 :: L_64 :: L_62 :: L_56 :: L_18 :: L_19 :: Ld :: Ls :: Lz_1 :: LA_1 :: S)) (i := 8) (j := 9) Od.rd Os.rd rfl rfl (gt ss 0) (by first | omega | (simp; done) | (simp; omega)) (by first | omega | (simp; done) | (simp; omega))) (fun _ h => h) rfl (fun v_ => tl_ex fun Az_21 => tl_ex fun zs_21 => tl_ex fun cz_21 => tl_ex fun Lz_21 => tl_ex fun LA_21 => tl_pure fun e_ => tl_val e_ ?_)
                  refine tl_pure fun Oz_21 => tl_pure fun hm_21 => tl_pure fun hr_21 => ?_
                  have hnz_21 : zs_21.length ≤ 2001 := by have := congrArg List.length hm_21; rw [List.length_map] at this; have h2 := seqz_length (ds := ds) (ss := ss) (t := gt ss 0); first | omega | (simp at h2; omega) | (simp only [List.length_append, List.length_cons, List.length_nil] at h2; omega)
                  refine kept_nil ?_
                  refine tt_p rfl (y_len rfl rfl) rfl ?_
                  refine tt_p rfl (y_gt rfl rfl) rfl ?_
                  refine tl_false (t := 197) rfl (by have h0 := congrArg List.length hm_21; rw [List.length_map, ← seqz_neg (fun h => h.2.2.2 (mem_gt (xs := ss) (q := 0) (by omega)))] at h0; show ¬ (0 < (zs_21.length : Int)); simp at h0; simp [h0]) ?_
                  refine tt_p rfl (y_pick_f rfl rfl) rfl ?_
                  refine tt_p rfl (y_pick_t rfl rfl) rfl ?_
                  refine tt_end ?_
                  exact ex_join (.inl ⟨rfl, rfl⟩) (sc rfl (sc rfl (sc rfl (sc rfl (sc rfl (sc rfl (sc rfl (sc rfl (sc rfl (sc rfl (sc rfl (sc rfl (sc rfl (sc rfl (sc rfl (sc rfl (sc rfl (sc rfl (sc rfl (sc rfl (sc rfl (sc rfl (sc rfl (sc rfl (sc rfl (sc rfl (sc rfl (sc rfl (sc rfl (sc rfl (sc rfl sn))))))))))))))))))))))))))))))) (fun _ h => h.pickT [8, 9, 10, 11, 12, 13] 14 rfl rfl)
            · refine tt_off rfl rfl ?_
              refine tt_off rfl rfl ?_
              refine tt_off rfl rfl ?_
              refine tt_off rfl rfl ?_
              refine tt_off rfl rfl ?_
              refine tt_alt ?_ ?_
              · refine tt_not rfl rfl ?_
                refine kept_off rfl rfl rfl ?_
                refine kept_nil ?_
                refine tt_alt ?_ ?_
                · refine tt_not rfl rfl ?_
                  refine kept_nil ?_
                  refine tt_alt ?_ ?_
                  · refine tt_not rfl rfl ?_
                    refine kept_nil ?_
                    refine tt_alt ?_ ?_
                    · refine tt_not rfl rfl ?_
                      refine kept_nil ?_
                      refine tt_not rfl rfl ?_
                      refine kept_nil ?_
                      refine tt_not rfl rfl ?_
                      refine kept_nil ?_
                      refine tt_not rfl rfl ?_
                      refine kept_nil ?_
                      refine tt_off rfl rfl ?_
                      refine tt_off rfl rfl ?_
                      refine tt_off rfl rfl ?_
                      refine tt_off rfl rfl ?_
                      refine tt_off rfl rfl ?_
                      refine tt_off rfl rfl ?_
                      refine tt_off rfl rfl ?_
                      refine tt_off rfl rfl ?_
                      refine tt_not rfl rfl ?_
                      refine kept_nil ?_
                      refine tt_off rfl rfl ?_
                      refine tt_off rfl rfl ?_
                      refine tt_off rfl rfl ?_
                      refine tt_p rfl (y_pick_f rfl rfl) rfl ?_
                      refine tt_end ?_
                      exact ex_join (.inr (⟨rfl, rfl⟩)) (sc rfl (sc rfl (sc rfl (sc rfl (sc rfl (sc rfl (sc rfl (sc rfl (sc rfl (sc rfl (sc rfl (sc rfl (sc rfl (sc rfl (sc rfl (sc rfl (sc rfl (sc rfl (sc rfl (sc rfl (sc rfl (sc rfl (sc rfl (sc rfl (sc rfl (sc rfl (sc rfl (sc rfl (sc rfl (sc rfl (sc rfl sn))))))))))))))))))))))))))))))) (fun _ h => h.pickT [0, 1, 2, 3, 4, 5] 6 rfl rfl)
                    · refine tt_not rfl rfl ?_
                      refine kept_nil ?_
                      refine tt_not rfl rfl ?_
                      refine kept_nil ?_
                      refine tt_not rfl rfl ?_
                      refine kept_nil ?_
                      refine tt_not rfl rfl ?_
                      refine kept_nil ?_
                      refine tt_off rfl rfl ?_
                      refine tt_off rfl rfl ?_
                      refine tt_off rfl rfl ?_
                      refine tt_off rfl rfl ?_
                      refine tt_off rfl rfl ?_
                      refine tt_off rfl rfl ?_
                      refine tt_off rfl rfl ?_
                      refine tt_off rfl rfl ?_
                      refine tt_not rfl rfl ?_
                      refine kept_nil ?_
                      refine tt_off rfl rfl ?_
                      refine tt_off rfl rfl ?_
                      refine tt_off rfl rfl ?_
                      refine tt_p rfl (y_pick_f rfl rfl) rfl ?_
                      refine tt_end ?_
                      exact ex_join (.inr (⟨rfl, rfl⟩)) (sc rfl (sc rfl (sc rfl (sc rfl (sc rfl (sc rfl (sc rfl (sc rfl (sc rfl (sc rfl (sc rfl (sc rfl (sc rfl (sc rfl (sc rfl (sc rfl (sc rfl (sc rfl (sc rfl (sc rfl (sc rfl (sc rfl (sc rfl (sc rfl (sc rfl (sc rfl (sc rfl (sc rfl (sc rfl (sc rfl (sc rfl sn))))))))))))))))))))))))))))))) (fun _ h => h.pickT [0, 1, 2, 3, 4, 5] 6 rfl rfl)
                  · refine tt_not rfl rfl ?_
                    refine kept_nil ?_
                    refine tt_not rfl rfl ?_
                    refine kept_nil ?_
                    refine tt_not rfl rfl ?_
                    refine kept_nil ?_
                    refine tt_not rfl rfl ?_
                    refine kept_nil ?_
                    refine tt_not rfl rfl ?_
                    refine kept_nil ?_
                    refine tt_off rfl rfl ?_
                    refine tt_off rfl rfl ?_
                    refine tt_off rfl rfl ?_
                    refine tt_off rfl rfl ?_
                    refine tt_off rfl rfl ?_
                    refine tt_off rfl rfl ?_
                    refine tt_off rfl rfl ?_
                    refine tt_off rfl rfl ?_
                    refine tt_not rfl rfl ?_
                    refine kept_nil ?_
                    refine tt_off rfl rfl ?_
                    refine tt_off rfl rfl ?_
                    refine tt_off rfl rfl ?_
                    refine tt_p rfl (y_pick_f rfl rfl) rfl ?_
                    refine tt_end ?_
                    exact ex_join (.inr (⟨rfl, rfl⟩)) (sc rfl (sc rfl (sc rfl (sc rfl (sc rfl (sc rfl (sc rfl (sc rfl (sc rfl (sc rfl (sc rfl (sc rfl (sc rfl (sc rfl (sc rfl (sc rfl (sc rfl (sc rfl (sc rfl (sc rfl (sc rfl (sc rfl (sc rfl (sc rfl (sc rfl (sc rfl (sc rfl (sc rfl (sc rfl (sc rfl (sc rfl sn))))))))))))))))))))))))))))))) (fun _ h => h.pickT [0, 1, 2, 3, 4, 5] 6 rfl rfl)
                · refine tt_not rfl rfl ?_
                  refine kept_off rfl rfl rfl ?_
                  refine kept_nil ?_
                  refine tt_not rfl rfl ?_
                  refine kept_nil ?_
                  refine tt_not rfl rfl ?_
                  refine kept_nil ?_
                  refine tt_not rfl rfl ?_
                  refine kept_nil ?_
                  refine tt_not rfl rfl ?_
                  refine kept_nil ?_
                  refine tt_not rfl rfl ?_
                  refine kept_nil ?_
                  refine tt_off rfl rfl ?_
                  refine tt_off rfl rfl ?_
                  refine tt_off rfl rfl ?_
                  refine tt_off rfl rfl ?_
                  refine tt_off rfl rfl ?_
                  refine tt_off rfl rfl ?_
                  refine tt_off rfl rfl ?_
                  refine tt_off rfl rfl ?_
                  refine tt_not rfl rfl ?_
                  refine kept_nil ?_
                  refine tt_off rfl rfl ?_
                  refine tt_off rfl rfl ?_
                  refine tt_off rfl rfl ?_
                  refine tt_p rfl (y_pick_f rfl rfl) rfl ?_
                  refine tt_end ?_
                  exact ex_join (.inr (⟨rfl, rfl⟩)) (sc rfl (sc rfl (sc rfl (sc rfl (sc rfl (sc rfl (sc rfl (sc rfl (sc rfl (sc rfl (sc rfl (sc rfl (sc rfl (sc rfl (sc rfl (sc rfl (sc rfl (sc rfl (sc rfl (sc rfl (sc rfl (sc rfl (sc rfl (sc rfl (sc rfl (sc rfl (sc rfl (sc rfl (sc rfl (sc rfl (sc rfl sn))))))))))))))))))))))))))))))) (fun _ h => h.pickT [0, 1, 2, 3, 4, 5] 6 rfl rfl)
              refine tt_alt ?_ ?_
              · refine tt_not rfl rfl ?_
                refine kept_nil ?_
                refine tt_alt ?_ ?_
                · refine tt_not rfl rfl ?_
                  refine kept_nil ?_
                  refine tt_alt ?_ ?_
                  · refine tt_not rfl rfl ?_
                    refine kept_nil ?_
                    refine tt_alt ?_ ?_
                    · refine tt_not rfl rfl ?_
                      refine kept_nil ?_
                      refine tt_not rfl rfl ?_
                      refine kept_nil ?_
                      refine tt_not rfl rfl ?_
                      refine kept_nil ?_
                      refine tt_not rfl rfl ?_
                      refine kept_nil ?_
                      refine tt_off rfl rfl ?_
                      refine tt_off rfl rfl ?_
                      refine tt_off rfl rfl ?_
                      refine tt_off rfl rfl ?_
                      refine tt_off rfl rfl ?_
                      refine tt_off rfl rfl ?_
                      refine tt_off rfl rfl ?_
                      refine tt_off rfl rfl ?_
                      refine tt_not rfl rfl ?_
                      refine kept_nil ?_
                      refine tt_off rfl rfl ?_
                      refine tt_off rfl rfl ?_
                      refine tt_off rfl rfl ?_
                      refine tt_p rfl (y_pick_f rfl rfl) rfl ?_
                      refine tt_end ?_
                      exact ex_join (.inr (⟨rfl, rfl⟩)) (sc rfl (sc rfl (sc rfl (sc rfl (sc rfl (sc rfl (sc rfl (sc rfl (sc rfl (sc rfl (sc rfl (sc rfl (sc rfl (sc rfl (sc rfl (sc rfl (sc rfl (sc rfl (sc rfl (sc rfl (sc rfl (sc rfl (sc rfl (sc rfl (sc rfl (sc rfl (sc rfl (sc rfl (sc rfl (sc rfl (sc rfl sn))))))))))))))))))))))))))))))) (fun _ h => h.pickT [0, 1, 2, 3, 4, 5] 6 rfl rfl)
                    · refine tt_not rfl rfl ?_
                      refine kept_nil ?_
                      refine tt_not rfl rfl ?_
                      refine kept_nil ?_
                      refine tt_not rfl rfl ?_
                      refine kept_nil ?_
                      refine tt_not rfl rfl ?_
                      refine kept_nil ?_
                      refine tt_off rfl rfl ?_
                      refine tt_off rfl rfl ?_
                      refine tt_off rfl rfl ?_
                      refine tt_off rfl rfl ?_
                      refine tt_off rfl rfl ?_
                      refine tt_off rfl rfl ?_
                      refine tt_off rfl rfl ?_
                      refine tt_off rfl rfl ?_
                      refine tt_not rfl rfl ?_
                      refine kept_nil ?_
                      refine tt_off rfl rfl ?_
                      refine tt_off rfl rfl ?_
                      refine tt_off rfl rfl ?_
                      refine tt_p rfl (y_pick_f rfl rfl) rfl ?_
                      refine tt_end ?_
                      exact ex_join (.inr (⟨rfl, rfl⟩)) (sc rfl (sc rfl (sc rfl (sc rfl (sc rfl (sc rfl (sc rfl (sc rfl (sc rfl (sc rfl (sc rfl (sc rfl (sc rfl (sc rfl (sc rfl (sc rfl (sc rfl (sc rfl (sc rfl (sc rfl (sc rfl (sc rfl (sc rfl (sc rfl (sc rfl (sc rfl (sc rfl (sc rfl (sc rfl (sc rfl (sc rfl sn))))))))))))))))))))))))))))))) (fun _ h => h.pickT [0, 1, 2, 3, 4, 5] 6 rfl rfl)
                  · refine tt_not rfl rfl ?_
                    refine kept_nil ?_
                    refine tt_not rfl rfl ?_
                    refine kept_nil ?_
                    refine tt_not rfl rfl ?_
                    refine kept_nil ?_
                    refine tt_not rfl rfl ?_
                    refine kept_nil ?_
                    refine tt_not rfl rfl ?_
                    refine kept_nil ?_
                    refine tt_off rfl rfl ?_
                    refine tt_off rfl rfl ?_
                    refine tt_off rfl rfl ?_
                    refine tt_off rfl rfl ?_
                    refine tt_off rfl rfl ?_
                    refine tt_off rfl rfl ?_
                    refine tt_off rfl rfl ?_
                    refine tt_off rfl rfl ?_
                    refine tt_not rfl rfl ?_
                    refine kept_nil ?_
                    refine tt_off rfl rfl ?_
                    refine tt_off rfl rfl ?_
                    refine tt_off rfl rfl ?_
                    refine tt_p rfl (y_pick_f rfl rfl) rfl ?_
                    refine tt_end ?_
                    exact ex_join (.inr (⟨rfl, rfl⟩)) (sc rfl (sc rfl (sc rfl (sc rfl (sc rfl (sc rfl (sc rfl (sc rfl (sc rfl (sc rfl (sc rfl (sc rfl (sc rfl (sc rfl (sc rfl (sc rfl (sc rfl (sc rfl (sc rfl (sc rfl (sc rfl (sc rfl (sc rfl (sc rfl (sc rfl (sc rfl (sc rfl (sc rfl (sc rfl (sc rfl (sc rfl sn))))))))))))))))))))))))))))))) (fun _ h => h.pickT [0, 1, 2, 3, 4, 5] 6 rfl rfl)
                · refine tt_not rfl rfl ?_
                  refine kept_nil ?_
                  refine tt_not rfl rfl ?_
                  refine kept_nil ?_
                  refine tt_not rfl rfl ?_
                  refine kept_nil ?_
                  refine tt_not rfl rfl ?_
                  refine kept_nil ?_
                  refine tt_not rfl rfl ?_
                  refine kept_nil ?_
                  refine tt_not rfl rfl ?_
                  refine kept_nil ?_
                  refine tt_off rfl rfl ?_
                  refine tt_off rfl rfl ?_
                  refine tt_off rfl rfl ?_
                  refine tt_off rfl rfl ?_
                  refine tt_off rfl rfl ?_
                  refine tt_off rfl rfl ?_
                  refine tt_off rfl rfl ?_
                  refine tt_off rfl rfl ?_
                  refine tt_not rfl rfl ?_
                  refine kept_nil ?_
                  refine tt_off rfl rfl ?_
                  refine tt_off rfl rfl ?_
                  refine tt_off rfl rfl ?_
                  refine tt_p rfl (y_pick_f rfl rfl) rfl ?_
                  refine tt_end ?_
                  exact ex_join (.inr (⟨rfl, rfl⟩)) (sc rfl (sc rfl (sc rfl (sc rfl (sc rfl (sc rfl (sc rfl (sc rfl (sc rfl (sc rfl (sc rfl (sc rfl (sc rfl (sc rfl (sc rfl (sc rfl (sc rfl (sc rfl (sc rfl (sc rfl (sc rfl (sc rfl (sc rfl (sc rfl (sc rfl (sc rfl (sc rfl (sc rfl (sc rfl (sc rfl (sc rfl sn))))))))))))))))))))))))))))))) (fun _ h => h.pickT [0, 1, 2, 3, 4, 5] 6 rfl rfl)
              · refine tt_not rfl rfl ?_
                refine kept_off rfl rfl rfl ?_
                refine kept_nil ?_
                refine tt_alt ?_ ?_
                · refine tt_not rfl rfl ?_
                  refine kept_off rfl rfl rfl ?_
                  refine kept_nil ?_
                  refine tt_not rfl rfl ?_
                  refine kept_nil ?_
                  refine tt_not rfl rfl ?_
                  refine kept_nil ?_
                  refine tt_not rfl rfl ?_
                  refine kept_nil ?_
                  refine tt_not rfl rfl ?_
                  refine kept_nil ?_
                  refine tt_not rfl rfl ?_
                  refine kept_nil ?_
                  refine tt_off rfl rfl ?_
                  refine tt_off rfl rfl ?_
                  refine tt_off rfl rfl ?_
                  refine tt_off rfl rfl ?_
                  refine tt_off rfl rfl ?_
                  refine tt_off rfl rfl ?_
                  refine tt_off rfl rfl ?_
                  refine tt_off rfl rfl ?_
                  refine tt_not rfl rfl ?_
                  refine kept_nil ?_
                  refine tt_off rfl rfl ?_
                  refine tt_off rfl rfl ?_
                  refine tt_off rfl rfl ?_
                  refine tt_p rfl (y_pick_f rfl rfl) rfl ?_
                  refine tt_end ?_
                  exact ex_join (.inr (⟨rfl, rfl⟩)) (sc rfl (sc rfl (sc rfl (sc rfl (sc rfl (sc rfl (sc rfl (sc rfl (sc rfl (sc rfl (sc rfl (sc rfl (sc rfl (sc rfl (sc rfl (sc rfl (sc rfl (sc rfl (sc rfl (sc rfl (sc rfl (sc rfl (sc rfl (sc rfl (sc rfl (sc rfl (sc rfl (sc rfl (sc rfl (sc rfl (sc rfl sn))))))))))))))))))))))))))))))) (fun _ h => h.pickT [0, 1, 2, 3, 4, 5] 6 rfl rfl)
                · refine tt_not rfl rfl ?_
                  refine kept_nil ?_
                  refine tt_not rfl rfl ?_
                  refine kept_nil ?_
                  refine tt_not rfl rfl ?_
                  refine kept_nil ?_
                  refine tt_not rfl rfl ?_
                  refine kept_nil ?_
                  refine tt_not rfl rfl ?_
                  refine kept_nil ?_
                  refine tt_not rfl rfl ?_
                  refine kept_nil ?_
                  refine tt_off rfl rfl ?_
                  refine tt_off rfl rfl ?_
                  refine tt_off rfl rfl ?_
                  refine tt_off rfl rfl ?_
                  refine tt_off rfl rfl ?_
                  refine tt_off rfl rfl ?_
                  refine tt_off rfl rfl ?_
                  refine tt_off rfl rfl ?_
                  refine tt_not rfl rfl ?_
                  refine kept_nil ?_
                  refine tt_off rfl rfl ?_
                  refine tt_off rfl rfl ?_
                  refine tt_off rfl rfl ?_
                  refine tt_p rfl (y_pick_f rfl rfl) rfl ?_
                  refine tt_end ?_
                  exact ex_join (.inr (⟨rfl, rfl⟩)) (sc rfl (sc rfl (sc rfl (sc rfl (sc rfl (sc rfl (sc rfl (sc rfl (sc rfl (sc rfl (sc rfl (sc rfl (sc rfl (sc rfl (sc rfl (sc rfl (sc rfl (sc rfl (sc rfl (sc rfl (sc rfl (sc rfl (sc rfl (sc rfl (sc rfl (sc rfl (sc rfl (sc rfl (sc rfl (sc rfl (sc rfl sn))))))))))))))))))))))))))))))) (fun _ h => h.pickT [0, 1, 2, 3, 4, 5] 6 rfl rfl)
          · rintro _ _ (⟨rfl, rfl⟩ | ⟨rfl, rfl⟩)
            · refine ex_next ?_
              refine tc_no rfl ?_
              refine tc_skip ?_
              refine ex_next ?_
              refine tc_seq ?_
              refine tc_region ?_
              refine tl (y_move rfl) rfl ?_
              refine tl (y_move rfl) rfl ?_
              refine tl_call step_tl rfl rfl (clone_spec (x := x) (S := (L_18 :: L_19 :: Ld :: Ls :: Lz_1 :: LA_1 :: S)) (i := 3) Os.rd rfl (by omega)) (fun _ h => h) rfl (fun v_ => tl_ex fun A_59 => tl_ex fun c_40 => tl_ex fun L_67 => tl_pure fun e_ => tl_val e_ ?_)
              refine tl_pure fun O_67 => ?_
              refine tl_one step_tl (K := (kI .i64)) 1 rfl rfl rfl rfl rfl rfl rfl rfl rfl (fun A_60 L_68 O_68 => ?_)
              refine tl_append step_tl (by_ := 8) 1 0 O_67 O_68.rd rfl rfl rfl rfl rfl rfl rfl rfl rfl rfl (by simp; omega) (by simp; omega) rfl (fun A_61 c_41 L_69 O_69 le_25 => ?_)
              change TG _ _ _ (St x (L_68 :: L_69 :: L_18 :: L_19 :: Ld :: Ls :: Lz_1 :: LA_1 :: S))
              refine tl_call step_tl rfl rfl (seq_spec (x := x) (S := (L_68 :: L_69 :: L_18 :: L_19 :: Ld :: Ls :: Lz_1 :: LA_1 :: S)) (i := 4) (j := 1) Od.rd O_69.rd rfl rfl 10 (by first | omega | (simp; done) | (simp; omega)) (by first | omega | (simp; done) | (simp; omega))) (fun _ h => h) rfl (fun v_ => tl_ex fun Az_22 => tl_ex fun zs_22 => tl_ex fun cz_22 => tl_ex fun Lz_22 => tl_ex fun LA_22 => tl_pure fun e_ => tl_val e_ ?_)
              refine tl_pure fun Oz_22 => tl_pure fun hm_22 => tl_pure fun hr_22 => ?_
              have hnz_22 : zs_22.length ≤ 2001 := by have := congrArg List.length hm_22; rw [List.length_map] at this; have h2 := seqz_length (ds := ds) (ss := ss ++ [1]) (t := 10); first | omega | (simp at h2; omega) | (simp only [List.length_append, List.length_cons, List.length_nil] at h2; omega)
              refine tl (y_len rfl rfl) rfl ?_
              refine tl (y_eq rfl rfl) rfl ?_
              refine tl_true (t := 207) rfl (by have h0 := congrArg List.length hm_22; rw [List.length_map, ← seqz_neg (fun h => by have := h.1; simp at this; omega)] at h0; show ((zs_22.length : Int) = 0); simp at h0; simp [h0]) ?_
              refine tl (y_move rfl) rfl ?_
              refine tl_lit step_tl (K := (kI .i64)) (xs := [.const (Value.int IntKind.i64 1), .const (Value.int IntKind.i64 2)]) (vs := [.int .i64 1, .int .i64 2]) [1, 2] rfl rfl ⟨rfl, rfl, trivial⟩ rfl rfl rfl rfl rfl (fun A_62 L_70 O_70 => ?_)
              refine tl_lit step_tl (K := (kI .i64)) (xs := [.const (Value.int IntKind.i64 2), .const (Value.int IntKind.i64 1)]) (vs := [.int .i64 2, .int .i64 1]) [2, 1] rfl rfl ⟨rfl, rfl, trivial⟩ rfl rfl rfl rfl rfl (fun A_63 L_71 O_71 => ?_)
              refine tl_call step_tl rfl rfl (seq_spec (x := x) (S := (L_71 :: L_70 :: Lz_22 :: LA_22 :: L_68 :: L_69 :: L_18 :: L_19 :: Ld :: Ls :: Lz_1 :: LA_1 :: S)) (i := 1) (j := 0) O_70.rd O_71.rd rfl rfl 9 (by first | omega | (simp; done) | (simp; omega)) (by first | omega | (simp; done) | (simp; omega))) (fun _ h => h) rfl (fun v_ => tl_ex fun Az_23 => tl_ex fun zs_23 => tl_ex fun cz_23 => tl_ex fun Lz_23 => tl_ex fun LA_23 => tl_pure fun e_ => tl_val e_ ?_)
              refine tl_pure fun Oz_23 => tl_pure fun hm_23 => tl_pure fun hr_23 => ?_
              have hnz_23 : zs_23.length ≤ 2001 := by have := congrArg List.length hm_23; rw [List.length_map] at this; have h2 := seqz_length (ds := [1, 2]) (ss := [2, 1]) (t := 9); first | omega | (simp at h2; omega) | (simp only [List.length_append, List.length_cons, List.length_nil] at h2; omega)
              refine tl (y_len rfl rfl) rfl ?_
              refine tl (y_eq rfl rfl) rfl ?_
              refine tl_true (t := 213) rfl (by have h := congrArg List.length hm_23; rw [List.length_map] at h; rw [h]; decide) ?_
              refine tl (y_pick_t rfl rfl) rfl ?_
              refine tl (y_assign rfl) rfl ?_
              refine tl_end ?_
              refine ex_next ?_
              refine tc_ret ?_
              refine ex_ret1 rfl rfl (fun w hw => ?_)
              exact ⟨rfl, hw.pickT [] 14 rfl rfl⟩
            · refine ex_next ?_
              refine tc_no rfl ?_
              refine tc_skip ?_
              refine ex_next ?_
              refine tc_seq ?_
              refine tc_region ?_
              refine tl (y_move rfl) rfl ?_
              refine tl (y_move rfl) rfl ?_
              refine tl_call step_tl rfl rfl (clone_spec (x := x) (S := (L_18 :: L_19 :: Ld :: Ls :: Lz_1 :: LA_1 :: S)) (i := 3) Os.rd rfl (by omega)) (fun _ h => h) rfl (fun v_ => tl_ex fun A_64 => tl_ex fun c_42 => tl_ex fun L_72 => tl_pure fun e_ => tl_val e_ ?_)
              refine tl_pure fun O_72 => ?_
              refine tl_one step_tl (K := (kI .i64)) 1 rfl rfl rfl rfl rfl rfl rfl rfl rfl (fun A_65 L_73 O_73 => ?_)
              refine tl_append step_tl (by_ := 8) 1 0 O_72 O_73.rd rfl rfl rfl rfl rfl rfl rfl rfl rfl rfl (by simp; omega) (by simp; omega) rfl (fun A_66 c_43 L_74 O_74 le_26 => ?_)
              change TG _ _ _ (St x (L_73 :: L_74 :: L_18 :: L_19 :: Ld :: Ls :: Lz_1 :: LA_1 :: S))
              refine tl_call step_tl rfl rfl (seq_spec (x := x) (S := (L_73 :: L_74 :: L_18 :: L_19 :: Ld :: Ls :: Lz_1 :: LA_1 :: S)) (i := 4) (j := 1) Od.rd O_74.rd rfl rfl 10 (by first | omega | (simp; done) | (simp; omega)) (by first | omega | (simp; done) | (simp; omega))) (fun _ h => h) rfl (fun v_ => tl_ex fun Az_24 => tl_ex fun zs_24 => tl_ex fun cz_24 => tl_ex fun Lz_24 => tl_ex fun LA_24 => tl_pure fun e_ => tl_val e_ ?_)
              refine tl_pure fun Oz_24 => tl_pure fun hm_24 => tl_pure fun hr_24 => ?_
              have hnz_24 : zs_24.length ≤ 2001 := by have := congrArg List.length hm_24; rw [List.length_map] at this; have h2 := seqz_length (ds := ds) (ss := ss ++ [1]) (t := 10); first | omega | (simp at h2; omega) | (simp only [List.length_append, List.length_cons, List.length_nil] at h2; omega)
              refine tl (y_len rfl rfl) rfl ?_
              refine tl (y_eq rfl rfl) rfl ?_
              refine tl_true (t := 207) rfl (by have h0 := congrArg List.length hm_24; rw [List.length_map, ← seqz_neg (fun h => by have := h.1; simp at this; omega)] at h0; show ((zs_24.length : Int) = 0); simp at h0; simp [h0]) ?_
              refine tl (y_move rfl) rfl ?_
              refine tl_lit step_tl (K := (kI .i64)) (xs := [.const (Value.int IntKind.i64 1), .const (Value.int IntKind.i64 2)]) (vs := [.int .i64 1, .int .i64 2]) [1, 2] rfl rfl ⟨rfl, rfl, trivial⟩ rfl rfl rfl rfl rfl (fun A_67 L_75 O_75 => ?_)
              refine tl_lit step_tl (K := (kI .i64)) (xs := [.const (Value.int IntKind.i64 2), .const (Value.int IntKind.i64 1)]) (vs := [.int .i64 2, .int .i64 1]) [2, 1] rfl rfl ⟨rfl, rfl, trivial⟩ rfl rfl rfl rfl rfl (fun A_68 L_76 O_76 => ?_)
              refine tl_call step_tl rfl rfl (seq_spec (x := x) (S := (L_76 :: L_75 :: Lz_24 :: LA_24 :: L_73 :: L_74 :: L_18 :: L_19 :: Ld :: Ls :: Lz_1 :: LA_1 :: S)) (i := 1) (j := 0) O_75.rd O_76.rd rfl rfl 9 (by first | omega | (simp; done) | (simp; omega)) (by first | omega | (simp; done) | (simp; omega))) (fun _ h => h) rfl (fun v_ => tl_ex fun Az_25 => tl_ex fun zs_25 => tl_ex fun cz_25 => tl_ex fun Lz_25 => tl_ex fun LA_25 => tl_pure fun e_ => tl_val e_ ?_)
              refine tl_pure fun Oz_25 => tl_pure fun hm_25 => tl_pure fun hr_25 => ?_
              have hnz_25 : zs_25.length ≤ 2001 := by have := congrArg List.length hm_25; rw [List.length_map] at this; have h2 := seqz_length (ds := [1, 2]) (ss := [2, 1]) (t := 9); first | omega | (simp at h2; omega) | (simp only [List.length_append, List.length_cons, List.length_nil] at h2; omega)
              refine tl (y_len rfl rfl) rfl ?_
              refine tl (y_eq rfl rfl) rfl ?_
              refine tl_true (t := 213) rfl (by have h := congrArg List.length hm_25; rw [List.length_map] at h; rw [h]; decide) ?_
              refine tl (y_pick_t rfl rfl) rfl ?_
              refine tl (y_assign rfl) rfl ?_
              refine tl_end ?_
              refine ex_next ?_
              refine tc_ret ?_
              refine ex_ret1 rfl rfl (fun w hw => ?_)
              exact ⟨rfl, hw.pickT [] 14 rfl rfl⟩

end Go.Proofs.Yteilepombglalaa
