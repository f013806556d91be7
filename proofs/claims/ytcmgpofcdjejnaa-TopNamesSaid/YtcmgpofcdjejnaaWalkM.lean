/-
  The law of names: proved by following its operations.
-/
import Derived.Test.YtcmgpofcdjejnaaWalkN
set_option linter.unusedVariables false
namespace Go.Proofs.Ytcmgpofcdjejnaa
open Go
set_option maxHeartbeats 800000 in
theorem names_walk {x : Out} {S : List (List Chunk)} {B : Option Addr} {ls : List (Row Int)} {c' j : Nat} {R : List Chunk} (limit : Int) (hlm : 0 ≤ limit ∧ limit ≤ 255) (hy : Rd (kR Int) B ls c' R) (hj : S[j]? = some R) (hrow : ∀ r ∈ ls, Rd (kI .u8) r.A r.xs r.c R ∧ (∀ n ∈ r.xs, isByte n) ∧ r.c ≤ maxLen) :
    Spec Try.prog 3 #[.int .u8 limit, .slice B ls.length c'] (St x (S)) (fun v w => v = .bool true ∧ St x S w) := by
  refine spec_of (args := [.int .u8 limit, .slice B ls.length c']) Try.func3 rfl rfl rfl ?_
  refine tc_seq ?_
  refine tc_region ?_
  refine tl (y_assign rfl) rfl ?_
  refine tl_end ?_
  refine ex_next ?_
  refine tc_seq ?_
  refine tc_region ?_
  refine tl (y_move rfl) rfl ?_
  refine tl (y_conv64 rfl rfl rfl (by omega)) rfl ?_
  refine tl (y_remi rfl rfl (by omega)) rfl ?_
  refine tl (y_assign rfl) rfl ?_
  refine tl_end ?_
  refine ex_next ?_
  refine tc_seq ?_
  refine tc_region ?_
  refine tl (y_move rfl) rfl ?_
  refine tl_call step_tl rfl rfl (new_spec (x := x) (S := (S)) (limit % 10) (limit % 10) (by omega)) (fun _ h => h) rfl (fun v_ => tl_ex fun b_t1 => tl_ex fun m_t1 => tl_ex fun M_t1 => tl_pure fun e_ => tl_val e_ ?_)
  refine tl_pure fun T_t1 => ?_
  refine tl (y_assign rfl) rfl ?_
  refine tl_end ?_
  refine ex_next ?_
  refine tc_seq ?_
  refine tc_region ?_
  refine tl (y_assign rfl) rfl ?_
  refine tl_end ?_
  refine ex_next ?_
  refine tc_seq ?_
  refine tc_seq ?_
  refine tc_region ?_
  refine tl (y_assign rfl) rfl ?_
  refine tl_end ?_
  refine ex_next ?_
  refine tc_block ?_
  refine tc_loop (fun l_ C_ m_ => ∃ i : Int, ∃ f : ByteArray → Option Int, ∃ Ak : Option Addr, ∃ Aa : Option Addr, ∃ rs : List (Row Int), ∃ ck : Nat, ∃ ca : Nat, ∃ M : List Chunk, ∃ K : List Chunk, ∃ LL : List Chunk, ∃ La : List Chunk, ∃ all : List ByteArray, (0 ≤ i ∧ i ≤ 40) ∧ (Tab m_t1 f Ak rs ck M K LL all) ∧ (all.length ≤ limit % 10) ∧ (Own 9 kS Aa all ca La) ∧ l_ = [(1, .slice B ls.length c'), (5, .int .i64 (limit % 10)), (6, .pointer (some ⟨b_t1, 0, none⟩)), (7, .slice Aa all.length ca), (8, .int .i64 i)] ∧ C_ = St x (bx b_t1 [.int .i64 (limit % 10), .map (some m_t1), .slice Ak rs.length ck] 66 :: M :: K :: LL :: La :: S) ∧ m_ = (40 - i).toNat) ⟨_, _, _, _, _, _, _, _, _, _, _, [], by omega, T_t1, by simp; omega, Own.nil, rfl, rfl, rfl⟩ (sc rfl (sc rfl (sc rfl (sc rfl (sc rfl sn))))) (fun _ h => (h.pickT [0, 1, 2, 3] 4 rfl rfl).empty.pickT [1, 2, 3, 4, 0] 5 rfl rfl) ?_
  rintro _ _ _ ⟨i, f, Ak, Aa, rs, ck, ca, M, K, LL, La, all, hi, T, hal, Oa, rfl, rfl, rfl⟩
  refine tc_seq ?_
  refine tc_seq ?_
  refine tc_region ?_
  refine tl (y_move rfl) rfl ?_
  refine tl (y_move rfl) rfl ?_
  refine tl (y_len rfl rfl) rfl ?_
  refine tl (y_lt rfl rfl) rfl ?_
  refine tl (y_move rfl) rfl ?_
  refine tl_if (t := 35) rfl (fun h35 => ?_) (fun h35 => ?_)
  · refine tl (y_move rfl) rfl ?_
    refine tl (y_lt rfl rfl) rfl ?_
    refine tl (y_pick_t rfl rfl) rfl ?_
    refine tl_end ?_
    refine ex_next ?_
    refine tc_if rfl (fun h38 => ?_) (fun h38 => ?_)
    · refine tc_skip ?_
      refine ex_next ?_
      refine tc_seq ?_
      refine tc_block ?_
      refine tc_seq ?_
      refine tc_tree [(0, .p), (1, .p), (2, .p), (3, .r), (4, .p), (5, .p), (6, .p), (7, .r), (8, .p), (9, .p), (10, .p), (12, .p)] (.quiet 0 .p (.quiet 1 .p (.quiet 2 .p (.quiet 3 .r (.quiet 4 .p (.quiet 5 .p (.quiet 6 .p (.quiet 7 .r (.quiet 8 .p (.quiet 9 .p (.quiet 10 .p (.fork 11 [] (.quiet 12 .p .done) .stop)))))))))))) (by kernel_rfl) (by kernel_rfl) ?_
      refine tt_p rfl (y_move rfl) rfl ?_
      refine tt_p rfl (y_move rfl) rfl ?_
      refine tt_p rfl (y_idx hy rfl rfl rfl rfl (by omega)) rfl ?_
      refine tt_r rfl (y_el0 (k := (j + 5)) hy rfl hj (by omega) rfl rfl) rfl ?_
      refine tt_p rfl (y_move rfl) rfl ?_
      refine tt_p rfl (y_move rfl) rfl ?_
      refine tt_p rfl (y_idx hy rfl rfl rfl rfl (by omega)) rfl ?_
      refine tt_r rfl (y_el0 (k := (j + 5)) hy rfl hj (by omega) rfl rfl) rfl ?_
      refine tt_p rfl (y_len rfl rfl) rfl ?_
      refine tt_p rfl (y_min rfl rfl) rfl ?_
      refine tt_p rfl (y_slh (K := (kI .u8)) rfl rfl rfl rfl ((hrow (gt ls i) (mem_gt (by omega))).1).le (by omega)) rfl ?_
      refine tl_call (step_tt rfl) rfl rfl (clone_spec (x := x) (S := (bx b_t1 [.int .i64 (limit % 10), .map (some m_t1), .slice Ak rs.length ck] 66 :: M :: K :: LL :: La :: S)) (i := (j + 5)) (((hrow (gt ls i) (mem_gt (by omega))).1).cut_h (h := min (((gt ls i).xs).length : Int) 6) (by omega)) hj (by first | omega | (rw [List.length_take]; omega))) (fun _ h => h) rfl (fun v_ => tl_ex fun A_1 => tl_ex fun c_1 => tl_ex fun L_1 => tl_pure fun e_ => tl_val e_ ?_)
      refine tl_pure fun O_1 => ?_
      refine kept_nil ?_
      refine tt_p rfl (y_assign rfl) rfl ?_
      refine tt_end ?_
      refine ex_next ?_
      refine tc_seq ?_
      obtain ⟨ks, hks⟩ : ∃ ks, ks = List.take (min (((gt ls i).xs).length : Int) 6).toNat ((gt ls i).xs) := ⟨_, rfl⟩
      have Oks : Own 5 (kI .u8) A_1 ks c_1 L_1 := by rw [hks]; exact O_1
      have hkb : ∀ n ∈ ks, isByte n := fun n hn => (hrow (gt ls i) (mem_gt (by omega))).2.1 n (by rw [hks] at hn; exact List.mem_of_mem_take hn)
      have hk6 : ks.length ≤ 6 := by rw [hks, List.length_take]; omega
      refine TC.sub (l' := [(1, .slice B ls.length c'), (5, .int .i64 (limit % 10)), (6, .pointer (some ⟨b_t1, 0, none⟩)), (7, .slice Aa all.length ca), (8, .int .i64 i), (9, .slice A_1 ks.length c_1)]) (C' := St x (L_1 :: bx b_t1 [.int .i64 (limit % 10), .map (some m_t1), .slice Ak rs.length ck] 66 :: M :: K :: LL :: La :: S)) (sc rfl (sc rfl (sc rfl (sc rfl (sc rfl (sce rfl (by rw [hks]) sn)))))) (fun _ h => h) ?_
      refine tc_region ?_
      refine tl (y_move rfl) rfl ?_
      refine tl (y_str (k := 0) Oks.rd rfl rfl rfl rfl rfl) rfl ?_
      refine tl (y_assign rfl) rfl ?_
      refine tl_end ?_
      refine ex_next ?_
      refine tc_seq ?_
      refine tc_region ?_
      refine tl (y_move rfl) rfl ?_
      refine tl (y_move rfl) rfl ?_
      refine tl_call step_tl rfl rfl (index_spec (x := x) (S := (L_1 :: bx b_t1 [.int .i64 (limit % 10), .map (some m_t1), .slice Ak rs.length ck] 66 :: M :: K :: LL :: La :: S)) (i := 5) Oa.rd rfl (bs ks) (by omega)) (fun _ h => h) rfl (fun v_ => tl_ex fun r => tl_pure fun e_ => tl_val e_ ?_)
      refine tl_pure fun hr' => ?_
      have hix : Ix all (bs ks) r := hr'
      refine tl (y_assign rfl) rfl ?_
      refine tl_end ?_
      refine ex_next ?_
      refine tc_seq ?_
      refine tc_region ?_
      refine tl (y_move rfl) rfl ?_
      refine tl (y_move rfl) rfl ?_
      refine tl_call step_tl rfl rfl (find_spec (x := x) (S := (L_1 :: La :: S)) (i := 0) T Oks.rd rfl) (fun _ h => h.pickT [1, 2, 3, 4, 0, 5] 6 rfl rfl) rfl (fun v_ => tl_pure fun e_ => tl_val e_ ?_)
      refine tl (y_move rfl) rfl ?_
      refine tl (y_extract (vs := [.int .i64 ((f (bs ks)).getD 0), .bool ((f (bs ks)).isSome)]) rfl rfl) rfl ?_
      refine tl (y_extract (vs := [.int .i64 ((f (bs ks)).getD 0), .bool ((f (bs ks)).isSome)]) rfl rfl) rfl ?_
      refine tl (y_assign rfl) rfl ?_
      refine tl (y_assign rfl) rfl ?_
      refine tl_end ?_
      refine ex_next ?_
      refine tc_seq ?_
      refine tc_seq ?_
      refine tc_region ?_
      refine tl (y_move rfl) rfl ?_
      refine tl (y_move rfl) rfl ?_
      refine tl (y_ge rfl rfl) rfl ?_
      refine tl (y_neb rfl rfl rfl) rfl ?_
      refine tl (y_move rfl) rfl ?_
      refine tl_false (t := 68) rfl (fun h => h (T.isSome hix)) ?_
      refine tl (y_move rfl) rfl ?_
      refine tl (y_move rfl) rfl ?_
      refine tl (y_max rfl rfl) rfl ?_
      refine tl (y_ne rfl rfl) rfl ?_
      refine tl (y_pick_f rfl rfl) rfl ?_
      refine tl (y_move rfl) rfl ?_
      refine tl_false (t := 74) rfl (fun h => h (T.getD hix)) ?_
      refine tl (y_move rfl) rfl ?_
      refine tl_call step_tl rfl rfl (hash_spec (x := x) (S := (bx b_t1 [.int .i64 (limit % 10), .map (some m_t1), .slice Ak rs.length ck] 66 :: M :: K :: LL :: L_1 :: La :: S)) (i := 4) Oks.rd rfl (by first | omega | (simp; done)) hkb) (fun _ h => h) rfl (fun v_ => tl_pure fun e_ => tl_val e_ ?_)
      refine tl (y_move rfl) rfl ?_
      refine tl_call step_tl rfl rfl (phash_spec (x := x) (S := (bx b_t1 [.int .i64 (limit % 10), .map (some m_t1), .slice Ak rs.length ck] 66 :: M :: K :: LL :: L_1 :: La :: S)) (i := 4) Oks.rd rfl (by first | omega | (simp; done)) hkb) (fun _ h => h) rfl (fun v_ => tl_pure fun e_ => tl_val e_ ?_)
      refine tl (y_ne rfl rfl) rfl ?_
      refine tl (y_pick_f rfl rfl) rfl ?_
      refine tl_end ?_
      refine ex_next ?_
      have h80 : ¬ ((hsh ks) ≠ (hsh ks)) := fun h => h rfl
      refine tc_if rfl (fun h' => absurd h' h80) (fun _ => ?_)
      refine tc_skip ?_
      refine ex_next ?_
      refine tc_seq ?_
      refine tc_region ?_
      refine tl (y_move rfl) rfl ?_
      refine tl (y_move rfl) rfl ?_
      refine tl_call step_tl rfl rfl (add_spec (x := x) (S := (L_1 :: La :: S)) (i := 0) T Oks.rd rfl hkb hk6 (by omega)) (fun _ h => h) rfl (fun v_ => tl_ex fun n_a1 => tl_ex fun er_a1 => tl_ex fun ad_a1 => tl_ex fun f_a1 => tl_ex fun A_a1 => tl_ex fun rs_a1 => tl_ex fun c_a1 => tl_ex fun M_a1 => tl_ex fun K_a1 => tl_ex fun LL_a1 => tl_ex fun all_a1 => tl_pure fun e_ => tl_val e_ ?_)
      refine tl_pure fun T_a1 => tl_pure fun hadd_a1 => ?_
      refine tl (y_move rfl) rfl ?_
      refine tl (y_extract (vs := [.int .i64 n_a1, .bool ad_a1, .int .i64 er_a1]) rfl rfl) rfl ?_
      refine tl (y_extract (vs := [.int .i64 n_a1, .bool ad_a1, .int .i64 er_a1]) rfl rfl) rfl ?_
      refine tl (y_extract (vs := [.int .i64 n_a1, .bool ad_a1, .int .i64 er_a1]) rfl rfl) rfl ?_
      refine tl (y_assign rfl) rfl ?_
      refine tl (y_assign rfl) rfl ?_
      refine tl (y_assign rfl) rfl ?_
      refine tl_end ?_
      refine ex_next ?_
      refine tc_seq ?_
      refine tc_join (fun l_ C_ => ∃ f2 : ByteArray → Option Int, ∃ Ak2 : Option Addr, ∃ Aa2 : Option Addr, ∃ rs2 : List (Row Int), ∃ ck2 : Nat, ∃ ca2 : Nat, ∃ M2 : List Chunk, ∃ K2 : List Chunk, ∃ LL2 : List Chunk, ∃ La2 : List Chunk, ∃ all2 : List ByteArray, (Tab m_t1 f2 Ak2 rs2 ck2 M2 K2 LL2 all2) ∧ (all2.length ≤ limit % 10) ∧ (Own 9 kS Aa2 all2 ca2 La2) ∧ l_ = [(1, .slice B ls.length c'), (5, .int .i64 (limit % 10)), (6, .pointer (some ⟨b_t1, 0, none⟩)), (7, .slice Aa2 all2.length ca2), (8, .int .i64 i), (9, .slice A_1 ks.length c_1)] ∧ C_ = St x (bx b_t1 [.int .i64 (limit % 10), .map (some m_t1), .slice Ak2 rs2.length ck2] 66 :: M2 :: K2 :: LL2 :: La2 :: L_1 :: S)) ?_ ?_
      · refine tc_block ?_
        refine tc_seq ?_
        refine tc_region ?_
        refine tl (y_move rfl) rfl ?_
        refine tl (y_ge rfl rfl) rfl ?_
        refine tl (y_assign rfl) rfl ?_
        refine tl_end ?_
        refine ex_next ?_
        refine tc_if rfl (fun h104 => ?_) (fun h104 => ?_)
        · refine tc_seq ?_
          obtain ⟨hn1, had1, her1, hal1⟩ := added_found T hix hadd_a1 h104
          refine tc_region ?_
          refine tl (y_move rfl) rfl ?_
          refine tl (y_move rfl) rfl ?_
          refine tl (y_ne rfl rfl) rfl ?_
          refine tl (y_move rfl) rfl ?_
          refine tl_false (t := 110) rfl (fun h => h hn1) ?_
          refine tl (y_move rfl) rfl ?_
          refine tl (y_pick_f rfl rfl) rfl ?_
          refine tl (y_move rfl) rfl ?_
          refine tl_is (t := 113) (b' := false) rfl (had1) ?_
          refine tl (y_move rfl) rfl ?_
          refine tl (y_ne rfl rfl) rfl ?_
          refine tl (y_pick_f rfl rfl) rfl ?_
          refine tl_end ?_
          refine ex_next ?_
          have h116 : ¬ (er_a1 ≠ 0) := fun h => h her1
          refine tc_if rfl (fun h' => absurd h' h116) (fun _ => ?_)
          refine tc_skip ?_
          refine ex_block_end ?_
          exact ex_join ⟨_, _, _, _, _, _, _, _, _, _, all_a1, T_a1, by rw [hal1]; first | omega | (simp; omega), by rw [hal1]; exact Oa, rfl, rfl⟩ (sc rfl (sc rfl (sc rfl (sce rfl (by rw [hal1]) (sc rfl (sc rfl sn)))))) (fun _ h => h.pickT [0, 1, 2, 3, 5, 4] 6 rfl rfl)
        · refine tc_seq ?_
          refine tc_region ?_
          refine tl (y_move rfl) rfl ?_
          refine tl (y_len rfl rfl) rfl ?_
          refine tl (y_move rfl) rfl ?_
          refine tl (y_eq rfl rfl) rfl ?_
          refine tl (y_assign rfl) rfl ?_
          refine tl_end ?_
          refine ex_next ?_
          refine tc_if rfl (fun h117 => ?_) (fun h117 => ?_)
          · refine tc_seq ?_
            obtain ⟨hn1, had1, her1, hal1⟩ := added_full T hix hadd_a1 h104 (by omega)
            refine tc_region ?_
            refine tl (y_move rfl) rfl ?_
            refine tl (y_ne rfl rfl) rfl ?_
            refine tl (y_move rfl) rfl ?_
            refine tl_false (t := 124) rfl (fun h => h hn1) ?_
            refine tl (y_move rfl) rfl ?_
            refine tl (y_pick_f rfl rfl) rfl ?_
            refine tl (y_move rfl) rfl ?_
            refine tl_is (t := 127) (b' := false) rfl (had1) ?_
            refine tl (y_move rfl) rfl ?_
            refine tl (y_ne rfl rfl) rfl ?_
            refine tl (y_pick_f rfl rfl) rfl ?_
            refine tl_end ?_
            refine ex_next ?_
            have h130 : ¬ (er_a1 ≠ 13) := fun h => h her1
            refine tc_if rfl (fun h' => absurd h' h130) (fun _ => ?_)
            refine tc_skip ?_
            refine ex_block_end ?_
            exact ex_join ⟨_, _, _, _, _, _, _, _, _, _, all_a1, T_a1, by rw [hal1]; first | omega | (simp; omega), by rw [hal1]; exact Oa, rfl, rfl⟩ (sc rfl (sc rfl (sc rfl (sce rfl (by rw [hal1]) (sc rfl (sc rfl sn)))))) (fun _ h => h.pickT [0, 1, 2, 3, 5, 4] 6 rfl rfl)
          · refine tc_seq ?_
            refine tc_seq ?_
            obtain ⟨hn1, had1, her1, hal1⟩ := added_new T hix hadd_a1 h104 (by omega)
            refine tc_region ?_
            refine tl (y_move rfl) rfl ?_
            refine tl (y_move rfl) rfl ?_
            refine tl (y_len rfl rfl) rfl ?_
            refine tl (y_ne rfl rfl) rfl ?_
            refine tl (y_move rfl) rfl ?_
            refine tl_false (t := 92) rfl (fun h => h hn1) ?_
            refine tl (y_move rfl) rfl ?_
            refine tl (y_not rfl) rfl ?_
            refine tl (y_pick_f rfl rfl) rfl ?_
            refine tl (y_move rfl) rfl ?_
            refine tl_is (t := 96) (b' := false) rfl (by rw [had1]; rfl) ?_
            refine tl (y_move rfl) rfl ?_
            refine tl (y_ne rfl rfl) rfl ?_
            refine tl (y_pick_f rfl rfl) rfl ?_
            refine tl_end ?_
            refine ex_next ?_
            have h99 : ¬ (er_a1 ≠ 0) := fun h => h her1
            refine tc_if rfl (fun h' => absurd h' h99) (fun _ => ?_)
            refine tc_skip ?_
            refine ex_next ?_
            refine tc_region ?_
            refine tl (y_move rfl) rfl ?_
            refine tl (y_move rfl) rfl ?_
            refine tl_one step_tl (K := kS) (bs ks) rfl rfl rfl rfl rfl rfl rfl rfl rfl (fun A_2 L_2 O_2 => ?_)
            refine tl_append step_tl (by_ := 16) 6 0 Oa O_2.rd rfl rfl rfl rfl rfl rfl rfl rfl rfl rfl (by simp; omega) (by simp; omega) rfl (fun A_3 c_2 L_3 O_3 le_1 => ?_)
            change TG _ _ _ (St x (L_2 :: bx b_t1 [.int .i64 (limit % 10), .map (some m_t1), .slice A_a1 rs_a1.length c_a1] 66 :: M_a1 :: K_a1 :: LL_a1 :: L_1 :: L_3 :: S))
            refine tl (y_assign rfl) rfl ?_
            refine tl_end ?_
            refine ex_block_end ?_
            exact ex_join ⟨_, _, _, _, _, _, _, _, _, _, all_a1, T_a1, by rw [hal1]; first | omega | (simp; omega), by rw [hal1]; exact O_3, rfl, rfl⟩ (sc rfl (sc rfl (sc rfl (sce rfl (by rw [hal1]) (sc rfl (sc rfl sn)))))) (fun _ h => h.pickT [1, 2, 3, 4, 6, 5] 7 rfl rfl)
      · rintro _ _ ⟨f2, Ak2, Aa2, rs2, ck2, ca2, M2, K2, LL2, La2, all2, T2, hal2, Oa2, rfl, rfl⟩
        refine ex_next ?_
        refine tc_seq ?_
        refine tc_seq ?_
        refine tc_region ?_
        refine tl (y_move rfl) rfl ?_
        refine tl (y_len rfl rfl) rfl ?_
        refine tl (y_move rfl) rfl ?_
        refine tl_end ?_
        refine ex_next ?_
        refine tc_block ?_
        refine tc_loop (fun l_ C_ m_ => ∃ q : Int, ∃ zs : List Int, ∃ Lz : List Chunk, (0 ≤ q ∧ q ≤ zs.length ∧ zs.length ≤ 6) ∧ (Own 5 (kI .u8) A_1 zs c_1 Lz) ∧ l_ = [(1, .slice B ls.length c'), (5, .int .i64 (limit % 10)), (6, .pointer (some ⟨b_t1, 0, none⟩)), (7, .slice Aa2 all2.length ca2), (8, .int .i64 i), (131, .slice A_1 ks.length c_1), (9, .slice A_1 zs.length c_1), (132, .int .i64 (zs.length : Int)), (133, .int .i64 q)] ∧ C_ = St x (bx b_t1 [.int .i64 (limit % 10), .map (some m_t1), .slice Ak2 rs2.length ck2] 66 :: M2 :: K2 :: LL2 :: La2 :: Lz :: S) ∧ m_ = (zs.length - q).toNat) ⟨0, ks, _, by omega, Oks, rfl, rfl, rfl⟩ (sc rfl (sc rfl (sc rfl (sc rfl (sc rfl (sc rfl (sc rfl (sc rfl (sc rfl sn))))))))) (fun _ h => h.pickT [0, 1, 2, 3, 4, 5] 6 rfl rfl) ?_
        rintro _ _ _ ⟨q, zs, Lz, hq, Oz, rfl, rfl, rfl⟩
        refine tc_seq ?_
        refine tc_region ?_
        refine tl (y_lt rfl rfl) rfl ?_
        refine tl_end ?_
        refine ex_next ?_
        refine tc_seq ?_
        refine tc_if rfl (fun h134 => ?_) (fun h134 => ?_)
        · refine tc_skip ?_
          refine ex_next ?_
          refine tc_seq ?_
          refine tc_block ?_
          refine tc_seq ?_
          refine tc_region ?_
          refine tl (y_move rfl) rfl ?_
          refine tl (y_assign rfl) rfl ?_
          refine tl_end ?_
          refine ex_next ?_
          refine tc_region ?_
          refine tl (y_move rfl) rfl ?_
          refine tl (y_move rfl) rfl ?_
          refine tl (y_idx Oz.rd rfl rfl rfl rfl (by omega)) rfl ?_
          refine tl (y_el0 (k := 5) Oz.rd rfl rfl (by omega) rfl rfl) rfl ?_
          refine tl (y_add rfl rfl) rfl ?_
          refine tl (y_idx Oz.rd rfl rfl rfl rfl (by omega)) rfl ?_
          refine tl_stel0 step_tl 5 (IntKind.u8.wrap ((gt zs q) + 1)) Oz rfl rfl (vs := [.int .u8 (IntKind.u8.wrap ((gt zs q) + 1))]) rfl rfl rfl (by omega) (Nat.le_of_ble_eq_true rfl) rfl rfl (fun L_4 O_4 => ?_)
          change TG _ _ _ (St x (bx b_t1 [.int .i64 (limit % 10), .map (some m_t1), .slice Ak2 rs2.length ck2] 66 :: M2 :: K2 :: LL2 :: La2 :: L_4 :: S))
          refine tl_end ?_
          refine ex_block_end (ex_next ?_)
          refine tc_region ?_
          refine tl (y_addi rfl rfl (by omega)) rfl ?_
          refine tl (y_move rfl) rfl ?_
          refine tl_end ?_
          exact ex_round ⟨_, _, _, by first | omega | (simp only [st_length]; omega), O_4, rfl, rfl, rfl⟩ (by first | omega | (simp only [st_length]; omega)) (sc rfl (sc rfl (sc rfl (sc rfl (sc rfl (sc rfl (sce rfl (by simp [st]) (sce rfl (by simp [st]) (sc rfl sn))))))))) (fun _ h => h.pickT [0, 1, 2, 3, 4, 5] 6 rfl rfl)
        · refine tc_exit ?_
          refine ex_pass_exit (ex_pass_exit (ex_block_hit (ex_next ?_)))
          refine tc_seq ?_
          refine tc_seq ?_
          refine tc_region ?_
          refine tl (y_move rfl) rfl ?_
          refine tl_call step_tl rfl rfl (tlen_spec (x := x) (S := (La2 :: Lz :: S)) T2) (fun _ h => h) rfl (fun v_ => tl_pure fun e_ => tl_val e_ ?_)
          refine tl (y_move rfl) rfl ?_
          refine tl (y_len rfl rfl) rfl ?_
          refine tl (y_ne rfl rfl) rfl ?_
          refine tl (y_move rfl) rfl ?_
          refine tl_false (t := 148) rfl (fun h => h rfl) ?_
          refine tl (y_move rfl) rfl ?_
          refine tl_call step_tl rfl rfl (key_spec (x := x) (S := (La2 :: Lz :: S)) T2 (-1)) (fun _ h => h) rfl (fun v_ => tl_ex fun A_k1 => tl_ex fun ys_k1 => tl_ex fun c_k1 => tl_ex fun L_k1 => tl_pure fun e_ => tl_val e_ ?_)
          refine tl_pure fun O_k1 => tl_pure fun hk_k1 => ?_
          refine tl (y_len rfl rfl) rfl ?_
          refine tl (y_gt rfl rfl) rfl ?_
          refine tl (y_pick_f rfl rfl) rfl ?_
          refine tl (y_move rfl) rfl ?_
          refine tl_false (t := 154) rfl (by rcases hk_k1 with ⟨h, _⟩ | ⟨_, h⟩; omega; rw [h]; simp) ?_
          refine tl (y_move rfl) rfl ?_
          refine tl (y_move rfl) rfl ?_
          refine tl (y_len rfl rfl) rfl ?_
          refine tl_call step_tl rfl rfl (key_spec (x := x) (S := (L_k1 :: La2 :: Lz :: S)) T2 (all2.length : Int)) (fun _ h => h.pickT [1, 2, 3, 4, 0, 5, 6] 7 rfl rfl) rfl (fun v_ => tl_ex fun A_k2 => tl_ex fun ys_k2 => tl_ex fun c_k2 => tl_ex fun L_k2 => tl_pure fun e_ => tl_val e_ ?_)
          refine tl_pure fun O_k2 => tl_pure fun hk_k2 => ?_
          refine tl (y_len rfl rfl) rfl ?_
          refine tl (y_gt rfl rfl) rfl ?_
          refine tl (y_pick_f rfl rfl) rfl ?_
          refine tl_end ?_
          refine ex_next ?_
          have h161 : ¬ (0 < (ys_k2.length : Int)) := by rcases hk_k2 with ⟨h, h', _⟩ | ⟨_, h⟩; omega; rw [h]; simp
          refine tc_if rfl (fun h' => absurd h' h161) (fun _ => ?_)
          refine tc_skip ?_
          refine ex_next ?_
          refine tc_seq ?_
          have hfew2 := T2.few
          refine tc_region ?_
          refine tl (y_move rfl) rfl ?_
          refine tl (y_len rfl rfl) rfl ?_
          refine tl (y_move rfl) rfl ?_
          refine tl_end ?_
          refine ex_next ?_
          refine tc_block ?_
          refine tc_loop (fun l_ C_ m_ => ∃ k : Int, (0 ≤ k ∧ k ≤ all2.length) ∧ l_ = [(1, .slice B ls.length c'), (5, .int .i64 (limit % 10)), (6, .pointer (some ⟨b_t1, 0, none⟩)), (7, .slice Aa2 all2.length ca2), (8, .int .i64 i), (162, .slice Aa2 all2.length ca2), (163, .int .i64 (all2.length : Int)), (164, .int .i64 k)] ∧ C_ = St x (bx b_t1 [.int .i64 (limit % 10), .map (some m_t1), .slice Ak2 rs2.length ck2] 66 :: M2 :: K2 :: LL2 :: La2 :: S) ∧ m_ = (all2.length - k).toNat) ⟨_, by omega, rfl, rfl, rfl⟩ (sc rfl (sc rfl (sc rfl (sc rfl (sc rfl (sc rfl (sc rfl (sc rfl sn)))))))) (fun _ h => h.pickT [1, 2, 3, 4, 6] 8 rfl rfl) ?_
          rintro _ _ _ ⟨k, hk9, rfl, rfl, rfl⟩
          refine tc_seq ?_
          refine tc_region ?_
          refine tl (y_lt rfl rfl) rfl ?_
          refine tl_end ?_
          refine ex_next ?_
          refine tc_seq ?_
          refine tc_if rfl (fun h165 => ?_) (fun h165 => ?_)
          · refine tc_skip ?_
            refine ex_next ?_
            refine tc_seq ?_
            refine tc_block ?_
            refine tc_seq ?_
            refine tc_region ?_
            refine tl (y_move rfl) rfl ?_
            refine tl (y_idx Oa2.rd rfl rfl rfl rfl (by omega)) rfl ?_
            refine tl (y_el0 (k := 4) Oa2.rd rfl rfl (by omega) rfl rfl) rfl ?_
            refine tl (y_assign rfl) rfl ?_
            refine tl (y_assign rfl) rfl ?_
            refine tl_end ?_
            refine ex_next ?_
            refine tc_seq ?_
            refine tc_region ?_
            refine tl (y_move rfl) rfl ?_
            refine tl (y_move rfl) rfl ?_
            refine tl_call step_tl rfl rfl (key_spec (x := x) (S := (La2 :: S)) T2 k) (fun _ h => h) rfl (fun v_ => tl_ex fun A_k3 => tl_ex fun ys_k3 => tl_ex fun c_k3 => tl_ex fun L_k3 => tl_pure fun e_ => tl_val e_ ?_)
            refine tl_pure fun O_k3 => tl_pure fun hk_k3 => ?_
            refine tl (y_assign rfl) rfl ?_
            refine tl_end ?_
            refine ex_next ?_
            refine tc_seq ?_
            refine tc_seq ?_
            refine tc_region ?_
            refine tl (y_move rfl) rfl ?_
            refine tl (y_str (k := 0) O_k3.rd rfl rfl rfl rfl rfl) rfl ?_
            refine tl (y_move rfl) rfl ?_
            refine tl (y_nes rfl rfl) rfl ?_
            refine tl_end ?_
            refine ex_next ?_
            have h175 : ¬ ((bs ys_k3) ≠ gt all2 k) := fun h => h (by rcases hk_k3 with ⟨_, _, h, _⟩ | ⟨h, _⟩; exact h; omega)
            refine tc_if rfl (fun h' => absurd h' h175) (fun _ => ?_)
            refine tc_skip ?_
            refine ex_next ?_
            refine tc_seq ?_
            refine tc_seq ?_
            have hy6 : ys_k3.length ≤ 6 := by rcases hk_k3 with ⟨_, _, _, _, h⟩ | ⟨h, _⟩; exact h; omega
            refine tc_region ?_
            refine tl (y_move rfl) rfl ?_
            refine tl (y_len rfl rfl) rfl ?_
            refine tl (y_move rfl) rfl ?_
            refine tl_end ?_
            refine ex_next ?_
            refine tc_block ?_
            refine tc_loop (fun l_ C_ m_ => ∃ q : Int, ∃ zs : List Int, ∃ Lz : List Chunk, (0 ≤ q ∧ q ≤ zs.length ∧ zs.length ≤ 6) ∧ (Own 5 (kI .u8) A_k3 zs c_k3 Lz) ∧ l_ = [(1, .slice B ls.length c'), (5, .int .i64 (limit % 10)), (6, .pointer (some ⟨b_t1, 0, none⟩)), (7, .slice Aa2 all2.length ca2), (8, .int .i64 i), (17, .int .i64 k), (18, .string (gt all2 k)), (162, .slice Aa2 all2.length ca2), (163, .int .i64 (all2.length : Int)), (164, .int .i64 k), (176, .slice A_k3 ys_k3.length c_k3), (19, .slice A_k3 zs.length c_k3), (177, .int .i64 (zs.length : Int)), (178, .int .i64 q)] ∧ C_ = St x (Lz :: bx b_t1 [.int .i64 (limit % 10), .map (some m_t1), .slice Ak2 rs2.length ck2] 66 :: M2 :: K2 :: LL2 :: La2 :: S) ∧ m_ = (zs.length - q).toNat) ⟨0, ys_k3, _, by omega, O_k3, rfl, rfl, rfl⟩ (sc rfl (sc rfl (sc rfl (sc rfl (sc rfl (sc rfl (sc rfl (sc rfl (sc rfl (sc rfl (sc rfl (sc rfl (sc rfl (sc rfl sn)))))))))))))) (fun _ h => h.pickT [0, 1, 2, 3, 4, 5] 6 rfl rfl) ?_
            rintro _ _ _ ⟨q, zs, Lz, hq, Oz, rfl, rfl, rfl⟩
            refine tc_seq ?_
            refine tc_region ?_
            refine tl (y_lt rfl rfl) rfl ?_
            refine tl_end ?_
            refine ex_next ?_
            refine tc_seq ?_
            refine tc_if rfl (fun h179 => ?_) (fun h179 => ?_)
            · refine tc_skip ?_
              refine ex_next ?_
              refine tc_seq ?_
              refine tc_block ?_
              refine tc_seq ?_
              refine tc_region ?_
              refine tl (y_move rfl) rfl ?_
              refine tl (y_assign rfl) rfl ?_
              refine tl_end ?_
              refine ex_next ?_
              refine tc_region ?_
              refine tl (y_move rfl) rfl ?_
              refine tl (y_move rfl) rfl ?_
              refine tl (y_idx Oz.rd rfl rfl rfl rfl (by omega)) rfl ?_
              refine tl (y_el0 (k := 0) Oz.rd rfl rfl (by omega) rfl rfl) rfl ?_
              refine tl (y_add rfl rfl) rfl ?_
              refine tl (y_idx Oz.rd rfl rfl rfl rfl (by omega)) rfl ?_
              refine tl_stel0 step_tl 0 (IntKind.u8.wrap ((gt zs q) + 1)) Oz rfl rfl (vs := [.int .u8 (IntKind.u8.wrap ((gt zs q) + 1))]) rfl rfl rfl (by omega) (Nat.le_of_ble_eq_true rfl) rfl rfl (fun L_5 O_5 => ?_)
              change TG _ _ _ (St x (L_5 :: bx b_t1 [.int .i64 (limit % 10), .map (some m_t1), .slice Ak2 rs2.length ck2] 66 :: M2 :: K2 :: LL2 :: La2 :: S))
              refine tl_end ?_
              refine ex_block_end (ex_next ?_)
              refine tc_region ?_
              refine tl (y_addi rfl rfl (by omega)) rfl ?_
              refine tl (y_move rfl) rfl ?_
              refine tl_end ?_
              exact ex_round ⟨_, _, _, by first | omega | (simp only [st_length]; omega), O_5, rfl, rfl, rfl⟩ (by first | omega | (simp only [st_length]; omega)) (sc rfl (sc rfl (sc rfl (sc rfl (sc rfl (sc rfl (sc rfl (sc rfl (sc rfl (sc rfl (sc rfl (sce rfl (by simp [st]) (sce rfl (by simp [st]) (sc rfl sn)))))))))))))) (fun _ h => h.pickT [0, 1, 2, 3, 4, 5] 6 rfl rfl)
            · refine tc_exit ?_
              refine ex_pass_exit (ex_pass_exit (ex_block_hit (ex_next ?_)))
              refine tc_seq ?_
              refine tc_region ?_
              refine tl (y_move rfl) rfl ?_
              refine tl (y_move rfl) rfl ?_
              refine tl_bytes step_tl (b := gt all2 k) rfl rfl rfl rfl rfl (fun A_4 c_3 L_6 R_1 => ?_)
              refine tl_call step_tl rfl rfl (find_spec (x := x) (S := (L_6 :: Lz :: La2 :: S)) (i := 0) T2 R_1 rfl) (fun _ h => h.pickT [2, 3, 4, 5, 0, 1, 6] 7 rfl rfl) rfl (fun v_ => tl_pure fun e_ => tl_val e_ ?_)
              refine tl (y_move rfl) rfl ?_
              refine tl (y_extract (vs := [.int .i64 ((f2 (bs (byts (gt all2 k)))).getD 0), .bool ((f2 (bs (byts (gt all2 k)))).isSome)]) rfl rfl) rfl ?_
              refine tl (y_extract (vs := [.int .i64 ((f2 (bs (byts (gt all2 k)))).getD 0), .bool ((f2 (bs (byts (gt all2 k)))).isSome)]) rfl rfl) rfl ?_
              refine tl (y_assign rfl) rfl ?_
              refine tl (y_assign rfl) rfl ?_
              refine tl_end ?_
              refine ex_next ?_
              refine tc_seq ?_
              refine tc_region ?_
              refine tl (y_move rfl) rfl ?_
              refine tl (y_not rfl) rfl ?_
              refine tl (y_move rfl) rfl ?_
              refine tl_is (t := 197) (b' := false) rfl (by rw [bs_byts, (T2.at_ (gt all2 k) k).2 ⟨hk9.1, by omega, rfl⟩]; rfl) ?_
              refine tl (y_move rfl) rfl ?_
              refine tl (y_move rfl) rfl ?_
              refine tl (y_ne rfl rfl) rfl ?_
              refine tl (y_pick_f rfl rfl) rfl ?_
              refine tl_end ?_
              refine ex_next ?_
              have h201 : ¬ (((f2 (bs (byts (gt all2 k)))).getD 0) ≠ k) := fun h => h (by rw [bs_byts, (T2.at_ (gt all2 k) k).2 ⟨hk9.1, by omega, rfl⟩]; rfl)
              refine tc_if rfl (fun h' => absurd h' h201) (fun _ => ?_)
              refine tc_skip ?_
              refine ex_block_end (ex_next ?_)
              refine tc_region ?_
              refine tl (y_addi rfl rfl (by omega)) rfl ?_
              refine tl (y_move rfl) rfl ?_
              refine tl_end ?_
              exact ex_round ⟨_, by omega, rfl, rfl, rfl⟩ (by omega) (sc rfl (sc rfl (sc rfl (sc rfl (sc rfl (sc rfl (sc rfl (sc rfl sn)))))))) (fun _ h => h.pickT [0, 1, 2, 3, 6] 7 rfl rfl)
          · refine tc_exit ?_
            refine ex_pass_exit (ex_pass_exit (ex_block_hit (ex_block_end (ex_next ?_))))
            refine tc_region ?_
            refine tl (y_move rfl) rfl ?_
            refine tl (y_addi rfl rfl (by omega)) rfl ?_
            refine tl (y_assign rfl) rfl ?_
            refine tl_end ?_
            exact ex_round ⟨_, _, _, _, _, _, _, _, _, _, _, _, by omega, T2, hal2, Oa2, rfl, rfl, rfl⟩ (by omega) (sc rfl (sc rfl (sc rfl (sc rfl (sc rfl sn))))) (fun _ h => h.pickT [0, 1, 2, 3, 4] 5 rfl rfl)
    · refine tc_exit ?_
      refine ex_pass_exit (ex_pass_exit (ex_block_hit (ex_next ?_)))
      refine tc_seq ?_
      refine tc_region ?_
      refine tl_call step_tl rfl rfl (new_spec (x := x) (S := (bx b_t1 [.int .i64 (limit % 10), .map (some m_t1), .slice Ak rs.length ck] 66 :: M :: K :: LL :: La :: S)) (-1) 0 (by omega)) (fun _ h => h) rfl (fun v_ => tl_ex fun b_t2 => tl_ex fun m_t2 => tl_ex fun M_t2 => tl_pure fun e_ => tl_val e_ ?_)
      refine tl_pure fun T_t2 => ?_
      refine tl_call step_tl rfl rfl (add0_spec (x := x) (S := (bx b_t1 [.int .i64 (limit % 10), .map (some m_t1), .slice Ak rs.length ck] 66 :: M :: K :: LL :: La :: S)) T_t2) (fun _ h => h) rfl (fun v_ => tl_ex fun n_l => tl_ex fun ad_l => tl_pure fun e_ => tl_val e_ ?_)
      refine tl (y_move rfl) rfl ?_
      refine tl (y_extract (vs := [.int .i64 n_l, .bool ad_l, .int .i64 13]) rfl rfl) rfl ?_
      refine tl (y_extract (vs := [.int .i64 n_l, .bool ad_l, .int .i64 13]) rfl rfl) rfl ?_
      refine tl (y_extract (vs := [.int .i64 n_l, .bool ad_l, .int .i64 13]) rfl rfl) rfl ?_
      refine tl (y_assign rfl) rfl ?_
      refine tl (y_assign rfl) rfl ?_
      refine tl (y_assign rfl) rfl ?_
      refine tl_end ?_
      refine ex_next ?_
      refine tc_seq ?_
      refine tc_region ?_
      refine tl (y_move rfl) rfl ?_
      refine tl (y_eq rfl rfl) rfl ?_
      refine tl (y_move rfl) rfl ?_
      refine tl_true (t := 211) rfl (rfl) ?_
      refine tl_one step_tl (K := (kI .u8)) 97 rfl rfl rfl rfl rfl rfl rfl rfl rfl (fun A_5 L_7 O_6 => ?_)
      refine tl_mark step_tl 0 O_6 (by simp) rfl rfl rfl rfl rfl (fun L_8 R_2 => ?_)
      change TG _ _ _ (St x (L_8 :: bx b_t1 [.int .i64 (limit % 10), .map (some m_t1), .slice Ak rs.length ck] 66 :: M :: K :: LL :: La :: S))
      refine tl_call step_tl rfl rfl (hash_spec (x := x) (S := (L_8 :: bx b_t1 [.int .i64 (limit % 10), .map (some m_t1), .slice Ak rs.length ck] 66 :: M :: K :: LL :: La :: S)) (i := 0) R_2 rfl (by first | omega | (simp; done)) (by simp [isByte])) (fun _ h => h) rfl (fun v_ => tl_pure fun e_ => tl_val e_ ?_)
      refine tl (y_eq rfl rfl) rfl ?_
      refine tl (y_pick_t rfl rfl) rfl ?_
      refine tl (y_assign rfl) rfl ?_
      refine tl_end ?_
      refine ex_next ?_
      refine tc_ret ?_
      refine ex_ret1 rfl rfl (fun w hw => ?_)
      exact ⟨by rw [show hsh [97] = 12638187200555641996 from by decide]; rfl, hw.pickT [] 6 rfl rfl⟩
  · refine tl_off rfl ?_
    refine tl_off rfl ?_
    refine tl (y_pick_f rfl rfl) rfl ?_
    refine tl_end ?_
    refine ex_next ?_
    refine tc_no rfl ?_
    refine tc_exit ?_
    refine ex_pass_exit (ex_pass_exit (ex_block_hit (ex_next ?_)))
    refine tc_seq ?_
    refine tc_region ?_
    refine tl_call step_tl rfl rfl (new_spec (x := x) (S := (bx b_t1 [.int .i64 (limit % 10), .map (some m_t1), .slice Ak rs.length ck] 66 :: M :: K :: LL :: La :: S)) (-1) 0 (by omega)) (fun _ h => h) rfl (fun v_ => tl_ex fun b_t3 => tl_ex fun m_t3 => tl_ex fun M_t3 => tl_pure fun e_ => tl_val e_ ?_)
    refine tl_pure fun T_t3 => ?_
    refine tl_call step_tl rfl rfl (add0_spec (x := x) (S := (bx b_t1 [.int .i64 (limit % 10), .map (some m_t1), .slice Ak rs.length ck] 66 :: M :: K :: LL :: La :: S)) T_t3) (fun _ h => h) rfl (fun v_ => tl_ex fun n_l => tl_ex fun ad_l => tl_pure fun e_ => tl_val e_ ?_)
    refine tl (y_move rfl) rfl ?_
    refine tl (y_extract (vs := [.int .i64 n_l, .bool ad_l, .int .i64 13]) rfl rfl) rfl ?_
    refine tl (y_extract (vs := [.int .i64 n_l, .bool ad_l, .int .i64 13]) rfl rfl) rfl ?_
    refine tl (y_extract (vs := [.int .i64 n_l, .bool ad_l, .int .i64 13]) rfl rfl) rfl ?_
    refine tl (y_assign rfl) rfl ?_
    refine tl (y_assign rfl) rfl ?_
    refine tl (y_assign rfl) rfl ?_
    refine tl_end ?_
    refine ex_next ?_
    refine tc_seq ?_
    refine tc_region ?_
    refine tl (y_move rfl) rfl ?_
    refine tl (y_eq rfl rfl) rfl ?_
    refine tl (y_move rfl) rfl ?_
    refine tl_true (t := 211) rfl (rfl) ?_
    refine tl_one step_tl (K := (kI .u8)) 97 rfl rfl rfl rfl rfl rfl rfl rfl rfl (fun A_6 L_9 O_7 => ?_)
    refine tl_mark step_tl 0 O_7 (by simp) rfl rfl rfl rfl rfl (fun L_10 R_3 => ?_)
    change TG _ _ _ (St x (L_10 :: bx b_t1 [.int .i64 (limit % 10), .map (some m_t1), .slice Ak rs.length ck] 66 :: M :: K :: LL :: La :: S))
    refine tl_call step_tl rfl rfl (hash_spec (x := x) (S := (L_10 :: bx b_t1 [.int .i64 (limit % 10), .map (some m_t1), .slice Ak rs.length ck] 66 :: M :: K :: LL :: La :: S)) (i := 0) R_3 rfl (by first | omega | (simp; done)) (by simp [isByte])) (fun _ h => h) rfl (fun v_ => tl_pure fun e_ => tl_val e_ ?_)
    refine tl (y_eq rfl rfl) rfl ?_
    refine tl (y_pick_t rfl rfl) rfl ?_
    refine tl (y_assign rfl) rfl ?_
    refine tl_end ?_
    refine ex_next ?_
    refine tc_ret ?_
    refine ex_ret1 rfl rfl (fun w hw => ?_)
    exact ⟨by rw [show hsh [97] = 12638187200555641996 from by decide]; rfl, hw.pickT [] 6 rfl rfl⟩

end Go.Proofs.Ytcmgpofcdjejnaa
