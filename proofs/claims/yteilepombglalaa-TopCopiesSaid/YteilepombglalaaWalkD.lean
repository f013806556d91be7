/-
  The order of the copies of a parallel assignment: proved by following its operations.
-/
import Derived.Test.YteilepombglalaaWalkC
set_option linter.unusedVariables false
namespace Go.Proofs.Yteilepombglalaa
open Go
theorem order_spec {x : Out} {S : List (List Chunk)} {A : Option Addr} {ps : List (Int × Int)} {c i : Nat} {L : List Chunk} (hx : Rd kP A ps c L) (hi : S[i]? = some L) (t : Int) (ht : ∀ q ∈ ps, q.1 ≠ t) (hl : ps.length ≤ 1048576) :
    Spec Try.prog 15 #[.slice A ps.length c, .int .i64 t] (St x (S)) (fun v w => ∃ A' : Option Addr, ∃ c' : Nat, ∃ L' : List Chunk, ∃ cy : Bool, v = .tuple #[.slice A' (sq (2 * ps.length + 1) (ps.filter fun p => !decide (p.2 = p.1)) t).length c', .bool cy] ∧ Own 54 kP A' (sq (2 * ps.length + 1) (ps.filter fun p => !decide (p.2 = p.1)) t) c' L' ∧ St x (L' :: S) w) := by
  refine spec_of (args := [.slice A ps.length c, .int .i64 t]) Try.func15 rfl rfl rfl ?_
  refine tc_seq ?_
  refine tc_region ?_
  refine tl (y_assign rfl) rfl ?_
  refine tl (y_assign rfl) rfl ?_
  refine tl_end ?_
  refine ex_next ?_
  refine tc_scope ?_
  refine tc_seq ?_
  refine tc_region ?_
  refine tl (y_assign rfl) rfl ?_
  refine tl_end ?_
  refine ex_next ?_
  refine tc_seq ?_
  refine tc_region ?_
  refine tl (y_move rfl) rfl ?_
  refine tl_call step_tl rfl rfl (clonep_spec (x := x) (S := (S)) (i := i) hx hi (by omega)) (fun _ h => h) rfl (fun v_ => tl_ex fun A_1 => tl_ex fun c_1 => tl_ex fun L_1 => tl_pure fun e_ => tl_val e_ ?_)
  refine tl_pure fun O_1 => ?_
  refine tl_call step_tl rfl rfl (deletef_spec (x := x) (S := S) O_1 24 [] (fun p => decide (p.2 = p.1)) rfl (fun S a => self_spec a) hl) (fun _ h => h) rfl (fun v_ => tl_ex fun A_2 => tl_ex fun c_2 => tl_ex fun L_2 => tl_pure fun e_ => tl_val e_ ?_)
  refine tl_pure fun O_2 => ?_
  obtain ⟨l0, hl0⟩ : ∃ l0, l0 = List.filter (fun p => !decide (p.2 = p.1)) ps := ⟨_, rfl⟩
  rw [← hl0] at O_2
  have hl0l : l0.length ≤ ps.length := by rw [hl0]; exact List.length_filter_le _ _
  have hl0t : ∀ q ∈ l0, q.1 ≠ t := fun q hq => ht q (by rw [hl0] at hq; exact (List.mem_filter.1 hq).1)
  refine tl_val (u := .slice A_2 l0.length c_2) (by rw [hl0]) ?_
  refine tl (y_assign rfl) rfl ?_
  refine tl_end ?_
  refine ex_next ?_
  refine tc_seq ?_
  refine tc_region ?_
  refine tl (y_assign rfl) rfl ?_
  refine tl_end ?_
  refine ex_next ?_
  refine tc_seq ?_
  refine tc_label ?_
  refine ex_next ?_
  refine tc_seq ?_
  refine tc_block ?_
  refine tc_loop (fun l_ C_ m_ => ∃ cur : List (Int × Int), ∃ out : List (Int × Int), ∃ f : Nat, ∃ cp : Nat, ∃ co : Nat, ∃ Ap : Option Addr, ∃ Ao : Option Addr, ∃ Lp : List Chunk, ∃ Lo : List Chunk, ∃ cy : Bool, (out ++ sq f cur t = sq (2 * ps.length + 1) l0 t) ∧ (mz cur ≤ f) ∧ (∀ q ∈ cur, q.1 ≠ t) ∧ (cur.length ≤ ps.length) ∧ (out.length + f ≤ 2 * ps.length + 1) ∧ (Own 54 kP Ap cur cp Lp) ∧ (Own 54 kP Ao out co Lo) ∧ l_ = [(0, .slice Ap cur.length cp), (1, .int .i64 t), (6, .slice Ao out.length co), (7, .bool cy)] ∧ C_ = St x (Lp :: Lo :: S) ∧ m_ = f + 1) ⟨l0, [], 2 * ps.length + 1, _, _, _, _, _, _, _, rfl, by have := mz_le (l := l0); omega, hl0t, hl0l, by simp, O_2, Own.nil, rfl, rfl, rfl⟩ (sc rfl (sc rfl (sc rfl (sc rfl sn)))) (fun _ h => h.empty.pickT [1, 0] 2 rfl rfl) ?_
  rintro _ _ _ ⟨cur, out, f, cp, co, Ap, Ao, Lp, Lo, cy, hR, hz, ht', hcl, hol, Op, Oo, rfl, rfl, rfl⟩
  refine tc_seq ?_
  refine tc_seq ?_
  refine tc_region ?_
  refine tl (y_move rfl) rfl ?_
  refine tl (y_len rfl rfl) rfl ?_
  refine tl (y_gt rfl rfl) rfl ?_
  refine tl_end ?_
  refine ex_next ?_
  refine tc_if rfl (fun h18 => ?_) (fun h18 => ?_)
  · refine tc_skip ?_
    refine ex_next ?_
    refine tc_block ?_
    refine tc_seq ?_
    refine tc_seq ?_
    have hne : cur ≠ [] := fun e => by rw [e] at h18; simp at h18
    have hfp : 0 < f := mz_pos hne hz
    refine tc_region ?_
    refine tl (y_move rfl) rfl ?_
    refine tl (y_len rfl rfl) rfl ?_
    refine tl (y_move rfl) rfl ?_
    refine tl_end ?_
    refine ex_next ?_
    refine tc_block ?_
    refine tc_loop (fun l_ C_ m_ => ∃ k : Int, (0 ≤ k ∧ k ≤ cur.length) ∧ (∀ q : Int, 0 ≤ q ∧ q < k → ¬ Free cur (gt cur q)) ∧ l_ = [(0, .slice Ap cur.length cp), (1, .int .i64 t), (6, .slice Ao out.length co), (7, .bool cy), (19, .slice Ap cur.length cp), (20, .int .i64 (cur.length : Int)), (21, .int .i64 k)] ∧ C_ = St x (Lp :: Lo :: S) ∧ m_ = (cur.length - k).toNat) ⟨_, by omega, fun q hq => absurd hq (by omega), rfl, rfl, rfl⟩ (sc rfl (sc rfl (sc rfl (sc rfl (sc rfl (sc rfl (sc rfl sn))))))) (fun _ h => h.pickT [0, 1] 2 rfl rfl) ?_
    rintro _ _ _ ⟨k, hk, hnf, rfl, rfl, rfl⟩
    refine tc_seq ?_
    refine tc_region ?_
    refine tl (y_lt rfl rfl) rfl ?_
    refine tl_end ?_
    refine ex_next ?_
    refine tc_seq ?_
    refine tc_if rfl (fun h22 => ?_) (fun h22 => ?_)
    · refine tc_skip ?_
      refine ex_next ?_
      refine tc_seq ?_
      refine tc_block ?_
      refine tc_seq ?_
      refine tc_region ?_
      refine tl (y_move rfl) rfl ?_
      refine tl (y_idx Op.rd rfl rfl rfl rfl (by omega)) rfl ?_
      refine tl (y_els (k := 0) Op.rd rfl rfl (by omega) rfl rfl) rfl ?_
      refine tl_alloc step_tl (cs := [.int .i64 0, .int .i64 0]) rfl rfl rfl (fun b_1 => ?_)
      refine tl (y_assign rfl) rfl ?_
      refine tl_store step_tl 0 (vs := [.int .i64 ((gt cur k).1), .int .i64 ((gt cur k).2)]) (cs' := [.int .i64 ((gt cur k).1), .int .i64 ((gt cur k).2)]) (S' := (bx b_1 [.int .i64 ((gt cur k).1), .int .i64 ((gt cur k).2)] 54 :: Lp :: Lo :: S)) rfl rfl rfl rfl rfl rfl rfl rfl rfl rfl ?_
      refine tl_end ?_
      refine ex_next ?_
      refine tc_seq ?_
      refine tc_region ?_
      refine tl (y_func (fi := []) (ca := [.tmp 9]) rfl rfl) rfl ?_
      refine tl (y_assign rfl) rfl ?_
      refine tl_end ?_
      refine ex_next ?_
      refine tc_seq ?_
      refine tc_region ?_
      refine tl (y_move rfl) rfl ?_
      refine tl (y_move rfl) rfl ?_
      refine tl_call step_tl rfl rfl (containsf_spec (x := x) (S := (bx b_1 [.int .i64 ((gt cur k).1), .int .i64 ((gt cur k).2)] 54 :: Lp :: Lo :: S)) (i := 1) Op.rd rfl 25 [.pointer (some ⟨b_1, 0, none⟩)] (fun a => decide (a.2 = (gt cur k).1)) rfl (fun a => reads_spec a) (by omega)) (fun _ h => h) rfl (fun v_ => tl_pure fun e_ => tl_val e_ ?_)
      refine tl (y_notd rfl) rfl ?_
      refine tl_end ?_
      refine ex_next ?_
      refine tc_if rfl (fun h30 => ?_) (fun h30 => ?_)
      · refine tc_seq ?_
        have hfi : freeIx cur = some k.toNat := freeIx_some (by omega) hnf (free_of h30)
        refine tc_region ?_
        refine tl (y_move rfl) rfl ?_
        refine tl (y_lds 0 (vs := [.int .i64 ((gt cur k).1), .int .i64 ((gt cur k).2)]) rfl rfl rfl rfl rfl) rfl ?_
        refine tl_one step_tl (K := kP) ((gt cur k).1, (gt cur k).2) rfl rfl rfl rfl rfl rfl rfl rfl rfl (fun A_3 L_3 O_3 => ?_)
        refine tl_append step_tl (by_ := 16) 3 0 Oo O_3.rd rfl rfl rfl rfl rfl rfl rfl rfl rfl rfl (by simp; omega) (by simp; omega) rfl (fun A_4 c_3 L_4 O_4 le_1 => ?_)
        change TG _ _ _ (St x (L_3 :: bx b_1 [.int .i64 ((gt cur k).1), .int .i64 ((gt cur k).2)] 54 :: Lp :: L_4 :: S))
        refine tl (y_assign rfl) rfl ?_
        refine tl_end ?_
        refine ex_next ?_
        refine tc_seq ?_
        refine tc_region ?_
        refine tl (y_move rfl) rfl ?_
        refine tl (y_move rfl) rfl ?_
        refine tl (y_move rfl) rfl ?_
        refine tl (y_addi rfl rfl (by omega)) rfl ?_
        refine tl_call step_tl rfl rfl (delete_spec (x := x) Op k (k + 1) (by omega) (by omega)) (fun _ h => h.pickT [2, 0, 1, 3] 4 rfl rfl) rfl (fun v_ => tl_ex fun A_5 => tl_ex fun c_4 => tl_ex fun L_5 => tl_pure fun e_ => tl_val e_ ?_)
        refine tl_pure fun O_5 => ?_
        refine tl (y_assign rfl) rfl ?_
        refine tl_end ?_
        refine ex_next ?_
        refine tc_exit ?_
        refine ex_block_miss rfl (ex_pass_exit (ex_pass_exit (ex_block_miss rfl (ex_pass_exit (ex_block_hit ?_)))))
        exact ex_round ⟨List.take k.toNat cur ++ List.drop (k + 1).toNat cur, out ++ [((gt cur k).1, (gt cur k).2)], f - 1, _, _, _, _, _, _, _, by rw [sq_free hfp hne hfi, erase_take_drop hk.1, Int.toNat_of_nonneg hk.1] at hR; rw [← hR, List.append_assoc]; rfl, by rw [← erase_take_drop hk.1]; exact mz_free hfi hz, fun q hq => ht' q (by rw [← erase_take_drop hk.1] at hq; exact List.mem_of_mem_eraseIdx hq), by simp; omega, by simp; omega, O_5, O_4, rfl, rfl, rfl⟩ (by omega) (sc rfl (sc rfl (sc rfl (sc rfl sn)))) (fun _ h => h.pickT [0, 3] 4 rfl rfl)
      · refine tc_skip ?_
        refine ex_block_end (ex_next ?_)
        refine tc_region ?_
        refine tl (y_addi rfl rfl (by omega)) rfl ?_
        refine tl (y_move rfl) rfl ?_
        refine tl_end ?_
        exact ex_round ⟨_, by omega, fun q hq => by rcases (by omega : q < k ∨ q = k) with h | h; exact hnf q ⟨hq.1, h⟩; rw [h]; exact fun hf => free_not hf (Classical.not_not.1 h30), rfl, rfl, rfl⟩ (by omega) (sc rfl (sc rfl (sc rfl (sc rfl (sc rfl (sc rfl (sc rfl sn))))))) (fun _ h => h.pickT [1, 2] 3 rfl rfl)
    · refine tc_exit ?_
      refine ex_pass_exit (ex_pass_exit (ex_block_hit (ex_next ?_)))
      refine tc_seq ?_
      have hfi : freeIx cur = none := freeIx_none (fun q hq => hnf q (by omega))
      have hcp : 0 < cur.length := List.length_pos_iff.2 hne
      refine tc_region ?_
      refine tl (y_assign rfl) rfl ?_
      refine tl_end ?_
      refine ex_next ?_
      refine tc_seq ?_
      refine tc_region ?_
      refine tl (y_move rfl) rfl ?_
      refine tl (y_idx Op.rd rfl rfl rfl rfl (by omega)) rfl ?_
      refine tl (y_fae rfl rfl rfl) rfl ?_
      refine tl (y_el (k := 0) Op.rd rfl rfl (by omega) rfl rfl) rfl ?_
      refine tl (y_assign rfl) rfl ?_
      refine tl_end ?_
      refine ex_next ?_
      refine tc_seq ?_
      refine tc_region ?_
      refine tl (y_move rfl) rfl ?_
      refine tl (y_move rfl) rfl ?_
      refine tl (y_move rfl) rfl ?_
      refine tl (y_build (is := [0, 1]) (xs := [.tmp 46, .tmp 47]) (vs := [.int .i64 t, .int .i64 ((gt cur 0).1)]) (cs := [.int .i64 t, .int .i64 ((gt cur 0).1)]) rfl rfl rfl) rfl ?_
      refine tl_one step_tl (K := kP) (t, (gt cur 0).1) rfl rfl rfl rfl rfl rfl rfl rfl rfl (fun A_6 L_6 O_6 => ?_)
      refine tl_append step_tl (by_ := 16) 2 0 Oo O_6.rd rfl rfl rfl rfl rfl rfl rfl rfl rfl rfl (by simp; omega) (by simp; omega) rfl (fun A_7 c_5 L_7 O_7 le_2 => ?_)
      change TG _ _ _ (St x (L_6 :: Lp :: L_7 :: S))
      refine tl (y_assign rfl) rfl ?_
      refine tl_end ?_
      refine ex_next ?_
      refine tc_seq ?_
      refine tc_region ?_
      refine tl (y_move rfl) rfl ?_
      refine tl (y_len rfl rfl) rfl ?_
      refine tl (y_move rfl) rfl ?_
      refine tl_end ?_
      refine ex_next ?_
      refine tc_block ?_
      refine tc_loop (fun l_ C_ m_ => ∃ k : Int, ∃ zs : List (Int × Int), ∃ L₀ : List Chunk, (0 ≤ k ∧ k ≤ cur.length) ∧ (zs.length = cur.length) ∧ (∀ q : Int, 0 ≤ q ∧ q < k → gt zs q = (if (gt cur q).2 = (gt cur 0).1 then ((gt cur q).1, t) else gt cur q)) ∧ (∀ q : Int, k ≤ q ∧ q < cur.length → gt zs q = gt cur q) ∧ (Own 54 kP Ap zs cp L₀) ∧ l_ = [(1, .int .i64 t), (6, .slice A_7 (out ++ [(t, (gt cur 0).1)]).length c_5), (7, .bool true), (11, .int .i64 ((gt cur 0).1)), (0, .slice Ap zs.length cp), (52, .int .i64 (cur.length : Int)), (53, .int .i64 k)] ∧ C_ = St x (L₀ :: L_7 :: S) ∧ m_ = (cur.length - k).toNat) ⟨_, cur, Lp, by omega, rfl, fun q hq => absurd hq (by omega), fun _ _ => rfl, Op, rfl, rfl, rfl⟩ (sc rfl (sc rfl (sc rfl (sc rfl (sc rfl (sc rfl (sc rfl sn))))))) (fun _ h => h.pickT [1, 2] 3 rfl rfl) ?_
      rintro _ _ _ ⟨k, zs, L₀, hk2, hyl, h1, h2, Oy, rfl, rfl, rfl⟩
      refine tc_seq ?_
      refine tc_region ?_
      refine tl (y_lt rfl rfl) rfl ?_
      refine tl_end ?_
      refine ex_next ?_
      refine tc_seq ?_
      refine tc_if rfl (fun h54 => ?_) (fun h54 => ?_)
      · refine tc_skip ?_
        refine ex_next ?_
        refine tc_seq ?_
        refine tc_block ?_
        refine tc_seq ?_
        refine tc_region ?_
        refine tl (y_move rfl) rfl ?_
        refine tl (y_assign rfl) rfl ?_
        refine tl_end ?_
        refine ex_next ?_
        refine tc_seq ?_
        refine tc_region ?_
        refine tl (y_move rfl) rfl ?_
        refine tl (y_move rfl) rfl ?_
        refine tl (y_idx Oy.rd rfl rfl rfl rfl (by omega)) rfl ?_
        refine tl (y_fae rfl rfl rfl) rfl ?_
        refine tl (y_el (k := 0) Oy.rd rfl rfl (by omega) rfl rfl) rfl ?_
        refine tl (y_move rfl) rfl ?_
        refine tl (y_eq rfl rfl) rfl ?_
        refine tl_end ?_
        refine ex_next ?_
        refine tc_if rfl (fun h62 => ?_) (fun h62 => ?_)
        · refine tc_region ?_
          refine tl (y_move rfl) rfl ?_
          refine tl (y_move rfl) rfl ?_
          refine tl (y_move rfl) rfl ?_
          refine tl (y_idx Oy.rd rfl rfl rfl rfl (by omega)) rfl ?_
          refine tl (y_fae rfl rfl rfl) rfl ?_
          refine tl_stel step_tl 0 ((gt zs k).1, t) Oy rfl rfl (vs := [.int .i64 t]) rfl rfl rfl (by omega) (Nat.le_of_ble_eq_true rfl) rfl rfl (fun L_8 O_8 => ?_)
          change TG _ _ _ (St x (L_8 :: L_7 :: S))
          refine tl_end ?_
          refine ex_block_end (ex_next ?_)
          refine tc_region ?_
          refine tl (y_addi rfl rfl (by omega)) rfl ?_
          refine tl (y_move rfl) rfl ?_
          refine tl_end ?_
          exact ex_round ⟨_, _, _, by omega, by first | omega | (rw [st_length]; omega), fun q hq => remap_step_T (by omega) hyl h1 (h2 k (by omega)) h62 q hq, fun q hq => by rw [gt_st (by omega) (by omega), if_neg (by omega)]; exact h2 q (by omega), O_8, rfl, rfl, rfl⟩ (by omega) (sc rfl (sc rfl (sc rfl (sc rfl (sce rfl (by first | rfl | simp [st]) (sc rfl (sc rfl sn))))))) (fun _ h => h.pickT [0, 1] 2 rfl rfl)
        · refine tc_skip ?_
          refine ex_block_end (ex_next ?_)
          refine tc_region ?_
          refine tl (y_addi rfl rfl (by omega)) rfl ?_
          refine tl (y_move rfl) rfl ?_
          refine tl_end ?_
          exact ex_round ⟨_, _, _, by omega, by first | omega | (rw [st_length]; omega), fun q hq => remap_step_F (by omega) hyl h1 (h2 k (by omega)) h62 q hq, fun q hq => h2 q (by omega), Oy, rfl, rfl, rfl⟩ (by omega) (sc rfl (sc rfl (sc rfl (sc rfl (sce rfl (by first | rfl | simp [st]) (sc rfl (sc rfl sn))))))) (fun _ h => h.pickT [0, 1] 2 rfl rfl)
      · have hys : zs = remap t (gt cur 0).1 cur := remap_done (by omega) hyl h1
        refine tc_exit ?_
        refine ex_pass_exit (ex_pass_exit (ex_block_hit (ex_block_end ?_)))
        exact ex_round ⟨zs, out ++ [(t, (gt cur 0).1)], f - 1, _, _, _, _, _, _, _, by rw [sq_none hfp hne hfi, ← hys] at hR; rw [← hR]; simp, by rw [hys]; exact mz_none hne ht' hfi hz, by rw [hys]; exact remap_fst ht', by omega, by simp; omega, Oy, O_7, rfl, rfl, rfl⟩ (by omega) (sc rfl (sc rfl (sc rfl (sc rfl sn)))) (fun _ h => h.pickT [0, 1] 2 rfl rfl)
  · refine tc_exit ?_
    refine ex_pass_exit (ex_pass_exit (ex_block_hit (ex_next ?_)))
    refine tc_seq ?_
    refine tc_region ?_
    refine tl (y_move rfl) rfl ?_
    refine tl (y_move rfl) rfl ?_
    refine tl (y_assign rfl) rfl ?_
    refine tl (y_assign rfl) rfl ?_
    refine tl_end ?_
    refine ex_next ?_
    refine tc_ret ?_
    refine ex_scope_ret ?_
    refine ex_ret2 rfl rfl rfl (fun w hw => ?_)
    have e : out = sq (2 * ps.length + 1) (ps.filter fun p => !decide (p.2 = p.1)) t := by have h0 : cur = [] := List.eq_nil_of_length_eq_zero (by omega); rw [h0, sq_nil, List.append_nil, hl0] at hR; exact hR
    subst e
    exact ⟨_, _, _, _, rfl, Oo, hw.pickT [1] 2 rfl rfl⟩

end Go.Proofs.Yteilepombglalaa
