/-
  Rows of pairs asked and shortened: the library's functions, each with what it does: proved by following its operations.
-/
import Derived.Test.YteilepombglalaaWalkB
set_option linter.unusedVariables false
namespace Go.Proofs.Yteilepombglalaa
open Go
theorem indexf_spec {x : Out} {S : List (List Chunk)} {A : Option Addr} {xs : List (Int × Int)} {c i : Nat} {L : List Chunk} (hx : Rd kP A xs c L) (hi : S[i]? = some L) (fb : FuncId) (caps : List Value) (p : Int × Int → Bool) (hcall : callB Try.prog fb = true) (hf : ∀ a : Int × Int, Spec Try.prog fb ([] ++ [Value.agg (kP.enc a).toArray] ++ caps).toArray (St x S) (fun v w => v = .bool (p a) ∧ St x S w)) (hl : xs.length ≤ 1048576) :
    Spec Try.prog 28 #[.slice A xs.length c, .func (.func fb) #[] caps.toArray] (St x S) (fun v w => ∃ r : Int, v = .int .i64 r ∧ ((0 ≤ r ∧ r < xs.length ∧ p (gt xs r) = true ∧ ∀ q : Int, 0 ≤ q ∧ q < r → p (gt xs q) = false) ∨ (r = -1 ∧ ∀ q : Int, 0 ≤ q ∧ q < xs.length → p (gt xs q) = false)) ∧ St x S w) := by
  refine spec_of (args := [.slice A xs.length c, .func (.func fb) #[] caps.toArray]) Try.func28 rfl rfl rfl ?_
  refine tc_seq ?_
  refine tc_region ?_
  refine tl (y_assign rfl) rfl ?_
  refine tl_end ?_
  refine ex_next ?_
  refine tc_seq ?_
  refine tc_seq ?_
  refine tc_region ?_
  refine tl (y_move rfl) rfl ?_
  refine tl (y_len rfl rfl) rfl ?_
  refine tl (y_move rfl) rfl ?_
  refine tl_end ?_
  refine ex_next ?_
  refine tc_block ?_
  refine tc_loop (fun l_ C_ m_ => ∃ k : Int, (0 ≤ k ∧ k ≤ xs.length) ∧ (∀ q : Int, 0 ≤ q ∧ q < k → p (gt xs q) = false) ∧ l_ = [(0, .slice A xs.length c), (1, .func (.func fb) #[] caps.toArray), (6, .slice A xs.length c), (7, .int .i64 (xs.length : Int)), (8, .int .i64 k)] ∧ C_ = St x S ∧ m_ = (xs.length - k).toNat) ⟨_, by omega, fun q hq => absurd hq (by omega), rfl, rfl, rfl⟩ (sc rfl (sc rfl (sc rfl (sc rfl (sc rfl sn))))) (fun _ h => h) ?_
  rintro _ _ _ ⟨k, hk, hq', rfl, rfl, rfl⟩
  refine tc_seq ?_
  refine tc_region ?_
  refine tl (y_lt rfl rfl) rfl ?_
  refine tl_end ?_
  refine ex_next ?_
  refine tc_seq ?_
  refine tc_if rfl (fun h9 => ?_) (fun h9 => ?_)
  · refine tc_skip ?_
    refine ex_next ?_
    refine tc_seq ?_
    refine tc_block ?_
    refine tc_seq ?_
    refine tc_region ?_
    refine tl (y_move rfl) rfl ?_
    refine tl (y_assign rfl) rfl ?_
    refine tl_end ?_
    refine ex_next ?_
    refine tc_seq ?_
    refine tc_region ?_
    skip
    refine tl (y_move rfl) rfl ?_
    refine tl (y_move rfl) rfl ?_
    refine tl (y_move rfl) rfl ?_
    refine tl (y_idx hx rfl rfl rfl rfl (by omega)) rfl ?_
    refine tl (y_els (k := i) hx rfl hi (by omega) rfl rfl) rfl ?_
    refine tl_callv step_tl (first := []) (vs := [.agg #[.int .i64 ((gt xs k).1), .int .i64 ((gt xs k).2)]]) (caps := caps) rfl rfl hcall (hf (gt xs k)) (fun _ h => h) rfl (fun v_ => tl_pure fun e_ => tl_val e_ ?_)
    refine tl_end ?_
    refine ex_next ?_
    refine tc_cond rfl (fun h16 => ?_) (fun h16 => ?_)
    · refine tc_seq ?_
      refine tc_region ?_
      refine tl (y_move rfl) rfl ?_
      refine tl (y_assign rfl) rfl ?_
      refine tl_end ?_
      refine ex_next ?_
      refine tc_ret ?_
      refine ex_block_ret (ex_pass_ret (ex_pass_ret (ex_block_ret (ex_pass_ret ?_))))
      refine ex_ret1 rfl rfl (fun w hw => ?_)
      exact ⟨k, rfl, .inl ⟨hk.1, by omega, h16, hq'⟩, hw⟩
    · refine tc_skip ?_
      refine ex_block_end (ex_next ?_)
      refine tc_region ?_
      refine tl (y_addi rfl rfl (by omega)) rfl ?_
      refine tl (y_move rfl) rfl ?_
      refine tl_end ?_
      exact ex_round ⟨_, by omega, fun q hq => by rcases (by omega : q < k ∨ q = k) with h | h; exact hq' q ⟨hq.1, h⟩; rw [h]; exact h16, rfl, rfl, rfl⟩ (by omega) (sc rfl (sc rfl (sc rfl (sc rfl (sc rfl sn))))) (fun _ h => h)
  · refine tc_exit ?_
    refine ex_pass_exit (ex_pass_exit (ex_block_hit (ex_next ?_)))
    refine tc_seq ?_
    refine tc_region ?_
    refine tl (y_assign rfl) rfl ?_
    refine tl_end ?_
    refine ex_next ?_
    refine tc_ret ?_
    refine ex_ret1 rfl rfl (fun w hw => ?_)
    exact ⟨-1, rfl, .inr ⟨rfl, fun q hq => hq' q (by omega)⟩, hw⟩

theorem containsf_spec {x : Out} {S : List (List Chunk)} {A : Option Addr} {xs : List (Int × Int)} {c i : Nat} {L : List Chunk} (hx : Rd kP A xs c L) (hi : S[i]? = some L) (fb : FuncId) (caps : List Value) (p : Int × Int → Bool) (hcall : callB Try.prog fb = true) (hf : ∀ a : Int × Int, Spec Try.prog fb ([] ++ [Value.agg (kP.enc a).toArray] ++ caps).toArray (St x S) (fun v w => v = .bool (p a) ∧ St x S w)) (hl : xs.length ≤ 1048576) :
    Spec Try.prog 26 #[.slice A xs.length c, .func (.func fb) #[] caps.toArray] (St x S) (fun v w => v = .bool (decide (∃ a ∈ xs, p a = true)) ∧ St x S w) := by
  refine spec_of (args := [.slice A xs.length c, .func (.func fb) #[] caps.toArray]) Try.func26 rfl rfl rfl ?_
  refine tc_seq ?_
  refine tc_region ?_
  refine tl (y_assign rfl) rfl ?_
  refine tl_end ?_
  refine ex_next ?_
  refine tc_seq ?_
  refine tc_region ?_
  refine tl (y_move rfl) rfl ?_
  refine tl (y_move rfl) rfl ?_
  refine tl_call step_tl rfl rfl (indexf_spec (x := x) (S := S) (i := i) hx hi fb caps p hcall hf hl) (fun _ h => h) rfl (fun v_ => tl_ex fun r => tl_pure fun e_ => tl_val e_ ?_)
  refine tl_pure fun hr => ?_
  refine tl (y_ge rfl rfl) rfl ?_
  refine tl (y_assign rfl) rfl ?_
  refine tl_end ?_
  refine ex_next ?_
  refine tc_ret ?_
  refine ex_ret1 rfl rfl (fun w hw => ?_)
  refine ⟨bool_iff ⟨fun h => ?_, fun ⟨a, ha, hp⟩ => ?_⟩, hw⟩
  · rcases hr with ⟨h1, h2, h3, _⟩ | ⟨h1, _⟩
    · exact ⟨_, mem_gt ⟨h1, h2⟩, h3⟩
    · omega
  · rcases hr with ⟨h1, _⟩ | ⟨_, h2⟩
    · exact h1
    · obtain ⟨q, h3, h4, rfl⟩ := gt_of_mem ha; rw [h2 q ⟨h3, h4⟩] at hp; cases hp

theorem delete_spec {x : Out} {S : List (List Chunk)} {A : Option Addr} {xs : List (Int × Int)} {c : Nat} {L : List Chunk} (O : Own 54 kP A xs c L) (a b : Int) (hab : 0 ≤ a ∧ a ≤ b ∧ b ≤ xs.length) (hl : xs.length ≤ 1048576) :
    Spec Try.prog 27 #[.slice A xs.length c, .int .i64 a, .int .i64 b] (St x (L :: S)) (fun v w => ∃ A' : Option Addr, ∃ c' : Nat, ∃ L' : List Chunk, v = .slice A' (xs.take a.toNat ++ xs.drop b.toNat).length c' ∧ Own 54 kP A' (xs.take a.toNat ++ xs.drop b.toNat) c' L' ∧ St x (L' :: S) w) := by
  have hle := O.rd.le
  refine spec_of (args := [.slice A xs.length c, .int .i64 a, .int .i64 b]) Try.func27 rfl rfl rfl ?_
  refine tc_seq ?_
  refine tc_region ?_
  refine tl (y_assign rfl) rfl ?_
  refine tl_end ?_
  refine ex_next ?_
  refine tc_seq ?_
  refine tc_region ?_
  refine tl (y_move rfl) rfl ?_
  refine tl (y_move rfl) rfl ?_
  refine tl (y_move rfl) rfl ?_
  refine tl (y_move rfl) rfl ?_
  refine tl (y_len rfl rfl) rfl ?_
  refine tl (y_sl3 (K := kP) rfl rfl rfl rfl rfl rfl (by omega)) rfl ?_
  refine tl_end ?_
  refine ex_next ?_
  refine tc_seq ?_
  refine tc_seq ?_
  refine tc_region ?_
  refine tl (y_move rfl) rfl ?_
  refine tl (y_move rfl) rfl ?_
  refine tl (y_eq rfl rfl) rfl ?_
  refine tl_end ?_
  refine ex_next ?_
  refine tc_if rfl (fun h16 => ?_) (fun h16 => ?_)
  · refine tc_seq ?_
    refine tc_region ?_
    refine tl (y_move rfl) rfl ?_
    refine tl (y_assign rfl) rfl ?_
    refine tl_end ?_
    refine ex_next ?_
    refine tc_ret ?_
    refine ex_pass_ret ?_
    refine ex_ret1 rfl rfl (fun w hw => ?_)
    exact ⟨_, _, _, by rw [h16, List.take_append_drop], by rw [h16, List.take_append_drop]; exact O, hw⟩
  · refine tc_skip ?_
    refine ex_next ?_
    refine tc_seq ?_
    refine tc_region ?_
    refine tl (y_move rfl) rfl ?_
    refine tl (y_len rfl rfl) rfl ?_
    refine tl (y_assign rfl) rfl ?_
    refine tl_end ?_
    refine ex_next ?_
    refine tc_seq ?_
    refine tc_tree [(0, .p), (1, .p), (2, .p), (3, .p), (4, .p), (5, .p), (7, .p)] (.quiet 0 .p (.quiet 1 .p (.quiet 2 .p (.quiet 3 .p (.quiet 4 .p (.quiet 5 .p (.fork 6 [] (.quiet 7 .p .done) .stop))))))) (by kernel_rfl) (by kernel_rfl) ?_
    refine tt_p rfl (y_move rfl) rfl ?_
    refine tt_p rfl (y_move rfl) rfl ?_
    refine tt_p rfl (y_slh (K := kP) rfl rfl rfl rfl O.rd.le (by omega)) rfl ?_
    refine tt_p rfl (y_move rfl) rfl ?_
    refine tt_p rfl (y_move rfl) rfl ?_
    refine tt_p rfl (y_sll (K := kP) rfl rfl rfl rfl O.rd.le (by omega)) rfl ?_
    refine tl_append (step_tt rfl) (by_ := 16) 0 0 (O.cut_h (h := a) (by omega)) (O.cut_l (h := b) (by omega)).rd rfl rfl rfl rfl rfl rfl rfl rfl rfl rfl (by simp; omega) (by simp; omega) rfl (fun A_1 c_1 L_1 O_1 le_1 => ?_)
    change TG _ _ _ (St x (L_1 :: S))
    refine kept_nil ?_
    refine tt_p rfl (y_assign rfl) rfl ?_
    refine tt_end ?_
    refine ex_next ?_
    refine tc_seq ?_
    refine tc_region ?_
    refine tl (y_move rfl) rfl ?_
    refine tl (y_move rfl) rfl ?_
    refine tl (y_len rfl rfl) rfl ?_
    refine tl (y_move rfl) rfl ?_
    refine tl (y_slcap (K := kP) rfl rfl rfl rfl rfl (by simp; omega)) rfl ?_
    refine tl_clear rfl step_tl 0 (0, 0) O_1 (((List.take a.toNat xs ++ List.drop b.toNat xs).length : Int).toNat) ((xs.length : Int).toNat - ((List.take a.toNat xs ++ List.drop b.toNat xs).length : Int).toNat) rfl (by simp) (by simp; omega) rfl rfl rfl rfl rfl (fun ys_1 L_2 hl_1 ht_1 O_2 => ?_)
    change TG _ _ _ (St x (L_2 :: S))
    refine TL.sub (l' := [(0, .slice A_1 ys_1.length c_1), (1, .int .i64 a), (2, .int .i64 b), (6, .slice none 0 0), (8, .slice A xs.length c), (9, .int .i64 a), (10, .int .i64 b), (11, .slice A xs.length c), (12, .int .i64 (xs.length : Int)), (13, .slice (sla A a.toNat (xs.length : Int).toNat kP.sz) (b.toNat - a.toNat) ((xs.length : Int).toNat - a.toNat)), (14, .int .i64 a), (15, .int .i64 b), (16, .bool (decide (a = b))), (18, .slice A xs.length c), (19, .int .i64 (xs.length : Int)), (7, .int .i64 (xs.length : Int)), (20, .slice A xs.length c), (21, .int .i64 a), (22, .slice (sla A 0 c kP.sz) (List.take a.toNat xs).length c), (23, .slice A xs.length c), (24, .int .i64 b), (25, .slice (sla A b.toNat c kP.sz) (List.drop b.toNat xs).length (c - b.toNat)), (26, .slice A_1 ys_1.length c_1), (27, .slice A_1 ys_1.length c_1), (28, .slice A_1 ys_1.length c_1), (29, .int .i64 ((List.take a.toNat xs ++ List.drop b.toNat xs).length : Int)), (30, .int .i64 (xs.length : Int)), (31, .slice (sla A_1 ((List.take a.toNat xs ++ List.drop b.toNat xs).length : Int).toNat c_1 kP.sz) ((xs.length : Int).toNat - ((List.take a.toNat xs ++ List.drop b.toNat xs).length : Int).toNat) (c_1 - ((List.take a.toNat xs ++ List.drop b.toNat xs).length : Int).toNat))]) (sce rfl (by rw [hl_1]) (sc rfl (sc rfl (sc rfl (sc rfl (sc rfl (sc rfl (sc rfl (sc rfl (sc rfl (sc rfl (sc rfl (sc rfl (sc rfl (sc rfl (sc rfl (sc rfl (sc rfl (sc rfl (sc rfl (sc rfl (sc rfl (sce rfl (by rw [hl_1]) (sce rfl (by rw [hl_1]) (sce rfl (by rw [hl_1]) (sc rfl (sc rfl (sc rfl sn)))))))))))))))))))))))))))) (fun _ h => h) ?_
    refine tl_end ?_
    refine ex_next ?_
    refine tc_seq ?_
    refine tc_region ?_
    refine tl (y_move rfl) rfl ?_
    refine tl (y_assign rfl) rfl ?_
    refine tl_end ?_
    refine ex_next ?_
    refine tc_ret ?_
    refine ex_ret1 rfl rfl (fun w hw => ?_)
    have e : ys_1 = List.take a.toNat xs ++ List.drop b.toNat xs := by rw [take_all hl_1 (by omega)] at ht_1; exact ht_1
    subst e
    exact ⟨_, _, _, rfl, O_2, hw⟩

theorem deletef_spec {x : Out} {S : List (List Chunk)} {A : Option Addr} {xs : List (Int × Int)} {c : Nat} {L : List Chunk} (O : Own 54 kP A xs c L) (fb : FuncId) (caps : List Value) (p : Int × Int → Bool) (hcall : callB Try.prog fb = true) (hd : ∀ (S : List (List Chunk)) (a : Int × Int), Spec Try.prog fb ([] ++ [Value.agg (kP.enc a).toArray] ++ caps).toArray (St x S) (fun v w => v = .bool (p a) ∧ St x S w)) (hl : xs.length ≤ 1048576) :
    Spec Try.prog 22 #[.slice A xs.length c, .func (.func fb) #[] caps.toArray] (St x (L :: S)) (fun v w => ∃ A' : Option Addr, ∃ c' : Nat, ∃ L' : List Chunk, v = .slice A' (xs.filter fun a => !p a).length c' ∧ Own 54 kP A' (xs.filter fun a => !p a) c' L' ∧ St x (L' :: S) w) := by
  have hle := O.rd.le
  refine spec_of (args := [.slice A xs.length c, .func (.func fb) #[] caps.toArray]) Try.func22 rfl rfl rfl ?_
  refine tc_seq ?_
  refine tc_region ?_
  refine tl (y_assign rfl) rfl ?_
  refine tl_end ?_
  refine ex_next ?_
  refine tc_seq ?_
  refine tc_region ?_
  refine tl (y_move rfl) rfl ?_
  refine tl (y_move rfl) rfl ?_
  refine tl_call step_tl rfl rfl (indexf_spec (x := x) (S := (L :: S)) (i := 0) O.rd rfl fb caps p hcall (fun a => hd _ a) hl) (fun _ h => h) rfl (fun v_ => tl_ex fun r => tl_pure fun e_ => tl_val e_ ?_)
  refine tl_pure fun hr => ?_
  refine tl (y_assign rfl) rfl ?_
  refine tl_end ?_
  refine ex_next ?_
  refine tc_seq ?_
  refine tc_seq ?_
  refine tc_region ?_
  have hr1 : -1 ≤ r ∧ r < xs.length := by rcases hr with ⟨h1, h2, _⟩ | ⟨h1, _⟩ <;> omega
  refine tl (y_move rfl) rfl ?_
  refine tl (y_eq rfl rfl) rfl ?_
  refine tl_end ?_
  refine ex_next ?_
  refine tc_if rfl (fun h12 => ?_) (fun h12 => ?_)
  · refine tc_seq ?_
    refine tc_region ?_
    refine tl (y_move rfl) rfl ?_
    refine tl (y_assign rfl) rfl ?_
    refine tl_end ?_
    refine ex_next ?_
    refine tc_ret ?_
    refine ex_pass_ret ?_
    refine ex_ret1 rfl rfl (fun w hw => ?_)
    obtain ⟨_, h2⟩ : r = -1 ∧ ∀ q : Int, 0 ≤ q ∧ q < xs.length → p (gt xs q) = false := by rcases hr with ⟨h, _⟩ | h; omega; exact h
    have e : xs.filter (fun a => !p a) = xs := List.filter_eq_self.2 (fun a ha => by obtain ⟨q, h3, h4, rfl⟩ := gt_of_mem ha; rw [h2 q ⟨h3, h4⟩]; rfl)
    exact ⟨_, _, _, by rw [e], by rw [e]; exact O, hw⟩
  · refine tc_skip ?_
    refine ex_next ?_
    refine tc_seq ?_
    refine tc_seq ?_
    refine tc_region ?_
    refine tl (y_move rfl) rfl ?_
    refine tl (y_addi rfl rfl (by omega)) rfl ?_
    refine tl (y_assign rfl) rfl ?_
    refine tl_end ?_
    refine ex_next ?_
    refine tc_block ?_
    refine tc_loop (fun l_ C_ m_ => ∃ k : Int, ∃ j : Int, ∃ ys : List (Int × Int), ∃ L₀ : List Chunk, (0 ≤ k ∧ k < j ∧ j ≤ xs.length) ∧ (ys.length = xs.length) ∧ (ys.take k.toNat = (xs.take j.toNat).filter (fun a => !p a)) ∧ (∀ q : Int, j ≤ q ∧ q < xs.length → gt ys q = gt xs q) ∧ (Own 54 kP A ys c L₀) ∧ l_ = [(0, .slice A ys.length c), (1, .func (.func fb) #[] caps.toArray), (5, .int .i64 k), (6, .int .i64 j)] ∧ C_ = St x (L₀ :: S) ∧ m_ = (xs.length - j).toNat) ⟨r, _, xs, L, by rcases hr with ⟨h1, h2, _⟩ | ⟨h1, _⟩ <;> omega, rfl, first_kept (by rcases hr with h | ⟨h, _⟩; exact h; omega), fun _ _ => rfl, O, rfl, rfl, rfl⟩ (sc rfl (sc rfl (sc rfl (sc rfl sn)))) (fun _ h => h.pickT [0] 1 rfl rfl) ?_
    rintro _ _ _ ⟨k, j, ys, L₀, hk, hyl, hf, hq', Oy, rfl, rfl, rfl⟩
    refine tc_seq ?_
    refine tc_seq ?_
    refine tc_region ?_
    refine tl (y_move rfl) rfl ?_
    refine tl (y_move rfl) rfl ?_
    refine tl (y_len rfl rfl) rfl ?_
    refine tl (y_lt rfl rfl) rfl ?_
    refine tl_end ?_
    refine ex_next ?_
    refine tc_if rfl (fun h19 => ?_) (fun h19 => ?_)
    · refine tc_skip ?_
      refine ex_next ?_
      refine tc_seq ?_
      refine tc_block ?_
      refine tc_seq ?_
      refine tc_region ?_
      refine tl (y_move rfl) rfl ?_
      refine tl (y_move rfl) rfl ?_
      refine tl (y_idx Oy.rd rfl rfl rfl rfl (by omega)) rfl ?_
      refine tl (y_els (k := 0) Oy.rd rfl rfl (by omega) rfl rfl) rfl ?_
      refine tl_alloc step_tl (cs := [.int .i64 0, .int .i64 0]) rfl rfl rfl (fun b_1 => ?_)
      refine tl_store step_tl 0 (vs := [.int .i64 ((gt ys j).1), .int .i64 ((gt ys j).2)]) (cs' := [.int .i64 ((gt ys j).1), .int .i64 ((gt ys j).2)]) (S' := (bx b_1 [.int .i64 ((gt ys j).1), .int .i64 ((gt ys j).2)] 54 :: L₀ :: S)) rfl rfl rfl rfl rfl rfl rfl rfl rfl rfl ?_
      refine tl_end ?_
      refine ex_next ?_
      refine tc_seq ?_
      refine tc_region ?_
      skip
      refine tl (y_move rfl) rfl ?_
      refine tl (y_lds 0 (vs := [.int .i64 ((gt ys j).1), .int .i64 ((gt ys j).2)]) rfl rfl rfl rfl rfl) rfl ?_
      refine tl_callv step_tl (first := []) (vs := [.agg #[.int .i64 ((gt ys j).1), .int .i64 ((gt ys j).2)]]) (caps := caps) rfl rfl hcall (hd (bx b_1 [.int .i64 ((gt ys j).1), .int .i64 ((gt ys j).2)] 54 :: L₀ :: S) (gt ys j)) (fun _ h => h) rfl (fun v_ => tl_pure fun e_ => tl_val e_ ?_)
      refine tl (y_not rfl) rfl ?_
      refine tl_end ?_
      refine ex_next ?_
      refine tc_cond rfl (fun h29 => ?_) (fun h29 => ?_)
      · refine tc_seq ?_
        refine tc_region ?_
        refine tl (y_move rfl) rfl ?_
        refine tl (y_move rfl) rfl ?_
        refine tl (y_lds 0 (vs := [.int .i64 ((gt ys j).1), .int .i64 ((gt ys j).2)]) rfl rfl rfl rfl rfl) rfl ?_
        refine tl (y_idx Oy.rd rfl rfl rfl rfl (by omega)) rfl ?_
        refine tl_stel0 step_tl 1 ((gt ys j).1, (gt ys j).2) Oy rfl rfl (vs := [.int .i64 ((gt ys j).1), .int .i64 ((gt ys j).2)]) rfl rfl rfl (by omega) (Nat.le_of_ble_eq_true rfl) rfl rfl (fun L_1 O_1 => ?_)
        change TG _ _ _ (St x (bx b_1 [.int .i64 ((gt ys j).1), .int .i64 ((gt ys j).2)] 54 :: L_1 :: S))
        refine tl_end ?_
        refine ex_next ?_
        refine tc_region ?_
        refine tl (y_move rfl) rfl ?_
        refine tl (y_addi rfl rfl (by omega)) rfl ?_
        refine tl (y_assign rfl) rfl ?_
        refine tl_end ?_
        refine ex_block_end (ex_next ?_)
        refine tc_region ?_
        refine tl (y_move rfl) rfl ?_
        refine tl (y_addi rfl rfl (by omega)) rfl ?_
        refine tl (y_assign rfl) rfl ?_
        refine tl_end ?_
        exact ex_round ⟨_, _, _, _, by omega, by simp [st, hyl], keep_one (by omega) (by omega) (by omega) hf (hq' j (by omega)) (by simpa using h29), fun q hq => by rw [gt_st (by omega) (by omega), if_neg (by omega)]; exact hq' q (by omega), O_1, rfl, rfl, rfl⟩ (by omega) (sce rfl (by first | rfl | simp [st]) (sc rfl (sc rfl (sc rfl sn)))) (fun _ h => h.pickT [1] 2 rfl rfl)
      · refine tc_skip ?_
        refine ex_block_end (ex_next ?_)
        refine tc_region ?_
        refine tl (y_move rfl) rfl ?_
        refine tl (y_addi rfl rfl (by omega)) rfl ?_
        refine tl (y_assign rfl) rfl ?_
        refine tl_end ?_
        exact ex_round ⟨_, _, _, _, by omega, by omega, keep_none (by omega) hf (hq' j (by omega)) (by simpa using h29), fun q hq => hq' q (by omega), Oy, rfl, rfl, rfl⟩ (by omega) (sce rfl (by first | rfl | simp [st]) (sc rfl (sc rfl (sc rfl sn)))) (fun _ h => h.pickT [1] 2 rfl rfl)
    · refine tc_exit ?_
      refine ex_pass_exit (ex_pass_exit (ex_block_hit (ex_next ?_)))
      refine tc_seq ?_
      refine tc_region ?_
      refine tl (y_move rfl) rfl ?_
      refine tl (y_move rfl) rfl ?_
      refine tl (y_sll (K := kP) rfl rfl rfl rfl Oy.rd.le (by omega)) rfl ?_
      refine tl_clear rfl step_tl 0 (0, 0) Oy k.toNat ((List.drop k.toNat ys).length) rfl (by omega) (by simp; omega) rfl rfl rfl rfl rfl (fun ys_1 L_2 hl_1 ht_1 O_2 => ?_)
      change TG _ _ _ (St x (L_2 :: S))
      refine TL.sub (l' := [(0, .slice A ys_1.length c), (1, .func (.func fb) #[] caps.toArray), (5, .int .i64 k), (6, .int .i64 j), (16, .int .i64 j), (17, .slice A ys_1.length c), (18, .int .i64 (ys.length : Int)), (19, .bool (decide (j < (ys.length : Int)))), (36, .slice A ys_1.length c), (37, .int .i64 k)]) (sce rfl (by rw [hl_1]) (sc rfl (sc rfl (sc rfl (sc rfl (sce rfl (by rw [hl_1]) (sc rfl (sc rfl (sce rfl (by rw [hl_1]) (sc rfl sn)))))))))) (fun _ h => h) ?_
      refine tl_end ?_
      refine ex_next ?_
      refine tc_seq ?_
      refine tc_region ?_
      refine tl (y_move rfl) rfl ?_
      refine tl (y_move rfl) rfl ?_
      refine tl (y_slh (K := kP) rfl rfl rfl rfl O_2.rd.le (by omega)) rfl ?_
      refine tl (y_assign rfl) rfl ?_
      refine tl_end ?_
      refine ex_next ?_
      refine tc_ret ?_
      refine ex_ret1 rfl rfl (fun w hw => ?_)
      have e : List.take k.toNat ys_1 = xs.filter (fun a => !p a) := by rw [show List.take k.toNat ys_1 = List.take k.toNat ys from ht_1, hf]; congr 1; exact take_self (k := j) (by omega)
      have O' := (O_2.cut_h (h := k) (by omega))
      rw [e] at O'
      exact ⟨_, _, _, by rw [e], O', hw⟩

theorem self_spec {x : Out} {S : List (List Chunk)} (a : Int × Int) :
    Spec Try.prog 24 #[.agg #[.int .i64 a.1, .int .i64 a.2]] (St x (S)) (fun v w => v = .bool (decide (a.2 = a.1)) ∧ St x S w) := by
  refine spec_of (args := [.agg #[.int .i64 a.1, .int .i64 a.2]]) Try.func24 rfl rfl rfl ?_
  refine tc_seq ?_
  refine tc_region ?_
  refine tl_box step_tl (cs := [.int .i64 a.1, .int .i64 a.2]) rfl rfl rfl (fun b_1 => ?_)
  refine tl (y_assign rfl) rfl ?_
  refine tl_end ?_
  refine ex_next ?_
  refine tc_seq ?_
  refine tc_region ?_
  refine tl (y_lds 0 (vs := [.int .i64 a.1, .int .i64 a.2]) rfl rfl rfl rfl rfl) rfl ?_
  refine tl (y_fa rfl rfl rfl) rfl ?_
  refine tl (y_ld (k := 0) rfl rfl rfl rfl) rfl ?_
  refine tl (y_fa rfl rfl rfl) rfl ?_
  refine tl (y_ld (k := 0) rfl rfl rfl rfl) rfl ?_
  refine tl (y_build (is := [0, 1]) (xs := [.tmp 5, .tmp 7]) (vs := [.int .i64 a.1, .int .i64 a.1]) (cs := [.int .i64 a.1, .int .i64 a.1]) rfl rfl rfl) rfl ?_
  refine tl (y_eq_ints (xs := [(IntKind.i64, a.1), (IntKind.i64, a.2)]) (ys := [(IntKind.i64, a.1), (IntKind.i64, a.1)]) rfl rfl rfl (by kernel_rfl) (by kernel_rfl) (by kernel_rfl)) rfl ?_
  refine tl (y_assign rfl) rfl ?_
  refine tl_end ?_
  refine ex_next ?_
  refine tc_ret ?_
  refine ex_ret1 rfl rfl (fun w hw => ?_)
  exact ⟨bool_iff (by simp), hw.pickT [] 1 rfl rfl⟩

theorem reads_spec {x : Out} {S : List (List Chunk)} {b : Nat} {u : Int × Int} (a : Int × Int) :
    Spec Try.prog 25 #[.agg #[.int .i64 a.1, .int .i64 a.2], .pointer (some ⟨b, 0, none⟩)] (St x (bx b [.int .i64 u.1, .int .i64 u.2] 54 :: S)) (fun v w => v = .bool (decide (a.2 = u.1)) ∧ St x (bx b [.int .i64 u.1, .int .i64 u.2] 54 :: S) w) := by
  refine spec_of (args := [.agg #[.int .i64 a.1, .int .i64 a.2], .pointer (some ⟨b, 0, none⟩)]) Try.func25 rfl rfl rfl ?_
  refine tc_seq ?_
  refine tc_region ?_
  refine tl_box step_tl (cs := [.int .i64 a.1, .int .i64 a.2]) rfl rfl rfl (fun b_1 => ?_)
  refine tl (y_assign rfl) rfl ?_
  refine tl_end ?_
  refine ex_next ?_
  refine tc_seq ?_
  refine tc_region ?_
  refine tl (y_fa rfl rfl rfl) rfl ?_
  refine tl (y_ld (k := 0) rfl rfl rfl rfl) rfl ?_
  refine tl (y_fa rfl rfl rfl) rfl ?_
  refine tl (y_ld (k := 1) rfl rfl rfl rfl) rfl ?_
  refine tl (y_eq rfl rfl) rfl ?_
  refine tl (y_assign rfl) rfl ?_
  refine tl_end ?_
  refine ex_next ?_
  refine tc_ret ?_
  refine ex_ret1 rfl rfl (fun w hw => ?_)
  exact ⟨rfl, hw.pickT [1] 2 rfl rfl⟩

end Go.Proofs.Yteilepombglalaa
