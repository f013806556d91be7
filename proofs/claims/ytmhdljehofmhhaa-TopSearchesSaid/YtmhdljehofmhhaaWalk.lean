/-
  The functions that a law reaches, each with what it does: proved by following its operations.
-/
import Derived.Test.YtmhdljehofmhhaaRows
import Derived.Test.YtmhdljehofmhhaaArgs
import Derived.Test.YtmhdljehofmhhaaPlain
set_option linter.unusedVariables false
namespace Go.Proofs.Ytmhdljehofmhhaa
open Go

theorem search_spec (n : Int) (hn : 0 ≤ n ∧ n ≤ 4611686018427387904) (fb : FuncId) (caps : List Value) (p : Int → Bool) (C : List Int → World → Prop) (hcall : callB Try.prog fb = true)
    (hbad : ∀ (k : List Int) (i : Int), 0 ≤ i ∧ i < n → k.length ≤ n → Spec Try.prog fb ([] ++ [Value.int .i64 i] ++ caps).toArray (C k) (fun v w => v = .bool (p i) ∧ C (k ++ [i]) w)) :
    Spec Try.prog 4 #[.int .i64 n, .func (.func fb) #[] caps.toArray] (C []) (fun v w => ∃ at_ cl : Int, v = .tuple #[.int .i64 at_, .int .i64 cl] ∧ at_ = (if (bs p n.toNat 0 n).1 = n then -1 else (bs p n.toNat 0 n).1) ∧ cl = (bs p n.toNat 0 n).2.length ∧ C (bs p n.toNat 0 n).2 w) := by
  refine spec_of (args := [.int .i64 n, .func (.func fb) #[] caps.toArray]) Try.func4 rfl rfl rfl ?_
  refine tc_seq ?_
  refine tc_region ?_
  refine tl (y_assign rfl) rfl ?_
  refine tl (y_assign rfl) rfl ?_
  refine tl_end ?_
  refine ex_next ?_
  refine tc_seq ?_
  refine tc_seq ?_
  refine tc_region ?_
  refine tl (y_move rfl) rfl ?_
  refine tl (y_le rfl rfl) rfl ?_
  refine tl (y_move rfl) rfl ?_
  refine tl_if (t := 11) rfl (fun h11 => ?_) (fun h11 => ?_)
  · refine tl_off rfl ?_
    refine tl_off rfl ?_
    refine tl (y_pick_t rfl rfl) rfl ?_
    refine tl_end ?_
    refine ex_next ?_
    refine tc_yes rfl ?_
    refine tc_seq ?_
    refine tc_region ?_
    refine tl (y_assign rfl) rfl ?_
    refine tl (y_assign rfl) rfl ?_
    refine tl_end ?_
    refine ex_next ?_
    refine tc_ret ?_
    refine ex_pass_ret ?_
    refine ex_ret2 rfl rfl rfl (fun w hw => ?_)
    obtain rfl : n = 0 := by omega
    exact ⟨_, _, rfl, by simp [bs], by simp [bs], by simpa [bs] using hw⟩
  · refine tl (y_move rfl) rfl ?_
    refine tl (y_func_nil_eql rfl rfl rfl) rfl ?_
    refine tl (y_pick_f rfl rfl) rfl ?_
    refine tl_end ?_
    refine ex_next ?_
    refine tc_no rfl ?_
    refine tc_skip ?_
    refine ex_next ?_
    refine tc_seq ?_
    refine tc_region ?_
    refine tl (y_move rfl) rfl ?_
    refine tl (y_assign rfl) rfl ?_
    refine tl (y_assign rfl) rfl ?_
    refine tl_end ?_
    refine ex_next ?_
    refine tc_seq ?_
    refine tc_block ?_
    refine tc_loop (fun l_ C_ m_ => ∃ lo : Int, ∃ hi : Int, ∃ k : List Int, ∃ fl : Nat, (0 ≤ lo ∧ lo ≤ hi ∧ hi ≤ n) ∧ (hi - lo ≤ fl) ∧ ((bs p fl lo hi).1 = (bs p n.toNat 0 n).1) ∧ (k ++ (bs p fl lo hi).2 = (bs p n.toNat 0 n).2) ∧ (k.length ≤ lo + (n - hi)) ∧ l_ = [(0, .int .i64 n), (1, .func (.func fb) #[] caps.toArray), (5, .int .i64 k.length), (6, .int .i64 lo), (7, .int .i64 hi)] ∧ C_ = C k ∧ m_ = (hi - lo).toNat) ⟨_, _, [], n.toNat, by omega, by omega, rfl, rfl, by simp, rfl, rfl, rfl⟩ (sc rfl (sc rfl (sc rfl (sc rfl (sc rfl sn))))) (fun _ h => h) ?_
    rintro _ _ _ ⟨lo, hi, k, fl, hlo, hfl, hR, hK, hkl, rfl, rfl, rfl⟩
    refine tc_seq ?_
    refine tc_seq ?_
    refine tc_region ?_
    refine tl (y_move rfl) rfl ?_
    refine tl (y_move rfl) rfl ?_
    refine tl (y_lt rfl rfl) rfl ?_
    refine tl_end ?_
    refine ex_next ?_
    refine tc_if rfl (fun h18 => ?_) (fun h18 => ?_)
    · refine tc_skip ?_
      refine ex_next ?_
      refine tc_block ?_
      refine tc_seq ?_
      refine tc_region ?_
      refine tl (y_move rfl) rfl ?_
      refine tl (y_move rfl) rfl ?_
      refine tl (y_move rfl) rfl ?_
      refine tl (y_subi rfl rfl (by omega)) rfl ?_
      refine tl (y_quoi rfl rfl (by omega)) rfl ?_
      refine tl (y_addi rfl rfl (by omega)) rfl ?_
      refine tl (y_assign rfl) rfl ?_
      refine tl_end ?_
      refine ex_next ?_
      refine tc_seq ?_
      refine tc_region ?_
      refine tl (y_move rfl) rfl ?_
      refine tl (y_addi rfl rfl (by omega)) rfl ?_
      refine tl (y_assign rfl) rfl ?_
      refine tl_end ?_
      refine ex_next ?_
      refine tc_seq ?_
      refine tc_region ?_
      refine tl (y_move rfl) rfl ?_
      refine tl (y_move rfl) rfl ?_
      refine tl_callv (first := []) (vs := [.int .i64 (lo + ((hi - lo) / 2))]) (caps := caps) rfl rfl hcall (hbad k (lo + ((hi - lo) / 2)) (by omega) (by omega)) (fun _ h => h) rfl (fun v_ => tl_pure fun e_ => tl_val e_ ?_)
      refine tl_end ?_
      refine ex_next ?_
      refine tc_cond rfl (fun h29 => ?_) (fun h29 => ?_)
      · refine tc_region ?_
        refine tl (y_move rfl) rfl ?_
        refine tl (y_assign rfl) rfl ?_
        refine tl_end ?_
        refine ex_block_end ?_
        exact ex_round ⟨_, _, (k ++ [lo + ((hi - lo) / 2)]), fl - 1, by omega, by omega, by rw [bs_T (by omega) h18 rfl h29] at hR; exact hR, by rw [bs_T (by omega) h18 rfl h29] at hK; simpa using hK, by simp; omega, rfl, rfl, rfl⟩ (by omega) (sc rfl (sc rfl (sce rfl (by simp) (sc rfl (sc rfl sn))))) (fun _ h => h)
      · refine tc_region ?_
        refine tl (y_move rfl) rfl ?_
        refine tl (y_addi rfl rfl (by omega)) rfl ?_
        refine tl (y_assign rfl) rfl ?_
        refine tl_end ?_
        refine ex_block_end ?_
        exact ex_round ⟨_, _, (k ++ [lo + ((hi - lo) / 2)]), fl - 1, by omega, by omega, by rw [bs_F (by omega) h18 rfl h29] at hR; exact hR, by rw [bs_F (by omega) h18 rfl h29] at hK; simpa using hK, by simp; omega, rfl, rfl, rfl⟩ (by omega) (sc rfl (sc rfl (sce rfl (by simp) (sc rfl (sc rfl sn))))) (fun _ h => h)
    · refine tc_exit ?_
      refine ex_pass_exit (ex_pass_exit (ex_block_hit (ex_next ?_)))
      refine tc_seq ?_
      refine tc_seq ?_
      refine tc_region ?_
      refine tl (y_move rfl) rfl ?_
      refine tl (y_move rfl) rfl ?_
      refine tl (y_eq rfl rfl) rfl ?_
      refine tl_end ?_
      refine ex_next ?_
      refine tc_if rfl (fun h35 => ?_) (fun h35 => ?_)
      · refine tc_seq ?_
        refine tc_region ?_
        refine tl (y_move rfl) rfl ?_
        refine tl (y_assign rfl) rfl ?_
        refine tl (y_assign rfl) rfl ?_
        refine tl_end ?_
        refine ex_next ?_
        refine tc_ret ?_
        refine ex_pass_ret ?_
        refine ex_ret2 rfl rfl rfl (fun w hw => ?_)
        exact ⟨_, _, rfl, by rw [bs_end h18] at hR; simp only at hR; rw [← hR]; simp only [if_pos h35], by rw [bs_end h18] at hK; simp only [List.append_nil] at hK; rw [← hK], by rw [bs_end h18] at hK; simp only [List.append_nil] at hK; rw [← hK]; exact hw⟩
      · refine tc_skip ?_
        refine ex_next ?_
        refine tc_seq ?_
        refine tc_region ?_
        refine tl (y_move rfl) rfl ?_
        refine tl (y_move rfl) rfl ?_
        refine tl (y_assign rfl) rfl ?_
        refine tl (y_assign rfl) rfl ?_
        refine tl_end ?_
        refine ex_next ?_
        refine tc_ret ?_
        refine ex_ret2 rfl rfl rfl (fun w hw => ?_)
        exact ⟨_, _, rfl, by rw [bs_end h18] at hR; simp only at hR; rw [← hR]; simp only [if_neg h35], by rw [bs_end h18] at hK; simp only [List.append_nil] at hK; rw [← hK], by rw [bs_end h18] at hK; simp only [List.append_nil] at hK; rw [← hK]; exact hw⟩

theorem search_none {C : World → Prop} (n : Int) (bad : Value) (hn : n ≤ 0) :
    Spec Try.prog 4 #[.int .i64 n, bad] (C) (fun v w => v = .tuple #[.int .i64 (-1), .int .i64 0] ∧ C w) := by
  refine spec_of (args := [.int .i64 n, bad]) Try.func4 rfl rfl rfl ?_
  refine tc_seq ?_
  refine tc_region ?_
  refine tl (y_assign rfl) rfl ?_
  refine tl (y_assign rfl) rfl ?_
  refine tl_end ?_
  refine ex_next ?_
  refine tc_seq ?_
  refine tc_seq ?_
  refine tc_region ?_
  refine tl (y_move rfl) rfl ?_
  refine tl (y_le rfl rfl) rfl ?_
  refine tl (y_move rfl) rfl ?_
  refine tl_true (t := 11) rfl (hn) ?_
  refine tl_off rfl ?_
  refine tl_off rfl ?_
  refine tl (y_pick_t rfl rfl) rfl ?_
  refine tl_end ?_
  refine ex_next ?_
  refine tc_yes rfl ?_
  refine tc_seq ?_
  refine tc_region ?_
  refine tl (y_assign rfl) rfl ?_
  refine tl (y_assign rfl) rfl ?_
  refine tl_end ?_
  refine ex_next ?_
  refine tc_ret ?_
  refine ex_pass_ret ?_
  refine ex_ret2 rfl rfl rfl (fun w hw => ?_)
  exact ⟨rfl, hw⟩

theorem ask_walk {x : Out} {b1 b2 b3 : Nat} {A B : Option Addr} {xs : List Bool} {k : List Int} {c c' : Nat} {L R : List Chunk} {RS : List (List Chunk)} (i : Int) (hx : Rd kB B xs c R) (O : Own 3 (kI .i64) A k c' L) (hi : 0 ≤ i ∧ i < xs.length) (hk : k.length ≤ xs.length) (hl : xs.length ≤ 1000) :
    Spec Try.prog 5 #[.int .i64 i, .pointer (some ⟨b1, 0, none⟩), .pointer (some ⟨b2, 0, none⟩), .pointer (some ⟨b3, 0, none⟩)] (St x (bx b1 [.slice A k.length c'] 23 :: L :: bx b2 [.int .i64 (xs.length : Int)] 3 :: bx b3 [.slice B xs.length c] 22 :: R :: RS)) (fun v w => v = .bool (gt xs i) ∧ ∃ A' : Option Addr, ∃ c' : Nat, ∃ L' : List Chunk, Own 3 (kI .i64) A' (k ++ [i]) c' L' ∧ St x (bx b1 [.slice A' (k ++ [i]).length c'] 23 :: L' :: bx b2 [.int .i64 (xs.length : Int)] 3 :: bx b3 [.slice B xs.length c] 22 :: R :: RS) w) := by
  refine spec_of (args := [.int .i64 i, .pointer (some ⟨b1, 0, none⟩), .pointer (some ⟨b2, 0, none⟩), .pointer (some ⟨b3, 0, none⟩)]) Try.func5 rfl rfl rfl ?_
  refine tc_seq ?_
  refine tc_region ?_
  refine tl (y_assign rfl) rfl ?_
  refine tl_end ?_
  refine ex_next ?_
  refine tc_seq ?_
  refine tc_region ?_
  refine tl (y_ld (k := 0) rfl rfl rfl rfl) rfl ?_
  refine tl (y_move rfl) rfl ?_
  refine tl_one (K := (kI .i64)) i rfl rfl rfl rfl rfl rfl rfl rfl rfl (fun A_1 L_1 O_1 => ?_)
  refine tl_append (by_ := 8) 2 0 O O_1.rd rfl rfl rfl rfl rfl rfl rfl rfl rfl rfl (by simp; omega) (by simp; omega) rfl (fun A_2 c_1 L_2 O_2 => ?_)
  change TL _ _ _ _ _ _ (St x (L_1 :: bx b1 [.slice A k.length c'] 23 :: L_2 :: bx b2 [.int .i64 (xs.length : Int)] 3 :: bx b3 [.slice B xs.length c] 22 :: R :: RS))
  refine tl_store 1 (vs := [.slice A_2 (k ++ [i]).length c_1]) (cs' := [.slice A_2 (k ++ [i]).length c_1]) (S' := (L_1 :: bx b1 [.slice A_2 (k ++ [i]).length c_1] 23 :: L_2 :: bx b2 [.int .i64 (xs.length : Int)] 3 :: bx b3 [.slice B xs.length c] 22 :: R :: RS)) rfl rfl rfl rfl rfl rfl rfl rfl rfl rfl ?_
  refine tl_end ?_
  refine ex_next ?_
  refine tc_seq ?_
  refine tc_region ?_
  refine tl (y_move rfl) rfl ?_
  refine tl (y_ge rfl rfl) rfl ?_
  refine tl (y_move rfl) rfl ?_
  refine tl_true (t := 12) rfl (hi.1) ?_
  refine tl (y_move rfl) rfl ?_
  refine tl (y_ld (k := 3) rfl rfl rfl rfl) rfl ?_
  refine tl (y_lt rfl rfl) rfl ?_
  refine tl (y_pick_t rfl rfl) rfl ?_
  refine tl (y_move rfl) rfl ?_
  refine tl_true (t := 17) rfl (by omega) ?_
  refine tl (y_ld (k := 4) rfl rfl rfl rfl) rfl ?_
  refine tl (y_move rfl) rfl ?_
  refine tl (y_idx hx rfl rfl rfl rfl (by omega)) rfl ?_
  refine tl (y_el0 (k := 5) hx rfl rfl (by omega) rfl rfl) rfl ?_
  refine tl (y_pick_t rfl rfl) rfl ?_
  refine tl (y_assign rfl) rfl ?_
  refine tl_end ?_
  refine ex_next ?_
  refine tc_ret ?_
  refine ex_ret1 rfl rfl (fun w hw => ?_)
  exact ⟨rfl, _, _, _, O_2, hw.pickT [1, 2, 3, 4, 5] 6 rfl rfl⟩


/-- what the first function keeps -/
def Asked (x : Out) (b1 b2 b3 : Nat) (B : Option Addr) (xs : List Bool) (c : Nat) (R : List Chunk) (RS : List (List Chunk)) (k : List Int) (w : World) : Prop :=
  ∃ A : Option Addr, ∃ c' : Nat, ∃ L : List Chunk, Own 3 (kI .i64) A k c' L ∧ St x (bx b1 [.slice A k.length c'] 23 :: L :: bx b2 [.int .i64 (xs.length : Int)] 3 :: bx b3 [.slice B xs.length c] 22 :: R :: RS) w
theorem ask_spec {x : Out} {b1 b2 b3 : Nat} {B : Option Addr} {xs : List Bool} {c : Nat} {R : List Chunk} {RS : List (List Chunk)} (hx : Rd kB B xs c R) (hl : xs.length ≤ 1000) (k : List Int) (i : Int) (hi : 0 ≤ i ∧ i < xs.length) (hk : k.length ≤ (xs.length : Int)) :
    Spec Try.prog 5 ([] ++ [Value.int .i64 i] ++ [Value.pointer (some ⟨b1, 0, none⟩), Value.pointer (some ⟨b2, 0, none⟩), Value.pointer (some ⟨b3, 0, none⟩)]).toArray (Asked x b1 b2 b3 B xs c R RS k) (fun v w => v = .bool (gt xs i) ∧ Asked x b1 b2 b3 B xs c R RS (k ++ [i]) w) :=
  Spec.ex fun A => Spec.ex fun c' => Spec.ex fun L => Spec.pure fun O => ask_walk i hx O hi (by omega) hl

theorem thr_walk {x : Out} {b : Nat} {k : Int} {RS : List (List Chunk)} (i : Int) :
    Spec Try.prog 7 #[.int .i64 i, .pointer (some ⟨b, 0, none⟩)] (St x (bx b [.int .i64 k] 3 :: RS)) (fun v w => v = .bool (decide (k ≤ i)) ∧ St x (bx b [.int .i64 k] 3 :: RS) w) := by
  refine spec_of (args := [.int .i64 i, .pointer (some ⟨b, 0, none⟩)]) Try.func7 rfl rfl rfl ?_
  refine tc_seq ?_
  refine tc_region ?_
  refine tl (y_assign rfl) rfl ?_
  refine tl_end ?_
  refine ex_next ?_
  refine tc_seq ?_
  refine tc_region ?_
  refine tl (y_move rfl) rfl ?_
  refine tl (y_ld (k := 0) rfl rfl rfl rfl) rfl ?_
  refine tl (y_ge rfl rfl) rfl ?_
  refine tl (y_assign rfl) rfl ?_
  refine tl_end ?_
  refine ex_next ?_
  refine tc_ret ?_
  refine ex_ret1 rfl rfl (fun w hw => ?_)
  exact ⟨rfl, hw⟩

theorem five_walk {C : World → Prop} (i : Int) :
    Spec Try.prog 8 #[.int .i64 i] (C) (fun v w => v = .bool (decide (5 ≤ i)) ∧ C w) := by
  refine spec_of (args := [.int .i64 i]) Try.func8 rfl rfl rfl ?_
  refine tc_seq ?_
  refine tc_region ?_
  refine tl (y_assign rfl) rfl ?_
  refine tl_end ?_
  refine ex_next ?_
  refine tc_seq ?_
  refine tc_region ?_
  refine tl (y_move rfl) rfl ?_
  refine tl (y_ge rfl rfl) rfl ?_
  refine tl (y_assign rfl) rfl ?_
  refine tl_end ?_
  refine ex_next ?_
  refine tc_ret ?_
  refine ex_ret1 rfl rfl (fun w hw => ?_)
  exact ⟨rfl, hw⟩

theorem equal_spec {x : Out} {S : List (List Chunk)} {A B : Option Addr} {xs ys : List Int} {c c' i j : Nat} {L L' : List Chunk} (hx : Rd (kI .i64) A xs c L) (hy : Rd (kI .i64) B ys c' L') (hi : S[i]? = some L) (hj : S[j]? = some L') (hl : xs.length ≤ 4611686018427387904) :
    Spec Try.prog 6 #[.slice A xs.length c, .slice B ys.length c'] (St x S) (fun v w => v = .bool (decide (xs = ys)) ∧ St x S w) := by
  refine spec_of (args := [.slice A xs.length c, .slice B ys.length c']) Try.func6 rfl rfl rfl ?_
  refine tc_seq ?_
  refine tc_region ?_
  refine tl (y_assign rfl) rfl ?_
  refine tl_end ?_
  refine ex_next ?_
  refine tc_seq ?_
  refine tc_seq ?_
  refine tc_region ?_
  refine tl (y_move rfl) rfl ?_
  refine tl (y_len rfl rfl) rfl ?_
  refine tl (y_move rfl) rfl ?_
  refine tl (y_len rfl rfl) rfl ?_
  refine tl (y_ne rfl rfl) rfl ?_
  refine tl_end ?_
  refine ex_next ?_
  refine tc_if rfl (fun h10 => ?_) (fun h10 => ?_)
  · refine tc_seq ?_
    refine tc_region ?_
    refine tl (y_assign rfl) rfl ?_
    refine tl_end ?_
    refine ex_next ?_
    refine tc_ret ?_
    refine ex_pass_ret ?_
    refine ex_ret1 rfl rfl (fun w hw => ?_)
    exact ⟨by rw [decide_eq_false (fun e => by rw [e] at h10; omega)], hw⟩
  · refine tc_skip ?_
    refine ex_next ?_
    refine tc_seq ?_
    refine tc_seq ?_
    refine tc_region ?_
    refine tl (y_move rfl) rfl ?_
    refine tl (y_len rfl rfl) rfl ?_
    refine tl (y_move rfl) rfl ?_
    refine tl_end ?_
    refine ex_next ?_
    refine tc_block ?_
    refine tc_loop (fun l_ C_ m_ => ∃ k : Int, (0 ≤ k ∧ k ≤ xs.length) ∧ (∀ q : Int, 0 ≤ q ∧ q < k → gt xs q = gt ys q) ∧ l_ = [(0, .slice A xs.length c), (1, .slice B ys.length c'), (12, .int .i64 (xs.length : Int)), (13, .int .i64 k)] ∧ C_ = St x S ∧ m_ = (xs.length - k).toNat) ⟨_, by omega, fun q hq => absurd hq (by omega), rfl, rfl, rfl⟩ (sc rfl (sc rfl (sc rfl (sc rfl sn)))) (fun _ h => h) ?_
    rintro _ _ _ ⟨k, hk, hq', rfl, rfl, rfl⟩
    refine tc_seq ?_
    refine tc_region ?_
    refine tl (y_lt rfl rfl) rfl ?_
    refine tl_end ?_
    refine ex_next ?_
    refine tc_seq ?_
    refine tc_if rfl (fun h14 => ?_) (fun h14 => ?_)
    · refine tc_skip ?_
      refine ex_next ?_
      refine tc_seq ?_
      refine tc_block ?_
      refine tc_seq ?_
      refine tc_region ?_
      refine tl (y_move rfl) rfl ?_
      refine tl (y_assign rfl) rfl ?_
      refine tl_end ?_
      refine ex_next ?_
      refine tc_seq ?_
      refine tc_draw x (by kernel_rfl) (by kernel_rfl) ?_
      refine tq (y_move rfl) rfl ?_
      refine tq (y_move rfl) rfl ?_
      refine tq (y_idx hx rfl rfl rfl rfl (by omega)) rfl ?_
      refine tq (y_el0 (k := i) hx rfl hi (by omega) rfl rfl) rfl ?_
      refine tq (y_move rfl) rfl ?_
      refine tq (y_move rfl) rfl ?_
      refine tq (y_idx hy rfl rfl rfl rfl (by omega)) rfl ?_
      refine tq (y_el0 (k := j) hy rfl hj (by omega) rfl rfl) rfl ?_
      refine tq (y_ne rfl rfl) rfl ?_
      refine tq_end ?_
      refine ex_next ?_
      refine tc_if rfl (fun h24 => ?_) (fun h24 => ?_)
      · refine tc_seq ?_
        refine tc_region ?_
        refine tl (y_assign rfl) rfl ?_
        refine tl_end ?_
        refine ex_next ?_
        refine tc_ret ?_
        refine ex_block_ret (ex_pass_ret (ex_pass_ret (ex_block_ret (ex_pass_ret ?_))))
        refine ex_ret1 rfl rfl (fun w hw => ?_)
        exact ⟨by rw [decide_eq_false (fun e => by rw [e] at h24; exact absurd rfl h24)], hw⟩
      · refine tc_skip ?_
        refine ex_block_end (ex_next ?_)
        refine tc_region ?_
        refine tl (y_addi rfl rfl (by omega)) rfl ?_
        refine tl (y_move rfl) rfl ?_
        refine tl_end ?_
        exact ex_round ⟨_, by omega, fun q hq => by rcases (by omega : q < k ∨ q = k) with h | h; exact hq' q ⟨hq.1, h⟩; rw [h]; exact Classical.not_not.1 h24, rfl, rfl, rfl⟩ (by omega) (sc rfl (sc rfl (sc rfl (sc rfl sn)))) (fun _ h => h)
    · refine tc_exit ?_
      refine ex_pass_exit (ex_pass_exit (ex_block_hit (ex_next ?_)))
      refine tc_seq ?_
      refine tc_region ?_
      refine tl (y_assign rfl) rfl ?_
      refine tl_end ?_
      refine ex_next ?_
      refine tc_ret ?_
      refine ex_ret1 rfl rfl (fun w hw => ?_)
      exact ⟨by rw [decide_eq_true (eq_of_gt (by omega) (fun q hq => hq' q (by omega)))], hw⟩

theorem law_walk {x : Out} {A : Option Addr} {xs : List Bool} {c : Nat} {R : List Chunk} (hx : Rd kB A xs c R) (hm : c ≤ 9223372036854775807) (m : Int) (hf : 0 ≤ m ∧ m ≤ 255) :
    Spec Try.prog 3 #[.slice A xs.length c, .int .u8 m] (St x [R]) (fun v w => v = .bool true ∧ St x [R] w) := by
  refine spec_of (args := [.slice A xs.length c, .int .u8 m]) Try.func3 rfl rfl rfl ?_
  refine tc_seq ?_
  refine tc_region ?_
  refine tl_box (cs := [.slice A xs.length c]) rfl rfl rfl (fun b_1 => ?_)
  refine tl (y_assign rfl) rfl ?_
  refine tl_end ?_
  refine ex_next ?_
  refine tc_seq ?_
  refine tc_region ?_
  refine tl (y_ld (k := 0) rfl rfl rfl rfl) rfl ?_
  refine tl (y_ld (k := 0) rfl rfl rfl rfl) rfl ?_
  refine tl (y_len rfl rfl) rfl ?_
  refine tl (y_min rfl rfl) rfl ?_
  refine tl (y_slh (K := kB) rfl rfl rfl rfl hx.le (by omega)) rfl ?_
  refine tl_store 0 (vs := [.slice (sla A 0 c kB.sz) (List.take (min (xs.length : Int) 100).toNat xs).length c]) (cs' := [.slice (sla A 0 c kB.sz) (List.take (min (xs.length : Int) 100).toNat xs).length c]) (S' := [bx b_1 [.slice (sla A 0 c kB.sz) (List.take (min (xs.length : Int) 100).toNat xs).length c] 22, R]) rfl rfl rfl rfl rfl rfl rfl rfl rfl rfl ?_
  refine tl_end ?_
  refine ex_next ?_
  refine tc_seq ?_
  obtain ⟨zs, hzs⟩ : ∃ zs, zs = List.take (min (xs.length : Int) 100).toNat xs := ⟨_, rfl⟩
  have hz : Rd kB (sla A 0 c kB.sz) zs c R := by rw [hzs]; exact hx.cut_h (by omega)
  have hzl : zs.length ≤ 100 := by rw [hzs, List.length_take]; omega
  refine TC.sub (l' := [(1, .int .u8 m), (2, .pointer (some ⟨b_1, 0, none⟩))]) (C' := St x [bx b_1 [.slice (sla A 0 c kB.sz) zs.length c] 22, R]) (sc rfl (sc rfl sn)) (fun w h => by rw [hzs]; exact h) ?_
  refine tc_region ?_
  refine tl (y_ld (k := 0) rfl rfl rfl rfl) rfl ?_
  refine tl (y_len rfl rfl) rfl ?_
  refine tl_alloc (cs := [.int .i64 0]) rfl rfl rfl (fun b_2 => ?_)
  refine tl_store 0 (vs := [.int .i64 (zs.length : Int)]) (cs' := [.int .i64 (zs.length : Int)]) (S' := [bx b_2 [.int .i64 (zs.length : Int)] 3, bx b_1 [.slice (sla A 0 c kB.sz) zs.length c] 22, R]) rfl rfl rfl rfl rfl rfl rfl rfl rfl rfl ?_
  refine tl_end ?_
  refine ex_next ?_
  refine tc_seq ?_
  refine tc_region ?_
  refine tl_alloc (cs := [.slice none 0 0]) rfl rfl rfl (fun b_3 => ?_)
  refine tl (y_assign rfl) rfl ?_
  refine tl_end ?_
  refine ex_next ?_
  refine tc_seq ?_
  refine tc_draw x (by kernel_rfl) (by kernel_rfl) ?_
  refine tq (y_ld (k := 1) rfl rfl rfl rfl) rfl ?_
  refine tq (y_assign rfl) rfl ?_
  refine tq (y_assign rfl) rfl ?_
  refine tq_end ?_
  refine ex_next ?_
  refine tc_seq ?_
  refine tc_block ?_
  refine tc_loop (fun l_ C_ m_ => ∃ lo : Int, ∃ hi : Int, ∃ k : List Int, ∃ fl : Nat, ∃ cd : Nat, ∃ Ad : Option Addr, ∃ Ld : List Chunk, (0 ≤ lo ∧ lo ≤ hi ∧ hi ≤ zs.length) ∧ (hi - lo ≤ fl) ∧ ((bs (fun i => gt zs i) fl lo hi).1 = (bs (fun i => gt zs i) (zs.length : Int).toNat 0 zs.length).1) ∧ (k ++ (bs (fun i => gt zs i) fl lo hi).2 = (bs (fun i => gt zs i) (zs.length : Int).toNat 0 zs.length).2) ∧ (k.length ≤ lo + (zs.length - hi)) ∧ (Own 3 (kI .i64) Ad k cd Ld) ∧ l_ = [(1, .int .u8 m), (2, .pointer (some ⟨b_1, 0, none⟩)), (5, .pointer (some ⟨b_2, 0, none⟩)), (6, .pointer (some ⟨b_3, 0, none⟩)), (7, .slice Ad k.length cd), (8, .int .i64 lo), (9, .int .i64 hi)] ∧ C_ = St x [bx b_3 [.slice none 0 0] 23, Ld, bx b_2 [.int .i64 (zs.length : Int)] 3, bx b_1 [.slice (sla A 0 c kB.sz) zs.length c] 22, R] ∧ m_ = (hi - lo).toNat) ⟨_, _, [], (zs.length : Int).toNat, _, _, _, by omega, by omega, rfl, rfl, by simp, Own.nil, rfl, rfl, rfl⟩ (sc rfl (sc rfl (sc rfl (sc rfl (sc rfl (sc rfl (sc rfl sn))))))) (fun _ h => (h.pick [0, 1, 2, 3] rfl rfl).empty.pick [1, 0, 2, 3, 4] rfl rfl) ?_
  rintro _ _ _ ⟨lo, hi, k, fl, cd, Ad, Ld, hlo, hfl, hR, hK, hkl, Od, rfl, rfl, rfl⟩
  refine tc_seq ?_
  refine tc_seq ?_
  refine tc_region ?_
  refine tl (y_move rfl) rfl ?_
  refine tl (y_move rfl) rfl ?_
  refine tl (y_lt rfl rfl) rfl ?_
  refine tl_end ?_
  refine ex_next ?_
  refine tc_if rfl (fun h28 => ?_) (fun h28 => ?_)
  · refine tc_skip ?_
    refine ex_next ?_
    refine tc_block ?_
    refine tc_seq ?_
    refine tc_region ?_
    refine tl (y_move rfl) rfl ?_
    refine tl (y_move rfl) rfl ?_
    refine tl (y_addi rfl rfl (by omega)) rfl ?_
    refine tl (y_quoi rfl rfl (by omega)) rfl ?_
    refine tl (y_assign rfl) rfl ?_
    refine tl_end ?_
    refine ex_next ?_
    refine tc_seq ?_
    refine tc_region ?_
    refine tl (y_move rfl) rfl ?_
    refine tl (y_move rfl) rfl ?_
    refine tl_one (K := (kI .i64)) ((lo + hi) / 2) rfl rfl rfl rfl rfl rfl rfl rfl rfl (fun A_1 L_1 O_1 => ?_)
    refine tl_append (by_ := 8) 2 0 Od O_1.rd rfl rfl rfl rfl rfl rfl rfl rfl rfl rfl (by simp; omega) (by simp; omega) rfl (fun A_2 c_1 L_2 O_2 => ?_)
    change TL _ _ _ _ _ _ (St x [L_1, bx b_3 [.slice none 0 0] 23, L_2, bx b_2 [.int .i64 (zs.length : Int)] 3, bx b_1 [.slice (sla A 0 c kB.sz) zs.length c] 22, R])
    refine tl (y_assign rfl) rfl ?_
    refine tl_end ?_
    refine ex_next ?_
    refine tc_seq ?_
    refine tc_region ?_
    refine tl (y_ld (k := 4) rfl rfl rfl rfl) rfl ?_
    refine tl (y_move rfl) rfl ?_
    refine tl (y_idx hz rfl rfl rfl rfl (by omega)) rfl ?_
    refine tl (y_el0 (k := 5) hz rfl rfl (by omega) rfl rfl) rfl ?_
    refine tl_end ?_
    refine ex_next ?_
    refine tc_cond rfl (fun h40 => ?_) (fun h40 => ?_)
    · refine tc_region ?_
      refine tl (y_move rfl) rfl ?_
      refine tl (y_assign rfl) rfl ?_
      refine tl_end ?_
      refine ex_block_end ?_
      exact ex_round ⟨_, _, k ++ [(lo + hi) / 2], fl - 1, _, _, _, by omega, by omega, by rw [bs_T (m := (lo + hi) / 2) (by omega) h28 (by omega) h40] at hR; exact hR, by rw [bs_T (m := (lo + hi) / 2) (by omega) h28 (by omega) h40] at hK; simpa using hK, by simp; omega, O_2, rfl, rfl, rfl⟩ (by omega) (sc rfl (sc rfl (sc rfl (sc rfl (sc rfl (sc rfl (sc rfl sn))))))) (fun _ h => h.pick [1, 2, 3, 4, 5] rfl rfl)
    · refine tc_region ?_
      refine tl (y_move rfl) rfl ?_
      refine tl (y_addi rfl rfl (by omega)) rfl ?_
      refine tl (y_assign rfl) rfl ?_
      refine tl_end ?_
      refine ex_block_end ?_
      exact ex_round ⟨_, _, k ++ [(lo + hi) / 2], fl - 1, _, _, _, by omega, by omega, by rw [bs_F (m := (lo + hi) / 2) (by omega) h28 (by omega) h40] at hR; exact hR, by rw [bs_F (m := (lo + hi) / 2) (by omega) h28 (by omega) h40] at hK; simpa using hK, by simp; omega, O_2, rfl, rfl, rfl⟩ (by omega) (sc rfl (sc rfl (sc rfl (sc rfl (sc rfl (sc rfl (sc rfl sn))))))) (fun _ h => h.pick [1, 2, 3, 4, 5] rfl rfl)
  · refine tc_exit ?_
    refine ex_pass_exit (ex_pass_exit (ex_block_hit (ex_next ?_)))
    refine tc_seq ?_
    refine tc_seq ?_
    refine tc_region ?_
    refine tl (y_move rfl) rfl ?_
    refine tl (y_ld (k := 2) rfl rfl rfl rfl) rfl ?_
    refine tl (y_eq rfl rfl) rfl ?_
    refine tl_end ?_
    refine ex_next ?_
    refine tc_if rfl (fun h46 => ?_) (fun h46 => ?_)
    · refine tc_region ?_
      refine tl (y_assign rfl) rfl ?_
      refine tl_end ?_
      refine ex_next ?_
      refine tc_seq ?_
      have e1 : (bs (fun i => gt zs i) (zs.length : Int).toNat 0 zs.length).1 = lo := by rw [bs_end h28] at hR; exact hR.symm
      have e2 : (bs (fun i => gt zs i) (zs.length : Int).toNat 0 zs.length).2 = k := by rw [bs_end h28] at hK; simpa using hK.symm
      have hk0 : 0 ≤ m % ((zs.length : Int) + 1) ∧ m % ((zs.length : Int) + 1) ≤ zs.length := ⟨Int.emod_nonneg _ (by omega), by have := Int.emod_lt_of_pos m (show (0 : Int) < (zs.length : Int) + 1 by omega); omega⟩
      have e3 : (bs (fun i => decide (m % ((zs.length : Int) + 1) ≤ i)) (zs.length : Int).toNat 0 zs.length).1 = m % ((zs.length : Int) + 1) := bs_thr _ _ _ hk0.1 hk0.2 (by omega)
      have e4 : (bs (fun i => decide (m % ((zs.length : Int) + 1) ≤ i)) (zs.length : Int).toNat 0 zs.length).2.length ≤ 7 := bs_few 7 _ _ _ (by simp; omega)
      have e5 : bs (fun i => decide (5 ≤ i)) (8 : Int).toNat 0 8 = (5, [4, 6, 5]) := bs_eight
      refine tc_region ?_
      refine tl (y_ld (k := 2) rfl rfl rfl rfl) rfl ?_
      refine tl (y_func (fi := []) (ca := [.tmp 6, .tmp 5, .tmp 2]) rfl rfl) rfl ?_
      have hS := search_spec (zs.length : Int) (by omega) 5 [.pointer (some ⟨b_3, 0, none⟩), .pointer (some ⟨b_2, 0, none⟩), .pointer (some ⟨b_1, 0, none⟩)] (fun i => gt zs i) (Asked x b_3 b_2 b_1 (sla A 0 c kB.sz) zs c R [Ld]) rfl (fun k' i hi hk => ask_spec hz (by omega) k' i hi hk)
      refine tl_call rfl rfl hS (fun _ h => ⟨none, 0, [], Own.nil, ((h.pick [0, 2, 3, 4, 1] rfl rfl).empty).pick [1, 0, 2, 3, 4, 5] rfl rfl⟩) rfl (fun v_ => tl_ex fun a1 => tl_ex fun n1 => tl_pure fun e_ => tl_val e_ ?_)
      refine tl_pure fun ea => tl_pure fun en => tl_ex fun Aq => tl_ex fun cq => tl_ex fun Lq => tl_pure fun Oq => ?_
      refine tl (y_move rfl) rfl ?_
      refine tl (y_extract (vs := [.int .i64 a1, .int .i64 n1]) rfl rfl) rfl ?_
      refine tl (y_extract (vs := [.int .i64 a1, .int .i64 n1]) rfl rfl) rfl ?_
      refine tl (y_assign rfl) rfl ?_
      refine tl (y_assign rfl) rfl ?_
      refine tl_end ?_
      refine ex_next ?_
      refine tc_seq ?_
      refine tc_seq ?_
      refine tc_region ?_
      refine tl (y_move rfl) rfl ?_
      refine tl (y_move rfl) rfl ?_
      refine tl (y_ne rfl rfl) rfl ?_
      refine tl (y_move rfl) rfl ?_
      refine tl_false (t := 56) rfl (by rw [ea, e1]; simp [h46]) ?_
      refine tl (y_move rfl) rfl ?_
      refine tl (y_move rfl) rfl ?_
      refine tl (y_len rfl rfl) rfl ?_
      refine tl (y_ne rfl rfl) rfl ?_
      refine tl (y_pick_f rfl rfl) rfl ?_
      refine tl (y_move rfl) rfl ?_
      refine tl_false (t := 62) rfl (by rw [en, e2]; simp) ?_
      refine tl (y_ld (k := 0) rfl rfl rfl rfl) rfl ?_
      refine tl (y_move rfl) rfl ?_
      refine tl_call rfl rfl (equal_spec (x := x) (S := [bx b_3 [.slice Aq ((bs (fun i => gt zs i) (zs.length : Int).toNat 0 zs.length).2).length cq] 23, Lq, bx b_2 [.int .i64 (zs.length : Int)] 3, bx b_1 [.slice (sla A 0 c kB.sz) zs.length c] 22, R, Ld]) (i := 1) (j := 5) Oq.rd Od.rd rfl rfl (by rw [e2]; omega)) (fun _ h => h) rfl (fun v_ => tl_pure fun e_ => tl_val e_ ?_)
      refine tl (y_notd rfl) rfl ?_
      refine tl (y_pick_f rfl rfl) rfl ?_
      refine tl_end ?_
      refine ex_next ?_
      have h67 : ¬ (¬ ((bs (fun i => gt zs i) (zs.length : Int).toNat 0 zs.length).2 = k)) := fun h => h e2
      refine tc_if rfl (fun h' => absurd h' h67) (fun _ => ?_)
      refine tc_skip ?_
      refine ex_next ?_
      refine tc_seq ?_
      refine tc_region ?_
      refine tl (y_move rfl) rfl ?_
      refine tl (y_conv64 rfl rfl rfl (by omega)) rfl ?_
      refine tl (y_ld (k := 2) rfl rfl rfl rfl) rfl ?_
      refine tl (y_addi rfl rfl (by omega)) rfl ?_
      refine tl (y_remi rfl rfl (by omega)) rfl ?_
      refine tl_alloc (cs := [.int .i64 0]) rfl rfl rfl (fun b_4 => ?_)
      refine tl_store 0 (vs := [.int .i64 (m % ((zs.length : Int) + 1))]) (cs' := [.int .i64 (m % ((zs.length : Int) + 1))]) (S' := [bx b_4 [.int .i64 (m % ((zs.length : Int) + 1))] 3, bx b_3 [.slice Aq ((bs (fun i => gt zs i) (zs.length : Int).toNat 0 zs.length).2).length cq] 23, Lq, bx b_2 [.int .i64 (zs.length : Int)] 3, bx b_1 [.slice (sla A 0 c kB.sz) zs.length c] 22, R, Ld]) rfl rfl rfl rfl rfl rfl rfl rfl rfl rfl ?_
      refine tl_end ?_
      refine ex_next ?_
      refine tc_seq ?_
      refine tc_region ?_
      refine tl (y_ld (k := 3) rfl rfl rfl rfl) rfl ?_
      refine tl (y_func (fi := []) (ca := [.tmp 13]) rfl rfl) rfl ?_
      refine tl_call rfl rfl (search_spec (zs.length : Int) (by omega) 7 [.pointer (some ⟨b_4, 0, none⟩)] (fun i => decide (m % ((zs.length : Int) + 1) ≤ i)) (fun _ => St x [bx b_4 [.int .i64 (m % ((zs.length : Int) + 1))] 3, bx b_3 [.slice Aq ((bs (fun i => gt zs i) (zs.length : Int).toNat 0 zs.length).2).length cq] 23, Lq, bx b_2 [.int .i64 (zs.length : Int)] 3, bx b_1 [.slice (sla A 0 c kB.sz) zs.length c] 22, R, Ld]) rfl (fun _ i _ _ => thr_walk i)) (fun _ h => h.pick [0, 1, 2, 3, 4, 5, 6] rfl rfl) rfl (fun v_ => tl_ex fun a2 => tl_ex fun n2 => tl_pure fun e_ => tl_val e_ ?_)
      refine tl_pure fun ea2 => tl_pure fun en2 => ?_
      refine tl (y_move rfl) rfl ?_
      refine tl (y_extract (vs := [.int .i64 a2, .int .i64 n2]) rfl rfl) rfl ?_
      refine tl (y_extract (vs := [.int .i64 a2, .int .i64 n2]) rfl rfl) rfl ?_
      refine tl (y_assign rfl) rfl ?_
      refine tl (y_assign rfl) rfl ?_
      refine tl_end ?_
      refine ex_next ?_
      refine tc_seq ?_
      refine tc_region ?_
      refine tl_call rfl rfl (search_none (C := St x [bx b_4 [.int .i64 (m % ((zs.length : Int) + 1))] 3, bx b_3 [.slice Aq ((bs (fun i => gt zs i) (zs.length : Int).toNat 0 zs.length).2).length cq] 23, Lq, bx b_2 [.int .i64 (zs.length : Int)] 3, bx b_1 [.slice (sla A 0 c kB.sz) zs.length c] 22, R, Ld]) (-1) .nilFunc (by omega)) (fun _ h => h) rfl (fun v_ => tl_pure fun e_ => tl_val e_ ?_)
      refine tl (y_move rfl) rfl ?_
      refine tl (y_extract (vs := [.int .i64 (-1), .int .i64 0]) rfl rfl) rfl ?_
      refine tl (y_extract (vs := [.int .i64 (-1), .int .i64 0]) rfl rfl) rfl ?_
      refine tl (y_assign rfl) rfl ?_
      refine tl (y_assign rfl) rfl ?_
      refine tl_end ?_
      refine ex_next ?_
      refine tc_seq ?_
      refine tc_region ?_
      refine tl_call rfl rfl (search_spec 8 (by omega) 8 [] (fun i => decide (5 ≤ i)) (fun _ => St x [bx b_4 [.int .i64 (m % ((zs.length : Int) + 1))] 3, bx b_3 [.slice Aq ((bs (fun i => gt zs i) (zs.length : Int).toNat 0 zs.length).2).length cq] 23, Lq, bx b_2 [.int .i64 (zs.length : Int)] 3, bx b_1 [.slice (sla A 0 c kB.sz) zs.length c] 22, R, Ld]) rfl (fun _ i _ _ => five_walk i)) (fun _ h => h) rfl (fun v_ => tl_ex fun a3 => tl_ex fun n3 => tl_pure fun e_ => tl_val e_ ?_)
      refine tl_pure fun ea3 => tl_pure fun en3 => ?_
      refine tl (y_move rfl) rfl ?_
      refine tl (y_extract (vs := [.int .i64 a3, .int .i64 n3]) rfl rfl) rfl ?_
      refine tl (y_extract (vs := [.int .i64 a3, .int .i64 n3]) rfl rfl) rfl ?_
      refine tl (y_assign rfl) rfl ?_
      refine tl (y_assign rfl) rfl ?_
      refine tl_end ?_
      refine ex_next ?_
      refine tc_seq ?_
      refine tc_region ?_
      refine tl (y_move rfl) rfl ?_
      refine tl (y_ld (k := 0) rfl rfl rfl rfl) rfl ?_
      refine tl (y_eq rfl rfl) rfl ?_
      refine tl (y_move rfl) rfl ?_
      refine tl_if (t := 90) rfl (fun h90 => ?_) (fun h90 => ?_)
      · refine tl_off rfl ?_
        refine tl_off rfl ?_
        refine tl_off rfl ?_
        refine tl_off rfl ?_
        refine tl_off rfl ?_
        refine tl_off rfl ?_
        refine tl_off rfl ?_
        refine tl (y_pick_t rfl rfl) rfl ?_
        refine tl (y_move rfl) rfl ?_
        refine tl (y_move rfl) rfl ?_
        refine tl (y_le rfl rfl) rfl ?_
        refine tl (y_pick_t rfl rfl) rfl ?_
        refine tl (y_move rfl) rfl ?_
        refine tl_true (t := 103) rfl (by rw [en2]; exact_mod_cast e4) ?_
        refine tl (y_move rfl) rfl ?_
        refine tl (y_eq rfl rfl) rfl ?_
        refine tl (y_pick_t rfl rfl) rfl ?_
        refine tl (y_move rfl) rfl ?_
        refine tl_true (t := 107) rfl (rfl) ?_
        refine tl (y_move rfl) rfl ?_
        refine tl (y_eq rfl rfl) rfl ?_
        refine tl (y_pick_t rfl rfl) rfl ?_
        refine tl (y_move rfl) rfl ?_
        refine tl_true (t := 111) rfl (rfl) ?_
        refine tl (y_move rfl) rfl ?_
        refine tl (y_eq rfl rfl) rfl ?_
        refine tl (y_pick_t rfl rfl) rfl ?_
        refine tl (y_move rfl) rfl ?_
        refine tl_true (t := 115) rfl (by rw [ea3, e5]; rfl) ?_
        refine tl (y_move rfl) rfl ?_
        refine tl (y_eq rfl rfl) rfl ?_
        refine tl (y_pick_t rfl rfl) rfl ?_
        refine tl (y_assign rfl) rfl ?_
        refine tl_end ?_
        refine ex_next ?_
        refine tc_ret ?_
        refine ex_ret1 rfl rfl (fun w hw => ?_)
        exact ⟨by rw [en3, e5]; rfl, hw.pick [5] rfl rfl⟩
      · refine tl (y_ld (k := 0) rfl rfl rfl rfl) rfl ?_
        refine tl (y_ld (k := 3) rfl rfl rfl rfl) rfl ?_
        refine tl (y_eq rfl rfl) rfl ?_
        refine tl (y_move rfl) rfl ?_
        refine tl_true (t := 94) rfl (by rw [ea2, e3] at h90; by_cases h : m % ((zs.length : Int) + 1) = (zs.length : Int); exact h; rw [if_neg h] at h90; exact absurd rfl h90) ?_
        refine tl (y_move rfl) rfl ?_
        refine tl (y_eq rfl rfl) rfl ?_
        refine tl (y_pick_t rfl rfl) rfl ?_
        refine tl (y_pick_f rfl rfl) rfl ?_
        refine tl (y_move rfl) rfl ?_
        refine tl_true (t := 99) rfl (by rw [ea2, e3] at h90 ⊢; by_cases h : m % ((zs.length : Int) + 1) = (zs.length : Int); rw [if_pos h]; rw [if_neg h] at h90; exact absurd rfl h90) ?_
        refine tl (y_move rfl) rfl ?_
        refine tl (y_le rfl rfl) rfl ?_
        refine tl (y_pick_t rfl rfl) rfl ?_
        refine tl (y_move rfl) rfl ?_
        refine tl_true (t := 103) rfl (by rw [en2]; exact_mod_cast e4) ?_
        refine tl (y_move rfl) rfl ?_
        refine tl (y_eq rfl rfl) rfl ?_
        refine tl (y_pick_t rfl rfl) rfl ?_
        refine tl (y_move rfl) rfl ?_
        refine tl_true (t := 107) rfl (rfl) ?_
        refine tl (y_move rfl) rfl ?_
        refine tl (y_eq rfl rfl) rfl ?_
        refine tl (y_pick_t rfl rfl) rfl ?_
        refine tl (y_move rfl) rfl ?_
        refine tl_true (t := 111) rfl (rfl) ?_
        refine tl (y_move rfl) rfl ?_
        refine tl (y_eq rfl rfl) rfl ?_
        refine tl (y_pick_t rfl rfl) rfl ?_
        refine tl (y_move rfl) rfl ?_
        refine tl_true (t := 115) rfl (by rw [ea3, e5]; rfl) ?_
        refine tl (y_move rfl) rfl ?_
        refine tl (y_eq rfl rfl) rfl ?_
        refine tl (y_pick_t rfl rfl) rfl ?_
        refine tl (y_assign rfl) rfl ?_
        refine tl_end ?_
        refine ex_next ?_
        refine tc_ret ?_
        refine ex_ret1 rfl rfl (fun w hw => ?_)
        exact ⟨by rw [en3, e5]; rfl, hw.pick [5] rfl rfl⟩
    · refine tc_skip ?_
      refine ex_next ?_
      refine tc_seq ?_
      have e1 : (bs (fun i => gt zs i) (zs.length : Int).toNat 0 zs.length).1 = lo := by rw [bs_end h28] at hR; exact hR.symm
      have e2 : (bs (fun i => gt zs i) (zs.length : Int).toNat 0 zs.length).2 = k := by rw [bs_end h28] at hK; simpa using hK.symm
      have hk0 : 0 ≤ m % ((zs.length : Int) + 1) ∧ m % ((zs.length : Int) + 1) ≤ zs.length := ⟨Int.emod_nonneg _ (by omega), by have := Int.emod_lt_of_pos m (show (0 : Int) < (zs.length : Int) + 1 by omega); omega⟩
      have e3 : (bs (fun i => decide (m % ((zs.length : Int) + 1) ≤ i)) (zs.length : Int).toNat 0 zs.length).1 = m % ((zs.length : Int) + 1) := bs_thr _ _ _ hk0.1 hk0.2 (by omega)
      have e4 : (bs (fun i => decide (m % ((zs.length : Int) + 1) ≤ i)) (zs.length : Int).toNat 0 zs.length).2.length ≤ 7 := bs_few 7 _ _ _ (by simp; omega)
      have e5 : bs (fun i => decide (5 ≤ i)) (8 : Int).toNat 0 8 = (5, [4, 6, 5]) := bs_eight
      refine tc_region ?_
      refine tl (y_ld (k := 2) rfl rfl rfl rfl) rfl ?_
      refine tl (y_func (fi := []) (ca := [.tmp 6, .tmp 5, .tmp 2]) rfl rfl) rfl ?_
      have hS := search_spec (zs.length : Int) (by omega) 5 [.pointer (some ⟨b_3, 0, none⟩), .pointer (some ⟨b_2, 0, none⟩), .pointer (some ⟨b_1, 0, none⟩)] (fun i => gt zs i) (Asked x b_3 b_2 b_1 (sla A 0 c kB.sz) zs c R [Ld]) rfl (fun k' i hi hk => ask_spec hz (by omega) k' i hi hk)
      refine tl_call rfl rfl hS (fun _ h => ⟨none, 0, [], Own.nil, ((h.pick [0, 2, 3, 4, 1] rfl rfl).empty).pick [1, 0, 2, 3, 4, 5] rfl rfl⟩) rfl (fun v_ => tl_ex fun a1 => tl_ex fun n1 => tl_pure fun e_ => tl_val e_ ?_)
      refine tl_pure fun ea => tl_pure fun en => tl_ex fun Aq => tl_ex fun cq => tl_ex fun Lq => tl_pure fun Oq => ?_
      refine tl (y_move rfl) rfl ?_
      refine tl (y_extract (vs := [.int .i64 a1, .int .i64 n1]) rfl rfl) rfl ?_
      refine tl (y_extract (vs := [.int .i64 a1, .int .i64 n1]) rfl rfl) rfl ?_
      refine tl (y_assign rfl) rfl ?_
      refine tl (y_assign rfl) rfl ?_
      refine tl_end ?_
      refine ex_next ?_
      refine tc_seq ?_
      refine tc_seq ?_
      refine tc_region ?_
      refine tl (y_move rfl) rfl ?_
      refine tl (y_move rfl) rfl ?_
      refine tl (y_ne rfl rfl) rfl ?_
      refine tl (y_move rfl) rfl ?_
      refine tl_false (t := 56) rfl (by rw [ea, e1]; simp [h46]) ?_
      refine tl (y_move rfl) rfl ?_
      refine tl (y_move rfl) rfl ?_
      refine tl (y_len rfl rfl) rfl ?_
      refine tl (y_ne rfl rfl) rfl ?_
      refine tl (y_pick_f rfl rfl) rfl ?_
      refine tl (y_move rfl) rfl ?_
      refine tl_false (t := 62) rfl (by rw [en, e2]; simp) ?_
      refine tl (y_ld (k := 0) rfl rfl rfl rfl) rfl ?_
      refine tl (y_move rfl) rfl ?_
      refine tl_call rfl rfl (equal_spec (x := x) (S := [bx b_3 [.slice Aq ((bs (fun i => gt zs i) (zs.length : Int).toNat 0 zs.length).2).length cq] 23, Lq, bx b_2 [.int .i64 (zs.length : Int)] 3, bx b_1 [.slice (sla A 0 c kB.sz) zs.length c] 22, R, Ld]) (i := 1) (j := 5) Oq.rd Od.rd rfl rfl (by rw [e2]; omega)) (fun _ h => h) rfl (fun v_ => tl_pure fun e_ => tl_val e_ ?_)
      refine tl (y_notd rfl) rfl ?_
      refine tl (y_pick_f rfl rfl) rfl ?_
      refine tl_end ?_
      refine ex_next ?_
      have h67 : ¬ (¬ ((bs (fun i => gt zs i) (zs.length : Int).toNat 0 zs.length).2 = k)) := fun h => h e2
      refine tc_if rfl (fun h' => absurd h' h67) (fun _ => ?_)
      refine tc_skip ?_
      refine ex_next ?_
      refine tc_seq ?_
      refine tc_region ?_
      refine tl (y_move rfl) rfl ?_
      refine tl (y_conv64 rfl rfl rfl (by omega)) rfl ?_
      refine tl (y_ld (k := 2) rfl rfl rfl rfl) rfl ?_
      refine tl (y_addi rfl rfl (by omega)) rfl ?_
      refine tl (y_remi rfl rfl (by omega)) rfl ?_
      refine tl_alloc (cs := [.int .i64 0]) rfl rfl rfl (fun b_5 => ?_)
      refine tl_store 0 (vs := [.int .i64 (m % ((zs.length : Int) + 1))]) (cs' := [.int .i64 (m % ((zs.length : Int) + 1))]) (S' := [bx b_5 [.int .i64 (m % ((zs.length : Int) + 1))] 3, bx b_3 [.slice Aq ((bs (fun i => gt zs i) (zs.length : Int).toNat 0 zs.length).2).length cq] 23, Lq, bx b_2 [.int .i64 (zs.length : Int)] 3, bx b_1 [.slice (sla A 0 c kB.sz) zs.length c] 22, R, Ld]) rfl rfl rfl rfl rfl rfl rfl rfl rfl rfl ?_
      refine tl_end ?_
      refine ex_next ?_
      refine tc_seq ?_
      refine tc_region ?_
      refine tl (y_ld (k := 3) rfl rfl rfl rfl) rfl ?_
      refine tl (y_func (fi := []) (ca := [.tmp 13]) rfl rfl) rfl ?_
      refine tl_call rfl rfl (search_spec (zs.length : Int) (by omega) 7 [.pointer (some ⟨b_5, 0, none⟩)] (fun i => decide (m % ((zs.length : Int) + 1) ≤ i)) (fun _ => St x [bx b_5 [.int .i64 (m % ((zs.length : Int) + 1))] 3, bx b_3 [.slice Aq ((bs (fun i => gt zs i) (zs.length : Int).toNat 0 zs.length).2).length cq] 23, Lq, bx b_2 [.int .i64 (zs.length : Int)] 3, bx b_1 [.slice (sla A 0 c kB.sz) zs.length c] 22, R, Ld]) rfl (fun _ i _ _ => thr_walk i)) (fun _ h => h.pick [0, 1, 2, 3, 4, 5, 6] rfl rfl) rfl (fun v_ => tl_ex fun a2 => tl_ex fun n2 => tl_pure fun e_ => tl_val e_ ?_)
      refine tl_pure fun ea2 => tl_pure fun en2 => ?_
      refine tl (y_move rfl) rfl ?_
      refine tl (y_extract (vs := [.int .i64 a2, .int .i64 n2]) rfl rfl) rfl ?_
      refine tl (y_extract (vs := [.int .i64 a2, .int .i64 n2]) rfl rfl) rfl ?_
      refine tl (y_assign rfl) rfl ?_
      refine tl (y_assign rfl) rfl ?_
      refine tl_end ?_
      refine ex_next ?_
      refine tc_seq ?_
      refine tc_region ?_
      refine tl_call rfl rfl (search_none (C := St x [bx b_5 [.int .i64 (m % ((zs.length : Int) + 1))] 3, bx b_3 [.slice Aq ((bs (fun i => gt zs i) (zs.length : Int).toNat 0 zs.length).2).length cq] 23, Lq, bx b_2 [.int .i64 (zs.length : Int)] 3, bx b_1 [.slice (sla A 0 c kB.sz) zs.length c] 22, R, Ld]) (-1) .nilFunc (by omega)) (fun _ h => h) rfl (fun v_ => tl_pure fun e_ => tl_val e_ ?_)
      refine tl (y_move rfl) rfl ?_
      refine tl (y_extract (vs := [.int .i64 (-1), .int .i64 0]) rfl rfl) rfl ?_
      refine tl (y_extract (vs := [.int .i64 (-1), .int .i64 0]) rfl rfl) rfl ?_
      refine tl (y_assign rfl) rfl ?_
      refine tl (y_assign rfl) rfl ?_
      refine tl_end ?_
      refine ex_next ?_
      refine tc_seq ?_
      refine tc_region ?_
      refine tl_call rfl rfl (search_spec 8 (by omega) 8 [] (fun i => decide (5 ≤ i)) (fun _ => St x [bx b_5 [.int .i64 (m % ((zs.length : Int) + 1))] 3, bx b_3 [.slice Aq ((bs (fun i => gt zs i) (zs.length : Int).toNat 0 zs.length).2).length cq] 23, Lq, bx b_2 [.int .i64 (zs.length : Int)] 3, bx b_1 [.slice (sla A 0 c kB.sz) zs.length c] 22, R, Ld]) rfl (fun _ i _ _ => five_walk i)) (fun _ h => h) rfl (fun v_ => tl_ex fun a3 => tl_ex fun n3 => tl_pure fun e_ => tl_val e_ ?_)
      refine tl_pure fun ea3 => tl_pure fun en3 => ?_
      refine tl (y_move rfl) rfl ?_
      refine tl (y_extract (vs := [.int .i64 a3, .int .i64 n3]) rfl rfl) rfl ?_
      refine tl (y_extract (vs := [.int .i64 a3, .int .i64 n3]) rfl rfl) rfl ?_
      refine tl (y_assign rfl) rfl ?_
      refine tl (y_assign rfl) rfl ?_
      refine tl_end ?_
      refine ex_next ?_
      refine tc_seq ?_
      refine tc_region ?_
      refine tl (y_move rfl) rfl ?_
      refine tl (y_ld (k := 0) rfl rfl rfl rfl) rfl ?_
      refine tl (y_eq rfl rfl) rfl ?_
      refine tl (y_move rfl) rfl ?_
      refine tl_if (t := 90) rfl (fun h90 => ?_) (fun h90 => ?_)
      · refine tl_off rfl ?_
        refine tl_off rfl ?_
        refine tl_off rfl ?_
        refine tl_off rfl ?_
        refine tl_off rfl ?_
        refine tl_off rfl ?_
        refine tl_off rfl ?_
        refine tl (y_pick_t rfl rfl) rfl ?_
        refine tl (y_move rfl) rfl ?_
        refine tl (y_move rfl) rfl ?_
        refine tl (y_le rfl rfl) rfl ?_
        refine tl (y_pick_t rfl rfl) rfl ?_
        refine tl (y_move rfl) rfl ?_
        refine tl_true (t := 103) rfl (by rw [en2]; exact_mod_cast e4) ?_
        refine tl (y_move rfl) rfl ?_
        refine tl (y_eq rfl rfl) rfl ?_
        refine tl (y_pick_t rfl rfl) rfl ?_
        refine tl (y_move rfl) rfl ?_
        refine tl_true (t := 107) rfl (rfl) ?_
        refine tl (y_move rfl) rfl ?_
        refine tl (y_eq rfl rfl) rfl ?_
        refine tl (y_pick_t rfl rfl) rfl ?_
        refine tl (y_move rfl) rfl ?_
        refine tl_true (t := 111) rfl (rfl) ?_
        refine tl (y_move rfl) rfl ?_
        refine tl (y_eq rfl rfl) rfl ?_
        refine tl (y_pick_t rfl rfl) rfl ?_
        refine tl (y_move rfl) rfl ?_
        refine tl_true (t := 115) rfl (by rw [ea3, e5]; rfl) ?_
        refine tl (y_move rfl) rfl ?_
        refine tl (y_eq rfl rfl) rfl ?_
        refine tl (y_pick_t rfl rfl) rfl ?_
        refine tl (y_assign rfl) rfl ?_
        refine tl_end ?_
        refine ex_next ?_
        refine tc_ret ?_
        refine ex_ret1 rfl rfl (fun w hw => ?_)
        exact ⟨by rw [en3, e5]; rfl, hw.pick [5] rfl rfl⟩
      · refine tl (y_ld (k := 0) rfl rfl rfl rfl) rfl ?_
        refine tl (y_ld (k := 3) rfl rfl rfl rfl) rfl ?_
        refine tl (y_eq rfl rfl) rfl ?_
        refine tl (y_move rfl) rfl ?_
        refine tl_true (t := 94) rfl (by rw [ea2, e3] at h90; by_cases h : m % ((zs.length : Int) + 1) = (zs.length : Int); exact h; rw [if_neg h] at h90; exact absurd rfl h90) ?_
        refine tl (y_move rfl) rfl ?_
        refine tl (y_eq rfl rfl) rfl ?_
        refine tl (y_pick_t rfl rfl) rfl ?_
        refine tl (y_pick_f rfl rfl) rfl ?_
        refine tl (y_move rfl) rfl ?_
        refine tl_true (t := 99) rfl (by rw [ea2, e3] at h90 ⊢; by_cases h : m % ((zs.length : Int) + 1) = (zs.length : Int); rw [if_pos h]; rw [if_neg h] at h90; exact absurd rfl h90) ?_
        refine tl (y_move rfl) rfl ?_
        refine tl (y_le rfl rfl) rfl ?_
        refine tl (y_pick_t rfl rfl) rfl ?_
        refine tl (y_move rfl) rfl ?_
        refine tl_true (t := 103) rfl (by rw [en2]; exact_mod_cast e4) ?_
        refine tl (y_move rfl) rfl ?_
        refine tl (y_eq rfl rfl) rfl ?_
        refine tl (y_pick_t rfl rfl) rfl ?_
        refine tl (y_move rfl) rfl ?_
        refine tl_true (t := 107) rfl (rfl) ?_
        refine tl (y_move rfl) rfl ?_
        refine tl (y_eq rfl rfl) rfl ?_
        refine tl (y_pick_t rfl rfl) rfl ?_
        refine tl (y_move rfl) rfl ?_
        refine tl_true (t := 111) rfl (rfl) ?_
        refine tl (y_move rfl) rfl ?_
        refine tl (y_eq rfl rfl) rfl ?_
        refine tl (y_pick_t rfl rfl) rfl ?_
        refine tl (y_move rfl) rfl ?_
        refine tl_true (t := 115) rfl (by rw [ea3, e5]; rfl) ?_
        refine tl (y_move rfl) rfl ?_
        refine tl (y_eq rfl rfl) rfl ?_
        refine tl (y_pick_t rfl rfl) rfl ?_
        refine tl (y_assign rfl) rfl ?_
        refine tl_end ?_
        refine ex_next ?_
        refine tc_ret ?_
        refine ex_ret1 rfl rfl (fun w hw => ?_)
        exact ⟨by rw [en3, e5]; rfl, hw.pick [5] rfl rfl⟩

end Go.Proofs.Ytmhdljehofmhhaa
