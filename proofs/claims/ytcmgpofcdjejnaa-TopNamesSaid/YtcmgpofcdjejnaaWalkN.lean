/-
  The table of names: its functions, each with what it does: proved by following its operations.
-/
import Derived.Test.YtcmgpofcdjejnaaRows
import Derived.Test.YtcmgpofcdjejnaaArgs
import Derived.Test.YtcmgpofcdjejnaaPlainN
set_option linter.unusedVariables false
namespace Go.Proofs.Ytcmgpofcdjejnaa
open Go
theorem clone_spec {x : Out} {S : List (List Chunk)} {A : Option Addr} {xs : List Int} {c i : Nat} {L : List Chunk} (hx : Rd (kI .u8) A xs c L) (hi : S[i]? = some L) (hl : xs.length ≤ 1048576) :
    Spec Try.prog 7 #[.slice A xs.length c] (St x (S)) (fun v w => ∃ A' : Option Addr, ∃ c' : Nat, ∃ L' : List Chunk, v = .slice A' xs.length c' ∧ Own 5 (kI .u8) A' xs c' L' ∧ St x (L' :: S) w) := by
  refine spec_of (args := [.slice A xs.length c]) Try.func7 rfl rfl rfl ?_
  refine tc_seq ?_
  refine tc_region ?_
  refine tl (y_assign rfl) rfl ?_
  refine tl_end ?_
  refine ex_next ?_
  refine tc_seq ?_
  refine tc_seq ?_
  refine tc_region ?_
  refine tl (y_move rfl) rfl ?_
  refine tl (y_isnil (A := A) rfl rfl rfl) rfl ?_
  refine tl_end ?_
  refine ex_next ?_
  refine tc_cond rfl (fun h4 => ?_) (fun h4 => ?_)
  · refine tc_seq ?_
    refine tc_region ?_
    refine tl (y_assign rfl) rfl ?_
    refine tl_end ?_
    refine ex_next ?_
    refine tc_ret ?_
    refine ex_pass_ret ?_
    refine ex_ret1 rfl rfl (fun w hw => ?_)
    have e : xs = [] := by rcases hx.2 with h | ⟨b, _, _, _, _, h, _⟩; exact h; rw [h] at h4; cases h4
    exact ⟨none, 0, [], by rw [e]; rfl, by rw [e]; exact Own.nil, hw.empty⟩
  · refine tc_skip ?_
    refine ex_next ?_
    refine tc_seq ?_
    refine tc_region ?_
    refine tl_lit step_tl (K := (kI .u8)) (xs := []) (vs := []) ([] : List Int) rfl rfl trivial rfl rfl rfl rfl rfl (fun A_1 L_1 O_1 => ?_)
    refine tl (y_move rfl) rfl ?_
    refine tl_append step_tl (by_ := 1) 0 (i + 1) O_1 hx rfl rfl rfl rfl rfl rfl rfl rfl hi rfl (by simp; omega) (by simp; omega) rfl (fun A_2 c_1 L_2 O_2 le_1 => ?_)
    change TG _ _ _ (St x (L_2 :: S))
    refine tl (y_assign rfl) rfl ?_
    refine tl_end ?_
    refine ex_next ?_
    refine tc_ret ?_
    refine ex_ret1 rfl rfl (fun w hw => ?_)
    exact ⟨_, _, _, rfl, O_2, hw⟩

theorem bclone_spec {x : Out} {S : List (List Chunk)} {A : Option Addr} {xs : List Int} {c i : Nat} {L : List Chunk} (hx : Rd (kI .u8) A xs c L) (hi : S[i]? = some L) (hl : xs.length ≤ 1048576) :
    Spec Try.prog 36 #[.slice A xs.length c] (St x (S)) (fun v w => ∃ A' : Option Addr, ∃ c' : Nat, ∃ L' : List Chunk, v = .slice A' xs.length c' ∧ Own 5 (kI .u8) A' xs c' L' ∧ St x (L' :: S) w) := by
  refine spec_of (args := [.slice A xs.length c]) Try.func36 rfl rfl rfl ?_
  refine tc_seq ?_
  refine tc_region ?_
  refine tl (y_assign rfl) rfl ?_
  refine tl_end ?_
  refine ex_next ?_
  refine tc_seq ?_
  refine tc_seq ?_
  refine tc_region ?_
  refine tl (y_move rfl) rfl ?_
  refine tl (y_isnil (A := A) rfl rfl rfl) rfl ?_
  refine tl_end ?_
  refine ex_next ?_
  refine tc_cond rfl (fun h4 => ?_) (fun h4 => ?_)
  · refine tc_seq ?_
    refine tc_region ?_
    refine tl (y_assign rfl) rfl ?_
    refine tl_end ?_
    refine ex_next ?_
    refine tc_ret ?_
    refine ex_pass_ret ?_
    refine ex_ret1 rfl rfl (fun w hw => ?_)
    have e : xs = [] := by rcases hx.2 with h | ⟨b, _, _, _, _, h, _⟩; exact h; rw [h] at h4; cases h4
    exact ⟨none, 0, [], by rw [e]; rfl, by rw [e]; exact Own.nil, hw.empty⟩
  · refine tc_skip ?_
    refine ex_next ?_
    refine tc_seq ?_
    refine tc_region ?_
    refine tl_lit step_tl (K := (kI .u8)) (xs := []) (vs := []) ([] : List Int) rfl rfl trivial rfl rfl rfl rfl rfl (fun A_1 L_1 O_1 => ?_)
    refine tl (y_move rfl) rfl ?_
    refine tl_append step_tl (by_ := 1) 0 (i + 1) O_1 hx rfl rfl rfl rfl rfl rfl rfl rfl hi rfl (by simp; omega) (by simp; omega) rfl (fun A_2 c_1 L_2 O_2 le_1 => ?_)
    change TG _ _ _ (St x (L_2 :: S))
    refine tl (y_assign rfl) rfl ?_
    refine tl_end ?_
    refine ex_next ?_
    refine tc_ret ?_
    refine ex_ret1 rfl rfl (fun w hw => ?_)
    exact ⟨_, _, _, rfl, O_2, hw⟩

theorem index_spec {x : Out} {S : List (List Chunk)} {A : Option Addr} {xs : List ByteArray} {c i : Nat} {L : List Chunk} (hx : Rd kS A xs c L) (hi : S[i]? = some L) (v : ByteArray) (hl : xs.length ≤ 4611686018427387904) :
    Spec Try.prog 8 #[.slice A xs.length c, .string v] (St x S) (fun u w => ∃ r : Int, u = .int .i64 r ∧ ((0 ≤ r ∧ r < xs.length ∧ gt xs r = v ∧ ∀ q : Int, 0 ≤ q ∧ q < r → gt xs q ≠ v) ∨ (r = -1 ∧ v ∉ xs)) ∧ St x S w) := by
  refine spec_of (args := [.slice A xs.length c, .string v]) Try.func8 rfl rfl rfl ?_
  refine tc_seq ?_
  refine tc_region ?_
  refine tl (y_assign rfl) rfl ?_
  refine tl_end ?_
  refine ex_next ?_
  refine tc_seq ?_
  refine tc_seq ?_
  refine tc_region ?_
  refine tl (y_move rfl) rfl ?_
  refine tl (y_len rfl rfl) rfl ?_
  refine tl (y_move rfl) rfl ?_
  refine tl_end ?_
  refine ex_next ?_
  refine tc_block ?_
  refine tc_loop (fun l_ C_ m_ => ∃ k : Int, (0 ≤ k ∧ k ≤ xs.length) ∧ (∀ q : Int, 0 ≤ q ∧ q < k → gt xs q ≠ v) ∧ l_ = [(0, .slice A xs.length c), (1, .string v), (6, .slice A xs.length c), (7, .int .i64 (xs.length : Int)), (8, .int .i64 k)] ∧ C_ = St x S ∧ m_ = (xs.length - k).toNat) ⟨_, by omega, fun q hq => absurd hq (by omega), rfl, rfl, rfl⟩ (sc rfl (sc rfl (sc rfl (sc rfl (sc rfl sn))))) (fun _ h => h) ?_
  rintro _ _ _ ⟨k, hk, hq', rfl, rfl, rfl⟩
  refine tc_seq ?_
  refine tc_region ?_
  refine tl (y_lt rfl rfl) rfl ?_
  refine tl_end ?_
  refine ex_next ?_
  refine tc_seq ?_
  refine tc_if rfl (fun h9 => ?_) (fun h9 => ?_)
  · refine tc_skip ?_
    refine ex_next ?_
    refine tc_seq ?_
    refine tc_block ?_
    refine tc_seq ?_
    refine tc_region ?_
    refine tl (y_move rfl) rfl ?_
    refine tl (y_assign rfl) rfl ?_
    refine tl_end ?_
    refine ex_next ?_
    refine tc_seq ?_
    refine tc_region ?_
    refine tl (y_move rfl) rfl ?_
    refine tl (y_move rfl) rfl ?_
    refine tl (y_move rfl) rfl ?_
    refine tl (y_idx hx rfl rfl rfl rfl (by omega)) rfl ?_
    refine tl (y_el0 (k := i) hx rfl hi (by omega) rfl rfl) rfl ?_
    refine tl (y_eqs rfl rfl) rfl ?_
    refine tl_end ?_
    refine ex_next ?_
    refine tc_if rfl (fun h16 => ?_) (fun h16 => ?_)
    · refine tc_seq ?_
      refine tc_region ?_
      refine tl (y_move rfl) rfl ?_
      refine tl (y_assign rfl) rfl ?_
      refine tl_end ?_
      refine ex_next ?_
      refine tc_ret ?_
      refine ex_block_ret (ex_pass_ret (ex_pass_ret (ex_block_ret (ex_pass_ret ?_))))
      refine ex_ret1 rfl rfl (fun w hw => ?_)
      exact ⟨k, rfl, .inl ⟨hk.1, by omega, h16.symm, hq'⟩, hw⟩
    · refine tc_skip ?_
      refine ex_block_end (ex_next ?_)
      refine tc_region ?_
      refine tl (y_addi rfl rfl (by omega)) rfl ?_
      refine tl (y_move rfl) rfl ?_
      refine tl_end ?_
      exact ex_round ⟨_, by omega, fun q hq => by rcases (by omega : q < k ∨ q = k) with h | h; exact hq' q ⟨hq.1, h⟩; rw [h]; exact fun e => h16 e.symm, rfl, rfl, rfl⟩ (by omega) (sc rfl (sc rfl (sc rfl (sc rfl (sc rfl sn))))) (fun _ h => h)
  · refine tc_exit ?_
    refine ex_pass_exit (ex_pass_exit (ex_block_hit (ex_next ?_)))
    refine tc_seq ?_
    refine tc_region ?_
    refine tl (y_assign rfl) rfl ?_
    refine tl_end ?_
    refine ex_next ?_
    refine tc_ret ?_
    refine ex_ret1 rfl rfl (fun w hw => ?_)
    refine ⟨-1, rfl, .inr ⟨rfl, fun h => ?_⟩, hw⟩
    obtain ⟨q, h1, h2, h3⟩ := gt_of_mem h; exact absurd h3 (hq' q ⟨h1, by omega⟩)

theorem hash_spec {x : Out} {S : List (List Chunk)} {A : Option Addr} {xs : List Int} {c i : Nat} {L : List Chunk} (hx : Rd (kI .u8) A xs c L) (hi : S[i]? = some L) (hl : xs.length ≤ 1048576) (hb : ∀ n ∈ xs, isByte n) :
    Spec Try.prog 10 #[.slice A xs.length c] (St x S) (fun v w => v = .int .u64 (hsh xs) ∧ St x S w) := by
  refine spec_of (args := [.slice A xs.length c]) Try.func10 rfl rfl rfl ?_
  refine tc_seq ?_
  refine tc_region ?_
  refine tl (y_assign rfl) rfl ?_
  refine tl_end ?_
  refine ex_next ?_
  refine tc_seq ?_
  refine tc_region ?_
  refine tl (y_assign rfl) rfl ?_
  refine tl_end ?_
  refine ex_next ?_
  refine tc_seq ?_
  refine tc_seq ?_
  refine tc_region ?_
  refine tl (y_move rfl) rfl ?_
  refine tl (y_len rfl rfl) rfl ?_
  refine tl (y_move rfl) rfl ?_
  refine tl_end ?_
  refine ex_next ?_
  refine tc_block ?_
  refine tc_loop (fun l_ C_ m_ => ∃ k : Int, ∃ h : Int, (0 ≤ k ∧ k ≤ xs.length) ∧ (h = hsh (xs.take k.toNat)) ∧ l_ = [(0, .slice A xs.length c), (3, .int .u64 h), (5, .slice A xs.length c), (6, .int .i64 (xs.length : Int)), (7, .int .i64 k)] ∧ C_ = St x S ∧ m_ = (xs.length - k).toNat) ⟨_, 14695981039346656037, by omega, rfl, rfl, rfl, rfl⟩ (sc rfl (sc rfl (sc rfl (sc rfl (sc rfl sn))))) (fun _ h => h) ?_
  rintro _ _ _ ⟨k, h, hk, hh, rfl, rfl, rfl⟩
  refine tc_seq ?_
  refine tc_region ?_
  refine tl (y_lt rfl rfl) rfl ?_
  refine tl_end ?_
  refine ex_next ?_
  refine tc_seq ?_
  refine tc_if rfl (fun h8 => ?_) (fun h8 => ?_)
  · refine tc_skip ?_
    refine ex_next ?_
    refine tc_seq ?_
    refine tc_block ?_
    refine tc_seq ?_
    refine tc_region ?_
    refine tl (y_move rfl) rfl ?_
    refine tl (y_assign rfl) rfl ?_
    refine tl_end ?_
    refine ex_next ?_
    have hb1 := hb _ (mem_gt (xs := xs) (q := k) (by omega)); simp only [isByte] at hb1
    refine tc_region ?_
    refine tl (y_move rfl) rfl ?_
    refine tl (y_move rfl) rfl ?_
    refine tl (y_move rfl) rfl ?_
    refine tl (y_idx hx rfl rfl rfl rfl (by omega)) rfl ?_
    refine tl (y_el0 (k := i) hx rfl hi (by omega) rfl rfl) rfl ?_
    refine tl (y_convk (k := .u64) rfl rfl rfl (by simp only [fits]; omega)) rfl ?_
    refine tl (y_xor rfl rfl) rfl ?_
    refine tl (y_mul rfl rfl) rfl ?_
    refine tl (y_assign rfl) rfl ?_
    refine tl_end ?_
    refine ex_block_end (ex_next ?_)
    refine tc_region ?_
    refine tl (y_addi rfl rfl (by omega)) rfl ?_
    refine tl (y_move rfl) rfl ?_
    refine tl_end ?_
    exact ex_round ⟨_, _, by omega, hsh_step (by omega) hh, rfl, rfl, rfl⟩ (by omega) (sc rfl (sc rfl (sc rfl (sc rfl (sc rfl sn))))) (fun _ h => h)
  · refine tc_exit ?_
    refine ex_pass_exit (ex_pass_exit (ex_block_hit (ex_next ?_)))
    refine tc_seq ?_
    refine tc_region ?_
    refine tl (y_move rfl) rfl ?_
    refine tl (y_assign rfl) rfl ?_
    refine tl_end ?_
    refine ex_next ?_
    refine tc_ret ?_
    refine ex_ret1 rfl rfl (fun w hw => ?_)
    have e : xs.take k.toNat = xs := take_self (by omega)
    rw [e] at hh
    exact ⟨by rw [hh], hw⟩

theorem phash_spec {x : Out} {S : List (List Chunk)} {A : Option Addr} {xs : List Int} {c i : Nat} {L : List Chunk} (hx : Rd (kI .u8) A xs c L) (hi : S[i]? = some L) (hl : xs.length ≤ 1048576) (hb : ∀ n ∈ xs, isByte n) :
    Spec Try.prog 11 #[.slice A xs.length c] (St x S) (fun v w => v = .int .u64 (hsh xs) ∧ St x S w) := by
  refine spec_of (args := [.slice A xs.length c]) Try.func11 rfl rfl rfl ?_
  refine tc_seq ?_
  refine tc_region ?_
  refine tl (y_assign rfl) rfl ?_
  refine tl_end ?_
  refine ex_next ?_
  refine tc_seq ?_
  refine tc_region ?_
  refine tl (y_assign rfl) rfl ?_
  refine tl_end ?_
  refine ex_next ?_
  refine tc_seq ?_
  refine tc_seq ?_
  refine tc_region ?_
  refine tl (y_move rfl) rfl ?_
  refine tl (y_len rfl rfl) rfl ?_
  refine tl (y_move rfl) rfl ?_
  refine tl_end ?_
  refine ex_next ?_
  refine tc_block ?_
  refine tc_loop (fun l_ C_ m_ => ∃ k : Int, ∃ h : Int, (0 ≤ k ∧ k ≤ xs.length) ∧ (h = hsh (xs.take k.toNat)) ∧ l_ = [(0, .slice A xs.length c), (3, .int .u64 h), (6, .slice A xs.length c), (7, .int .i64 (xs.length : Int)), (8, .int .i64 k)] ∧ C_ = St x S ∧ m_ = (xs.length - k).toNat) ⟨_, 14695981039346656037, by omega, rfl, rfl, rfl, rfl⟩ (sc rfl (sc rfl (sc rfl (sc rfl (sc rfl sn))))) (fun _ h => h) ?_
  rintro _ _ _ ⟨k, h, hk, hh, rfl, rfl, rfl⟩
  refine tc_seq ?_
  refine tc_region ?_
  refine tl (y_lt rfl rfl) rfl ?_
  refine tl_end ?_
  refine ex_next ?_
  refine tc_seq ?_
  refine tc_if rfl (fun h9 => ?_) (fun h9 => ?_)
  · refine tc_skip ?_
    refine ex_next ?_
    refine tc_seq ?_
    refine tc_block ?_
    refine tc_seq ?_
    have hb1 := hb _ (mem_gt (xs := xs) (q := k) (by omega)); simp only [isByte] at hb1
    refine tc_region ?_
    refine tl (y_idx hx rfl rfl rfl rfl (by omega)) rfl ?_
    refine tl (y_el0 (k := i) hx rfl hi (by omega) rfl rfl) rfl ?_
    refine tl (y_assign rfl) rfl ?_
    refine tl_end ?_
    refine ex_next ?_
    refine tc_region ?_
    refine tl (y_move rfl) rfl ?_
    refine tl (y_move rfl) rfl ?_
    refine tl (y_convk (k := .u64) rfl rfl rfl (by simp only [fits]; omega)) rfl ?_
    refine tl (y_xor rfl rfl) rfl ?_
    refine tl (y_mul rfl rfl) rfl ?_
    refine tl (y_assign rfl) rfl ?_
    refine tl_end ?_
    refine ex_block_end (ex_next ?_)
    refine tc_region ?_
    refine tl (y_addi rfl rfl (by omega)) rfl ?_
    refine tl (y_move rfl) rfl ?_
    refine tl_end ?_
    exact ex_round ⟨_, _, by omega, hsh_step (by omega) hh, rfl, rfl, rfl⟩ (by omega) (sc rfl (sc rfl (sc rfl (sc rfl (sc rfl sn))))) (fun _ h => h)
  · refine tc_exit ?_
    refine ex_pass_exit (ex_pass_exit (ex_block_hit (ex_next ?_)))
    refine tc_seq ?_
    refine tc_region ?_
    refine tl (y_move rfl) rfl ?_
    refine tl (y_assign rfl) rfl ?_
    refine tl_end ?_
    refine ex_next ?_
    refine tc_ret ?_
    refine ex_ret1 rfl rfl (fun w hw => ?_)
    have e : xs.take k.toNat = xs := take_self (by omega)
    rw [e] at hh
    exact ⟨by rw [hh], hw⟩

theorem made_spec {x : Out} {S : List (List Chunk)} {b m : Nat} {lim : Int} {u : Value} :
    Spec Try.prog 35 #[.pointer (some ⟨b, 0, none⟩)] (St x (bx b [.int .i64 lim, .map (some m), u] 66 :: S)) (fun v w => v = .bool true ∧ St x (bx b [.int .i64 lim, .map (some m), u] 66 :: S) w) := by
  refine spec_of (args := [.pointer (some ⟨b, 0, none⟩)]) Try.func35 rfl rfl rfl ?_
  refine tc_seq ?_
  refine tc_region ?_
  refine tl (y_assign rfl) rfl ?_
  refine tl_end ?_
  refine ex_next ?_
  refine tc_seq ?_
  refine tc_region ?_
  refine tl (y_move rfl) rfl ?_
  refine tl (y_ptr_ne rfl rfl rfl) rfl ?_
  refine tl (y_move rfl) rfl ?_
  refine tl (y_move rfl) rfl ?_
  refine tl (y_nil_ptr rfl) rfl ?_
  refine tl (y_fa rfl rfl rfl) rfl ?_
  refine tl (y_ld (k := 0) rfl rfl rfl rfl) rfl ?_
  refine tl (y_map_ne rfl rfl rfl) rfl ?_
  refine tl (y_pick_t rfl rfl) rfl ?_
  refine tl (y_assign rfl) rfl ?_
  refine tl_end ?_
  refine ex_next ?_
  refine tc_ret ?_
  refine ex_ret1 rfl rfl (fun w hw => ?_)
  exact ⟨rfl, hw.pickT [0] 1 rfl rfl⟩

theorem tlen_spec {x : Out} {S : List (List Chunk)} {b m : Nat} {lim : Int} {f : ByteArray → Option Int} {Ak : Option Addr} {rs : List (Row Int)} {ck : Nat} {M K LL : List Chunk} {all : List ByteArray} (T : Tab m f Ak rs ck M K LL all) :
    Spec Try.prog 13 #[.pointer (some ⟨b, 0, none⟩)] (St x (bx b [.int .i64 lim, .map (some m), .slice Ak rs.length ck] 66 :: M :: K :: LL :: S)) (fun v w => v = .int .i64 (all.length : Int) ∧ St x (bx b [.int .i64 lim, .map (some m), .slice Ak rs.length ck] 66 :: M :: K :: LL :: S) w) := by
  refine spec_of (args := [.pointer (some ⟨b, 0, none⟩)]) Try.func13 rfl rfl rfl ?_
  refine tc_seq ?_
  refine tc_region ?_
  refine tl (y_assign rfl) rfl ?_
  refine tl_end ?_
  refine ex_next ?_
  refine tc_seq ?_
  refine tc_seq ?_
  refine tc_region ?_
  refine tl (y_move rfl) rfl ?_
  refine tl_call step_tl rfl rfl (made_spec (x := x) (S := (M :: K :: LL :: S))) (fun _ h => h) rfl (fun v_ => tl_pure fun e_ => tl_val e_ ?_)
  refine tl (y_not rfl) rfl ?_
  refine tl_end ?_
  refine ex_next ?_
  refine tc_no rfl ?_
  refine tc_skip ?_
  refine ex_next ?_
  refine tc_seq ?_
  refine tc_region ?_
  refine tl (y_move rfl) rfl ?_
  refine tl (y_nil_ptr rfl) rfl ?_
  refine tl (y_fa rfl rfl rfl) rfl ?_
  refine tl (y_ld (k := 0) rfl rfl rfl rfl) rfl ?_
  refine tl (y_len rfl rfl) rfl ?_
  refine tl (y_assign rfl) rfl ?_
  refine tl_end ?_
  refine ex_next ?_
  refine tc_ret ?_
  refine ex_ret1 rfl rfl (fun w hw => ?_)
  exact ⟨by rw [T.len], hw.pickT [0, 1, 2, 3] 4 rfl rfl⟩

theorem find_spec {x : Out} {S : List (List Chunk)} {b m : Nat} {lim : Int} {f : ByteArray → Option Int} {Ak : Option Addr} {rs : List (Row Int)} {ck : Nat} {M K LL : List Chunk} {all : List ByteArray} (T : Tab m f Ak rs ck M K LL all) {A : Option Addr} {xs : List Int} {c i : Nat} {L : List Chunk} (hx : Rd (kI .u8) A xs c L) (hi : S[i]? = some L) :
    Spec Try.prog 9 #[.pointer (some ⟨b, 0, none⟩), .slice A xs.length c] (St x (bx b [.int .i64 lim, .map (some m), .slice Ak rs.length ck] 66 :: M :: K :: LL :: S)) (fun v w => v = .tuple #[.int .i64 ((f (bs xs)).getD 0), .bool (f (bs xs)).isSome] ∧ St x (bx b [.int .i64 lim, .map (some m), .slice Ak rs.length ck] 66 :: M :: K :: LL :: S) w) := by
  refine spec_of (args := [.pointer (some ⟨b, 0, none⟩), .slice A xs.length c]) Try.func9 rfl rfl rfl ?_
  refine tc_seq ?_
  refine tc_region ?_
  refine tl (y_assign rfl) rfl ?_
  refine tl (y_assign rfl) rfl ?_
  refine tl_end ?_
  refine ex_next ?_
  refine tc_seq ?_
  refine tc_seq ?_
  refine tc_region ?_
  refine tl (y_move rfl) rfl ?_
  refine tl_call step_tl rfl rfl (made_spec (x := x) (S := (M :: K :: LL :: S))) (fun _ h => h) rfl (fun v_ => tl_pure fun e_ => tl_val e_ ?_)
  refine tl (y_not rfl) rfl ?_
  refine tl_end ?_
  refine ex_next ?_
  refine tc_no rfl ?_
  refine tc_skip ?_
  refine ex_next ?_
  refine tc_seq ?_
  refine tc_draw x (by kernel_rfl) (by kernel_rfl) ?_
  refine tq (y_move rfl) rfl ?_
  refine tq (y_nil_ptr rfl) rfl ?_
  refine tq (y_fa rfl rfl rfl) rfl ?_
  refine tq (y_ld (k := 0) rfl rfl rfl rfl) rfl ?_
  refine tq (y_move rfl) rfl ?_
  refine tq (y_str (k := (i + 4)) hx rfl hi rfl rfl rfl) rfl ?_
  refine tq (y_lookup2 (Y := yS) (kv := (Value.int .i64)) (a := (bs xs)) (z0 := 0) (k := 1) T.map rfl rfl rfl rfl rfl rfl) rfl ?_
  refine tq (y_move rfl) rfl ?_
  refine tq (y_extract (vs := [.int .i64 (((f) (bs xs)).getD 0), .bool (((f) (bs xs)).isSome)]) rfl rfl) rfl ?_
  refine tq (y_extract (vs := [.int .i64 (((f) (bs xs)).getD 0), .bool (((f) (bs xs)).isSome)]) rfl rfl) rfl ?_
  refine tq (y_assign rfl) rfl ?_
  refine tq (y_assign rfl) rfl ?_
  refine tq_end ?_
  refine ex_next ?_
  refine tc_seq ?_
  refine tc_region ?_
  refine tl (y_move rfl) rfl ?_
  refine tl (y_move rfl) rfl ?_
  refine tl (y_assign rfl) rfl ?_
  refine tl (y_assign rfl) rfl ?_
  refine tl_end ?_
  refine ex_next ?_
  refine tc_ret ?_
  refine ex_ret2 rfl rfl rfl (fun w hw => ?_)
  exact ⟨rfl, hw.pickT [0, 1, 2, 3] 4 rfl rfl⟩

theorem key_spec {x : Out} {S : List (List Chunk)} {b m : Nat} {lim : Int} {f : ByteArray → Option Int} {Ak : Option Addr} {rs : List (Row Int)} {ck : Nat} {M K LL : List Chunk} {all : List ByteArray} (T : Tab m f Ak rs ck M K LL all) (i : Int) :
    Spec Try.prog 14 #[.pointer (some ⟨b, 0, none⟩), .int .i64 i] (St x (bx b [.int .i64 lim, .map (some m), .slice Ak rs.length ck] 66 :: M :: K :: LL :: S)) (fun v w => ∃ A' : Option Addr, ∃ ys : List Int, ∃ c' : Nat, ∃ L' : List Chunk, v = .slice A' ys.length c' ∧ Own 5 (kI .u8) A' ys c' L' ∧ ((0 ≤ i ∧ i < all.length ∧ bs ys = gt all i ∧ (∀ n ∈ ys, isByte n) ∧ ys.length ≤ 6) ∨ (¬ (0 ≤ i ∧ i < all.length) ∧ ys = [])) ∧ St x (L' :: bx b [.int .i64 lim, .map (some m), .slice Ak rs.length ck] 66 :: M :: K :: LL :: S) w) := by
  have hlen := T.len; have hfew := T.few
  refine spec_of (args := [.pointer (some ⟨b, 0, none⟩), .int .i64 i]) Try.func14 rfl rfl rfl ?_
  refine tc_seq ?_
  refine tc_region ?_
  refine tl (y_assign rfl) rfl ?_
  refine tl_end ?_
  refine ex_next ?_
  refine tc_seq ?_
  refine tc_seq ?_
  refine tc_region ?_
  refine tl (y_move rfl) rfl ?_
  refine tl (y_lt rfl rfl) rfl ?_
  refine tl (y_move rfl) rfl ?_
  refine tl_if (t := 7) rfl (fun h7 => ?_) (fun h7 => ?_)
  · refine tl_off rfl ?_
    refine tl_off rfl ?_
    refine tl_off rfl ?_
    refine tl_off rfl ?_
    refine tl (y_pick_t rfl rfl) rfl ?_
    refine tl_end ?_
    refine ex_next ?_
    refine tc_yes rfl ?_
    refine tc_seq ?_
    refine tc_region ?_
    refine tl (y_assign rfl) rfl ?_
    refine tl_end ?_
    refine ex_next ?_
    refine tc_ret ?_
    refine ex_pass_ret ?_
    refine ex_ret1 rfl rfl (fun w hw => ?_)
    exact ⟨none, [], 0, [], rfl, Own.nil, .inr ⟨by omega, rfl⟩, (hw.pickT [0, 1, 2, 3] 4 rfl rfl).empty⟩
  · refine tl (y_move rfl) rfl ?_
    refine tl (y_move rfl) rfl ?_
    refine tl_call step_tl rfl rfl (tlen_spec (x := x) (S := (S)) T) (fun _ h => h) rfl (fun v_ => tl_pure fun e_ => tl_val e_ ?_)
    refine tl (y_ge rfl rfl) rfl ?_
    refine tl (y_pick_f rfl rfl) rfl ?_
    refine tl_end ?_
    refine ex_next ?_
    refine tc_if rfl (fun h12 => ?_) (fun h12 => ?_)
    · refine tc_seq ?_
      refine tc_region ?_
      refine tl (y_assign rfl) rfl ?_
      refine tl_end ?_
      refine ex_next ?_
      refine tc_ret ?_
      refine ex_pass_ret ?_
      refine ex_ret1 rfl rfl (fun w hw => ?_)
      exact ⟨none, [], 0, [], rfl, Own.nil, .inr ⟨by omega, rfl⟩, (hw.pickT [0, 1, 2, 3] 4 rfl rfl).empty⟩
    · refine tc_skip ?_
      refine ex_next ?_
      refine tc_seq ?_
      refine tc_region ?_
      refine tl (y_move rfl) rfl ?_
      refine tl (y_nil_ptr rfl) rfl ?_
      refine tl (y_fa rfl rfl rfl) rfl ?_
      refine tl (y_ld (k := 0) rfl rfl rfl rfl) rfl ?_
      refine tl (y_move rfl) rfl ?_
      refine tl (y_idx T.own.rd rfl rfl rfl rfl (by omega)) rfl ?_
      refine tl (y_el0 (k := 2) T.own.rd rfl rfl (by omega) rfl rfl) rfl ?_
      have hk6 := (T.row (gt rs i) (mem_gt (by omega))).2.2
      refine tl_call step_tl rfl rfl (bclone_spec (x := x) (S := (bx b [.int .i64 lim, .map (some m), .slice Ak rs.length ck] 66 :: M :: K :: LL :: S)) (i := 3) ((T.row (gt rs i) (mem_gt (by omega))).1) rfl (by first | omega | (rw [List.length_take]; omega))) (fun _ h => h) rfl (fun v_ => tl_ex fun A_1 => tl_ex fun c_1 => tl_ex fun L_1 => tl_pure fun e_ => tl_val e_ ?_)
      refine tl_pure fun O_1 => ?_
      refine tl (y_assign rfl) rfl ?_
      refine tl_end ?_
      refine ex_next ?_
      refine tc_ret ?_
      refine ex_ret1 rfl rfl (fun w hw => ?_)
      exact ⟨_, _, _, _, rfl, O_1, .inl ⟨by omega, by omega, T.key i (by omega), (T.row (gt rs i) (mem_gt (by omega))).2⟩, hw.pickT [0, 1, 2, 3, 4] 5 rfl rfl⟩

theorem add_spec {x : Out} {S : List (List Chunk)} {b m : Nat} {lim : Int} {f : ByteArray → Option Int} {Ak : Option Addr} {rs : List (Row Int)} {ck : Nat} {M K LL : List Chunk} {all : List ByteArray} (T : Tab m f Ak rs ck M K LL all) {A : Option Addr} {xs : List Int} {c i : Nat} {L : List Chunk} (hx : Rd (kI .u8) A xs c L) (hi : S[i]? = some L) (hb : ∀ n ∈ xs, isByte n) (hx6 : xs.length ≤ 6) (hlim : lim ≤ 39) :
    Spec Try.prog 12 #[.pointer (some ⟨b, 0, none⟩), .slice A xs.length c] (St x (bx b [.int .i64 lim, .map (some m), .slice Ak rs.length ck] 66 :: M :: K :: LL :: S)) (fun v w => ∃ (n er : Int) (ad : Bool) (f' : ByteArray → Option Int) (A' : Option Addr) (rs' : List (Row Int)) (c' : Nat) (M' K' LL' : List Chunk) (all' : List ByteArray), v = .tuple #[.int .i64 n, .bool ad, .int .i64 er] ∧ Tab m f' A' rs' c' M' K' LL' all' ∧ Added f (bs xs) lim all n er ad all' ∧ St x (bx b [.int .i64 lim, .map (some m), .slice A' rs'.length c'] 66 :: M' :: K' :: LL' :: S) w) := by
  have hlen := T.len; have hfew := T.few
  refine spec_of (args := [.pointer (some ⟨b, 0, none⟩), .slice A xs.length c]) Try.func12 rfl rfl rfl ?_
  refine tc_seq ?_
  refine tc_region ?_
  refine tl (y_assign rfl) rfl ?_
  refine tl (y_assign rfl) rfl ?_
  refine tl (y_assign rfl) rfl ?_
  refine tl_end ?_
  refine ex_next ?_
  refine tc_seq ?_
  refine tc_seq ?_
  refine tc_region ?_
  refine tl (y_move rfl) rfl ?_
  refine tl_call step_tl rfl rfl (made_spec (x := x) (S := (M :: K :: LL :: S))) (fun _ h => h) rfl (fun v_ => tl_pure fun e_ => tl_val e_ ?_)
  refine tl (y_not rfl) rfl ?_
  refine tl_end ?_
  refine ex_next ?_
  refine tc_no rfl ?_
  refine tc_skip ?_
  refine ex_next ?_
  refine tc_seq ?_
  refine tc_seq ?_
  refine tc_draw x (by kernel_rfl) (by kernel_rfl) ?_
  refine tq (y_move rfl) rfl ?_
  refine tq (y_nil_ptr rfl) rfl ?_
  refine tq (y_fa rfl rfl rfl) rfl ?_
  refine tq (y_ld (k := 0) rfl rfl rfl rfl) rfl ?_
  refine tq (y_move rfl) rfl ?_
  refine tq (y_str (k := (i + 4)) hx rfl hi rfl rfl rfl) rfl ?_
  refine tq (y_lookup2 (Y := yS) (kv := (Value.int .i64)) (a := (bs xs)) (z0 := 0) (k := 1) T.map rfl rfl rfl rfl rfl rfl) rfl ?_
  refine tq (y_move rfl) rfl ?_
  refine tq (y_extract (vs := [.int .i64 (((f) (bs xs)).getD 0), .bool (((f) (bs xs)).isSome)]) rfl rfl) rfl ?_
  refine tq (y_extract (vs := [.int .i64 (((f) (bs xs)).getD 0), .bool (((f) (bs xs)).isSome)]) rfl rfl) rfl ?_
  refine tq (y_assign rfl) rfl ?_
  refine tq (y_assign rfl) rfl ?_
  refine tq_end ?_
  refine ex_next ?_
  refine tc_seq ?_
  refine tc_region ?_
  refine tl (y_move rfl) rfl ?_
  refine tl_end ?_
  refine ex_next ?_
  refine tc_cond rfl (fun h22 => ?_) (fun h22 => ?_)
  · refine tc_seq ?_
    refine tc_region ?_
    refine tl (y_move rfl) rfl ?_
    refine tl (y_assign rfl) rfl ?_
    refine tl (y_assign rfl) rfl ?_
    refine tl (y_assign rfl) rfl ?_
    refine tl_end ?_
    refine ex_next ?_
    refine tc_ret ?_
    refine ex_pass_ret ?_
    refine ex_ret3 rfl rfl rfl rfl (fun w hw => ?_)
    obtain ⟨i₀, hi0⟩ := Option.isSome_iff_exists.1 h22
    exact ⟨_, _, _, f, Ak, rs, ck, M, K, LL, all, rfl, T, .inl ⟨i₀, hi0, by rw [hi0]; rfl, rfl, rfl, rfl⟩, hw.pickT [0, 1, 2, 3] 4 rfl rfl⟩
  · refine tc_skip ?_
    refine ex_next ?_
    refine tc_seq ?_
    refine tc_seq ?_
    refine tc_draw x (by kernel_rfl) (by kernel_rfl) ?_
    refine tq (y_move rfl) rfl ?_
    refine tq (y_nil_ptr rfl) rfl ?_
    refine tq (y_fa rfl rfl rfl) rfl ?_
    refine tq (y_ld (k := 0) rfl rfl rfl rfl) rfl ?_
    refine tq (y_len rfl rfl) rfl ?_
    refine tq (y_move rfl) rfl ?_
    refine tq (y_nil_ptr rfl) rfl ?_
    refine tq (y_fa rfl rfl rfl) rfl ?_
    refine tq (y_ld (k := 0) rfl rfl rfl rfl) rfl ?_
    refine tq (y_ge rfl rfl) rfl ?_
    refine tq_end ?_
    refine ex_next ?_
    refine tc_if rfl (fun h33 => ?_) (fun h33 => ?_)
    · refine tc_seq ?_
      refine tc_region ?_
      refine tl (y_assign rfl) rfl ?_
      refine tl (y_assign rfl) rfl ?_
      refine tl (y_assign rfl) rfl ?_
      refine tl_end ?_
      refine ex_next ?_
      refine tc_ret ?_
      refine ex_pass_ret ?_
      refine ex_ret3 rfl rfl rfl rfl (fun w hw => ?_)
      exact ⟨_, _, _, f, Ak, rs, ck, M, K, LL, all, rfl, T, .inr (.inl ⟨Option.not_isSome_iff_eq_none.1 (by rw [h22]; decide), by omega, rfl, rfl, rfl, rfl⟩), hw.pickT [0, 1, 2, 3] 4 rfl rfl⟩
    · refine tc_skip ?_
      refine ex_next ?_
      refine tc_seq ?_
      refine tc_region ?_
      refine tl (y_move rfl) rfl ?_
      refine tl (y_nil_ptr rfl) rfl ?_
      refine tl (y_fa rfl rfl rfl) rfl ?_
      refine tl (y_ld (k := 0) rfl rfl rfl rfl) rfl ?_
      refine tl (y_len rfl rfl) rfl ?_
      refine tl (y_assign rfl) rfl ?_
      refine tl_end ?_
      refine ex_next ?_
      refine tc_seq ?_
      refine tc_tree [(0, .p), (1, .p), (2, .p), (3, .r), (4, .p), (5, .r), (6, .p)] (.quiet 0 .p (.quiet 1 .p (.quiet 2 .p (.quiet 3 .r (.quiet 4 .p (.quiet 5 .r (.quiet 6 .p (.fork 7 [] .done .stop)))))))) (by kernel_rfl) (by kernel_rfl) ?_
      refine tt_p rfl (y_move rfl) rfl ?_
      refine tt_p rfl (y_nil_ptr rfl) rfl ?_
      refine tt_p rfl (y_fa rfl rfl rfl) rfl ?_
      refine tt_r rfl (y_ld (k := 0) rfl rfl rfl rfl) rfl ?_
      refine tt_p rfl (y_move rfl) rfl ?_
      refine tt_r rfl (y_str (k := (i + 4)) hx rfl hi rfl rfl rfl) rfl ?_
      refine tt_p rfl (y_move rfl) rfl ?_
      refine tl_update (step_tt rfl) 1 (bs xs) (rs.length : Int) T.map rfl rfl rfl rfl rfl rfl rfl (fun M_1 Q_1 => ?_)
      change TG _ _ _ (St x (bx b [.int .i64 lim, .map (some m), .slice Ak rs.length ck] 66 :: M_1 :: K :: LL :: S))
      refine kept_nil ?_
      refine tt_end ?_
      refine ex_next ?_
      refine tc_seq ?_
      refine tc_tree [(0, .p), (1, .p), (2, .p), (3, .p), (4, .r), (6, .p), (10, .p), (11, .p)] (.quiet 0 .p (.quiet 1 .p (.quiet 2 .p (.quiet 3 .p (.quiet 4 .r (.quiet 6 .p (.fork 5 [4] (.fork 7 [4] (.fork 8 [4] (.fork 9 [] (.quiet 10 .p (.quiet 11 .p (.fork 12 [] .done .stop))) .stop) .stop) .stop) .stop))))))) (by kernel_rfl) (by kernel_rfl) ?_
      refine tt_p rfl (y_move rfl) rfl ?_
      refine tt_p rfl (y_move rfl) rfl ?_
      refine tt_p rfl (y_nil_ptr rfl) rfl ?_
      refine tt_p rfl (y_fa rfl rfl rfl) rfl ?_
      refine tt_r rfl (y_ld (k := 0) rfl rfl rfl rfl) rfl ?_
      refine tt_p rfl (y_move rfl) rfl ?_
      refine tl_lit (step_tt rfl) (K := (kI .u8)) (xs := []) (vs := []) ([] : List Int) rfl rfl trivial rfl rfl rfl rfl rfl (fun A_1 L_1 O_1 => ?_)
      refine kept_on rfl rfl rfl (y_ld (k := 1) rfl rfl rfl rfl) ?_
      refine kept_nil ?_
      refine tl_append (step_tt rfl) (by_ := 1) 0 (i + 5) O_1 hx rfl rfl rfl rfl rfl rfl rfl rfl hi rfl (by simp; omega) (by simp; omega) rfl (fun A_2 c_1 L_2 O_2 le_1 => ?_)
      change TG _ _ _ (St x (L_2 :: bx b [.int .i64 lim, .map (some m), .slice Ak rs.length ck] 66 :: M_1 :: K :: LL :: S))
      refine kept_on rfl rfl rfl (y_ld (k := 1) rfl rfl rfl rfl) ?_
      refine kept_nil ?_
      refine tl_one (step_tt rfl) (K := (kR Int)) (⟨A_2, ([] : List Int) ++ xs, c_1⟩ : Row _) rfl rfl rfl rfl rfl rfl rfl rfl rfl (fun A_3 L_3 O_3 => ?_)
      refine kept_on rfl rfl rfl (y_ld (k := 2) rfl rfl rfl rfl) ?_
      refine kept_nil ?_
      refine tl_append (step_tt rfl) (by_ := 24) 4 0 T.own O_3.rd rfl rfl rfl rfl rfl rfl rfl rfl rfl rfl (by simp; omega) (by simp; omega) rfl (fun A_4 c_2 L_4 O_4 le_2 => ?_)
      change TG _ _ _ (St x (L_3 :: L_2 :: bx b [.int .i64 lim, .map (some m), .slice Ak rs.length ck] 66 :: M_1 :: L_4 :: LL :: S))
      refine kept_nil ?_
      refine tt_p rfl (y_nil_ptr rfl) rfl ?_
      refine tt_p rfl (y_fa rfl rfl rfl) rfl ?_
      refine tl_store (step_tt rfl) 2 (vs := [.slice A_4 (rs ++ [(⟨A_2, ([] : List Int) ++ xs, c_1⟩ : Row _)]).length c_2]) (cs' := [.int .i64 lim, .map (some m), .slice A_4 (rs ++ [(⟨A_2, ([] : List Int) ++ xs, c_1⟩ : Row _)]).length c_2]) (S' := (L_3 :: L_2 :: bx b [.int .i64 lim, .map (some m), .slice A_4 (rs ++ [(⟨A_2, ([] : List Int) ++ xs, c_1⟩ : Row _)]).length c_2] 66 :: M_1 :: L_4 :: LL :: S)) rfl rfl rfl rfl rfl rfl rfl rfl rfl rfl ?_
      refine kept_nil ?_
      refine tt_end ?_
      refine ex_next ?_
      refine tc_seq ?_
      refine tc_region ?_
      refine tl (y_move rfl) rfl ?_
      refine tl (y_assign rfl) rfl ?_
      refine tl (y_assign rfl) rfl ?_
      refine tl (y_assign rfl) rfl ?_
      refine tl_end ?_
      refine ex_next ?_
      refine tc_ret ?_
      refine ex_ret3 rfl rfl rfl rfl (fun w hw => ?_)
      have hno := Option.not_isSome_iff_eq_none.1 (show ¬ (f (bs xs)).isSome = true by rw [h22]; decide)
      have Q' := Q_1
      rw [hlen] at Q'
      have T' := T.add Q' O_4 O_2.rd hb hx6 rfl hno (by omega)
      exact ⟨_, _, _, _, _, _, _, _, _, _, _, rfl, T', .inr (.inr ⟨hno, by omega, by rw [hlen], rfl, rfl, rfl⟩), (hw.pickT [2, 3, 4, 1, 5] 6 rfl rfl).merge3⟩

theorem new_spec {x : Out} {S : List (List Chunk)} (n lim : Int) (hlim : min (max n 0) 65536 = lim) :
    Spec Try.prog 6 #[.int .i64 n] (St x (S)) (fun v w => ∃ (b m : Nat) (M : List Chunk), v = .pointer (some ⟨b, 0, none⟩) ∧ Tab m (fun _ => none) none [] 0 M [] [] [] ∧ St x (bx b [.int .i64 lim, .map (some m), .slice none 0 0] 66 :: M :: [] :: [] :: S) w) := by
  refine spec_of (args := [.int .i64 n]) Try.func6 rfl rfl rfl ?_
  refine tc_seq ?_
  refine tc_region ?_
  refine tl (y_assign rfl) rfl ?_
  refine tl_end ?_
  refine ex_next ?_
  refine tc_seq ?_
  refine tc_region ?_
  refine tl (y_move rfl) rfl ?_
  refine tl (y_max rfl rfl) rfl ?_
  refine tl (y_min rfl rfl) rfl ?_
  refine tl_map ByteArray Int yS (Value.int .i64) step_tl rfl (fun m_1 M_1 Q_1 => ?_)
  refine tl (y_build (is := [0, 1]) (xs := [.tmp 5, .tmp 6]) (vs := [.int .i64 (min (max n 0) 65536), .map (some m_1)]) (cs := [.int .i64 (min (max n 0) 65536), .map (some m_1), .slice none 0 0]) rfl rfl rfl) rfl ?_
  refine tl_box step_tl (cs := [.int .i64 (min (max n 0) 65536), .map (some m_1), .slice none 0 0]) rfl rfl rfl (fun b_1 => ?_)
  refine tl (y_assign rfl) rfl ?_
  refine tl_end ?_
  refine ex_next ?_
  refine tc_ret ?_
  refine ex_ret1 rfl rfl (fun w hw => ?_)
  subst hlim; exact ⟨_, _, _, rfl, Tab.new Q_1, ((hw.pickT [0, 1] 2 rfl rfl).empty.empty).pickT [2, 3, 0, 1] 4 rfl rfl⟩

theorem add0_spec {x : Out} {S : List (List Chunk)} {b m : Nat} {M : List Chunk} (T : Tab m (fun _ => none) none [] 0 M [] [] []) :
    Spec Try.prog 12 #[.pointer (some ⟨b, 0, none⟩), .slice none 0 0] (St x (bx b [.int .i64 0, .map (some m), .slice none 0 0] 66 :: M :: [] :: [] :: S)) (fun v w => ∃ (n : Int) (ad : Bool), v = .tuple #[.int .i64 n, .bool ad, .int .i64 13] ∧ St x S w) := by
  have h := add_spec (x := x) (S := [] :: S) (b := b) (lim := 0) (A := none) (xs := []) (c := 0) (i := 0) (L := []) T Rd.nil rfl (by simp) (by simp) (by omega)
  refine h.mono (fun w hw => St.ofFlat hw (by simp [bx])) (fun v w hv => ?_)
  obtain ⟨n, er, ad, f', A', rs', c', M', K', LL', all', h1, h2, h3, h4⟩ := hv
  refine ⟨n, ad, ?_, (h4.pickT [] 5 rfl rfl)⟩
  rw [h1]
  rcases h3 with ⟨i, h, _⟩ | ⟨_, _, _, _, h, _⟩ | ⟨_, h, _⟩
  · cases h
  · rw [h]
  · simp at h

end Go.Proofs.Ytcmgpofcdjejnaa
