/-
  The base of the proofs: strings and rows of bytes; more comparisons; bits. It claims nothing of any program.
-/
import Derived.Test.YtcmgpofcdjejnaaArr
import Derived.Laws.IdiomStrings
import Derived.Laws.Strings
set_option linter.unusedVariables false
set_option linter.unusedSectionVars false
set_option linter.unusedSimpArgs false
namespace Go.Proofs.Ytcmgpofcdjejnaa
open Go

/-- a row within a row -/
structure Row (α : Type) where
  A : Option Addr
  xs : List α
  c : Nat
instance {α : Type} : Inhabited (Row α) := ⟨⟨none, [], 0⟩⟩
def kR (α : Type) : Kd (Row α) := ⟨fun r => [.slice r.A r.xs.length r.c], 1, fun _ => rfl, by intro a v h; simp at h; subst h; rfl⟩

/-- the string of these bytes -/
def bs (xs : List Int) : ByteArray := ⟨(xs.map fun n => UInt8.ofNat n.toNat).toArray⟩
/-- the bytes of a string -/
def byts (s : ByteArray) : List Int := s.data.toList.map fun b => (b.toNat : Int)
def isByte (n : Int) : Prop := 0 ≤ n ∧ n ≤ 255

theorem bs_byts (s : ByteArray) : bs (byts s) = s := by
  obtain ⟨d⟩ := s
  unfold bs byts
  congr 1
  apply Array.ext'
  simp [Function.comp_def]
theorem byts_bs {xs : List Int} (h : ∀ n ∈ xs, isByte n) : byts (bs xs) = xs := by
  unfold bs byts
  simp only [List.map_map]
  conv => rhs; rw [← List.map_id xs]
  apply List.map_congr_left
  intro n hn
  have := h n hn
  simp only [isByte] at this
  simp only [Function.comp_apply, id]
  rw [UInt8.toNat_ofNat']
  omega
theorem bs_inj {xs ys : List Int} (hx : ∀ n ∈ xs, isByte n) (hy : ∀ n ∈ ys, isByte n) (h : bs xs = bs ys) : xs = ys := by
  rw [← byts_bs hx, ← byts_bs hy, h]
theorem byts_isByte (s : ByteArray) : ∀ n ∈ byts s, isByte n := by
  intro n hn
  obtain ⟨b, _, rfl⟩ := List.mem_map.1 hn
  have := b.toNat_lt
  exact ⟨by omega, by omega⟩
theorem foldl_bs : ∀ (xs : List Int) (r : ByteArray), xs.foldl (fun r n => r.push (UInt8.ofNat n.toNat)) r = ⟨r.data ++ (xs.map fun n => UInt8.ofNat n.toNat).toArray⟩
  | [], r => by simp
  | n :: xs, r => by
    simp only [List.foldl_cons]
    rw [foldl_bs xs]
    simp [ByteArray.push]
theorem byts_length (s : ByteArray) : (byts s).length = s.size := by unfold byts; rw [List.length_map, Array.length_toList]; rfl

section
variable {P : Program} {ops : Array Oper} {n : Nat} {l : Slots} {K₁ K₀ : Act → World → Prop} {x : Out} {S : List (List Chunk)} {C : World → Prop} {d : Nat} {dst : Option Nat} {ty : TypeId} {pos : String} {af : Array Edge} {gd : Option (Nat × Bool)}

theorem row_u8 (xs : List Int) : (kI .u8).row xs = xs.map (Value.int .u8) := by
  induction xs with
  | nil => rfl
  | cons z zs ih => rw [Kd.row_cons, ih]; rfl

/-- string(b) -/
theorem y_str {s t e : TypeId} {X : Operand} {A : Option Addr} {xs : List Int} {c k : Nat} {L : List Chunk} (hr : Rd (kI .u8) A xs c L) (hX : ev l X = some (.slice A xs.length c)) (hk : S[k]? = some L) (hs : P.underlying s = some (.slice e)) (he : P.underlying e = some (.int .u8)) (ht : P.underlying t = some .string) :
    Y P n l (St x S) ⟨dst, .convert s t X, ty, pos, af, gd⟩ (.string (bs xs)) := y_of fun a w ha hw => by
  have hrun : (convert s t (.slice A xs.length c)).run P w = .ok (.string (bs xs)) w := by
    rw [run_convert_bytes_string w s t e A _ _ hs he ht]
    cases A with
    | none =>
      rcases hr.2 with rfl | ⟨b, off, cs, E, fr, hA, _⟩
      · simp [Conv.bytesToString, bs]; rfl
      · cases hA
    | some q =>
      have hl : (loadCells q xs.length).run P w = .ok (xs.map (Value.int .u8)).toArray w := by
        have h1 := hr.first (P := P) (w := w) (hw.at k hk) c
        rcases hr.2 with rfl | ⟨b, off, cs, E, fr, hA, hm, hcs⟩
        · simp [loadCells, loadCellsFrom]
        · simp only [Option.some.injEq] at hA
          subst hA
          have hb := hw.at k hk _ hm
          have := run_loadCells_list (P := P) w ⟨b, off, none⟩ (xs.map (Value.int .u8)) (fun j v hj => by
            have hlt : j < xs.length := by have := (List.getElem?_eq_some_iff.1 hj).1; simpa using this
            rw [add_lit]
            simp only [World.cell?, hb]
            have h2 := hcs j (by simpa [kI] using hlt)
            rw [row_u8] at h2
            simpa using h2.trans hj)
          simpa using this
      rw [run_bytesToString w q _ c xs hl, foldl_bs]
      simp [bs]
  simp [execOp, ha.ev hX, hrun]

theorem St.drewNew {w : World} (h : St x S w) (o : Obj) : St x ([(w.heap.size, o)] :: S) (w.drew.alloc o) := (h.drew).new o

/-- []byte(s) -/
theorem tl_bytes {s t e : TypeId} {X : Operand} {b : ByteArray} (stp : Step P ops ⟨dst, .convert s t X, ty, pos, af, gd⟩ K₁ K₀) (hX : ev l X = some (.string b)) (hs : P.underlying s = some .string) (ht : P.underlying t = some (.slice e)) (he : P.underlying e = some (.int .u8)) (hd : okw ops l ⟨dst, .convert s t X, ty, pos, af, gd⟩ n = some (true, d))
    (k : ∀ A c L, Rd (kI .u8) A (byts b) c L → TG K₁ n ((d, .slice A (byts b).length c) :: l) (St x (L :: S))) : TG K₀ n l (St x S) := by
  refine tl_eff (C' := fun v w => ∃ A c L, v = .slice A (byts b).length c ∧ Rd (kI .u8) A (byts b) c L ∧ St x (L :: S) w) stp hd (fun a w ha hw => ?_) (fun v => tl_ex fun A => tl_ex fun c => tl_ex fun L => tl_pure fun e => tl_pure fun h => tl_val e (k A c L h))
  have hrun := run_bytes_of_string w s t e b hs ht he
  refine ⟨_, _, by simp only [execOp, ha.ev hX, Sem.run_bind, hrun, Result.andThen_ok, Sem.run_pure]; rfl, some ⟨w.heap.size, 0, none⟩, grownCap w b.size 0 e, _, by rw [byts_length], ⟨by rw [byts_length]; have := grownCap_ge w b.size 0 e; omega, .inr ⟨w.heap.size, 0, _, e, _, rfl, List.mem_singleton.2 rfl, fun j hj => ?_⟩⟩, hw.drewNew _⟩
  have hj' : j < b.size := by rw [← byts_length]; simpa [kI] using hj
  have hjd : j < b.data.size := hj'
  rw [row_u8]
  simp only [Nat.zero_add, bytesRow]
  rw [Array.getElem?_append_left (by simpa using hjd)]
  simp [byts, hjd]
  rfl

theorem modify_eq {h : Array Obj} {b : Nat} {o : Obj} {f : Obj → Obj} (hb : h[b]? = some o) : h.modify b f = h.setIfInBounds b (f o) := by
  have hlt : b < h.size := (Array.getElem?_eq_some_iff.1 hb).1
  have ho : h[b] = o := (Array.getElem?_eq_some_iff.1 hb).2
  apply Array.ext
  · simp
  · intro i h1 h2
    rw [Array.getElem_modify, Array.getElem_setIfInBounds (by simpa using h1)]
    by_cases hi : b = i
    · subst hi; simp [ho]
    · simp [hi]
/-- []byte of a row of bytes: the row is marked -/
theorem tl_mark {t e E : TypeId} {X : Operand} {A : Option Addr} {xs : List Int} {c : Nat} {L : List Chunk} (stp : Step P ops ⟨dst, .convert t t X, ty, pos, af, gd⟩ K₁ K₀) (k : Nat) (own : Own E (kI .u8) A xs c L) (hne : xs ≠ []) (hX : ev l X = some (.slice A xs.length c)) (ht : P.underlying t = some (.slice e)) (he : P.underlying e = some (.int .u8)) (hk : S[k]? = some L) (hd : okw ops l ⟨dst, .convert t t X, ty, pos, af, gd⟩ n = some (true, d))
    (kk : ∀ L', Rd (kI .u8) A xs c L' → TG K₁ n ((d, .slice A xs.length c) :: l) (St x (S.set k L'))) : TG K₀ n l (St x S) := by
  refine tl_eff (C' := fun v w => ∃ L', v = .slice A xs.length c ∧ Rd (kI .u8) A xs c L' ∧ St x (S.set k L') w) stp hd (fun a w ha hw => ?_) (fun v => tl_ex fun L' => tl_pure fun e => tl_pure fun h => tl_val e (kk L' h))
  rcases own with ⟨_, rfl, _⟩ | ⟨b, pre, post, rfl, rfl, h1, h2⟩
  · exact absurd rfl hne
  · have hb : w.heap[b]? = some (.cells (pre ++ (kI .u8).row xs ++ post).toArray E (0, 0)) := hw.at k hk (b, _) (by simp)
    have hsh : w.shape? b = some (E, (pre ++ (kI .u8).row xs ++ post).toArray.size) := by
      unfold World.shape?
      rw [hb]
    have hfr : w.freeze ⟨b, (pre ++ (kI .u8).row xs ++ post).toArray.size, none⟩ 1 = { w with heap := w.heap.setIfInBounds b (.cells (pre ++ (kI .u8).row xs ++ post).toArray E ((pre ++ (kI .u8).row xs ++ post).toArray.size, (pre ++ (kI .u8).row xs ++ post).toArray.size + 1)) } := by
      unfold World.freeze
      rw [if_neg (by decide), modify_eq hb]
      rfl
    refine ⟨_, _, ?_, [(b, .cells (pre ++ (kI .u8).row xs ++ post).toArray E ((pre ++ (kI .u8).row xs ++ post).toArray.size, (pre ++ (kI .u8).row xs ++ post).toArray.size + 1))], rfl, ⟨h1, .inr ⟨b, pre.length, _, E, _, rfl, List.mem_singleton.2 rfl, fun j hj => ?_⟩⟩, hw.setObj hk⟩
    · have hrun : (convert t t (.slice (some ⟨b, pre.length, none⟩) xs.length c)).run P w = .ok (.slice (some ⟨b, pre.length, none⟩) xs.length c) { w with heap := w.heap.setIfInBounds b (.cells (pre ++ (kI .u8).row xs ++ post).toArray E ((pre ++ (kI .u8).row xs ++ post).toArray.size, (pre ++ (kI .u8).row xs ++ post).toArray.size + 1)) } := by
        simp only [convert, Sem.run_bind, run_underlying ht, Result.andThen_ok, run_underlying he, beq_self_eq_true, markStringish, run_shape, hsh, run_freeze, hfr, Sem.run_pure]
      simp only [execOp, ha.ev hX, Sem.run_bind, hrun, Result.andThen_ok, Sem.run_pure]
    · rw [← (kI .u8).row_length] at hj
      rw [List.getElem?_toArray, List.append_assoc, List.getElem?_append_right (by omega), Nat.add_sub_cancel_left, List.getElem?_append_left hj]

theorem str_beq (a b : ByteArray) : (a.toList == b.toList) = decide (a = b) := by
  rw [Bool.eq_iff_iff, decide_eq_true_eq, beq_iff_eq]
  constructor
  · intro h
    rw [ByteArray.toList_eq, ByteArray.toList_eq] at h
    obtain ⟨x⟩ := a
    obtain ⟨y⟩ := b
    congr 1
    exact Array.ext' h
  · rintro rfl; rfl
/-- strings compared -/
theorem y_eqs {T T' : TypeId} {X Z : Operand} {a b : ByteArray} (hx : ev l X = some (.string a)) (hz : ev l Z = some (.string b)) : Y P n l C ⟨dst, .binOp .eql T X Z T', ty, pos, af, gd⟩ (.bool (decide (a = b))) := y_of fun A w ha hw => by
  have h0 : (eqGuard .eql T X Z (.string a) (.string b)).run P w = .ok () w := rfl
  have h1 : (binOp .eql T (.string a) (.string b)).run P w = .ok (.bool (decide (a = b))) w := by
    rw [← str_beq]; rfl
  simp only [execOp, ha.ev hx, ha.ev hz, Sem.run_bind, h0, Result.andThen_ok, h1, Sem.run_pure]
theorem y_nes {T T' : TypeId} {X Z : Operand} {a b : ByteArray} (hx : ev l X = some (.string a)) (hz : ev l Z = some (.string b)) : Y P n l C ⟨dst, .binOp .neq T X Z T', ty, pos, af, gd⟩ (.bool (decide (a ≠ b))) := y_of fun A w ha hw => by
  have h0 : (eqGuard .neq T X Z (.string a) (.string b)).run P w = .ok () w := rfl
  have h1 : (binOp .neq T (.string a) (.string b)).run P w = .ok (.bool (decide (a ≠ b))) w := by
    rw [show decide (a ≠ b) = !(a.toList == b.toList) from by rw [str_beq]; simp]; rfl
  simp only [execOp, ha.ev hx, ha.ev hz, Sem.run_bind, h0, Result.andThen_ok, h1, Sem.run_pure]

/-- a pointer, a map against nil -/
theorem run_equalIn_ptr {T e : TypeId} {a : Addr} (ht : P.underlying T = some (.pointer e)) (w : World) (d : Nat) : (Op.equalIn (d + 1) T (.pointer (some a)) (.pointer none)).run P w = .ok false w := by
  unfold Op.equalIn; rw [Sem.run_bind, run_underlying ht]; rfl
theorem run_equalIn_ptr0 {T e : TypeId} (ht : P.underlying T = some (.pointer e)) (w : World) (d : Nat) : (Op.equalIn (d + 1) T (.pointer none) (.pointer none)).run P w = .ok true w := by
  unfold Op.equalIn; rw [Sem.run_bind, run_underlying ht]; rfl
theorem run_equalIn_map {T e u : TypeId} {r : Nat} (ht : P.underlying T = some (.map e u)) (w : World) (d : Nat) : (Op.equalIn (d + 1) T (.map (some r)) (.map none)).run P w = .ok false w := by
  unfold Op.equalIn; rw [Sem.run_bind, run_underlying ht]; rfl
theorem y_ptr_eq {T T' e : TypeId} {X Z : Operand} {a : Addr} (hx : ev l X = some (.pointer (some a))) (hz : ev l Z = some (.pointer none)) (ht : P.underlying T = some (.pointer e)) : Y P n l C ⟨dst, .binOp .eql T X Z T', ty, pos, af, gd⟩ (.bool false) :=
  y_eqv hx hz (fun _ => rfl) rfl (fun w _ => run_equalIn_ptr ht w 9999)
theorem y_ptr_ne {T T' e : TypeId} {X Z : Operand} {a : Addr} (hx : ev l X = some (.pointer (some a))) (hz : ev l Z = some (.pointer none)) (ht : P.underlying T = some (.pointer e)) : Y P n l C ⟨dst, .binOp .neq T X Z T', ty, pos, af, gd⟩ (.bool true) :=
  y_nev (r := false) hx hz (fun _ => rfl) rfl (fun w _ => run_equalIn_ptr ht w 9999)
theorem y_ptr0_eq {T T' e : TypeId} {X Z : Operand} (hx : ev l X = some (.pointer none)) (hz : ev l Z = some (.pointer none)) (ht : P.underlying T = some (.pointer e)) : Y P n l C ⟨dst, .binOp .eql T X Z T', ty, pos, af, gd⟩ (.bool true) :=
  y_eqv hx hz (fun _ => rfl) rfl (fun w _ => run_equalIn_ptr0 ht w 9999)
theorem y_ptr0_ne {T T' e : TypeId} {X Z : Operand} (hx : ev l X = some (.pointer none)) (hz : ev l Z = some (.pointer none)) (ht : P.underlying T = some (.pointer e)) : Y P n l C ⟨dst, .binOp .neq T X Z T', ty, pos, af, gd⟩ (.bool false) :=
  y_nev (r := true) hx hz (fun _ => rfl) rfl (fun w _ => run_equalIn_ptr0 ht w 9999)
theorem y_map_ne {T T' e u : TypeId} {X Z : Operand} {r : Nat} (hx : ev l X = some (.map (some r))) (hz : ev l Z = some (.map none)) (ht : P.underlying T = some (.map e u)) : Y P n l C ⟨dst, .binOp .neq T X Z T', ty, pos, af, gd⟩ (.bool true) :=
  y_nev (r := false) hx hz (fun _ => rfl) rfl (fun w _ => run_equalIn_map ht w 9999)
theorem y_map_eq {T T' e u : TypeId} {X Z : Operand} {r : Nat} (hx : ev l X = some (.map (some r))) (hz : ev l Z = some (.map none)) (ht : P.underlying T = some (.map e u)) : Y P n l C ⟨dst, .binOp .eql T X Z T', ty, pos, af, gd⟩ (.bool false) :=
  y_eqv hx hz (fun _ => rfl) rfl (fun w _ => run_equalIn_map ht w 9999)

/-- the bits of integers -/
def ixor (k : IntKind) (a b : Int) : Int := k.wrap ((BitVec.ofInt k.bits a ^^^ BitVec.ofInt k.bits b).toNat)
def iand (k : IntKind) (a b : Int) : Int := k.wrap ((BitVec.ofInt k.bits a &&& BitVec.ofInt k.bits b).toNat)
def ior (k : IntKind) (a b : Int) : Int := k.wrap ((BitVec.ofInt k.bits a ||| BitVec.ofInt k.bits b).toNat)
def iandnot (k : IntKind) (a b : Int) : Int := k.wrap ((BitVec.ofInt k.bits a &&& ~~~ BitVec.ofInt k.bits b).toNat)
section
variable {T T' : TypeId} {X Z : Operand} {k : IntKind} {a b : Int} (hx : ev l X = some (.int k a)) (hz : ev l Z = some (.int k b))
include hx hz
theorem y_xor : Y P n l C ⟨dst, .binOp .xor T X Z T', ty, pos, af, gd⟩ (.int k (ixor k a b)) := y_of fun A w ha _ => by simp [execOp, ha.ev hx, ha.ev hz, run_eqGuard_int, binOp, Op.intBits, ixor]
theorem y_and : Y P n l C ⟨dst, .binOp .and T X Z T', ty, pos, af, gd⟩ (.int k (iand k a b)) := y_of fun A w ha _ => by simp [execOp, ha.ev hx, ha.ev hz, run_eqGuard_int, binOp, Op.intBits, iand]
theorem y_or : Y P n l C ⟨dst, .binOp .or T X Z T', ty, pos, af, gd⟩ (.int k (ior k a b)) := y_of fun A w ha _ => by simp [execOp, ha.ev hx, ha.ev hz, run_eqGuard_int, binOp, Op.intBits, ior]
theorem y_andnot : Y P n l C ⟨dst, .binOp .andNot T X Z T', ty, pos, af, gd⟩ (.int k (iandnot k a b)) := y_of fun A w ha _ => by simp [execOp, ha.ev hx, ha.ev hz, run_eqGuard_int, binOp, Op.intBits, iandnot]
end
theorem y_shl {T T' : TypeId} {X Z : Operand} {k k' : IntKind} {a b : Int} (hx : ev l X = some (.int k a)) (hz : ev l Z = some (.int k' b)) (h0 : 0 ≤ b) : Y P n l C ⟨dst, .binOp .shl T X Z T', ty, pos, af, gd⟩ (.int k (k.wrap (a * 2 ^ min b.toNat k.bits))) := y_of fun A w ha _ => by
  have : ¬ b < 0 := by omega
  simp [execOp, ha.ev hx, ha.ev hz, run_eqGuard_int, binOp, Op.shift, this]
theorem y_shr {T T' : TypeId} {X Z : Operand} {k k' : IntKind} {a b : Int} (hx : ev l X = some (.int k a)) (hz : ev l Z = some (.int k' b)) (h0 : 0 ≤ b) : Y P n l C ⟨dst, .binOp .shr T X Z T', ty, pos, af, gd⟩ (.int k (a.fdiv (2 ^ min b.toNat k.bits))) := y_of fun A w ha _ => by
  have : ¬ b < 0 := by omega
  simp [execOp, ha.ev hx, ha.ev hz, run_eqGuard_int, binOp, Op.shift, this]
theorem y_neg {T : TypeId} {X : Operand} {k : IntKind} {a : Int} (hx : ev l X = some (.int k a)) : Y P n l C ⟨dst, .unOp .neg T X, ty, pos, af, gd⟩ (.int k (k.wrap (-a))) := y_of fun A w ha _ => by simp [execOp, ha.ev hx, Op.unary, Op.intArith]

/-- three results -/
theorem ex_ret3 {fn : Func} {Post : Value → World → Prop} {t u s : Nat} {v v' v'' : Value} (hr : fn.results = #[.tmp t, .tmp u, .tmp s]) (hv : lk l t = some v) (hv' : lk l u = some v') (hv'' : lk l s = some v'') (h : ∀ w, C w → Post (.tuple #[v, v', v'']) w) : EX (bodyPost P fn (RetP Post)) .ret n l C := by
  intro a w ha hw
  refine ⟨ha.defers, _, ?_, _, rfl, h w hw⟩
  have h1 := ha.get t v hv
  have h2 := ha.get u v' hv'
  have h3 := ha.get s v'' hv''
  simp only [Array.getD_eq_getD_getElem?] at h1 h2 h3
  simp [results, hr, h1, h2, h3]
end
end Go.Proofs.Ytcmgpofcdjejnaa
