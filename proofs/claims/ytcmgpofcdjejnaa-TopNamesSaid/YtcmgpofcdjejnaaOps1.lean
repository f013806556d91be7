/-
  The base of the proofs, second part: one rule for each kind of operation that computes or reads. It claims nothing of any program.
-/
import Derived.Test.YtcmgpofcdjejnaaCore
import Derived.IntWalk
import Derived.Laws.Slices
set_option linter.unusedVariables false
set_option linter.unusedSectionVars false
set_option linter.unusedSimpArgs false
namespace Go.Proofs.Ytcmgpofcdjejnaa
open Go

/-! ### Steps of a region -/

/-- the operation's own slot, if it has one and no guard -/
def okd (o : Oper) (n : Nat) : Option Nat :=
  match o.guard, o.dst with
  | none, some d => bif Nat.blt d n then some d else none
  | _, _ => none

theorem okd_spec {o : Oper} {n d : Nat} (h : okd o n = some d) : o.guard = none ∧ o.dst = some d ∧ Nat.blt d n = true := by
  unfold okd at h
  split at h
  · rename_i d' hg hd
    cases hb : Nat.blt d' n with
    | true => rw [hb] at h; simp only [cond_true, Option.some.injEq] at h; subst h; exact ⟨hg, hd, hb⟩
    | false => rw [hb] at h; cases h
  · cases h

def okw (ops : Array Oper) (l : Slots) (o : Oper) (n : Nat) : Option (Bool × Nat) :=
  match wanted ops l o, o.dst with
  | some b, some d => bif Nat.blt d n then some (b, d) else none
  | _, _ => none

theorem okw_spec {ops : Array Oper} {l : Slots} {o : Oper} {n d : Nat} {b : Bool} (h : okw ops l o n = some (b, d)) : wanted ops l o = some b ∧ o.dst = some d ∧ Nat.blt d n = true := by
  unfold okw at h
  split at h
  · rename_i b' d' hg hd
    cases hb : Nat.blt d' n with
    | true => rw [hb] at h; simp only [cond_true, Option.some.injEq, Prod.mk.injEq] at h; obtain ⟨rfl, rfl⟩ := h; exact ⟨hg, hd, hb⟩
    | false => rw [hb] at h; cases h
  · cases h

section
variable {P : Program} {ops : Array Oper} {Q : Exit → Act → World → Prop} {n : Nat} {l : Slots} {C : World → Prop} {o : Oper} {os : List Oper} {v : Value} {d : Nat}

theorem Y.quiet (hy : Y P n l C o v) {a : Act} {w : World} (ha : Ag n l a) (hw : C w) : o.quietAt P a C w v := by
  unfold Oper.quietAt
  rw [hy a w ha hw]
  exact ⟨rfl, rfl⟩

def stepV (P : Program) (o : Oper) (a : Act) (w : World) (K : Act → World → Prop) : Prop :=
  match (execOp a.eval o).run P w with
  | .ok (.value v) w' => K (a.put o.dst v) w'
  | .ok .skip w' => K (a.put o.dst undef) w'
  | .ok (.enter f args) w' => Calls P f args w' fun e w'' => ∃ v, e = .returned v ∧ K (a.put o.dst v) w''
  | _ => False

theorem stepV_mono {o : Oper} {a : Act} {w : World} {K K' : Act → World → Prop} (h : ∀ a w, K a w → K' a w) (hh : stepV P o a w K) : stepV P o a w K' := by
  unfold stepV at *
  split at hh
  · exact h _ _ hh
  · exact h _ _ hh
  · exact hh.mono fun e w'' ⟨v, he, hk⟩ => ⟨v, he, h _ _ hk⟩
  · exact hh.elim

theorem wp_of_stepV {o : Oper} {a : Act} {w : World} {K : Act → World → Prop} {Q : Exit → Act → World → Prop} (hh : stepV P o a w K) : o.wp P a w K Q := by
  unfold stepV at hh
  unfold Oper.wp
  generalize (execOp a.eval o).run P w = r at *
  cases r with
  | ok x w' =>
    cases x <;> simp only at hh <;> simp only [Oper.upon]
    case value v => exact hh
    case skip => exact hh
    case enter f args => exact hh.mono fun e w'' ⟨v, he, hk⟩ => by subst he; exact hk
    all_goals exact hh.elim
  | halt x w' => simp only at hh

/-- where 'K' is to hold it is enough to carry out the operation, and to have 'K'' behind it -/
def Step (P : Program) (ops : Array Oper) (o : Oper) (K' K : Act → World → Prop) : Prop := ∀ a w, Region.wanted o (yielded ops a.tmps) = true → stepV P o a w K' → K a w

theorem wpList_on {a : Act} {w : World} (hw : Region.wanted o (yielded ops a.tmps) = true) (h : o.wp P a w (wpList P ops Q os) Q) : wpList P ops Q (o :: os) a w := by
  unfold wpList; rw [if_pos hw]; exact .inl h
theorem wpList_off {a : Act} {w : World} (hw : Region.wanted o (yielded ops a.tmps) = false) (h : wpList P ops Q os (a.put o.dst undef) w) : wpList P ops Q (o :: os) a w := by
  unfold wpList; rw [if_neg (by rw [hw]; exact Bool.false_ne_true)]; exact h
theorem step_tl : Step P ops o (wpList P ops Q os) (wpList P ops Q (o :: os)) := fun a w hw h => wpList_on hw (wp_of_stepV h)
theorem wanted_none {a : Act} (hg : o.guard = none) : Region.wanted o (yielded ops a.tmps) = true := by simp [Region.wanted, hg]

theorem tl (hy : Y P n l C o v) (hd : okw ops l o n = some (true, d)) (k : TL P ops Q os n ((d, v) :: l) C) : TL P ops Q (o :: os) n l C := by
  intro a w ha hw
  obtain ⟨h1, h2, h3⟩ := okw_spec hd
  refine step_tl a w (wanted_spec ha h1) ?_
  unfold stepV
  rw [hy a w ha hw, h2]
  exact k _ w (ha.put h3 v) hw

/-- a guarded operation that is not wanted -/
theorem tl_off (hw : okw ops l o n = some (false, d)) (k : TL P ops Q os n ((d, undef) :: l) C) : TL P ops Q (o :: os) n l C := by
  intro a w ha hw'
  obtain ⟨h1, h2, h3⟩ := okw_spec hw
  exact wpList_off (wanted_spec ha h1) (by rw [h2]; exact k _ w (ha.put h3 _) hw')

theorem Ag.know {a : Act} {t : Nat} {u v : Value} (h : Ag n l a) (ht : lk l t = some u) (e : u = v) : Ag n ((t, v) :: l) a := by
  subst e
  refine ⟨h.defers, h.size, fun s x hs => ?_, fun s x hs => ?_⟩ <;> unfold lk at hs <;> cases hb : Nat.beq t s with
  | true =>
    rw [hb] at hs; simp only [cond_true, Option.some.injEq] at hs; subst hs
    have e := Nat.eq_of_beq_eq_true hb; subst e
    first | exact h.get _ _ ht | exact h.bound _ _ ht
  | false => rw [hb] at hs; simp only [cond_false] at hs; first | exact h.get _ _ hs | exact h.bound _ _ hs

/-- a bool that is not known: both ways -/
theorem tl_split {K : Act → World → Prop} {t : Nat} {b : Bool} (hb : lk l t = some (.bool b)) (h1 : b = true → TG K n ((t, .bool true) :: l) C) (h2 : b = false → TG K n ((t, .bool false) :: l) C) : TG K n l C := by
  intro a w ha hw
  cases hb' : b with
  | true => exact h1 hb' a w (ha.know hb (by rw [hb'])) hw
  | false => exact h2 hb' a w (ha.know hb (by rw [hb'])) hw
theorem tl_if {K : Act → World → Prop} {t : Nat} {p : Prop} [Decidable p] (hb : lk l t = some (.bool (decide p))) (h1 : p → TG K n ((t, .bool true) :: l) C) (h2 : ¬p → TG K n ((t, .bool false) :: l) C) : TG K n l C :=
  tl_split hb (fun h => h1 (of_decide_eq_true h)) (fun h => h2 (of_decide_eq_false h))

theorem tl_true {K : Act → World → Prop} {t : Nat} {p : Prop} [Decidable p] (hb : lk l t = some (.bool (decide p))) (hp : p) (h : TG K n ((t, .bool true) :: l) C) : TG K n l C := tl_if hb (fun _ => h) (fun h' => absurd hp h')
theorem tl_false {K : Act → World → Prop} {t : Nat} {p : Prop} [Decidable p] (hb : lk l t = some (.bool (decide p))) (hp : ¬p) (h : TG K n ((t, .bool false) :: l) C) : TG K n l C := tl_if hb (fun h' => absurd h' hp) (fun _ => h)
theorem tl_is {K : Act → World → Prop} {t : Nat} {b b' : Bool} (hb : lk l t = some (.bool b)) (e : b = b') (h : TG K n ((t, .bool b') :: l) C) : TG K n l C := fun a w ha hw => h a w (ha.know hb (by rw [e])) hw

/-! regions that draw their order, all of whose operations are quiet -/
theorem tc_draw {id : Nat} (x : Out) {S : List (List Chunk)} (hm : P.follows .mixedOrders = true) (hB : Region.lexB .any os.toArray = true)
    (h : TQ P os.toArray (St x S) (fun a => ∀ w, St x S w → Q .normal a w) os n l) : TC P (.region id os.toArray true) Q n l (St x S) :=
  fun a w ha hw => wp_region_quiet (C := St x S) hm hB hw.drew (by simpa using h a ha)

theorem tq {K : Act → Prop} (hy : Y P n l C o v) (hw : okw ops l o n = some (true, d)) (k : TQ P ops C K os n ((d, v) :: l)) : TQ P ops C K (o :: os) n l := by
  intro a ha
  obtain ⟨h1, h2, h3⟩ := okw_spec hw
  unfold wpQuiet
  rw [if_pos (wanted_spec ha h1)]
  exact ⟨v, fun w hw => hy.quiet ha hw, by rw [h2]; exact k _ (ha.put h3 v)⟩
theorem tq_off {K : Act → Prop} (hw : okw ops l o n = some (false, d)) (k : TQ P ops C K os n ((d, undef) :: l)) : TQ P ops C K (o :: os) n l := by
  intro a ha
  obtain ⟨h1, h2, h3⟩ := okw_spec hw
  unfold wpQuiet
  rw [if_neg (by rw [wanted_spec ha h1]; exact Bool.false_ne_true)]
  rw [h2]; exact k _ (ha.put h3 _)
theorem tq_split {K : Act → Prop} {t : Nat} {b : Bool} (hb : lk l t = some (.bool b)) (h1 : b = true → TQ P ops C K os n ((t, .bool true) :: l)) (h2 : b = false → TQ P ops C K os n ((t, .bool false) :: l)) : TQ P ops C K os n l := by
  intro a ha
  cases hb' : b with
  | true => exact h1 hb' a (ha.know hb (by rw [hb']))
  | false => exact h2 hb' a (ha.know hb (by rw [hb']))
theorem tq_if {K : Act → Prop} {t : Nat} {p : Prop} [Decidable p] (hb : lk l t = some (.bool (decide p))) (h1 : p → TQ P ops C K os n ((t, .bool true) :: l)) (h2 : ¬p → TQ P ops C K os n ((t, .bool false) :: l)) : TQ P ops C K os n l :=
  tq_split hb (fun h => h1 (of_decide_eq_true h)) (fun h => h2 (of_decide_eq_false h))
theorem tq_true {K : Act → Prop} {t : Nat} {p : Prop} [Decidable p] (hb : lk l t = some (.bool (decide p))) (hp : p) (h : TQ P ops C K os n ((t, .bool true) :: l)) : TQ P ops C K os n l := tq_if hb (fun _ => h) (fun h' => absurd hp h')
theorem tq_false {K : Act → Prop} {t : Nat} {p : Prop} [Decidable p] (hb : lk l t = some (.bool (decide p))) (hp : ¬p) (h : TQ P ops C K os n ((t, .bool false) :: l)) : TQ P ops C K os n l := tq_if hb (fun h' => absurd h' hp) (fun _ => h)
theorem tq_is {K : Act → Prop} {t : Nat} {b b' : Bool} (hb : lk l t = some (.bool b)) (e : b = b') (h : TQ P ops C K os n ((t, .bool b') :: l)) : TQ P ops C K os n l := fun a ha => h a (ha.know hb (by rw [e]))
theorem tq_quiet {K : Act → Prop} (hw : okw ops l o n = some (true, d)) (hy : ∀ a w, Ag n l a → C w → o.quietAt P a C w v) (k : TQ P ops C K os n ((d, v) :: l)) : TQ P ops C K (o :: os) n l := by
  intro a ha
  obtain ⟨h1, h2, h3⟩ := okw_spec hw
  unfold wpQuiet
  rw [if_pos (wanted_spec ha h1)]
  exact ⟨v, fun w hw => hy a w ha hw, by rw [h2]; exact k _ (ha.put h3 v)⟩
theorem tq_end (h : EX Q .normal n l C) : TQ P ops C (fun a => ∀ w, C w → Q .normal a w) [] n l := fun a ha w hw => h a w ha hw
end

/-! ### What computes -/
section
variable {P : Program} {n : Nat} {l : Slots} {C : World → Prop} {d : Option Nat} {ty : TypeId} {pos : String} {af : Array Edge} {gd : Option (Nat × Bool)}

theorem y_of {o : Oper} {v : Value} (h : ∀ a w, Ag n l a → C w → (execOp a.eval o).run P w = .ok (.value v) w) : Y P n l C o v := h

theorem y_move {x : Operand} {v : Value} (hx : ev l x = some v) : Y P n l C ⟨d, .move x, ty, pos, af, gd⟩ v := y_of fun a w ha _ => by simp [execOp, ha.ev hx]
theorem y_assign {x : Operand} {v : Value} (hx : ev l x = some v) : Y P n l C ⟨d, .assign x, ty, pos, af, gd⟩ v := y_of fun a w ha _ => by simp [execOp, ha.ev hx]
theorem y_pick_t {c x y : Operand} {v : Value} (hc : ev l c = some (.bool true)) (hx : ev l x = some v) : Y P n l C ⟨d, .pick c x y, ty, pos, af, gd⟩ v := y_of fun a w ha _ => by simp [execOp, ha.ev hx, ha.ev hc, asBool]
theorem y_pick_f {c x y : Operand} {v : Value} (hc : ev l c = some (.bool false)) (hy : ev l y = some v) : Y P n l C ⟨d, .pick c x y, ty, pos, af, gd⟩ v := y_of fun a w ha _ => by simp [execOp, ha.ev hy, ha.ev hc, asBool]
theorem y_func {fn : Fn} {fi ca : List Operand} {vf vc : List Value} (h1 : evs l fi = some vf) (h2 : evs l ca = some vc) : Y P n l C ⟨d, .makeFunc fn fi.toArray ca.toArray, ty, pos, af, gd⟩ (.func fn vf.toArray vc.toArray) :=
  y_of fun a w ha _ => by simp only [execOp, ha.evsA h1, ha.evsA h2, Instr.makeFunc]; rfl
theorem y_extract {x : Operand} {i : Nat} {vs : List Value} {v : Value} (hx : ev l x = some (.tuple vs.toArray)) (hv : vs[i]? = some v) : Y P n l C ⟨d, .extract x i, ty, pos, af, gd⟩ v :=
  y_of fun a w ha _ => by simp [execOp, ha.ev hx, Instr.extract, hv]
theorem y_nil_ptr {x : Operand} {p : Addr} (hx : ev l x = some (.pointer (some p))) : Y P n l C ⟨d, .nilCheck x, ty, pos, af, gd⟩ (.pointer (some p)) := y_of fun a w ha _ => by simp [execOp, ha.ev hx]

theorem run_eqGuard_int {op : BinOp} {t : TypeId} {x y : Operand} {k k' : IntKind} {a b : Int} {w : World} : (eqGuard op t x y (.int k a) (.int k' b)).run P w = .ok () w := by
  unfold eqGuard; split <;> rfl

section
variable {T T' : TypeId} {x y : Operand} {k : IntKind} {a b : Int}
variable (hx : ev l x = some (.int k a)) (hy : ev l y = some (.int k b))
include hx hy
theorem y_add : Y P n l C ⟨d, .binOp .add T x y T', ty, pos, af, gd⟩ (.int k (k.wrap (a + b))) := y_of fun A w ha _ => by simp [execOp, ha.ev hx, ha.ev hy, run_eqGuard_int, binOp, Op.intArith]
theorem y_sub : Y P n l C ⟨d, .binOp .sub T x y T', ty, pos, af, gd⟩ (.int k (k.wrap (a - b))) := y_of fun A w ha _ => by simp [execOp, ha.ev hx, ha.ev hy, run_eqGuard_int, binOp, Op.intArith]
theorem y_mul : Y P n l C ⟨d, .binOp .mul T x y T', ty, pos, af, gd⟩ (.int k (k.wrap (a * b))) := y_of fun A w ha _ => by simp [execOp, ha.ev hx, ha.ev hy, run_eqGuard_int, binOp, Op.intArith]
theorem y_quo (h0 : b ≠ 0) : Y P n l C ⟨d, .binOp .quo T x y T', ty, pos, af, gd⟩ (.int k (k.wrap (a.tdiv b))) := y_of fun A w ha _ => by simp [execOp, ha.ev hx, ha.ev hy, run_eqGuard_int, binOp, Op.intDiv, h0]
theorem y_rem (h0 : b ≠ 0) : Y P n l C ⟨d, .binOp .rem T x y T', ty, pos, af, gd⟩ (.int k (a.tmod b)) := y_of fun A w ha _ => by simp [execOp, ha.ev hx, ha.ev hy, run_eqGuard_int, binOp, Op.intDiv, h0]
theorem y_eq : Y P n l C ⟨d, .binOp .eql T x y T', ty, pos, af, gd⟩ (.bool (decide (a = b))) := y_of fun A w ha _ => by
  have e : (a == b) = decide (a = b) := rfl
  simp [execOp, ha.ev hx, ha.ev hy, run_eqGuard_int, binOp, Op.intCmp]
  exact e
theorem y_ne : Y P n l C ⟨d, .binOp .neq T x y T', ty, pos, af, gd⟩ (.bool (decide (a ≠ b))) := y_of fun A w ha _ => by
  have e : (a != b) = decide (a ≠ b) := by simp [bne]; rfl
  simp [execOp, ha.ev hx, ha.ev hy, run_eqGuard_int, binOp, Op.intCmp, e]
theorem y_lt : Y P n l C ⟨d, .binOp .lss T x y T', ty, pos, af, gd⟩ (.bool (decide (a < b))) := y_of fun A w ha _ => by simp [execOp, ha.ev hx, ha.ev hy, run_eqGuard_int, binOp, Op.intCmp]
theorem y_le : Y P n l C ⟨d, .binOp .leq T x y T', ty, pos, af, gd⟩ (.bool (decide (a ≤ b))) := y_of fun A w ha _ => by simp [execOp, ha.ev hx, ha.ev hy, run_eqGuard_int, binOp, Op.intCmp]
theorem y_gt : Y P n l C ⟨d, .binOp .gtr T x y T', ty, pos, af, gd⟩ (.bool (decide (b < a))) := y_of fun A w ha _ => by simp [execOp, ha.ev hx, ha.ev hy, run_eqGuard_int, binOp, Op.intCmp]
theorem y_ge : Y P n l C ⟨d, .binOp .geq T x y T', ty, pos, af, gd⟩ (.bool (decide (b ≤ a))) := y_of fun A w ha _ => by simp [execOp, ha.ev hx, ha.ev hy, run_eqGuard_int, binOp, Op.intCmp]
end
section
variable {T T' : TypeId} {x y : Operand} {a b : Int}
variable (hx : ev l x = some (.int .i64 a)) (hy : ev l y = some (.int .i64 b))
include hx hy
theorem y_addi (h : -9223372036854775808 ≤ a + b ∧ a + b ≤ 9223372036854775807) : Y P n l C ⟨d, .binOp .add T x y T', ty, pos, af, gd⟩ (.int .i64 (a + b)) := by
  have := y_add (P := P) (n := n) (C := C) (d := d) (ty := ty) (pos := pos) (af := af) (gd := gd) (T := T) (T' := T') hx hy; rwa [IntWalk.i64_in _ h] at this
theorem y_subi (h : -9223372036854775808 ≤ a - b ∧ a - b ≤ 9223372036854775807) : Y P n l C ⟨d, .binOp .sub T x y T', ty, pos, af, gd⟩ (.int .i64 (a - b)) := by
  have := y_sub (P := P) (n := n) (C := C) (d := d) (ty := ty) (pos := pos) (af := af) (gd := gd) (T := T) (T' := T') hx hy; rwa [IntWalk.i64_in _ h] at this
theorem y_muli (h : -9223372036854775808 ≤ a * b ∧ a * b ≤ 9223372036854775807) : Y P n l C ⟨d, .binOp .mul T x y T', ty, pos, af, gd⟩ (.int .i64 (a * b)) := by
  have := y_mul (P := P) (n := n) (C := C) (d := d) (ty := ty) (pos := pos) (af := af) (gd := gd) (T := T) (T' := T') hx hy; rwa [IntWalk.i64_in _ h] at this
theorem y_quoi (h : 0 ≤ a ∧ a ≤ 9223372036854775807 ∧ 1 ≤ b) : Y P n l C ⟨d, .binOp .quo T x y T', ty, pos, af, gd⟩ (.int .i64 (a / b)) := by
  have := y_quo (P := P) (n := n) (C := C) (d := d) (ty := ty) (pos := pos) (af := af) (gd := gd) (T := T) (T' := T') hx hy (by omega); rwa [IntWalk.i64_quo _ _ h] at this
theorem y_remi (h : 0 ≤ a ∧ 1 ≤ b) : Y P n l C ⟨d, .binOp .rem T x y T', ty, pos, af, gd⟩ (.int .i64 (a % b)) := by
  have := y_rem (P := P) (n := n) (C := C) (d := d) (ty := ty) (pos := pos) (af := af) (gd := gd) (T := T) (T' := T') hx hy (by omega); rwa [IntWalk.rem_in _ _ h.1] at this
end

theorem y_not {T : TypeId} {x : Operand} {b : Bool} (hx : ev l x = some (.bool b)) : Y P n l C ⟨d, .unOp .not T x, ty, pos, af, gd⟩ (.bool (!b)) := y_of fun a w ha _ => by simp [execOp, ha.ev hx, Op.unary]
theorem y_notd {T : TypeId} {x : Operand} {p : Prop} [Decidable p] (hx : ev l x = some (.bool (decide p))) : Y P n l C ⟨d, .unOp .not T x, ty, pos, af, gd⟩ (.bool (decide (¬ p))) := y_of fun a w ha _ => by simp [execOp, ha.ev hx, Op.unary]

/-- whether values of a type lie in several cells -/
def aggB (P : Program) (t : TypeId) : Option Bool :=
  match P.underlying t with
  | some (.struct _) | some (.array _ _) => some true
  | some _ => some false
  | none => none

theorem y_conv {s t : TypeId} {x : Operand} {k k' : IntKind} {m : Int} {ds : TypeDesc} (hx : ev l x = some (.int k' m)) (hs : P.underlying s = some ds) (ht : P.underlying t = some (.int k)) : Y P n l C ⟨d, .convert s t x, ty, pos, af, gd⟩ (.int k (k.wrap m)) :=
  y_of fun a w ha _ => by simp [execOp, ha.ev hx, convert, run_underlying hs, run_underlying ht, Conv.intToInt]

theorem y_len {x : Operand} {t e : TypeId} {A : Option Addr} {m c : Nat} (hx : ev l x = some (.slice A m c)) (ht : P.underlying t = some (.slice e)) : Y P n l C ⟨d, .call { callee := .builtin .len, args := #[x], argTypes := #[t] }, ty, pos, af, gd⟩ (.int .i64 m) :=
  y_of fun a w ha _ => by simp [execOp, resolve, invoke, builtin, Builtin.len_, ha.ev hx, run_underlying ht, goInt]
theorem y_cap {x : Operand} {t e : TypeId} {A : Option Addr} {m c : Nat} (hx : ev l x = some (.slice A m c)) (ht : P.underlying t = some (.slice e)) : Y P n l C ⟨d, .call { callee := .builtin .cap, args := #[x], argTypes := #[t] }, ty, pos, af, gd⟩ (.int .i64 c) :=
  y_of fun a w ha _ => by simp [execOp, resolve, invoke, builtin, Builtin.cap_, ha.ev hx, run_underlying ht, goInt]
theorem y_min {x y : Operand} {t t' : TypeId} {k : IntKind} {p q : Int} (hx : ev l x = some (.int k p)) (hy : ev l y = some (.int k q)) : Y P n l C ⟨d, .call { callee := .builtin .min, args := #[x, y], argTypes := #[t, t'] }, ty, pos, af, gd⟩ (.int k (min p q)) :=
  y_of fun a w ha _ => by
    have e : (if q < p then q else p) = min p q := by rw [Int.min_def]; split <;> split <;> omega
    simp [execOp, resolve, invoke, builtin, Builtin.min_, Builtin.min2, ha.ev hx, ha.ev hy, e]
theorem y_max {x y : Operand} {t t' : TypeId} {k : IntKind} {p q : Int} (hx : ev l x = some (.int k p)) (hy : ev l y = some (.int k q)) : Y P n l C ⟨d, .call { callee := .builtin .max, args := #[x, y], argTypes := #[t, t'] }, ty, pos, af, gd⟩ (.int k (max p q)) :=
  y_of fun a w ha _ => by
    have e : (if p < q then q else p) = max p q := by rw [Int.max_def]; split <;> split <;> omega
    simp [execOp, resolve, invoke, builtin, Builtin.max_, Builtin.max2, ha.ev hx, ha.ev hy, e]
end
end Go.Proofs.Ytcmgpofcdjejnaa
