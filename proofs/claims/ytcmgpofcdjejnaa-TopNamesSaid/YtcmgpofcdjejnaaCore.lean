/-
  The base of the proofs: a small logic of states over the library's weakest preconditions. It proves rules; it claims nothing of any program.
-/
import Derived.Calls
import Derived.Tactics
import Derived.Deep.Quiet
import Derived.Deep.LoopGhost
import Derived.Laws.AppendOwn
set_option linter.unusedVariables false
set_option linter.unusedSectionVars false
set_option linter.unusedSimpArgs false
namespace Go.Proofs.Ytcmgpofcdjejnaa
open Go

/-! ### What is known of a frame -/

/-- the known slots, the newest first -/
abbrev Slots := List (Nat × Value)

def lk : Slots → Nat → Option Value
  | [], _ => none
  | (k, v) :: r, t => bif Nat.beq k t then some v else lk r t

def ev (l : Slots) : Operand → Option Value
  | .tmp t => lk l t
  | .const v => some v
  | .global g => some (.pointer (some ⟨g, 0, none⟩))
  | .func f => some (.func (.func f) #[] #[])

def evs (l : Slots) : List Operand → Option (List Value)
  | [] => some []
  | x :: r => match ev l x, evs l r with
    | some v, some vs => some (v :: vs)
    | _, _ => none

structure Ag (n : Nat) (l : Slots) (a : Act) : Prop where
  defers : a.defers = []
  size : a.tmps.size = n
  get : ∀ t v, lk l t = some v → a.tmps.getD t undef = v
  bound : ∀ t v, lk l t = some v → t < n

def SubL (l : Slots) : Slots → Prop
  | [] => True
  | (t, v) :: r => lk l t = some v ∧ SubL l r

theorem sc {l r : Slots} {t : Nat} {v : Value} (h : lk l t = some v) (hr : SubL l r) : SubL l ((t, v) :: r) := ⟨h, hr⟩
theorem sce {l r : Slots} {t : Nat} {u v : Value} (h : lk l t = some u) (e : u = v) (hr : SubL l r) : SubL l ((t, v) :: r) := ⟨by rw [h, e], hr⟩
theorem sn {l : Slots} : SubL l [] := trivial

theorem SubL.lk {l l' : Slots} (h : SubL l l') : ∀ t v, lk l' t = some v → Ytcmgpofcdjejnaa.lk l t = some v := by
  induction l' with
  | nil => intro t v h'; cases h'
  | cons p r ih =>
    obtain ⟨k, u⟩ := p
    intro t v h'
    obtain ⟨h1, h2⟩ := h
    unfold Ytcmgpofcdjejnaa.lk at h'
    cases hb : Nat.beq k t with
    | true => rw [hb] at h'; simp only [cond_true, Option.some.injEq] at h'; subst h'; rw [← Nat.eq_of_beq_eq_true hb]; exact h1
    | false => rw [hb] at h'; simp only [cond_false] at h'; exact ih h2 t v h'

theorem Ag.sub {n : Nat} {l l' : Slots} {a : Act} (h : Ag n l a) (hs : SubL l l') : Ag n l' a := ⟨h.defers, h.size, fun t v ht => h.get t v (hs.lk t v ht), fun t v ht => h.bound t v (hs.lk t v ht)⟩

theorem Ag.put {n d : Nat} {l : Slots} {a : Act} (h : Ag n l a) (hd : Nat.blt d n = true) (v : Value) : Ag n ((d, v) :: l) (a.put (some d) v) := by
  have hdn : d < a.tmps.size := by rw [h.size]; simpa [Nat.blt_eq] using hd
  refine ⟨h.defers, by simp [Act.put, h.size], fun t u ht => ?_, fun t u ht => ?_⟩
  rotate_left
  · unfold lk at ht
    cases hb : Nat.beq d t with
    | true => rw [← Nat.eq_of_beq_eq_true hb, ← h.size]; exact hdn
    | false => rw [hb] at ht; simp only [cond_false] at ht; exact h.bound t u ht
  unfold lk at ht
  cases hb : Nat.beq d t with
  | true =>
    rw [hb] at ht
    simp only [cond_true, Option.some.injEq] at ht
    have e := Nat.eq_of_beq_eq_true hb
    subst e; subst ht
    simp [Act.put, hdn]
  | false =>
    rw [hb] at ht
    simp only [cond_false] at ht
    have hne : d ≠ t := by intro e; subst e; simp at hb
    have := h.get t u ht
    simpa [Act.put, Array.getD_eq_getD_getElem?, Array.getElem?_setIfInBounds_ne hne] using this

theorem Ag.keep {n : Nat} {l : Slots} {a : Act} (h : Ag n l a) (v : Value) : Ag n l (a.put none v) := h

theorem Ag.ev {n : Nat} {l : Slots} {a : Act} (h : Ag n l a) {x : Operand} {v : Value} (hx : ev l x = some v) : a.eval x = v := by
  cases x with
  | tmp t => exact h.get t v hx
  | const u => simpa [Ytcmgpofcdjejnaa.ev, Act.eval] using hx
  | global g => simpa [Ytcmgpofcdjejnaa.ev, Act.eval] using hx
  | func f => simpa [Ytcmgpofcdjejnaa.ev, Act.eval] using hx

theorem Ag.evs {n : Nat} {l : Slots} {a : Act} (h : Ag n l a) {xs : List Operand} {vs : List Value} (hx : evs l xs = some vs) : xs.map a.eval = vs := by
  induction xs generalizing vs with
  | nil => simpa [Ytcmgpofcdjejnaa.evs] using hx
  | cons x r ih =>
    unfold Ytcmgpofcdjejnaa.evs at hx
    split at hx
    · rename_i v us h1 h2
      simp only [Option.some.injEq] at hx
      rw [List.map_cons, h.ev h1, ih h2, hx]
    · cases hx

theorem Ag.evsA {n : Nat} {l : Slots} {a : Act} (h : Ag n l a) {xs : List Operand} {vs : List Value} (hx : Ytcmgpofcdjejnaa.evs l xs = some vs) : xs.toArray.map a.eval = vs.toArray := by
  rw [List.map_toArray, h.evs hx]

/-! ### What is known of memory: chunks, each a block with its object -/

abbrev Chunk := Nat × Obj
abbrev Out := Os × Array (Nat × ByteArray) × (Nat → Question → Nat)

structure St (x : Out) (S : List (List Chunk)) (w : World) : Prop where
  nodup : (S.flatten.map (·.1)).Nodup
  holds : ∀ p, p ∈ S.flatten → w.heap[p.1]? = some p.2
  os : w.os = x.1
  out : w.output = x.2.1
  tape : w.tape = x.2.2

theorem St.drew {x : Out} {S : List (List Chunk)} {w : World} (h : St x S w) : St x S { w with drawn := w.drawn + 1 } := ⟨h.nodup, h.holds, h.os, h.out, h.tape⟩

theorem St.perm {x : Out} {S S' : List (List Chunk)} {w : World} (h : St x S w) (hp : S.Perm S') : St x S' w :=
  ⟨((hp.flatten).map _).nodup h.nodup, fun p hp' => h.holds p ((hp.flatten).mem_iff.2 hp'), h.os, h.out, h.tape⟩

theorem flatten_sublist {α : Type} {S S' : List (List α)} (h : S'.Sublist S) : S'.flatten.Sublist S.flatten := by
  induction h with
  | slnil => exact .slnil
  | cons a _ ih => exact ih.trans (by rw [List.flatten_cons]; exact List.sublist_append_right _ _)
  | cons_cons a _ ih => rw [List.flatten_cons, List.flatten_cons]; exact List.Sublist.append (.refl _) ih

/-- some segments forgotten, in order -/
theorem St.sublist {x : Out} {S S' : List (List Chunk)} {w : World} (h : St x S w) (hp : S'.Sublist S) : St x S' w :=
  ⟨List.Nodup.sublist ((flatten_sublist hp).map _) h.nodup, fun p hp' => h.holds p ((flatten_sublist hp).subset hp'), h.os, h.out, h.tape⟩

theorem St.at {x : Out} {S : List (List Chunk)} {w : World} {L : List Chunk} (h : St x S w) (i : Nat) (hi : S[i]? = some L) : ∀ p, p ∈ L → w.heap[p.1]? = some p.2 :=
  fun p hp => h.holds p (List.mem_flatten.2 ⟨L, List.mem_of_getElem? hi, hp⟩)

/-- the segment at place i in front of the others -/
def pull (i : Nat) (S : List (List Chunk)) : List (List Chunk) := (S[i]?.getD []) :: S.eraseIdx i

theorem St.pull {x : Out} {S : List (List Chunk)} {w : World} (h : St x S w) (i : Nat) (hi : Nat.blt i S.length = true) : St x (pull i S) w := by
  refine h.perm ?_
  have hlt : i < S.length := by simpa [Nat.blt_eq] using hi
  unfold Ytcmgpofcdjejnaa.pull
  rw [List.getElem?_eq_getElem hlt, Option.getD_some]
  rw [List.eraseIdx_eq_take_drop_succ]
  have e : S = S.take i ++ S[i] :: S.drop (i + 1) := by rw [List.getElem_cons_drop, List.take_append_drop]
  refine List.Perm.trans (.of_eq e) ?_
  exact List.perm_middle

/-- segments picked by their places, each once -/
def pick (σ : List Nat) (S : List (List Chunk)) : List (List Chunk) := σ.map fun i => S[i]?.getD []

def onceB : List Nat → Bool
  | [] => true
  | i :: r => !r.contains i && onceB r

theorem onceB_nodup : ∀ {σ : List Nat}, onceB σ = true → σ.Nodup
  | [], _ => List.nodup_nil
  | i :: r, h => by
    simp only [onceB, Bool.and_eq_true, Bool.not_eq_true'] at h
    exact List.nodup_cons.2 ⟨by simpa using h.1, onceB_nodup h.2⟩

theorem subperm_of_nodup {α : Type} [BEq α] [LawfulBEq α] : ∀ (l₁ l₂ : List α), l₁.Nodup → (∀ x, x ∈ l₁ → x ∈ l₂) → ∃ r, (l₁ ++ r).Perm l₂
  | [], l₂, _, _ => ⟨l₂, .refl _⟩
  | a :: t, l₂, hn, hs => by
    have ha : a ∈ l₂ := hs a (by simp)
    have hn' := List.nodup_cons.1 hn
    obtain ⟨r, hr⟩ := subperm_of_nodup t (l₂.erase a) hn'.2 (fun x hx => by
      have hxa : x ≠ a := fun e => hn'.1 (e ▸ hx)
      exact (List.mem_erase_of_ne hxa).2 (hs x (by simp [hx])))
    exact ⟨r, (hr.cons a).trans (List.perm_cons_erase ha).symm⟩

theorem map_getD_range (S : List (List Chunk)) : (List.range S.length).map (fun i => S[i]?.getD []) = S := by
  apply List.ext_getElem?
  intro i
  rw [List.getElem?_map]
  by_cases h : i < S.length
  · simp [h]
  · simp [h]

/-- segments in another order, or some of them -/
theorem St.pick {x : Out} {S : List (List Chunk)} {w : World} (h : St x S w) (σ : List Nat) (h1 : onceB σ = true) (h2 : (σ.all fun i => Nat.blt i S.length) = true) : St x (pick σ S) w := by
  obtain ⟨r, hr⟩ := subperm_of_nodup σ (List.range S.length) (onceB_nodup h1) (fun i hi => by
    have := List.all_eq_true.1 h2 i hi
    simpa [Nat.blt_eq] using this)
  have hm := hr.map (fun i => S[i]?.getD [])
  rw [map_getD_range, List.map_append] at hm
  exact (h.perm hm.symm).sublist (List.sublist_append_left _ _)

/-- the same, what stands behind the first m left as it is -/
def pickT (σ : List Nat) (m : Nat) (S : List (List Chunk)) : List (List Chunk) := (σ.map fun i => S[i]?.getD []) ++ S.drop m

theorem flatten_padded (S : List (List Chunk)) (m : Nat) : ((List.range m).map fun i => S[i]?.getD []).flatten = (S.take m).flatten := by
  induction m generalizing S with
  | zero => simp
  | succ m ih =>
    cases S with
    | nil =>
      rw [List.flatten_eq_nil_iff.2]
      · simp
      · intro l hl; obtain ⟨i, _, rfl⟩ := List.mem_map.1 hl; simp
    | cons a r =>
      rw [List.range_succ_eq_map, List.map_cons, List.flatten_cons, List.map_map, List.take_succ_cons, List.flatten_cons, ← ih r]
      rfl

theorem St.ofFlat {x : Out} {S S' : List (List Chunk)} {w : World} (h : St x S w) (e : S'.flatten = S.flatten) : St x S' w := ⟨by rw [e]; exact h.nodup, by rw [e]; exact h.holds, h.os, h.out, h.tape⟩

theorem St.pickT {x : Out} {S : List (List Chunk)} {w : World} (h : St x S w) (σ : List Nat) (m : Nat) (h1 : onceB σ = true) (h2 : (σ.all fun i => Nat.blt i m) = true) : St x (pickT σ m S) w := by
  obtain ⟨r, hr⟩ := subperm_of_nodup σ (List.range m) (onceB_nodup h1) (fun i hi => by
    have := List.all_eq_true.1 h2 i hi
    simpa [Nat.blt_eq] using this)
  have hm := hr.map (fun i => S[i]?.getD [])
  rw [List.map_append] at hm
  have h3 : St x (((List.range m).map fun i => S[i]?.getD []) ++ S.drop m) w := h.ofFlat (by rw [List.flatten_append, flatten_padded, ← List.flatten_append, List.take_append_drop])
  refine (h3.perm (hm.symm.append_right _)).sublist ?_
  unfold Ytcmgpofcdjejnaa.pickT
  rw [List.append_assoc]
  exact List.Sublist.append_left (List.sublist_append_right _ _) _

/-- a new block -/
theorem St.new {x : Out} {S : List (List Chunk)} {w : World} (h : St x S w) (o : Obj) : St x ([(w.heap.size, o)] :: S) { w with heap := w.heap.push o } := by
  have old : ∀ p, p ∈ S.flatten → p.1 < w.heap.size := fun p hp => by
    have := h.holds p hp
    exact (Array.getElem?_eq_some_iff.1 this).1
  refine ⟨?_, ?_, h.os, h.out, h.tape⟩
  · simp only [List.flatten_cons, List.map_cons, List.singleton_append, List.nodup_cons]
    refine ⟨fun hm => ?_, h.nodup⟩
    obtain ⟨p, hp, e⟩ := List.mem_map.1 hm
    have := old p hp
    omega
  · intro p hp
    simp only [List.flatten_cons, List.singleton_append, List.mem_cons] at hp
    rcases hp with rfl | hp
    · simp
    · have hlt := old p hp
      have := h.holds p hp
      simp only [Array.getElem?_push]
      rw [if_neg (by omega)]
      exact this

/-- an object turned -/
theorem St.turn {x : Out} {S : List (List Chunk)} {w : World} {b : Nat} {o o' : Obj} (h : St x ([(b, o)] :: S) w) : St x ([(b, o')] :: S) { w with heap := w.heap.setIfInBounds b o' } := by
  have hb : w.heap[b]? = some o := h.holds (b, o) (by simp)
  have hlt : b < w.heap.size := (Array.getElem?_eq_some_iff.1 hb).1
  refine ⟨h.nodup, fun p hp => ?_, h.os, h.out, h.tape⟩
  have hn := h.nodup
  simp only [List.flatten_cons, List.singleton_append, List.map_cons, List.nodup_cons] at hn
  simp only [List.flatten_cons, List.singleton_append, List.mem_cons] at hp
  rcases hp with rfl | hp
  · simp [hlt]
  · have hne : b ≠ p.1 := fun e => hn.1 (List.mem_map.2 ⟨p, hp, e.symm⟩)
    show (w.heap.setIfInBounds b o')[p.1]? = some p.2
    rw [Array.getElem?_setIfInBounds_ne hne]
    exact h.holds p (by simp [hp])

/-! ### The judgements -/

def TC (P : Program) (c : Code) (Q : Exit → Act → World → Prop) (n : Nat) (l : Slots) (C : World → Prop) : Prop := ∀ a w, Ag n l a → C w → c.wp P Q a w
def TG (K : Act → World → Prop) (n : Nat) (l : Slots) (C : World → Prop) : Prop := ∀ a w, Ag n l a → C w → K a w
abbrev TL (P : Program) (ops : Array Oper) (Q : Exit → Act → World → Prop) (os : List Oper) (n : Nat) (l : Slots) (C : World → Prop) : Prop := TG (wpList P ops Q os) n l C
def TQ (P : Program) (ops : Array Oper) (C : World → Prop) (Q : Act → Prop) (os : List Oper) (n : Nat) (l : Slots) : Prop := ∀ a, Ag n l a → wpQuiet P ops C Q os a
def EX (Q : Exit → Act → World → Prop) (e : Exit) (n : Nat) (l : Slots) (C : World → Prop) : Prop := ∀ a w, Ag n l a → C w → Q e a w

/-- what a function does: from each world of a class it returns, and of the value and the world behind it something holds -/
def Spec (P : Program) (f : FuncId) (args : Array Value) (C : World → Prop) (Post : Value → World → Prop) : Prop :=
  ∀ w, C w → Calls P f args w fun e w' => ∃ v, e = .returned v ∧ Post v w'

def RetP (Post : Value → World → Prop) : Ending → World → Prop := fun e w' => ∃ v, e = .returned v ∧ Post v w'

theorem Spec.mono {P : Program} {f : FuncId} {args : Array Value} {C C' : World → Prop} {Post Post' : Value → World → Prop} (h : Spec P f args C Post) (hc : ∀ w, C' w → C w) (hp : ∀ v w, Post v w → Post' v w) : Spec P f args C' Post' :=
  fun w hw => (h w (hc w hw)).mono fun _ _ ⟨v, e, p⟩ => ⟨v, e, hp _ _ p⟩

theorem Spec.ex {P : Program} {f : FuncId} {args : Array Value} {α : Sort _} {C : α → World → Prop} {Post : Value → World → Prop} (h : ∀ y, Spec P f args (C y) Post) : Spec P f args (fun w => ∃ y, C y w) Post := fun w ⟨y, hy⟩ => h y w hy
theorem Spec.pure {P : Program} {f : FuncId} {args : Array Value} {p : Prop} {C : World → Prop} {Post : Value → World → Prop} (h : p → Spec P f args C Post) : Spec P f args (fun w => p ∧ C w) Post := fun w ⟨y, hy⟩ => h y w hy

/-- the slots of the arguments -/
def argSlots : Nat → List Value → Slots
  | _, [] => []
  | i, v :: r => (i, v) :: argSlots (i + 1) r

theorem lk_argSlots (l : List Value) : ∀ (i t : Nat) (v : Value), lk (argSlots i l) t = some v → i ≤ t ∧ l[t - i]? = some v := by
  induction l with
  | nil => intro i t v h; cases h
  | cons u r ih =>
    intro i t v h
    unfold argSlots lk at h
    cases hb : Nat.beq i t with
    | true =>
      rw [hb] at h
      simp only [cond_true, Option.some.injEq] at h
      have e := Nat.eq_of_beq_eq_true hb
      subst e; subst h
      simp
    | false =>
      rw [hb] at h
      simp only [cond_false] at h
      obtain ⟨h1, h2⟩ := ih (i + 1) t v h
      refine ⟨by omega, ?_⟩
      rw [show t - i = (t - (i + 1)) + 1 from by omega, List.getElem?_cons_succ]
      exact h2

theorem spec_of {P : Program} {f : FuncId} {fn : Func} {c : Code} {args : List Value} {C : World → Prop} {Post : Value → World → Prop} {n : Nat}
    (hf : P.funcs[f]? = some fn) (hb : fn.body = some c) (hn : fn.ntmps = n) (hle : Nat.ble args.length n = true)
    (h : TC P c (bodyPost P fn (RetP Post)) n (argSlots 0 args) C) : Spec P f args.toArray C Post := by
  intro w hw
  refine calls_of_wp hf hb (h _ w ⟨rfl, ?_, ?_, ?_⟩ hw)
  · have := Nat.le_of_ble_eq_true hle
    simp only [Array.size_append, List.size_toArray, Array.size_replicate, hn]; omega
  · intro t v ht
    obtain ⟨_, h2⟩ := lk_argSlots args 0 t v ht
    have h3 : (args.toArray ++ Array.replicate (fn.ntmps - args.toArray.size) undef)[t]? = some v := by
      have hlt : t < args.length := (List.getElem?_eq_some_iff.1 h2).1
      rw [Array.getElem?_append_left (by simpa using hlt)]
      simpa using h2
    rw [Array.getD_eq_getD_getElem?, h3]; rfl
  · intro t v ht
    obtain ⟨_, h2⟩ := lk_argSlots args 0 t v ht
    have hlt : t < args.length := (List.getElem?_eq_some_iff.1 h2).1
    have := Nat.le_of_ble_eq_true hle
    omega

/-! ### Code -/
section
variable {P : Program} {Q : Exit → Act → World → Prop} {n : Nat} {l : Slots} {C : World → Prop} {c d : Code}

theorem TC.sub {l' : Slots} {C' : World → Prop} (hl : SubL l l') (hC : ∀ w, C w → C' w) (h : TC P c Q n l' C') : TC P c Q n l C := fun a w ha hw => h a w (ha.sub hl) (hC w hw)
theorem tc_seq (h : TC P c (Exit.then (d.wp P Q) Q) n l C) : TC P (.seq c d) Q n l C := fun a w ha hw => wp_seq (h a w ha hw)
theorem tc_skip (h : EX Q .normal n l C) : TC P .skip Q n l C := fun a w ha hw => wp_skip (h a w ha hw)
theorem tc_label {k : Nat} (h : EX Q .normal n l C) : TC P (.label k) Q n l C := fun a w ha hw => wp_label (h a w ha hw)
theorem tc_ret (h : EX Q .ret n l C) : TC P .ret Q n l C := fun a w ha hw => wp_ret (h a w ha hw)
theorem tc_exit {id : Nat} (h : EX Q (.exit id) n l C) : TC P (.exit id) Q n l C := fun a w ha hw => wp_exit (h a w ha hw)
theorem tc_block {id : Nat} (h : TC P c (Exit.inBlock id Q) n l C) : TC P (.block id c) Q n l C := fun a w ha hw => wp_block (h a w ha hw)
theorem tc_cond {x : Operand} {b : Bool} (hx : ev l x = some (.bool b)) (ht : b = true → TC P c Q n l C) (hf : b = false → TC P d Q n l C) : TC P (.cond x c d) Q n l C :=
  fun a w ha hw => wp_cond_split (ha.ev hx) (fun h => ht h a w ha hw) (fun h => hf h a w ha hw)
theorem tc_if {x : Operand} {p : Prop} [Decidable p] (hx : ev l x = some (.bool (decide p))) (ht : p → TC P c Q n l C) (hf : ¬p → TC P d Q n l C) : TC P (.cond x c d) Q n l C :=
  tc_cond hx (fun h => ht (of_decide_eq_true h)) (fun h => hf (of_decide_eq_false h))
theorem tc_yes {x : Operand} (hx : ev l x = some (.bool true)) (h : TC P c Q n l C) : TC P (.cond x c d) Q n l C := tc_cond hx (fun _ => h) (fun e => by cases e)
theorem tc_no {x : Operand} (hx : ev l x = some (.bool false)) (h : TC P d Q n l C) : TC P (.cond x c d) Q n l C := tc_cond hx (fun e => by cases e) (fun _ => h)
theorem tc_ex {α : Sort _} {C : α → World → Prop} (h : ∀ y, TC P c Q n l (C y)) : TC P c Q n l (fun w => ∃ y, C y w) := fun a w ha ⟨y, hy⟩ => h y a w ha hy

theorem ex_next (h : TC P d Q n l C) : EX (Exit.then (d.wp P Q) Q) .normal n l C := h
theorem ex_pass_ret {K : Act → World → Prop} (h : EX Q .ret n l C) : EX (Exit.then K Q) .ret n l C := h
theorem ex_pass_exit {K : Act → World → Prop} {id : Nat} (h : EX Q (.exit id) n l C) : EX (Exit.then K Q) (.exit id) n l C := h
theorem ex_block_end {id : Nat} (h : EX Q .normal n l C) : EX (Exit.inBlock id Q) .normal n l C := h
theorem ex_block_ret {id : Nat} (h : EX Q .ret n l C) : EX (Exit.inBlock id Q) .ret n l C := h
theorem ex_block_hit {id : Nat} (h : EX Q .normal n l C) : EX (Exit.inBlock id Q) (.exit id) n l C := fun a w ha hw => by
  show (if id = id then Q .normal a w else Q (.exit id) a w); rw [if_pos rfl]; exact h a w ha hw
theorem ex_block_miss {id id' : Nat} (hne : Nat.beq id' id = false) (h : EX Q (.exit id') n l C) : EX (Exit.inBlock id Q) (.exit id') n l C := fun a w ha hw => by
  show (if id' = id then Q .normal a w else Q (.exit id') a w); rw [if_neg (by intro e; subst e; simp at hne)]; exact h a w ha hw

/-- an invariant tells slots, memory and a number that each round lowers -/
def Round (Inv : Slots → (World → Prop) → Nat → Prop) (n m : Nat) (a : Act) (w : World) : Prop := ∃ l' C' m', Inv l' C' m' ∧ m' < m ∧ Ag n l' a ∧ C' w

theorem tc_loop (Inv : Slots → (World → Prop) → Nat → Prop) {l₀ : Slots} {C₀ : World → Prop} {m₀ : Nat} (h₀ : Inv l₀ C₀ m₀) (hl : SubL l l₀) (hC : ∀ w, C w → C₀ w)
    (round : ∀ l C m, Inv l C m → TC P c (Exit.then (Round Inv n m) Q) n l C) : TC P (.loop c) Q n l C := by
  intro a w ha hw
  refine wp_loop_ghost (fun m a w => ∃ l C, Inv l C m ∧ Ag n l a ∧ C w) m₀ ⟨l₀, C₀, h₀, ha.sub hl, hC w hw⟩ ?_
  intro m a w ⟨l, C, hI, ha, hw⟩
  refine wp_mono (round l C m hI a w ha hw) ?_
  intro e a' w' hq
  cases e with
  | normal => obtain ⟨l', C', m', h1, h2, h3, h4⟩ := hq; exact ⟨m', h2, l', C', h1, h3, h4⟩
  | exit id => exact hq
  | goto l => exact hq
  | ret => exact hq
  | panic ch => exact hq
  | outgrown => exact hq

theorem ex_round {Inv : Slots → (World → Prop) → Nat → Prop} {m : Nat} {l' : Slots} {C' : World → Prop} {m' : Nat} (hI : Inv l' C' m') (hm : m' < m) (hl : SubL l l') (hC : ∀ w, C w → C' w) : EX (Exit.then (Round Inv n m) Q) .normal n l C :=
  fun _ w ha hw => ⟨l', C', m', hI, hm, ha.sub hl, hC w hw⟩

end

/-! ### A function's end -/
section
variable {P : Program} {fn : Func} {n : Nat} {l : Slots} {C : World → Prop} {Post : Value → World → Prop}

theorem ex_ret0 (hr : fn.results = #[]) (h : ∀ w, C w → Post (.tuple #[]) w) : EX (bodyPost P fn (RetP Post)) .ret n l C :=
  fun _ w ha hw => ⟨ha.defers, _, results_none hr _ _ _, _, rfl, h w hw⟩
theorem ex_end0 (hr : fn.results = #[]) (h : ∀ w, C w → Post (.tuple #[]) w) : EX (bodyPost P fn (RetP Post)) .normal n l C :=
  fun _ w ha hw => ⟨ha.defers, _, results_none hr _ _ _, _, rfl, h w hw⟩
theorem ex_ret1 {t : Nat} {v : Value} (hr : fn.results = #[.tmp t]) (hv : lk l t = some v) (h : ∀ w, C w → Post v w) : EX (bodyPost P fn (RetP Post)) .ret n l C :=
  fun _ w ha hw => ⟨ha.defers, _, results_tmp hr _ _ _, _, rfl, by rw [ha.get t v hv]; exact h w hw⟩
theorem ex_ret2 {t u : Nat} {v v' : Value} (hr : fn.results = #[.tmp t, .tmp u]) (hv : lk l t = some v) (hv' : lk l u = some v') (h : ∀ w, C w → Post (.tuple #[v, v']) w) : EX (bodyPost P fn (RetP Post)) .ret n l C :=
  fun _ w ha hw => ⟨ha.defers, _, results_tmp2 hr _ _ _, _, rfl, by rw [ha.get t v hv, ha.get u v' hv']; exact h w hw⟩
end

/-! ### Operations -/

/-- in each world of the class, at each frame that agrees, the operation leaves the world in the class and yields this value -/
def Y (P : Program) (n : Nat) (l : Slots) (C : World → Prop) (o : Oper) (v : Value) : Prop := ∀ a w, Ag n l a → C w → (execOp a.eval o).run P w = .ok (.value v) w

section
variable {P : Program} {ops : Array Oper} {Q : Exit → Act → World → Prop} {n : Nat} {l : Slots} {C : World → Prop} {o : Oper} {os : List Oper}

theorem tc_region {id : Nat} (h : TL P os.toArray Q os n l C) : TC P (.region id os.toArray false) Q n l C := fun a w ha hw => wp_region_lit (h a w ha hw)
theorem tl_end (h : EX Q .normal n l C) : TL P ops Q [] n l C := h
theorem TL.sub {l' : Slots} {C' : World → Prop} (hl : SubL l l') (hC : ∀ w, C w → C' w) (h : TL P ops Q os n l' C') : TL P ops Q os n l C := fun a w ha hw => h a w (ha.sub hl) (hC w hw)

/-- whether an operation is wanted -/
def wanted (ops : Array Oper) (l : Slots) (o : Oper) : Option Bool :=
  match o.guard with
  | none => some true
  | some (j, want) => match ops[j]? with
    | some oj => match oj.dst with
      | some d => match lk l d with
        | some (.bool b) => some (b == want)
        | some (.tuple _) => some false
        | _ => none
      | none => none
    | none => none

theorem Ag.slot {n : Nat} {l : Slots} {a : Act} {d : Nat} {v : Value} (ha : Ag n l a) (h : lk l d = some v) : a.tmps[d]? = some v := by
  have hlt : d < a.tmps.size := by rw [ha.size]; exact ha.bound d _ h
  have hg' := ha.get d _ h
  rw [Array.getElem?_eq_getElem hlt]
  simp only [Array.getD_eq_getD_getElem?, Array.getElem?_eq_getElem hlt, Option.getD_some] at hg'
  rw [hg']

theorem wanted_spec {ops : Array Oper} {n : Nat} {l : Slots} {a : Act} {o : Oper} {b : Bool} (ha : Ag n l a) (h : wanted ops l o = some b) : Region.wanted o (yielded ops a.tmps) = b := by
  unfold wanted at h
  unfold Region.wanted
  split at h
  · rename_i hg; simp only [Option.some.injEq] at h; rw [hg]; exact h
  · rename_i j want hg
    rw [hg]
    split at h
    · rename_i oj hj
      split at h
      · rename_i d hd
        split at h
        · rename_i b' hb'
          simp only [Option.some.injEq] at h
          have hq := ha.slot hb'
          have hy : yielded ops a.tmps j = some b' := by simp [yielded, hj, hd, hq]
          show (yielded ops a.tmps j == some want) = b
          rw [hy, ← h]
          cases b' <;> cases want <;> rfl
        · rename_i u hb'
          simp only [Option.some.injEq] at h
          have hq := ha.slot hb'
          have hy : yielded ops a.tmps j = none := by simp [yielded, hj, hd, hq]
          show (yielded ops a.tmps j == some want) = b
          rw [hy, ← h]; rfl
        · cases h
      · cases h
    · cases h

end
end Go.Proofs.Ytcmgpofcdjejnaa
