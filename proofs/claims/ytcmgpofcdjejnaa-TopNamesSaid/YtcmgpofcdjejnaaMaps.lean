/-
  The base of the proofs: maps, as functions from keys to values that may be there. It claims nothing of any program.
-/
import Derived.Test.YtcmgpofcdjejnaaTree
import Derived.MapKept
set_option linter.unusedVariables false
set_option linter.unusedSectionVars false
set_option linter.unusedSimpArgs false
namespace Go.Proofs.Ytcmgpofcdjejnaa
open Go

/-- a kind of key -/
structure Ky (α : Type) where
  val : α → Value
  desc : TypeDesc
  isKey : ∀ a, MapKept.IsKey desc (val a)
  inj : ∀ a b, val a = val b → a = b

def yI (k : IntKind) : Ky Int := ⟨.int k, .int k, fun _ => rfl, fun a b h => by cases h; rfl⟩
def yS : Ky ByteArray := ⟨.string, .string, fun _ => trivial, fun a b h => by cases h; rfl⟩

def upd {α β : Type} [DecidableEq α] (f : α → Option β) (a : α) (b : β) : α → Option β := fun q => if q = a then some b else f q

/-- a map owns its block -/
def OwnM {α β : Type} (Y : Ky α) (kv : β → Value) (r : Nat) (f : α → Option β) (L : List Chunk) : Prop :=
  ∃ (es : Array MapEntry) (clock : Nat), L = [(r, .map es clock)] ∧ (∀ x ∈ es.toList, ∃ a b, x.key = Y.val a ∧ x.val = kv b ∧ f a = some b) ∧ (∀ a b, f a = some b → ∃ x ∈ es.toList, x.key = Y.val a) ∧ (es.toList.map (·.key)).Nodup

section
variable {P : Program} {ops : Array Oper} {n : Nat} {l : Slots} {K₁ K₀ : Act → World → Prop} {x : Out} {S : List (List Chunk)} {d : Nat} {dst : Option Nat} {ty : TypeId} {pos : String} {af : Array Edge} {gd : Option (Nat × Bool)}
variable {α β : Type} {Y : Ky α} {kv : β → Value} {r : Nat} {f : α → Option β} {L : List Chunk}

theorem tl_map {t : TypeId} (α β : Type) (Y : Ky α) (kv : β → Value) (stp : Step P ops ⟨dst, .makeMap t none, ty, pos, af, gd⟩ K₁ K₀) (hd : okw ops l ⟨dst, .makeMap t none, ty, pos, af, gd⟩ n = some (true, d))
    (k : ∀ r L, OwnM Y kv r (fun _ => none) L → TG K₁ n ((d, .map (some r)) :: l) (St x (L :: S))) : TG K₀ n l (St x S) := by
  refine tl_eff (C' := fun v w => ∃ r L, v = .map (some r) ∧ OwnM Y kv r (fun _ => none) L ∧ St x (L :: S) w) stp hd (fun a w ha hw => ⟨.map (some w.heap.size), _, ?_, w.heap.size, _, rfl, ⟨#[], 0, rfl, by simp, by simp, by simp⟩, hw.new _⟩) (fun v => tl_ex fun r => tl_ex fun L => tl_pure fun e => tl_pure fun h => tl_val e (k r L h))
  simp [execOp, Instr.makeMap]

theorem OwnM.find (h : OwnM Y kv r f L) (a : α) : ∃ es clock, L = [(r, .map es clock)] ∧ (∀ q ∈ es.toList, MapKept.IsKey Y.desc q.key) ∧ ((Instr.findNow Y.desc (Y.val a) es.toList 0 = some none ∧ f a = none ∧ ∀ q ∈ es.toList, q.key ≠ Y.val a) ∨ ∃ j e b, Instr.findNow Y.desc (Y.val a) es.toList 0 = some (some (j, e.val)) ∧ es.toList[j]? = some e ∧ e.key = Y.val a ∧ e.val = kv b ∧ f a = some b) := by
  obtain ⟨es, clock, hL, h1, h2, h3⟩ := h
  have hks : ∀ q ∈ es.toList, MapKept.IsKey Y.desc q.key := fun q hq => by obtain ⟨a', b, e1, _⟩ := h1 q hq; rw [e1]; exact Y.isKey a'
  refine ⟨es, clock, hL, hks, ?_⟩
  rcases MapKept.findNow_spec (Y.isKey a) es.toList 0 hks with ⟨h4, h5⟩ | ⟨j, e, h4, h5, h6⟩
  · left
    refine ⟨h4, ?_, h5⟩
    cases hf : f a with
    | none => rfl
    | some b => obtain ⟨q, hq, e⟩ := h2 a b hf; exact absurd e (h5 q hq)
  · right
    obtain ⟨a', b, e1, e2, e3⟩ := h1 e (List.mem_of_getElem? h5)
    have : a' = a := Y.inj _ _ (e1.symm.trans h6)
    subst this
    exact ⟨j, e, b, by simpa using h4, h5, h6, e2, e3⟩

theorem y_lookup {t kt et : TypeId} {X I : Operand} {a : α} {z0 : β} {k : Nat} (o : OwnM Y kv r f L) (hX : ev l X = some (.map (some r))) (hI : ev l I = some (Y.val a)) (hk : S[k]? = some L) (hm : P.underlying t = some (.map kt et)) (hd : P.underlying kt = some Y.desc) (hz : (P.info? et).bind (·.zero) = some (kv z0)) :
    Ytcmgpofcdjejnaa.Y P n l (St x S) ⟨dst, .lookup t X I false, ty, pos, af, gd⟩ (kv ((f a).getD z0)) := y_of fun A w ha hw => by
  obtain ⟨es, clock, rfl, hks, h⟩ := o.find a
  have hb : w.heap[r]? = some (.map es clock) := hw.at k hk (r, _) (by simp)
  have hzero : (zeroValue et).run P w = .ok (kv z0) w := by
    cases hi : P.info? et with
    | none => simp [hi] at hz
    | some i => simp [hi] at hz; simp [zeroValue, typeInfo, hi, hz]
  rcases h with ⟨h1, h2, _⟩ | ⟨j, e, b, h1, _, _, h4, h5⟩
  · simp [execOp, ha.ev hX, ha.ev hI, Instr.lookup, run_underlying hm, MapKept.run_getObj_map hb, MapKept.run_checkKey hd (Y.isKey a), MapKept.run_findKey hd h1, hzero, h2]
  · simp [execOp, ha.ev hX, ha.ev hI, Instr.lookup, run_underlying hm, MapKept.run_getObj_map hb, MapKept.run_checkKey hd (Y.isKey a), MapKept.run_findKey hd h1, h4, h5]
theorem y_lookup2 {t kt et : TypeId} {X I : Operand} {a : α} {z0 : β} {k : Nat} (o : OwnM Y kv r f L) (hX : ev l X = some (.map (some r))) (hI : ev l I = some (Y.val a)) (hk : S[k]? = some L) (hm : P.underlying t = some (.map kt et)) (hd : P.underlying kt = some Y.desc) (hz : (P.info? et).bind (·.zero) = some (kv z0)) :
    Ytcmgpofcdjejnaa.Y P n l (St x S) ⟨dst, .lookup t X I true, ty, pos, af, gd⟩ (.tuple #[kv ((f a).getD z0), .bool (f a).isSome]) := y_of fun A w ha hw => by
  obtain ⟨es, clock, rfl, hks, h⟩ := o.find a
  have hb : w.heap[r]? = some (.map es clock) := hw.at k hk (r, _) (by simp)
  have hzero : (zeroValue et).run P w = .ok (kv z0) w := by
    cases hi : P.info? et with
    | none => simp [hi] at hz
    | some i => simp [hi] at hz; simp [zeroValue, typeInfo, hi, hz]
  rcases h with ⟨h1, h2, _⟩ | ⟨j, e, b, h1, _, _, h4, h5⟩
  · simp [execOp, ha.ev hX, ha.ev hI, Instr.lookup, run_underlying hm, MapKept.run_getObj_map hb, MapKept.run_checkKey hd (Y.isKey a), MapKept.run_findKey hd h1, hzero, h2]
  · simp [execOp, ha.ev hX, ha.ev hI, Instr.lookup, run_underlying hm, MapKept.run_getObj_map hb, MapKept.run_checkKey hd (Y.isKey a), MapKept.run_findKey hd h1, h4, h5]

/-- an object turned, where it lies -/
theorem St.setObj {w : World} {i b : Nat} {o o' : Obj} (h : St x S w) (hk : S[i]? = some [(b, o)]) : St x (S.set i [(b, o')]) { w with heap := w.heap.setIfInBounds b o' } := by
  have hi : i < S.length := (List.getElem?_eq_some_iff.1 hk).1
  have hv : S[i] = [(b, o)] := (List.getElem?_eq_some_iff.1 hk).2
  have e1 : S = S.take i ++ [(b, o)] :: S.drop (i + 1) := by rw [← hv, List.getElem_cons_drop, List.take_append_drop]
  have e2 : S.set i [(b, o')] = S.take i ++ [(b, o')] :: S.drop (i + 1) := by rw [List.set_eq_take_append_cons_drop, if_pos hi]
  have p1 : S.Perm ([(b, o)] :: (S.take i ++ S.drop (i + 1))) := (List.Perm.of_eq e1).trans List.perm_middle
  have p2 : ([(b, o')] :: (S.take i ++ S.drop (i + 1))).Perm (S.set i [(b, o')]) := (List.Perm.trans List.perm_middle.symm (.of_eq e2.symm))
  exact ((h.perm p1).turn).perm p2

theorem modify_mem {es : Array MapEntry} {j : Nat} {g : MapEntry → MapEntry} {q : MapEntry} (hq : q ∈ (es.modify j g).toList) : (∃ e, es.toList[j]? = some e ∧ q = g e) ∨ ∃ i, i ≠ j ∧ es.toList[i]? = some q := by
  obtain ⟨i, hi⟩ := List.getElem?_of_mem hq
  rw [Array.getElem?_toList, Array.getElem?_modify] at hi
  by_cases hij : j = i
  · rw [if_pos hij] at hi
    subst hij
    cases he : es[j]? with
    | none => rw [he] at hi; cases hi
    | some e => rw [he] at hi; simp only [Option.map_some, Option.some.injEq] at hi; exact .inl ⟨e, by rw [Array.getElem?_toList]; exact he, hi.symm⟩
  · rw [if_neg hij] at hi
    exact .inr ⟨i, Ne.symm hij, by rw [Array.getElem?_toList]; exact hi⟩

theorem tl_update [DecidableEq α] {t kt et : TypeId} {M X V : Operand} (stp : Step P ops ⟨dst, .mapUpdate t M X V, ty, pos, af, gd⟩ K₁ K₀) (k : Nat) (a : α) (b : β) (o : OwnM Y kv r f L) (hM : ev l M = some (.map (some r))) (hX : ev l X = some (Y.val a)) (hV : ev l V = some (kv b)) (hk : S[k]? = some L) (hm : P.underlying t = some (.map kt et)) (hd : P.underlying kt = some Y.desc) (ho : oks ⟨dst, .mapUpdate t M X V, ty, pos, af, gd⟩ = true)
    (kk : ∀ L', OwnM Y kv r (upd f a b) L' → TG K₁ n l (St x (S.set k L'))) : TG K₀ n l (St x S) := by
  refine tl_do stp ho (C' := fun w => ∃ L', OwnM Y kv r (upd f a b) L' ∧ St x (S.set k L') w) (fun A w ha hw => ?_) (tl_ex fun L' => tl_pure fun h => kk L' h)
  obtain ⟨es, clock, hL, h1, h2, h3⟩ := o
  subst hL
  have hks : ∀ q ∈ es.toList, MapKept.IsKey Y.desc q.key := fun q hq => by obtain ⟨a', b', e1, _⟩ := h1 q hq; rw [e1]; exact Y.isKey a'
  have hb : w.heap[r]? = some (.map es clock) := hw.at k hk (r, _) (by simp)
  have old : ∀ q ∈ es.toList, q.key ≠ Y.val a → ∃ a' b', q.key = Y.val a' ∧ q.val = kv b' ∧ upd f a b a' = some b' := fun q hq hne => by
    obtain ⟨a', b', e1, e2, e3⟩ := h1 q hq
    have : a' ≠ a := fun e => hne (by rw [e1, e])
    exact ⟨a', b', e1, e2, by simp [upd, this, e3]⟩
  rcases MapKept.findNow_spec (Y.isKey a) es.toList 0 hks with ⟨h4, h5⟩ | ⟨j, e, h4, h5, h6⟩
  · refine ⟨_, ?_, [(r, .map (es.push { key := Y.val a, val := kv b, born := clock }) (clock + 1))], ⟨es.push { key := Y.val a, val := kv b, born := clock }, clock + 1, rfl, fun q hq => ?_, fun a' b' hf => ?_, ?_⟩, hw.setObj hk⟩
    · simp [execOp, ha.ev hM, ha.ev hX, ha.ev hV, Instr.mapUpdate, run_underlying hm, MapKept.run_getObj_map hb, MapKept.run_checkKey hd (Y.isKey a), MapKept.run_findKey hd h4, MapKept.run_setObj_map _ hb]
    · simp only [Array.toList_push, List.mem_append, List.mem_singleton] at hq
      rcases hq with hq | rfl
      · exact old q hq (h5 q hq)
      · exact ⟨a, b, rfl, rfl, by simp [upd]⟩
    · by_cases hab : a' = a
      · subst hab; exact ⟨{ key := Y.val a', val := kv b, born := clock }, by simp, rfl⟩
      · rw [show upd f a b a' = f a' from by simp [upd, hab]] at hf
        obtain ⟨q, hq, e⟩ := h2 a' b' hf
        exact ⟨q, by simp [hq], e⟩
    · rw [Array.toList_push, List.map_append, List.nodup_append]
      refine ⟨h3, by simp, fun u hu v hv => ?_⟩
      obtain ⟨q, hq, rfl⟩ := List.mem_map.1 hu
      simp only [List.map_cons, List.map_nil, List.mem_singleton] at hv
      rw [hv]; exact h5 q hq
  · have hj : es[j]? = some e := by simpa using h5
    have uniq : ∀ i q, es.toList[i]? = some q → q.key = Y.val a → i = j := fun i q hq e1 => by
      have hi := List.getElem?_map (f := (·.key)) (l := es.toList) (i := i)
      have hj' := List.getElem?_map (f := (·.key)) (l := es.toList) (i := j)
      rw [hq] at hi; rw [h5] at hj'
      simp only [Option.map_some] at hi hj'
      rw [e1] at hi; rw [h6] at hj'
      have hli : i < (es.toList.map (·.key)).length := (List.getElem?_eq_some_iff.1 hi).1
      exact (List.getElem?_inj hli h3).1 (hi.trans hj'.symm)
    refine ⟨_, ?_, [(r, .map (es.modify j fun e => { e with key := Y.val a, val := kv b }) clock)], ⟨es.modify j fun e => { e with key := Y.val a, val := kv b }, clock, rfl, fun q hq => ?_, fun a' b' hf => ?_, ?_⟩, hw.setObj hk⟩
    · simp [execOp, ha.ev hM, ha.ev hX, ha.ev hV, Instr.mapUpdate, run_underlying hm, MapKept.run_getObj_map hb, MapKept.run_checkKey hd (Y.isKey a), MapKept.run_findKey hd h4, hj, h6, MapKept.run_keyThatStays (Y.isKey a), MapKept.run_setObj_map _ hb]
    · rcases modify_mem hq with ⟨e', _, rfl⟩ | ⟨i, hij, hqi⟩
      · exact ⟨a, b, rfl, rfl, by simp [upd]⟩
      · exact old q (List.mem_of_getElem? hqi) fun e1 => hij (uniq i q hqi e1)
    · have hkeys := MapKept.modify_keys (es := es) j (fun e => { e with key := Y.val a, val := kv b }) (fun e' he' => by rw [hj] at he'; cases he'; exact h6.symm)
      have : ∃ q ∈ es.toList, q.key = Y.val a' := by
        by_cases hab : a' = a
        · subst hab; exact ⟨e, List.mem_of_getElem? h5, h6⟩
        · rw [show upd f a b a' = f a' from by simp [upd, hab]] at hf
          exact h2 a' b' hf
      obtain ⟨q, hq, e1⟩ := this
      have h7 : Y.val a' ∈ (es.modify j fun e => { e with key := Y.val a, val := kv b }).toList.map (·.key) := by
        rw [hkeys]; exact List.mem_map.2 ⟨q, hq, e1⟩
      obtain ⟨q', h8, h9⟩ := List.mem_map.1 h7
      exact ⟨q', h8, h9⟩
    · rw [MapKept.modify_keys (es := es) j (fun e => { e with key := Y.val a, val := kv b }) (fun e' he' => by rw [hj] at he'; cases he'; exact h6.symm)]
      exact h3
end
end Go.Proofs.Ytcmgpofcdjejnaa
