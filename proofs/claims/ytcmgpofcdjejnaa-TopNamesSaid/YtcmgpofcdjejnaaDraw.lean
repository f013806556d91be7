/-
  The base of the proofs: regions that draw their order and do something: operations that reckon or read are taken first, one that does something only where nothing else can come. It claims nothing of any program.
-/
import Derived.Test.YtcmgpofcdjejnaaMisc
import Derived.Still
set_option linter.unusedVariables false
set_option linter.unusedSectionVars false
set_option linter.unusedSimpArgs false
namespace Go.Proofs.Ytcmgpofcdjejnaa
open Go

/-- what an operation does: it reckons alone; it reads; it does something -/
inductive Md where
  | p | r | e
  deriving DecidableEq

section
variable {P : Program} {ops : Array Oper}

def valAt (P : Program) (o : Oper) (a : Act) (w : World) (v : Value) : Prop :=
  (execOp a.eval o).run P w = .ok (.value v) w ∨ ((execOp a.eval o).run P w = .ok .skip w ∧ v = undef)

def opV (P : Program) (ops : Array Oper) (kind : Nat → Md) (i : Nat) (K : Act → World → Prop) (a : Act) (w : World) : Prop :=
  match ops[i]? with
  | none => K a w
  | some o => if Region.wanted o (yielded ops a.tmps) then (if kind i = .e then stepV P o a w K else ∃ v, valAt P o a w v ∧ K (a.put o.dst v) w) else K (a.put o.dst undef) w

theorem opV_mono {kind : Nat → Md} {i : Nat} {a : Act} {w : World} {K K' : Act → World → Prop} (h : ∀ a w, K a w → K' a w) (hh : opV P ops kind i K a w) : opV P ops kind i K' a w := by
  unfold opV at *
  split
  · rename_i ho; simp only [ho] at hh; exact h _ _ hh
  · rename_i o ho
    simp only [ho] at hh
    split
    · rename_i hw
      simp only [hw, if_true] at hh
      split
      · rename_i hk; simp only [hk, if_true] at hh; exact stepV_mono h hh
      · rename_i hk; simp only [hk, if_false] at hh; obtain ⟨v, h1, h2⟩ := hh; exact ⟨v, h1, h _ _ h2⟩
    · rename_i hw; simp only [hw, if_false] at hh; exact h _ _ hh

theorem wpOp_of_opV {kind : Nat → Md} {i : Nat} {a : Act} {w : World} {K : Act → World → Prop} {Q : Exit → Act → World → Prop} (hh : opV P ops kind i K a w) : wpOp P ops Q i K a w := by
  unfold opV at hh
  unfold wpOp
  split
  · rename_i ho; simp only [ho] at hh; exact hh
  · rename_i o ho
    simp only [ho] at hh
    split
    · rename_i hw
      simp only [hw, if_true] at hh
      left
      split at hh
      · exact wp_of_stepV hh
      · obtain ⟨v, h1, h2⟩ := hh
        apply wp_of_stepV
        unfold stepV
        rcases h1 with h1 | ⟨h1, rfl⟩ <;> rw [h1] <;> exact h2
    · rename_i hw; simp only [hw, if_false] at hh; exact hh

def anyV (P : Program) (ops : Array Oper) (kind : Nat → Md) (Q : Act → World → Prop) : Nat → Array Bool → Act → World → Prop
  | 0, listed, a, w => Region.ready .any ops listed = [] ∧ Q a w
  | fuel + 1, listed, a, w => (Region.ready .any ops listed = [] → Q a w) ∧ ∀ i ∈ Region.ready .any ops listed, opV P ops kind i (anyV P ops kind Q fuel (listed.setIfInBounds i true)) a w

theorem wpAny_of_anyV {kind : Nat → Md} {Q : Act → World → Prop} {Q' : Exit → Act → World → Prop} (hQ : ∀ a w, Q a w → Q' .normal a w) : ∀ (fuel : Nat) (listed : Array Bool) (a : Act) (w : World), anyV P ops kind Q fuel listed a w → wpAny P .any ops Q' fuel listed a w
  | 0, _, _, _, h => ⟨h.1, hQ _ _ h.2⟩
  | fuel + 1, _, _, _, h => ⟨fun h0 => hQ _ _ (h.1 h0), fun i hi => wpOp_of_opV (opV_mono (fun a w => wpAny_of_anyV hQ fuel _ a w) (h.2 i hi))⟩

/-- what 'i' yields: of one that reckons alone, in every world -/
def YV (P : Program) (ops : Array Oper) (m : Md) (o : Oper) (v : Value) (a : Act) (w : World) : Prop :=
  (Region.wanted o (yielded ops a.tmps) = true ∧ valAt P o a w v ∧ (m = .p → ∀ w', valAt P o a w' v)) ∨ (Region.wanted o (yielded ops a.tmps) = false ∧ v = undef)

theorem YV.opV {kind : Nat → Md} {i : Nat} {o : Oper} {m : Md} {v : Value} {a : Act} {w : World} (hi : ops[i]? = some o) (hk : kind i ≠ .e) (hy : YV P ops m o v a w) {K : Act → World → Prop} (h : K (a.put o.dst v) w) : opV P ops kind i K a w := by
  unfold Ytcmgpofcdjejnaa.opV
  simp only [hi]
  rcases hy with ⟨hw, hv, _⟩ | ⟨hw, rfl⟩
  · simp only [hw, if_true, hk, if_false]; exact ⟨v, hv, h⟩
  · simp only [hw, Bool.false_eq_true, if_false]; exact h

theorem YV.put {m : Md} {oi oj : Oper} {v u : Value} {a : Act} {w : World} (hap : oi.apart ops oj = true) (hsi : ∀ cs b, oi.op ≠ .select cs b) (hy : YV P ops m oi v a w) : YV P ops m oi v (a.put oj.dst u) w := by
  obtain ⟨h1, h2, h3⟩ := Oper.apart_spec hap
  unfold YV valAt at *
  rw [execOp_put oi hsi a oj.dst u h3, wanted_put oi a oj.dst u h3]
  exact hy

/-- something lists what it waits for -/
def Closed (ops : Array Oper) (listed : Array Bool) : Prop := ∀ j oj, ops[j]? = some oj → listed.getD j false = true → ∀ e ∈ oj.after, Region.binds .any e = true → listed.getD e.on false = true

def ancB (ops : Array Oper) : Nat → Nat → Nat → Bool
  | 0, _, _ => false
  | f + 1, i, j => match ops[j]? with
    | some oj => oj.after.any fun e => Region.binds .any e && (e.on == i || ancB ops f i e.on)
    | none => false

theorem ancB_listed {listed : Array Bool} (hc : Closed ops listed) : ∀ (f i j : Nat) (oj : Oper), ops[j]? = some oj → (∀ e ∈ oj.after, Region.binds .any e = true → listed.getD e.on false = true) → ancB ops f i j = true → listed.getD i false = true := by
  intro f
  induction f with
  | zero => intro i j oj _ _ h; cases h
  | succ f ih =>
    intro i j oj hj hall h
    simp only [ancB, hj] at h
    obtain ⟨e, he, hb⟩ := Array.any_eq_true'.1 h
    simp only [Bool.and_eq_true, Bool.or_eq_true, beq_iff_eq] at hb
    obtain ⟨hb1, hb2⟩ := hb
    have hl := hall e he hb1
    rcases hb2 with rfl | hb2
    · exact hl
    · have hlt : e.on < listed.size := by
        rcases Nat.lt_or_ge e.on listed.size with h' | h'
        · exact h'
        · simp [Array.getElem?_eq_none h'] at hl
      cases ho : ops[e.on]? with
      | none => cases f <;> simp [ancB, ho] at hb2
      | some oe => exact ih i e.on oe ho (hc e.on oe ho hl) hb2

theorem Closed.set {listed : Array Bool} (hc : Closed ops listed) {i : Nat} (hi : i ∈ Region.ready .any ops listed) : Closed ops (listed.setIfInBounds i true) := by
  obtain ⟨_, oi, hoi, hall⟩ := mem_ready.1 hi
  intro j oj hj hl e he hb
  by_cases hij : i = j
  · subst hij
    have : oj = oi := Option.some.inj (hj.symm.trans hoi)
    subst this
    exact getD_set_true (hall e he hb)
  · rw [getD_set_ne false hij] at hl
    exact getD_set_true (hc j oj hj hl e he hb)

theorem anyV_first {kind : Nat → Md} {Q : Act → World → Prop} {i : Nat} {oi : Oper} {m : Md} {v : Value} (hi : ops[i]? = some oi) (hki : kind i ≠ .e) (hsel : ∀ (j : Nat) (o : Oper) cs b, ops[j]? = some o → o.op ≠ .select cs b) :
    ∀ (fuel : Nat) (listed : Array Bool) (a : Act) (w : World), Closed ops listed →
      (∀ j oj, ops[j]? = some oj → j ≠ i → listed.getD j true = false → (∀ e ∈ oj.after, Region.binds .any e = true → e.on ≠ i) → oi.apart ops oj = true) →
      (m = .p ∨ ∀ j, listed.getD j true = false → kind j = .e → ancB ops ops.size i j = true) →
      i ∈ Region.ready .any ops listed → YV P ops m oi v a w →
      anyV P ops kind Q fuel (listed.setIfInBounds i true) (a.put oi.dst v) w → anyV P ops kind Q (fuel + 1) listed a w := by
  intro fuel
  induction fuel with
  | zero =>
    intro listed a w _ _ _ hr hy H
    refine ⟨fun h => (by rw [h] at hr; cases hr), fun j hj => ?_⟩
    by_cases hji : j = i
    · subst hji; exact hy.opV hi hki H
    · have := ready_mono hj hji
      rw [H.1] at this
      cases this
  | succ fuel ih =>
    intro listed a w hc hfree hanc hr hy H
    refine ⟨fun h => (by rw [h] at hr; cases hr), fun j hj => ?_⟩
    by_cases hji : j = i
    · subst hji; exact hy.opV hi hki H
    · have h1 := H.2 j (ready_mono hj hji)
      obtain ⟨hjun, oj, hoj, hall⟩ := mem_ready.1 hj
      have hiun := (mem_ready.1 hr).1
      have hnl : listed.getD i false = false := by
        rcases Nat.lt_or_ge i listed.size with h' | h'
        · simp [h'] at hiun ⊢; exact hiun
        · simp [Array.getElem?_eq_none h'] at hiun
      have hnot : ∀ e ∈ oj.after, Region.binds .any e = true → e.on ≠ i := fun e he hb heq => by
        have h2 := hall e he hb
        rw [heq, hnl] at h2
        cases h2
      have hap := hfree j oj hoj hji hjun hnot
      obtain ⟨ha1, ha2, ha3⟩ := Oper.apart_spec hap
      have hsi : ∀ cs b, oi.op ≠ .select cs b := fun cs b => hsel i oi cs b hi
      have hsj : ∀ cs b, oj.op ≠ .select cs b := fun cs b => hsel j oj cs b hoj
      have hfree' : ∀ k ok, ops[k]? = some ok → k ≠ i → (listed.setIfInBounds j true).getD k true = false → (∀ e ∈ ok.after, Region.binds .any e = true → e.on ≠ i) → oi.apart ops ok = true := fun k ok hk hki hun hno => by
        refine hfree k ok hk hki ?_ hno
        by_cases hjk : j = k
        · subst hjk; exact hjun
        · rw [getD_set_ne true hjk] at hun; exact hun
      have hanc' : m = .p ∨ ∀ k, (listed.setIfInBounds j true).getD k true = false → kind k = .e → ancB ops ops.size i k = true := hanc.imp id fun h k hun hk => by
        refine h k ?_ hk
        by_cases hjk : j = k
        · subst hjk; exact hjun
        · rw [getD_set_ne true hjk] at hun; exact hun
      have go : ∀ (a' : Act) (w' : World), YV P ops m oi v a' w' → anyV P ops kind Q fuel ((listed.setIfInBounds i true).setIfInBounds j true) (a'.put oi.dst v) w' → anyV P ops kind Q (fuel + 1) (listed.setIfInBounds j true) a' w' := fun a' w' hy' h' =>
        ih (listed.setIfInBounds j true) a' w' (hc.set hj) hfree' hanc' (ready_mono hr (Ne.symm hji)) hy' (by rw [Array.setIfInBounds_comm _ _ hji]; exact h')
      unfold opV at h1 ⊢
      simp only [hoj] at h1 ⊢
      rw [wanted_put oj a oi.dst v ha1] at h1
      split
      · rename_i hw
        simp only [hw, if_true] at h1
        split
        · rename_i hke
          simp only [hke, if_true] at h1
          -- 'j' does something: then 'i' reckons alone
          have hp : m = .p := by
            rcases hanc with h | h
            · exact h
            · have h2 := ancB_listed hc _ i j oj hoj hall (h j hjun hke)
              rw [hnl] at h2; cases h2
          have hyw : ∀ w', YV P ops m oi v a w' := fun w' => by
            rcases hy with ⟨y1, y2, y3⟩ | y
            · exact .inl ⟨y1, y3 hp w', y3⟩
            · exact .inr y
          unfold stepV at h1 ⊢
          rw [execOp_put oj hsj a oi.dst v ha1] at h1
          split at h1
          · rename_i u w' hrun
            exact go _ _ ((hyw w').put hap hsi) (by rw [← Act.put_comm a v u ha2]; exact h1)
          · rename_i w' hrun
            exact go _ _ ((hyw w').put hap hsi) (by rw [← Act.put_comm a v undef ha2]; exact h1)
          · rename_i f args w' hrun
            exact h1.mono fun e w'' ⟨u, he, hk⟩ => ⟨u, he, go _ _ ((hyw w'').put hap hsi) (by rw [← Act.put_comm a v u ha2]; exact hk)⟩
          · exact h1.elim
        · rename_i hke
          simp only [hke, if_false] at h1
          obtain ⟨u, hu, hk⟩ := h1
          refine ⟨u, ?_, go _ _ (hy.put hap hsi) (by rw [← Act.put_comm a v u ha2]; exact hk)⟩
          unfold valAt at hu ⊢
          rwa [execOp_put oj hsj a oi.dst v ha1] at hu
      · rename_i hw
        simp only [hw, if_false] at h1
        exact go _ _ (hy.put hap hsi) (by rw [← Act.put_comm a v undef ha2]; exact h1)

/-! ### A walk in an order of one's own -/

def walkD (P : Program) (ops : Array Oper) (Q : Act → World → Prop) : List (Nat × Md) → Act → World → Prop
  | [], a, w => Q a w
  | (i, m) :: r, a, w => match ops[i]? with
    | none => False
    | some o => match m with
      | .e => Region.wanted o (yielded ops a.tmps) = true ∧ stepV P o a w (walkD P ops Q r)
      | m => ∃ v, YV P ops m o v a w ∧ walkD P ops Q r (a.put o.dst v) w

def freeB (ops : Array Oper) (listed : Array Bool) (i : Nat) : Bool :=
  match ops[i]? with
  | none => false
  | some oi => (List.range ops.size).all fun j => j == i || listed.getD j true || (match ops[j]? with
    | none => true
    | some oj => (oj.after.any fun e => Region.binds .any e && e.on == i) || oi.apart ops oj)

def kindOf : List (Nat × Md) → Nat → Md
  | [], _ => .e
  | (k, m) :: r, i => if k = i then m else kindOf r i

def sigmaB (ops : Array Oper) (kind : Nat → Md) : List (Nat × Md) → Array Bool → Bool
  | [], listed => (Region.ready .any ops listed).isEmpty
  | (i, m) :: r, listed => (Region.ready .any ops listed).contains i && (kind i == m) &&
    (match m with
      | .e => Region.ready .any ops listed == [i]
      | .p => freeB ops listed i
      | .r => freeB ops listed i && (List.range ops.size).all fun j => listed.getD j true || !(kind j == .e) || ancB ops ops.size i j) &&
    sigmaB ops kind r (listed.setIfInBounds i true)

def orderB (ops : Array Oper) (σ : List (Nat × Md)) : Bool := Region.noSelect ops && (σ.length == ops.size) && sigmaB ops (kindOf σ) σ (Array.replicate ops.size false)

theorem anyV_of_walk {kind : Nat → Md} {Q : Act → World → Prop} (hs : Region.noSelect ops = true) : ∀ (σ : List (Nat × Md)) (listed : Array Bool) (a : Act) (w : World), listed.size = ops.size → Closed ops listed → sigmaB ops kind σ listed = true → walkD P ops Q σ a w → anyV P ops kind Q σ.length listed a w
  | [], listed, a, w, _, _, hB, h => ⟨by simpa [sigmaB] using hB, h⟩
  | (i, m) :: r, listed, a, w, hsz, hc, hB, h => by
    simp only [sigmaB, Bool.and_eq_true] at hB
    obtain ⟨⟨⟨hr, hk⟩, hm⟩, hB'⟩ := hB
    have hr' : i ∈ Region.ready .any ops listed := by simpa using hr
    have hk' : kind i = m := by simpa using hk
    unfold walkD at h
    split at h
    · exact h.elim
    · rename_i o ho
      have quiet : m ≠ .e → freeB ops listed i = true → (m = .p ∨ ∀ j, listed.getD j true = false → kind j = .e → ancB ops ops.size i j = true) → (∃ v, YV P ops m o v a w ∧ walkD P ops Q r (a.put o.dst v) w) → anyV P ops kind Q ((i, m) :: r).length listed a w := by
        intro hne hf hanc ⟨v, hy, hw⟩
        refine anyV_first (m := m) ho (by rw [hk']; exact hne) (Region.noSelect_spec hs) r.length listed a w hc ?_ hanc hr' hy (anyV_of_walk hs r _ _ w (by simpa using hsz) (hc.set hr') hB' hw)
        intro j oj hj hji hun hno
        unfold freeB at hf
        simp only [ho] at hf
        have hjlt : j < ops.size := (Array.getElem?_eq_some_iff.1 hj).1
        have h1 := List.all_eq_true.1 hf j (List.mem_range.2 hjlt)
        simp only [Bool.or_eq_true, beq_iff_eq, hj] at h1
        rcases h1 with (h1 | h1) | (h1 | h1)
        · exact absurd h1 hji
        · rw [hun] at h1; cases h1
        · obtain ⟨e, he, hb⟩ := Array.any_eq_true'.1 h1
          simp only [Bool.and_eq_true, beq_iff_eq] at hb
          exact absurd hb.2 (hno e he hb.1)
        · exact h1
      cases m with
      | e =>
        simp only at h hm
        obtain ⟨hw, hst⟩ := h
        have hre : Region.ready .any ops listed = [i] := by simpa using hm
        refine ⟨fun h0 => (by rw [h0] at hre; cases hre), fun j hj => ?_⟩
        rw [hre] at hj
        have hji : j = i := by simpa using hj
        subst hji
        unfold opV
        simp only [ho, hw, if_true, hk']
        exact stepV_mono (fun a' w' h' => anyV_of_walk hs r _ a' w' (by simpa using hsz) (hc.set hr') hB' h') hst
      | p => exact quiet (by simp) hm (.inl rfl) h
      | r =>
        simp only [Bool.and_eq_true] at hm
        refine quiet (by simp) hm.1 (.inr fun j hun hke => ?_) h
        rcases Nat.lt_or_ge j ops.size with hlt | hge
        · have h1 := List.all_eq_true.1 hm.2 j (List.mem_range.2 hlt)
          simp only [Bool.or_eq_true, Bool.not_eq_true', beq_eq_false_iff_ne] at h1
          rcases h1 with (h1 | h1) | h1
          · rw [hun] at h1; cases h1
          · exact absurd hke h1
          · exact h1
        · rw [← hsz] at hge
          simp [Array.getElem?_eq_none hge] at hun

/-! ### The judgement -/
variable {Q : Exit → Act → World → Prop} {n : Nat} {l : Slots} {C : World → Prop} {o : Oper} {os : List Oper} {v : Value} {d i : Nat} {σ : List (Nat × Md)}

abbrev TD (P : Program) (ops : Array Oper) (Q : Exit → Act → World → Prop) (σ : List (Nat × Md)) (n : Nat) (l : Slots) (C : World → Prop) : Prop := TG (walkD P ops (Q .normal) σ) n l C

theorem tc_order {id : Nat} {x : Out} {S : List (List Chunk)} (σ : List (Nat × Md)) (hm : P.follows .mixedOrders = true) (hB : orderB os.toArray σ = true) (h : TD P os.toArray Q σ n l (St x S)) : TC P (.region id os.toArray true) Q n l (St x S) := by
  intro a w ha hw
  simp only [orderB, Bool.and_eq_true, beq_iff_eq] at hB
  obtain ⟨⟨h1, h2⟩, h3⟩ := hB
  refine wp_region_any hm (wpAny_of_anyV (kind := kindOf σ) (Q := Q .normal) (fun _ _ h => h) _ _ _ _ ?_)
  have hc : Closed os.toArray (Array.replicate os.toArray.size false) := fun j oj _ hl => by
    exfalso
    generalize os.toArray.size = m at hl
    rcases Nat.lt_or_ge j m with h | h
    · simp [h] at hl
    · simp [Nat.not_lt.2 h] at hl
  rw [← h2]
  exact anyV_of_walk h1 σ _ a _ (by rw [Array.size_replicate, h2]) (by rw [h2]; exact hc) (by rw [h2]; exact h3) (h a _ ha hw.drew)

theorem td_end (h : EX Q .normal n l C) : TD P ops Q [] n l C := h

/-- one that reckons alone -/
theorem td_p (ho : ops[i]? = some o) (hy : Y P n l (fun _ => True) o v) (hd : okw ops l o n = some (true, d)) (k : TD P ops Q σ n ((d, v) :: l) C) : TD P ops Q ((i, .p) :: σ) n l C := by
  intro a w ha hw
  obtain ⟨h1, h2, h3⟩ := okw_spec hd
  have hv : ∀ w', valAt P o a w' v := fun w' => .inl (hy a w' ha trivial)
  simp only [walkD, ho]
  exact ⟨v, .inl ⟨wanted_spec ha h1, hv w, fun _ => hv⟩, by rw [h2]; exact k _ w (ha.put h3 v) hw⟩
/-- one that reads -/
theorem td_r (ho : ops[i]? = some o) (hy : Y P n l C o v) (hd : okw ops l o n = some (true, d)) (k : TD P ops Q σ n ((d, v) :: l) C) : TD P ops Q ((i, .r) :: σ) n l C := by
  intro a w ha hw
  obtain ⟨h1, h2, h3⟩ := okw_spec hd
  simp only [walkD, ho]
  exact ⟨v, .inl ⟨wanted_spec ha h1, .inl (hy a w ha hw), fun h => by cases h⟩, by rw [h2]; exact k _ w (ha.put h3 v) hw⟩
/-- one that is not wanted -/
theorem td_off {m : Md} (hm : m = .p ∨ m = .r) (ho : ops[i]? = some o) (hd : okw ops l o n = some (false, d)) (k : TD P ops Q σ n ((d, undef) :: l) C) : TD P ops Q ((i, m) :: σ) n l C := by
  intro a w ha hw
  obtain ⟨h1, h2, h3⟩ := okw_spec hd
  have : ∃ v, YV P ops m o v a w ∧ walkD P ops (Q .normal) σ (a.put o.dst v) w := ⟨undef, .inr ⟨wanted_spec ha h1, rfl⟩, by rw [h2]; exact k _ w (ha.put h3 _) hw⟩
  rcases hm with rfl | rfl <;> (simp only [walkD, ho]; exact this)
/-- one that does something: by its rule -/
theorem step_td {Q : Act → World → Prop} (ho : ops[i]? = some o) : Step P ops o (walkD P ops Q σ) (walkD P ops Q ((i, .e) :: σ)) := by
  intro a w hw h
  simp only [walkD, ho]
  exact ⟨hw, h⟩
end
end Go.Proofs.Ytcmgpofcdjejnaa
