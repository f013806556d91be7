/-
  The base of the proofs: regions that draw their order, walked as a tree: what reckons or reads is taken as soon as it is ready; where several operations that do something are ready, each of them goes first in a branch of its own. What was read early is read again behind each operation that could come ahead of it. It claims nothing of any program.
-/
import Derived.Test.YtcmgpofcdjejnaaDraw
set_option linter.unusedVariables false
set_option linter.unusedSectionVars false
set_option linter.unusedSimpArgs false
namespace Go.Proofs.Ytcmgpofcdjejnaa
open Go

/-- the orders of a region -/
inductive Tr where
  | done
  | quiet (i : Nat) (m : Md) (t : Tr)
  | fork (i : Nat) (ks : List Nat) (t r : Tr)
  | stop

section
variable {P : Program} {ops : Array Oper}

def dstOf (ops : Array Oper) (i : Nat) : Option Nat := (ops[i]?).bind (·.dst)

/-- 'i' does not look at what 'k' yields, and they yield into different places -/
def noLook (ops : Array Oper) (i k : Nat) : Bool := match ops[i]?, dstOf ops k with
  | some oi, some d => !(oi.looksAt ops).contains d
  | _, none => true
  | _, _ => true
def dne (ops : Array Oper) (i k : Nat) : Bool := match dstOf ops i, dstOf ops k with
  | some d, some e => !Nat.beq d e
  | _, _ => true
def depB (ops : Array Oper) (j i : Nat) : Bool := match ops[j]? with
  | some oj => oj.after.any fun e => Region.binds .any e && e.on == i
  | none => false

/-- 'k' yields, in this frame and world, what lies in its place -/
def Keep (P : Program) (ops : Array Oper) (k : Nat) (a : Act) (w : World) : Prop :=
  ∃ o d, ops[k]? = some o ∧ o.dst = some d ∧ d < a.tmps.size ∧ YV P ops .r o (a.tmps.getD d undef) a w
/-- in every world -/
def KeepAll (P : Program) (ops : Array Oper) (k : Nat) (a : Act) : Prop :=
  ∃ o d, ops[k]? = some o ∧ o.dst = some d ∧ d < a.tmps.size ∧ ∀ w, YV P ops .r o (a.tmps.getD d undef) a w

def effV (P : Program) (ops : Array Oper) (o : Oper) (a : Act) (w : World) (K : Act → World → Prop) : Prop :=
  if Region.wanted o (yielded ops a.tmps) then stepV P o a w K else K (a.put o.dst undef) w

def walkT (P : Program) (ops : Array Oper) (Q : Act → World → Prop) : Tr → Act → World → Prop
  | .done, a, w => Q a w
  | .quiet i m t, a, w => match ops[i]? with
    | none => False
    | some o => (∃ d, o.dst = some d ∧ d < a.tmps.size) ∧ ∃ v, YV P ops m o v a w ∧ walkT P ops Q t (a.put o.dst v) w
  | .fork i ks t r, a, w => (match ops[i]? with
    | none => False
    | some o => effV P ops o a w fun a' w' => (∀ k ∈ ks, Keep P ops k a' w') ∧ walkT P ops Q t a' w') ∧ walkT P ops Q r a w
  | .stop, _, _ => True

/-! ### The check -/
def readyL (ops : Array Oper) (Lc : List Nat) (j : Nat) : Bool := match ops[j]? with
  | some oj => !Lc.contains j && oj.after.all fun e => !Region.binds .any e || Lc.contains e.on
  | none => false

def others (ops : Array Oper) (Lc : List Nat) (k : Nat) : List Nat := (List.range ops.size).filter fun j => !(Lc.contains j) && j != k

/-- the alternatives of a fork -/
def alts : Tr → List Nat
  | .fork i _ _ r => i :: alts r
  | _ => []

def chk (ops : Array Oper) (md : Nat → Md) : Tr → List Nat → List Nat → Bool
  | .done, Lc, _ => (List.range ops.size).all fun j => Lc.contains j
  | .quiet i m t, Lc, Qs => readyL ops Lc i && (md i == m && m != .e) && noLook ops i i &&
      (Qs.all fun q => (ancB ops ops.size q i || (noLook ops i q && noLook ops q i && dne ops q i)) &&
        (((depB ops i q || noLook ops i q) && noLook ops q i && dne ops q i) || (others ops Lc i).all fun j => ancB ops ops.size q j)) &&
      chk ops md t (i :: Lc) (i :: Qs)
  | .fork i ks t r, Lc, Qs => readyL ops Lc i &&
      (Qs.all fun q => ancB ops ops.size q i || (noLook ops i q && noLook ops q i && dne ops q i && (md q == .p || ks.contains q))) &&
      chk ops md t (i :: Lc) (Qs.filter fun q => !ancB ops ops.size q i) && ((List.range ops.size).all fun j => !readyL ops Lc j || j == i || (alts r).contains j) && chkR ops md r Lc Qs
  | .stop, _, _ => false
where chkR (ops : Array Oper) (md : Nat → Md) : Tr → List Nat → List Nat → Bool
  | .fork i ks t r, Lc, Qs => readyL ops Lc i &&
      (Qs.all fun q => ancB ops ops.size q i || (noLook ops i q && noLook ops q i && dne ops q i && (md q == .p || ks.contains q))) &&
      chk ops md t (i :: Lc) (Qs.filter fun q => !ancB ops ops.size q i) && chkR ops md r Lc Qs
  | .stop, _, _ => true
  | _, _, _ => false

/-! ### Frames that agree on what an operation looks at -/
def AgreeOn (ts : List Nat) (a b : Act) : Prop := ∀ t ∈ ts, a.tmps[t]? = b.tmps[t]?

theorem exec_agree {o : Oper} {a b : Act} (hs : ∀ cs c, o.op ≠ .select cs c) (h : AgreeOn (o.looksAt ops) a b) : execOp a.eval o = execOp b.eval o :=
  execOp_congr o hs fun x hx => by
    cases x with
    | tmp t =>
      have ht : t ∈ o.looksAt ops := List.mem_append_left _ (List.mem_filterMap.2 ⟨.tmp t, by simpa using hx, rfl⟩)
      simp only [Act.eval, Array.getD_eq_getD_getElem?, h t ht]
    | _ => rfl
theorem wanted_agree {o : Oper} {a b : Act} (h : AgreeOn (o.looksAt ops) a b) : Region.wanted o (yielded ops a.tmps) = Region.wanted o (yielded ops b.tmps) := by
  unfold Region.wanted
  cases hg : o.guard with
  | none => rfl
  | some gw =>
    obtain ⟨g, want⟩ := gw
    have hy : yielded ops a.tmps g = yielded ops b.tmps g := by
      unfold yielded
      cases ht : (ops[g]?).bind (·.dst) with
      | none => rfl
      | some t =>
        have : a.tmps[t]? = b.tmps[t]? := h t (by simp [Oper.looksAt, hg, ht])
        simp only [Option.bind_some, this]
    simp only [hy]
theorem YV.agree {o : Oper} {m : Md} {v : Value} {a b : Act} {w : World} (hs : ∀ cs c, o.op ≠ .select cs c) (h : AgreeOn (o.looksAt ops) a b) (hy : YV P ops m o v a w) : YV P ops m o v b w := by
  unfold YV valAt at *
  rw [← exec_agree hs h, ← wanted_agree h]; exact hy
theorem put_agree {o : Oper} {a : Act} {i k : Nat} {u : Value} {ok : Oper} (hi : ops[i]? = some o) (hk : ops[k]? = some ok) (h : noLook ops i k = true) : AgreeOn (o.looksAt ops) a (a.put ok.dst u) := by
  intro t ht
  unfold noLook at h
  have hd : dstOf ops k = ok.dst := by simp [dstOf, hk]
  rw [hi, hd] at h
  cases hx : ok.dst with
  | none => rfl
  | some d =>
    simp only [hx, Bool.not_eq_true', List.contains_eq_mem, decide_eq_false_iff_not] at h
    have hne : d ≠ t := fun e => h (e ▸ ht)
    simp [Act.put, Array.getElem?_setIfInBounds_ne hne]
theorem put_slot {a : Act} {i k d : Nat} {u : Value} {o ok : Oper} (hi : ops[i]? = some o) (hk : ops[k]? = some ok) (hd : o.dst = some d) (h : dne ops i k = true) : (a.put ok.dst u).tmps.getD d undef = a.tmps.getD d undef := by
  unfold dne at h
  have e1 : dstOf ops i = some d := by simp [dstOf, hi, hd]
  have e2 : dstOf ops k = ok.dst := by simp [dstOf, hk]
  rw [e1, e2] at h
  cases hx : ok.dst with
  | none => rfl
  | some e =>
    simp only [hx, Bool.not_eq_true'] at h
    have hne : e ≠ d := fun he => by subst he; simp at h
    simp [Act.put, Array.getD_eq_getD_getElem?, Array.getElem?_setIfInBounds_ne hne]
theorem put_size {a : Act} {x : Option Nat} {u : Value} : (a.put x u).tmps.size = a.tmps.size := by cases x <;> simp [Act.put]
theorem put_defers {a : Act} {x : Option Nat} {u : Value} : (a.put x u).defers = a.defers := by cases x <;> rfl

theorem Keep.put {i k : Nat} {ok : Oper} {a : Act} {w : World} {u : Value} (hs : Region.noSelect ops = true) (hk : ops[k]? = some ok) (h1 : noLook ops i k = true) (h2 : dne ops i k = true) (h : Keep P ops i a w) : Keep P ops i (a.put ok.dst u) w := by
  obtain ⟨o, d, ho, hd, hlt, hy⟩ := h
  refine ⟨o, d, ho, hd, by rw [put_size]; exact hlt, ?_⟩
  rw [put_slot ho hk hd h2]
  exact hy.agree (Region.noSelect_spec hs i o · · ho) (put_agree ho hk h1)
theorem KeepAll.put {i k : Nat} {ok : Oper} {a : Act} {u : Value} (hs : Region.noSelect ops = true) (hk : ops[k]? = some ok) (h1 : noLook ops i k = true) (h2 : dne ops i k = true) (h : KeepAll P ops i a) : KeepAll P ops i (a.put ok.dst u) := by
  obtain ⟨o, d, ho, hd, hlt, hy⟩ := h
  refine ⟨o, d, ho, hd, by rw [put_size]; exact hlt, fun w => ?_⟩
  rw [put_slot ho hk hd h2]
  exact (hy w).agree (Region.noSelect_spec hs i o · · ho) (put_agree ho hk h1)

/-! ### The simulation -/
def Ahead (ops : Array Oper) (Lr : Array Bool) : List Nat → Prop
  | [] => True
  | i :: B => (∀ o, ops[i]? = some o → ∀ e ∈ o.after, Region.binds .any e = true → Lr.getD e.on false = true ∨ e.on ∈ B) ∧ Ahead ops Lr B

structure Rel (P : Program) (ops : Array Oper) (md : Nat → Md) (Lr : Array Bool) (Lc Pd : List Nat) (ar ac : Act) (w : World) : Prop where
  size : Lr.size = ops.size
  closed : Closed ops Lr
  listed : ∀ j, j < ops.size → (Lr.getD j false = true ↔ j ∈ Lc ∧ j ∉ Pd)
  bound : ∀ i ∈ Lc, i < ops.size
  sub : ∀ i ∈ Pd, i ∈ Lc ∧ i < ops.size
  nodup : Pd.Nodup
  defers : ac.defers = ar.defers
  tsize : ac.tmps.size = ar.tmps.size
  agree : ∀ t, (∀ i ∈ Pd, dstOf ops i ≠ some t) → ac.tmps[t]? = ar.tmps[t]?
  good : ∀ i ∈ Pd, noLook ops i i = true ∧ (if md i = .p then KeepAll P ops i ac else Keep P ops i ac w)
  pair : ∀ i ∈ Pd, ∀ k ∈ Pd, i ≠ k → (depB ops i k = true ∨ noLook ops i k = true) ∧ dne ops i k = true
  order : Ahead ops Lr Pd

theorem getD_tf {Lr : Array Bool} {j : Nat} (h : j < Lr.size) : Lr.getD j true = Lr.getD j false := by simp [h]

theorem ahead_mono {Lr : Array Bool} {j : Nat} : ∀ {Pd : List Nat}, Ahead ops Lr Pd → Ahead ops (Lr.setIfInBounds j true) Pd
  | [], h => h
  | i :: B, h => ⟨fun o ho e he hb => (h.1 o ho e he hb).imp getD_set_true id, ahead_mono h.2⟩
theorem set_self_true {Lr : Array Bool} {j : Nat} (h : j < Lr.size) : (Lr.setIfInBounds j true).getD j false = true := by simp [h]
theorem ahead_erase {Lr : Array Bool} {j : Nat} (hj : j < Lr.size) : ∀ {Pd : List Nat}, Ahead ops Lr Pd → Ahead ops (Lr.setIfInBounds j true) (Pd.erase j)
  | [], h => h
  | i :: B, h => by
    by_cases hij : i = j
    · subst hij; rw [List.erase_cons_head]; exact ahead_mono h.2
    · rw [List.erase_cons_tail (by simpa using hij)]
      refine ⟨fun o ho e he hb => ?_, ahead_erase hj h.2⟩
      rcases h.1 o ho e he hb with h1 | h1
      · exact .inl (getD_set_true h1)
      · by_cases hej : e.on = j
        · rw [hej]; exact .inl (set_self_true hj)
        · exact .inr ((List.mem_erase_of_ne hej).2 h1)
theorem ahead_ready {Lr : Array Bool} : ∀ {Pd : List Nat}, Ahead ops Lr Pd → Pd ≠ [] → ∃ i ∈ Pd, ∀ o, ops[i]? = some o → ∀ e ∈ o.after, Region.binds .any e = true → Lr.getD e.on false = true
  | [], _, h => absurd rfl h
  | i :: B, h, _ => by
    by_cases hB : B = []
    · subst hB
      exact ⟨i, by simp, fun o ho e he hb => (h.1 o ho e he hb).resolve_right (by simp)⟩
    · obtain ⟨k, hk, h2⟩ := ahead_ready h.2 hB
      exact ⟨k, by simp [hk], h2⟩

theorem dep_of {j q : Nat} (h : depB ops j q = true) : ∃ oj, ops[j]? = some oj ∧ ∃ e ∈ oj.after, Region.binds .any e = true ∧ e.on = q := by
  unfold depB at h
  split at h
  · rename_i oj hj
    obtain ⟨e, he, hb⟩ := Array.any_eq_true'.1 h
    simp only [Bool.and_eq_true, beq_iff_eq] at hb
    exact ⟨oj, hj, e, he, hb.1, hb.2⟩
  · cases h

theorem noLook_spec {i k d : Nat} {o : Oper} (ho : ops[i]? = some o) (hd : dstOf ops k = some d) (h : noLook ops i k = true) : d ∉ o.looksAt ops := by
  unfold noLook at h
  rw [ho, hd] at h
  simpa using h
theorem dne_spec {i k d : Nat} (hd : dstOf ops i = some d) (h : dne ops i k = true) : dstOf ops k ≠ some d := by
  unfold dne at h
  rw [hd] at h
  intro e
  rw [e] at h
  simp at h

section
variable {md : Nat → Md} {Lr : Array Bool} {Lc Pd : List Nat} {ar ac : Act} {w : World}

/-- a pending one is carried out -/
theorem Rel.run {j : Nat} {o : Oper} (hs : Region.noSelect ops = true) (R : Rel P ops md Lr Lc Pd ar ac w) (hj : j ∈ Pd) (hr : j ∈ Region.ready .any ops Lr) (ho : ops[j]? = some o) :
    ∃ v, YV P ops .r o v ar w ∧ Rel P ops md (Lr.setIfInBounds j true) Lc (Pd.erase j) (ar.put o.dst v) ac w := by
  obtain ⟨hjun, o', ho', hall⟩ := mem_ready.1 hr
  obtain rfl : o' = o := Option.some.inj (ho'.symm.trans ho)
  have hjl : j < ops.size := (R.sub j hj).2
  have hjs : j < Lr.size := by rw [R.size]; exact hjl
  obtain ⟨hself, hg⟩ := R.good j hj
  have hK : Keep P ops j ac w := by
    split at hg
    · obtain ⟨o2, d, h1, h2, h3, h4⟩ := hg; exact ⟨o2, d, h1, h2, h3, h4 w⟩
    · exact hg
  obtain ⟨o2, d, h1, hd, hlt, hy⟩ := hK
  obtain rfl : o2 = o' := Option.some.inj (h1.symm.trans ho)
  have hdj : dstOf ops j = some d := by simp [dstOf, ho, hd]
  have hag : AgreeOn (o2.looksAt ops) ac ar := by
    intro t ht
    refine R.agree t fun k hk hdk => ?_
    by_cases hkj : k = j
    · subst hkj; exact noLook_spec ho hdk hself ht
    · rcases (R.pair j hj k hk (Ne.symm hkj)).1 with hdep | hnl
      · obtain ⟨oj, hoj, e, he, hb, hon⟩ := dep_of hdep
        obtain rfl : oj = o2 := Option.some.inj (hoj.symm.trans ho)
        have := hall e he hb
        rw [hon] at this
        exact ((R.listed k (R.sub k hk).2).1 this).2 hk
      · exact noLook_spec ho hdk hnl ht
  refine ⟨ac.tmps.getD d undef, hy.agree (Region.noSelect_spec hs j o2 · · ho) hag, ?_⟩
  have hmem : ∀ k, k ∈ Pd.erase j → k ∈ Pd ∧ k ≠ j := fun k hk => by
    have := (R.nodup.mem_erase_iff).1 hk
    exact ⟨this.2, this.1⟩
  refine ⟨by simpa using R.size, R.closed.set hr, fun k hk => ?_, R.bound, fun k hk => R.sub k (hmem k hk).1, R.nodup.erase _, by rw [put_defers]; exact R.defers, by rw [put_size]; exact R.tsize, fun t ht => ?_, fun k hk => R.good k (hmem k hk).1, fun a ha b hb => R.pair a (hmem a ha).1 b (hmem b hb).1, ahead_erase hjs R.order⟩
  · by_cases hkj : j = k
    · subst hkj
      refine ⟨fun _ => ⟨(R.sub j hj).1, fun h => (hmem j h).2 rfl⟩, fun _ => set_self_true hjs⟩
    · rw [getD_set_ne false hkj, R.listed k hk]
      exact and_congr_right fun _ => not_congr ((R.nodup.mem_erase_iff).trans (and_iff_right (Ne.symm hkj))).symm
  · by_cases htd : t = d
    · subst htd
      have hsz : t < ar.tmps.size := by rw [← R.tsize]; exact hlt
      rw [hd]
      simp [Act.put, hsz, hlt]
    · rw [hd, show (ar.put (some d) (ac.tmps.getD d undef)).tmps[t]? = ar.tmps[t]? from by simp [Act.put, Array.getElem?_setIfInBounds_ne (Ne.symm htd)]]
      refine R.agree t fun k hk hdk => ?_
      by_cases hkj : k = j
      · subst hkj; rw [hdj] at hdk; exact htd (Option.some.inj hdk).symm
      · exact ht k ((R.nodup.mem_erase_iff).2 ⟨hkj, hk⟩) hdk

/-- a quiet one is taken ahead -/
theorem Rel.early {i : Nat} {o : Oper} {m : Md} {v : Value} (hs : Region.noSelect ops = true) (R : Rel P ops md Lr Lc Pd ar ac w) (ho : ops[i]? = some o) (hrl : readyL ops Lc i = true) (hself : noLook ops i i = true) (hm : md i = m)
    (hd : ∃ d, o.dst = some d ∧ d < ac.tmps.size) (hp : ∀ q ∈ Pd, (depB ops i q = true ∨ noLook ops i q = true) ∧ noLook ops q i = true ∧ dne ops q i = true) (hy : YV P ops m o v ac w) :
    Rel P ops md Lr (i :: Lc) (i :: Pd) ar (ac.put o.dst v) w := by
  have hil : i < ops.size := (Array.getElem?_eq_some_iff.1 ho).1
  unfold readyL at hrl
  rw [ho] at hrl
  simp only [Bool.and_eq_true, Bool.not_eq_true', List.contains_eq_mem, decide_eq_false_iff_not] at hrl
  obtain ⟨hni, hall⟩ := hrl
  have hiP : i ∉ Pd := fun h => hni (R.sub i h).1
  have hiR : Lr.getD i false = false := by
    cases h : Lr.getD i false with
    | false => rfl
    | true => exact absurd ((R.listed i hil).1 h).1 hni
  obtain ⟨d, hd1, hd2⟩ := hd
  have hslot : (ac.put o.dst v).tmps.getD d undef = v := by rw [hd1]; simp [Act.put, hd2]
  have hag := put_agree (a := ac) (u := v) ho ho hself
  refine ⟨R.size, R.closed, fun k hk => ?_, fun k hk => (by rcases List.mem_cons.1 hk with rfl | h; exact hil; exact R.bound k h), fun k hk => ?_, List.nodup_cons.2 ⟨hiP, R.nodup⟩, by rw [put_defers]; exact R.defers, by rw [put_size]; exact R.tsize, fun t ht => ?_, fun k hk => ?_, fun a ha b hb hab => ?_, ⟨fun o' ho' e he hb => ?_, R.order⟩⟩
  · rw [R.listed k hk]
    by_cases hki : k = i
    · subst hki; simp [hni]
    · simp [hki]
  · rcases List.mem_cons.1 hk with rfl | hk
    · exact ⟨by simp, hil⟩
    · exact ⟨List.mem_cons_of_mem _ (R.sub k hk).1, (R.sub k hk).2⟩
  · have h1 := ht i (by simp)
    have hne : d ≠ t := fun e => h1 (by simp [dstOf, ho, hd1, e])
    rw [hd1, show (ac.put (some d) v).tmps[t]? = ac.tmps[t]? from by simp [Act.put, Array.getElem?_setIfInBounds_ne hne]]
    exact R.agree t fun k hk => ht k (List.mem_cons_of_mem _ hk)
  · rcases List.mem_cons.1 hk with rfl | hk
    · refine ⟨hself, ?_⟩
      have hyr : YV P ops .r o v (ac.put o.dst v) w := by
        refine YV.agree (Region.noSelect_spec hs k o · · ho) hag ?_
        rcases hy with ⟨h1, h2, _⟩ | h1
        · exact .inl ⟨h1, h2, fun h => by cases h⟩
        · exact .inr h1
      split
      · rename_i hmp
        refine ⟨o, d, ho, hd1, by rw [put_size]; exact hd2, fun w' => ?_⟩
        rw [hslot]
        refine YV.agree (Region.noSelect_spec hs k o · · ho) hag ?_
        rcases hy with ⟨h1, _, h3⟩ | h1
        · exact .inl ⟨h1, h3 (hm.symm.trans hmp) w', fun h => by cases h⟩
        · exact .inr h1
      · exact ⟨o, d, ho, hd1, by rw [put_size]; exact hd2, by rw [hslot]; exact hyr⟩
    · obtain ⟨h1, h2⟩ := R.good k hk
      obtain ⟨_, h3, h4⟩ := hp k hk
      refine ⟨h1, ?_⟩
      split at h2
      · rename_i hmp; rw [if_pos hmp]; exact h2.put hs ho h3 h4
      · rename_i hmp; rw [if_neg hmp]; exact h2.put hs ho h3 h4
  · have sym : ∀ q, dne ops q i = true → dne ops i q = true := by
      intro q h
      unfold dne at h ⊢
      cases h1 : dstOf ops i <;> cases h2 : dstOf ops q <;> rw [h1, h2] at h <;> try rfl
      rename_i x y
      have hxy : ¬ y = x := fun e => by subst e; simp at h
      have : Nat.beq x y = false := by
        cases hb : Nat.beq x y with
        | false => rfl
        | true => exact absurd (Nat.eq_of_beq_eq_true hb).symm hxy
      simp [this]
    rcases List.mem_cons.1 ha with rfl | ha' <;> rcases List.mem_cons.1 hb with rfl | hb'
    · exact absurd rfl hab
    · exact ⟨(hp b hb').1, sym _ (hp b hb').2.2⟩
    · exact ⟨.inr (hp a ha').2.1, (hp a ha').2.2⟩
    · exact R.pair a ha' b hb' hab
  · obtain rfl : o' = o := Option.some.inj (ho'.symm.trans ho)
    have h1 := Array.all_eq_true_iff_forall_mem.1 hall e he
    simp only [hb, Bool.not_true, Bool.false_or, decide_eq_true_eq] at h1
    by_cases heP : e.on ∈ Pd
    · exact .inr heP
    · left
      exact (R.listed e.on (R.bound _ h1)).2 ⟨h1, heP⟩

/-- one that was not pending is carried out, in both -/
theorem Rel.both {j : Nat} {o : Oper} {u : Value} {w' : World} (hs : Region.noSelect ops = true) (R : Rel P ops md Lr Lc Pd ar ac w) (ho : ops[j]? = some o) (hjc : j ∉ Lc) (hr : j ∈ Region.ready .any ops Lr)
    (hp : ∀ q ∈ Pd, noLook ops q j = true ∧ dne ops q j = true) (hg : ∀ q ∈ Pd, (if md q = .p then KeepAll P ops q (ac.put o.dst u) else Keep P ops q (ac.put o.dst u) w')) :
    Rel P ops md (Lr.setIfInBounds j true) (j :: Lc) Pd (ar.put o.dst u) (ac.put o.dst u) w' := by
  have hjl : j < ops.size := (Array.getElem?_eq_some_iff.1 ho).1
  have hjs : j < Lr.size := by rw [R.size]; exact hjl
  have hjP : j ∉ Pd := fun h => hjc (R.sub j h).1
  refine ⟨by simpa using R.size, R.closed.set hr, fun k hk => ?_, fun k hk => (by rcases List.mem_cons.1 hk with rfl | h; exact hjl; exact R.bound k h), fun k hk => ⟨List.mem_cons_of_mem _ (R.sub k hk).1, (R.sub k hk).2⟩, R.nodup, by rw [put_defers, put_defers]; exact R.defers, by rw [put_size, put_size]; exact R.tsize, fun t ht => ?_, fun k hk => ⟨(R.good k hk).1, hg k hk⟩, R.pair, ahead_mono R.order⟩
  · by_cases hkj : j = k
    · subst hkj
      exact ⟨fun _ => ⟨by simp, hjP⟩, fun _ => set_self_true hjs⟩
    · rw [getD_set_ne false hkj, R.listed k hk]
      simp [Ne.symm hkj]
  · have hA := R.agree t ht
    cases hx : o.dst with
    | none => exact hA
    | some d =>
      by_cases hdt : d = t
      · subst hdt
        simp only [Act.put]
        rw [Array.getElem?_setIfInBounds_self, Array.getElem?_setIfInBounds_self, R.tsize]
      · simp only [Act.put]
        rw [Array.getElem?_setIfInBounds_ne hdt, Array.getElem?_setIfInBounds_ne hdt]; exact hA

/-- what is ready looks at nothing that is pending -/
theorem Rel.look {j : Nat} {o : Oper} (R : Rel P ops md Lr Lc Pd ar ac w) (ho : ops[j]? = some o) (h : ∀ q ∈ Pd, noLook ops j q = true) : AgreeOn (o.looksAt ops) ac ar := fun t ht =>
  R.agree t fun k hk hdk => noLook_spec ho hdk (h k hk) ht
/-- an ancestor of what is ready is not pending -/
theorem Rel.anc {j q : Nat} (R : Rel P ops md Lr Lc Pd ar ac w) (hr : j ∈ Region.ready .any ops Lr) (hq : q ∈ Pd) : ancB ops ops.size q j = false := by
  cases h : ancB ops ops.size q j with
  | false => rfl
  | true =>
    obtain ⟨_, o, ho, hall⟩ := mem_ready.1 hr
    have := ancB_listed R.closed ops.size q j o ho hall h
    exact absurd hq ((R.listed q (R.sub q hq).2).1 this).2

theorem Rel.readyL {j : Nat} (R : Rel P ops md Lr Lc Pd ar ac w) (hr : j ∈ Region.ready .any ops Lr) (hj : j ∉ Pd) : Ytcmgpofcdjejnaa.readyL ops Lc j = true := by
  obtain ⟨hjun, o, ho, hall⟩ := mem_ready.1 hr
  have hjl : j < ops.size := (Array.getElem?_eq_some_iff.1 ho).1
  have hjs : j < Lr.size := by rw [R.size]; exact hjl
  rw [getD_tf hjs] at hjun
  have hjc : j ∉ Lc := fun h => by rw [(R.listed j hjl).2 ⟨h, hj⟩] at hjun; cases hjun
  unfold Ytcmgpofcdjejnaa.readyL
  rw [ho]
  simp only [Bool.and_eq_true, Bool.not_eq_true', List.contains_eq_mem, decide_eq_false_iff_not]
  refine ⟨hjc, Array.all_eq_true_iff_forall_mem.2 fun e he => ?_⟩
  cases hb : Region.binds .any e with
  | false => simp
  | true =>
    have h1 := hall e he hb
    have hlt : e.on < Lr.size := by
      rcases Nat.lt_or_ge e.on Lr.size with h' | h'
      · exact h'
      · simp [Array.getElem?_eq_none h'] at h1
    rw [R.size] at hlt
    simp [((R.listed e.on hlt).1 h1).1]

/-- with nothing pending the two are one -/
theorem Rel.same (R : Rel P ops md Lr Lc [] ar ac w) : ac = ar := by
  obtain ⟨t1, d1⟩ := ac
  obtain ⟨t2, d2⟩ := ar
  have h1 : t1 = t2 := by
    apply Array.ext_getElem?
    intro t
    exact R.agree t (by simp)
  have h2 : d1 = d2 := R.defers
  subst h1; subst h2; rfl
theorem Rel.ready_of {j : Nat} (R : Rel P ops md Lr Lc [] ar ac w) (h : Ytcmgpofcdjejnaa.readyL ops Lc j = true) : j ∈ Region.ready .any ops Lr := by
  unfold Ytcmgpofcdjejnaa.readyL at h
  split at h
  · rename_i oj hj
    simp only [Bool.and_eq_true, Bool.not_eq_true', List.contains_eq_mem, decide_eq_false_iff_not] at h
    have hjl : j < ops.size := (Array.getElem?_eq_some_iff.1 hj).1
    have hjs : j < Lr.size := by rw [R.size]; exact hjl
    refine mem_ready.2 ⟨?_, oj, hj, fun e he hb => ?_⟩
    · rw [getD_tf hjs]
      cases hx : Lr.getD j false with
      | false => rfl
      | true => exact absurd ((R.listed j hjl).1 hx).1 h.1
    · have h1 := Array.all_eq_true_iff_forall_mem.1 h.2 e he
      simp only [hb, Bool.not_true, Bool.false_or, decide_eq_true_eq] at h1
      exact (R.listed e.on (R.bound _ h1)).2 ⟨h1, by simp⟩
  · cases h
end

/-! ### The main law -/
def brs : Tr → List (Nat × List Nat × Tr)
  | .fork i ks t r => (i, ks, t) :: brs r
  | _ => []
def qOk (ops : Array Oper) (md : Nat → Md) (ks Qs : List Nat) (i : Nat) : Bool := Qs.all fun q => ancB ops ops.size q i || (noLook ops i q && noLook ops q i && dne ops q i && (md q == .p || ks.contains q))
theorem chkR_spec {md : Nat → Md} {Lc Qs : List Nat} : ∀ {r : Tr}, chk.chkR ops md r Lc Qs = true → ∀ b ∈ brs r, readyL ops Lc b.1 = true ∧ qOk ops md b.2.1 Qs b.1 = true ∧ chk ops md b.2.2 (b.1 :: Lc) (Qs.filter fun q => !ancB ops ops.size q b.1) = true
  | .fork i ks t r, h => by
    simp only [chk.chkR, Bool.and_eq_true] at h
    intro b hb
    rcases List.mem_cons.1 hb with rfl | hb
    · exact ⟨h.1.1.1, h.1.1.2, h.1.2⟩
    · exact chkR_spec h.2 b hb
  | .stop, _ => by simp [brs]
  | .done, _ => by simp [brs]
  | .quiet _ _ _, _ => by simp [brs]
theorem alts_brs : ∀ (r : Tr), alts r = (brs r).map (·.1)
  | .fork i ks t r => by simp [alts, brs, alts_brs r]
  | .stop => rfl
  | .done => rfl
  | .quiet _ _ _ => rfl
theorem walk_brs {Q : Act → World → Prop} {a : Act} {w : World} : ∀ {t : Tr}, walkT P ops Q t a w → ∀ b ∈ brs t, ∀ o, ops[b.1]? = some o → effV P ops o a w fun a' w' => (∀ k ∈ b.2.1, Keep P ops k a' w') ∧ walkT P ops Q b.2.2 a' w'
  | .fork i ks t r, h => by
    intro b hb o ho
    rcases List.mem_cons.1 hb with rfl | hb
    · have := h.1; simp only [ho] at this; exact this
    · exact walk_brs h.2 b hb o ho
  | .stop, _ => by simp [brs]
  | .done, _ => by simp [brs]
  | .quiet _ _ _, _ => by simp [brs]

theorem effV_both {o : Oper} {ar ac : Act} {w : World} {K K' : Act → World → Prop} (hs : ∀ cs c, o.op ≠ .select cs c) (hag : AgreeOn (o.looksAt ops) ac ar) (hK : ∀ u w', K (ac.put o.dst u) w' → K' (ar.put o.dst u) w') (h : effV P ops o ac w K) : effV P ops o ar w K' := by
  unfold effV at *
  rw [wanted_agree hag] at h
  split
  · rename_i hw
    rw [if_pos hw] at h
    unfold stepV at *
    rw [exec_agree hs hag] at h
    split at h
    · exact hK _ _ h
    · exact hK _ _ h
    · exact h.mono fun e w'' ⟨v, he, hk⟩ => ⟨v, he, hK _ _ hk⟩
    · exact h.elim
  · rename_i hw
    rw [if_neg hw] at h
    exact hK _ _ h
theorem wpOp_of_effV {i : Nat} {o : Oper} {a : Act} {w : World} {K : Act → World → Prop} {Q : Exit → Act → World → Prop} (ho : ops[i]? = some o) (h : effV P ops o a w K) : wpOp P ops Q i K a w := by
  unfold effV at h
  unfold wpOp
  simp only [ho]
  split
  · rename_i hw; rw [if_pos hw] at h; exact .inl (wp_of_stepV h)
  · rename_i hw; rw [if_neg hw] at h; exact h
theorem effV_of_YV {o : Oper} {m : Md} {v : Value} {a : Act} {w : World} {K : Act → World → Prop} (hy : YV P ops m o v a w) (h : K (a.put o.dst v) w) : effV P ops o a w K := by
  unfold effV
  rcases hy with ⟨h1, h2, _⟩ | ⟨h1, rfl⟩
  · rw [if_pos h1]
    unfold stepV
    rcases h2 with h2 | ⟨h2, rfl⟩ <;> rw [h2] <;> exact h
  · rw [if_neg (by rw [h1]; exact Bool.false_ne_true)]; exact h

def unl (Lr : Array Bool) : Nat := ((List.range Lr.size).filter fun j => !Lr.getD j false).length
theorem unl_set {Lr : Array Bool} {j : Nat} (hj : j < Lr.size) (h : Lr.getD j false = false) : unl (Lr.setIfInBounds j true) < unl Lr := by
  unfold unl
  rw [Array.size_setIfInBounds]
  have hm : j ∈ (List.range Lr.size).filter fun j => !Lr.getD j false := List.mem_filter.2 ⟨List.mem_range.2 hj, by simp [h]⟩
  have e : ((List.range Lr.size).filter fun k => !(Lr.setIfInBounds j true).getD k false) = ((List.range Lr.size).filter fun k => !Lr.getD k false).filter fun k => k != j := by
    rw [List.filter_filter]
    apply List.filter_congr
    intro k hk
    by_cases hkj : j = k
    · subst hkj; simp [hj]
    · rw [getD_set_ne false hkj]; simp [Ne.symm hkj]
  rw [e]
  refine Nat.lt_of_le_of_ne (List.length_filter_le _ _) fun he => ?_
  have := (List.length_filter_eq_length_iff).1 he j hm
  simp at this

variable {md : Nat → Md} {Q : Exit → Act → World → Prop}

theorem sim_end {t : Tr} {Lr : Array Bool} {Lc Qs Pd : List Nat} {ar ac : Act} {w : World} (R : Rel P ops md Lr Lc Pd ar ac w) (hc : chk ops md t Lc Qs = true) (hw : walkT P ops (Q .normal) t ac w) (h0 : Region.ready .any ops Lr = []) : Q .normal ar w := by
  have hPd : Pd = [] := by
    by_cases h : Pd = []
    · exact h
    · exfalso
      obtain ⟨i, hi, hall⟩ := ahead_ready R.order h
      have hil := (R.sub i hi).2
      have hjs : i < Lr.size := by rw [R.size]; exact hil
      have : i ∈ Region.ready .any ops Lr := by
        refine mem_ready.2 ⟨?_, ops[i], by simp [hil], hall _ (by simp [hil])⟩
        rw [getD_tf hjs]
        cases hx : Lr.getD i false with
        | false => rfl
        | true => exact absurd hi ((R.listed i hil).1 hx).2
      rw [h0] at this; cases this
  subst hPd
  have no : ∀ i, readyL ops Lc i = true → False := fun i h => by
    have := R.ready_of h
    rw [h0] at this; cases this
  cases t with
  | done => rw [← R.same]; exact hw
  | quiet i m t =>
    simp only [chk, Bool.and_eq_true] at hc
    exact (no i hc.1.1.1.1).elim
  | fork i ks t r =>
    simp only [chk, Bool.and_eq_true] at hc
    exact (no i hc.1.1.1.1).elim
  | stop => cases hc

theorem sim (hs : Region.noSelect ops = true) : ∀ (fuel : Nat) (t : Tr) (Lr : Array Bool) (Lc Qs Pd : List Nat) (ar ac : Act) (w : World), Rel P ops md Lr Lc Pd ar ac w → (∀ q ∈ Pd, q ∈ Qs) → chk ops md t Lc Qs = true → unl Lr ≤ fuel → walkT P ops (Q .normal) t ac w → wpAny P .any ops Q fuel Lr ar w := by
  intro fuel
  induction fuel with
  | zero =>
    intro t Lr Lc Qs Pd ar ac w R hQ hc hf hw
    have h0 : Region.ready .any ops Lr = [] := by
      cases h : Region.ready .any ops Lr with
      | nil => rfl
      | cons i r =>
        exfalso
        have hi : i ∈ Region.ready .any ops Lr := by rw [h]; simp
        obtain ⟨h1, o, ho, _⟩ := mem_ready.1 hi
        have hil : i < Lr.size := by rw [R.size]; exact (Array.getElem?_eq_some_iff.1 ho).1
        rw [getD_tf hil] at h1
        have := unl_set hil h1
        omega
    exact ⟨h0, sim_end R hc hw h0⟩
  | succ fuel ih =>
    intro t Lr Lc Qs Pd ar ac w R hQ hc hf hw
    refine ⟨sim_end R hc hw, fun j hj => ?_⟩
    obtain ⟨hjun, o, ho, hall⟩ := mem_ready.1 hj
    have hjl : j < ops.size := (Array.getElem?_eq_some_iff.1 ho).1
    have hjs : j < Lr.size := by rw [R.size]; exact hjl
    rw [getD_tf hjs] at hjun
    have hf' : unl (Lr.setIfInBounds j true) ≤ fuel := by have := unl_set hjs hjun; omega
    have hsel : ∀ cs c, o.op ≠ .select cs c := fun cs c => Region.noSelect_spec hs j o cs c ho
    by_cases hjP : j ∈ Pd
    · obtain ⟨v, hy, R'⟩ := R.run hs hjP hj ho
      refine wpOp_of_effV ho (effV_of_YV hy ?_)
      exact ih t _ Lc Qs _ _ ac w R' (fun q hq => hQ q (List.mem_of_mem_erase hq)) hc hf' hw
    · induction t generalizing Lc Qs Pd ac with
      | done =>
        exfalso
        simp only [chk] at hc
        have := List.all_eq_true.1 hc j (List.mem_range.2 hjl)
        simp only [List.contains_eq_mem, decide_eq_true_eq] at this
        rw [(R.listed j hjl).2 ⟨this, hjP⟩] at hjun; cases hjun
      | stop => cases hc
      | quiet i m t iht =>
        simp only [chk, Bool.and_eq_true] at hc
        obtain ⟨⟨⟨⟨hrl, hm, hme⟩, hself⟩, hq⟩, hc'⟩ := hc
        have hq := List.all_eq_true.1 hq
        unfold walkT at hw
        split at hw
        · exact hw.elim
        · rename_i oi hoi
          obtain ⟨hd, v, hy, hw'⟩ := hw
          by_cases hij : i = j
          · subst hij
            obtain rfl : oi = o := Option.some.inj (hoi.symm.trans ho)
            have hqq : ∀ q ∈ Pd, noLook ops i q = true ∧ noLook ops q i = true ∧ dne ops q i = true := fun q hqP => by
              have h1 := hq q (hQ q hqP)
              rw [R.anc hj hqP] at h1
              simp only [Bool.false_or, Bool.and_eq_true] at h1
              exact ⟨h1.1.1.1, h1.1.1.2, h1.1.2⟩
            have hag := R.look ho fun q hqP => (hqq q hqP).1
            refine wpOp_of_effV ho (effV_of_YV (hy.agree hsel hag) ?_)
            have hjc : i ∉ Lc := fun h => by rw [(R.listed i hjl).2 ⟨h, hjP⟩] at hjun; cases hjun
            refine ih t _ (i :: Lc) (i :: Qs) Pd _ (ac.put oi.dst v) w (R.both hs ho hjc hj (fun q hqP => (hqq q hqP).2) fun q hqP => ?_) (fun q hqP => List.mem_cons_of_mem _ (hQ q hqP)) hc' hf' hw'
            have h2 := (R.good q hqP).2
            split at h2
            · rename_i hmp; rw [if_pos hmp]; exact h2.put hs ho (hqq q hqP).2.1 (hqq q hqP).2.2
            · rename_i hmp; rw [if_neg hmp]; exact h2.put hs ho (hqq q hqP).2.1 (hqq q hqP).2.2
          · refine iht (i :: Lc) (i :: Qs) (i :: Pd) (ac.put oi.dst v) (R.early hs hoi hrl hself (by simpa using hm) hd (fun q hqP => ?_) hy) (fun q hqP => ?_) hc' hw' (fun h => ?_)
            · have h1 := hq q (hQ q hqP)
              simp only [Bool.and_eq_true, Bool.or_eq_true] at h1
              rcases h1.2 with h2 | h2
              · exact ⟨h2.1.1, h2.1.2, h2.2⟩
              · exfalso
                have hjo : j ∈ others ops Lc i := List.mem_filter.2 ⟨List.mem_range.2 hjl, by
                  have hjc : j ∉ Lc := fun h => by rw [(R.listed j hjl).2 ⟨h, hjP⟩] at hjun; cases hjun
                  simp [hjc, Ne.symm hij]⟩
                have h3 := List.all_eq_true.1 h2 j hjo
                rw [R.anc hj hqP] at h3; cases h3
            · rcases List.mem_cons.1 hqP with rfl | hqP
              · simp
              · exact List.mem_cons_of_mem _ (hQ q hqP)
            · rcases List.mem_cons.1 h with rfl | h
              · exact hij rfl
              · exact hjP h
      | fork i ks t r iht ihr =>
        have hrj := R.readyL hj hjP
        have hbr : ∀ b ∈ brs (.fork i ks t r), readyL ops Lc b.1 = true ∧ qOk ops md b.2.1 Qs b.1 = true ∧ chk ops md b.2.2 (b.1 :: Lc) (Qs.filter fun q => !ancB ops ops.size q b.1) = true := by
          simp only [chk, Bool.and_eq_true] at hc
          intro b hb
          rcases List.mem_cons.1 hb with rfl | hb
          · exact ⟨hc.1.1.1.1, hc.1.1.1.2, hc.1.1.2⟩
          · exact chkR_spec hc.2 b hb
        have hex : ∃ b ∈ brs (.fork i ks t r), b.1 = j := by
          simp only [chk, Bool.and_eq_true] at hc
          have := List.all_eq_true.1 hc.1.2 j (List.mem_range.2 hjl)
          rw [hrj] at this
          simp only [Bool.not_true, Bool.false_or, Bool.or_eq_true, beq_iff_eq, List.contains_eq_mem, decide_eq_true_eq] at this
          rcases this with h | h
          · exact ⟨(i, ks, t), by simp [brs], h.symm⟩
          · rw [alts_brs] at h
            obtain ⟨b, hb, hb1⟩ := List.mem_map.1 h
            exact ⟨b, by simp [brs, hb], hb1⟩
        obtain ⟨b, hb, hb1⟩ := hex
        obtain ⟨h1, h2, h3⟩ := hbr b hb
        have h4 := walk_brs hw b hb o (by rw [hb1]; exact ho)
        rw [hb1] at h2 h3
        have hjc : j ∉ Lc := fun h => by rw [(R.listed j hjl).2 ⟨h, hjP⟩] at hjun; cases hjun
        have hqq : ∀ q ∈ Pd, (noLook ops j q = true ∧ noLook ops q j = true ∧ dne ops q j = true) ∧ (md q = .p ∨ q ∈ b.2.1) := fun q hqP => by
          have h5 := List.all_eq_true.1 h2 q (hQ q hqP)
          rw [R.anc hj hqP] at h5
          simp only [Bool.false_or, Bool.and_eq_true, Bool.or_eq_true, beq_iff_eq, List.contains_eq_mem, decide_eq_true_eq] at h5
          exact ⟨⟨h5.1.1.1, h5.1.1.2, h5.1.2⟩, h5.2⟩
        have hag := R.look ho fun q hqP => (hqq q hqP).1.1
        refine wpOp_of_effV ho (effV_both hsel hag (fun u w' hk => ?_) h4)
        refine ih b.2.2 _ (j :: Lc) _ Pd _ (ac.put o.dst u) w' (R.both hs ho hjc hj (fun q hqP => (hqq q hqP).1.2) fun q hqP => ?_) (fun q hqP => List.mem_filter.2 ⟨hQ q hqP, by rw [R.anc hj hqP]; rfl⟩) h3 hf' hk.2
        have h6 := (R.good q hqP).2
        split
        · rename_i hmp; rw [if_pos hmp] at h6; exact h6.put hs ho (hqq q hqP).1.2.1 (hqq q hqP).1.2.2
        · rename_i hmp
          exact hk.1 q ((hqq q hqP).2.resolve_left hmp)

/-! ### The judgement -/
section
variable {n : Nat} {l : Slots} {C : World → Prop} {o : Oper} {os : List Oper} {v : Value} {d i : Nat} {t r : Tr} {ks : List Nat}

abbrev TT (P : Program) (ops : Array Oper) (Q : Exit → Act → World → Prop) (t : Tr) (n : Nat) (l : Slots) (C : World → Prop) : Prop := TG (walkT P ops (Q .normal) t) n l C

theorem tc_tree {id : Nat} {x : Out} {S : List (List Chunk)} (σ : List (Nat × Md)) (t : Tr) (hm : P.follows .mixedOrders = true) (hB : (Region.noSelect os.toArray && chk os.toArray (kindOf σ) t [] []) = true) (h : TT P os.toArray Q t n l (St x S)) : TC P (.region id os.toArray true) Q n l (St x S) := by
  intro a w ha hw
  simp only [Bool.and_eq_true] at hB
  refine wp_region_any hm (sim (md := kindOf σ) hB.1 _ t _ [] [] [] a a _ ⟨by simp, fun j oj _ hl => ?_, fun j hj => ?_, by simp, by simp, List.nodup_nil, rfl, rfl, fun _ _ => rfl, by simp, by simp, trivial⟩ (by simp) hB.2 ?_ (h a _ ha hw.drew))
  · exfalso
    generalize os.toArray.size = m at hl
    rcases Nat.lt_or_ge j m with h | h
    · simp [h] at hl
    · simp [Nat.not_lt.2 h] at hl
  · simp only [List.not_mem_nil, not_false_eq_true, and_true, iff_false]
    generalize os.toArray.size = m
    rcases Nat.lt_or_ge j m with h | h
    · simp [h]
    · simp [Nat.not_lt.2 h]
  · unfold unl
    refine Nat.le_trans (List.length_filter_le _ _) ?_
    simp

theorem tt_end (h : EX Q .normal n l C) : TT P ops Q .done n l C := h

theorem dst_in {a : Act} (ha : Ag n l a) (h2 : o.dst = some d) (h3 : Nat.blt d n = true) : ∃ d, o.dst = some d ∧ d < a.tmps.size := ⟨d, h2, by rw [ha.size]; simpa [Nat.blt_eq] using h3⟩
/-- one that reckons alone -/
theorem tt_p (ho : ops[i]? = some o) (hy : Y P n l (fun _ => True) o v) (hd : okw ops l o n = some (true, d)) (k : TT P ops Q t n ((d, v) :: l) C) : TT P ops Q (.quiet i .p t) n l C := by
  intro a w ha hw
  obtain ⟨h1, h2, h3⟩ := okw_spec hd
  have hv : ∀ w', valAt P o a w' v := fun w' => .inl (hy a w' ha trivial)
  simp only [walkT, ho]
  exact ⟨dst_in ha h2 h3, v, .inl ⟨wanted_spec ha h1, hv w, fun _ => hv⟩, by rw [h2]; exact k _ w (ha.put h3 v) hw⟩
/-- one that reads -/
theorem tt_r (ho : ops[i]? = some o) (hy : Y P n l C o v) (hd : okw ops l o n = some (true, d)) (k : TT P ops Q t n ((d, v) :: l) C) : TT P ops Q (.quiet i .r t) n l C := by
  intro a w ha hw
  obtain ⟨h1, h2, h3⟩ := okw_spec hd
  simp only [walkT, ho]
  exact ⟨dst_in ha h2 h3, v, .inl ⟨wanted_spec ha h1, .inl (hy a w ha hw), fun h => by cases h⟩, by rw [h2]; exact k _ w (ha.put h3 v) hw⟩
/-- one that is not wanted -/
theorem tt_off {m : Md} (ho : ops[i]? = some o) (hd : okw ops l o n = some (false, d)) (k : TT P ops Q t n ((d, undef) :: l) C) : TT P ops Q (.quiet i m t) n l C := by
  intro a w ha hw
  obtain ⟨h1, h2, h3⟩ := okw_spec hd
  simp only [walkT, ho]
  exact ⟨dst_in ha h2 h3, undef, .inr ⟨wanted_spec ha h1, rfl⟩, by rw [h2]; exact k _ w (ha.put h3 _) hw⟩

/-- what stands behind an operation that does something: what was read early is read again -/
def kept (P : Program) (ops : Array Oper) (ks : List Nat) (K : Act → World → Prop) (a : Act) (w : World) : Prop := (∀ k ∈ ks, Keep P ops k a w) ∧ K a w
theorem kept_nil {K : Act → World → Prop} (h : TG K n l C) : TG (kept P ops [] K) n l C := fun a w ha hw => ⟨by simp, h a w ha hw⟩
theorem kept_on {K : Act → World → Prop} {k : Nat} (ho : ops[k]? = some o) (hd : okw ops l o n = some (true, d)) (hv : lk l d = some v) (hy : Y P n l C o v) (h : TG (kept P ops ks K) n l C) : TG (kept P ops (k :: ks) K) n l C := by
  intro a w ha hw
  obtain ⟨h1, h2, h3⟩ := okw_spec hd
  obtain ⟨h4, h5⟩ := h a w ha hw
  refine ⟨fun q hq => ?_, h5⟩
  rcases List.mem_cons.1 hq with rfl | hq
  · obtain ⟨d', h6, h7⟩ := dst_in ha h2 h3
    obtain rfl : d' = d := Option.some.inj (h6.symm.trans h2)
    exact ⟨o, d', ho, h2, h7, .inl ⟨wanted_spec ha h1, .inl (by rw [ha.get d' v hv]; exact hy a w ha hw), fun h => by cases h⟩⟩
  · exact h4 q hq
theorem kept_off {K : Act → World → Prop} {k : Nat} (ho : ops[k]? = some o) (hd : okw ops l o n = some (false, d)) (hv : lk l d = some undef) (h : TG (kept P ops ks K) n l C) : TG (kept P ops (k :: ks) K) n l C := by
  intro a w ha hw
  obtain ⟨h1, h2, h3⟩ := okw_spec hd
  obtain ⟨h4, h5⟩ := h a w ha hw
  refine ⟨fun q hq => ?_, h5⟩
  rcases List.mem_cons.1 hq with rfl | hq
  · obtain ⟨d', h6, h7⟩ := dst_in ha h2 h3
    obtain rfl : d' = d := Option.some.inj (h6.symm.trans h2)
    exact ⟨o, d', ho, h2, h7, .inr ⟨wanted_spec ha h1, ha.get d' undef hv⟩⟩
  · exact h4 q hq

/-- the last of the alternatives, by its own rule -/
theorem step_tt {Q : Act → World → Prop} (ho : ops[i]? = some o) : Step P ops o (kept P ops ks (walkT P ops Q t)) (walkT P ops Q (.fork i ks t .stop)) := by
  intro a w hw h
  simp only [walkT, ho, and_true]
  unfold effV
  rw [if_pos hw]; exact h
/-- several alternatives -/
theorem tt_alt (h : TT P ops Q (.fork i ks t .stop) n l C) (h' : TT P ops Q r n l C) : TT P ops Q (.fork i ks t r) n l C := by
  intro a w ha hw
  have h1 := h a w ha hw
  simp only [walkT, and_true] at h1 ⊢
  exact ⟨h1, h' a w ha hw⟩
/-- one that would do something and is not wanted -/
theorem tt_not (ho : ops[i]? = some o) (hd : okw ops l o n = some (false, d)) (k : TG (kept P ops ks (walkT P ops (Q .normal) t)) n ((d, undef) :: l) C) : TT P ops Q (.fork i ks t .stop) n l C := by
  intro a w ha hw
  obtain ⟨h1, h2, h3⟩ := okw_spec hd
  simp only [walkT, ho, and_true]
  unfold effV
  rw [if_neg (by rw [wanted_spec ha h1]; exact Bool.false_ne_true), h2]
  exact k _ w (ha.put h3 undef) hw
/-- one that does something, has no place of its own, and is not wanted -/
theorem tt_not0 (ho : ops[i]? = some o) (hd : wanted ops l o = some false) (h0 : o.dst = none) (k : TG (kept P ops ks (walkT P ops (Q .normal) t)) n l C) : TT P ops Q (.fork i ks t .stop) n l C := by
  intro a w ha hw
  simp only [walkT, ho, and_true]
  unfold effV
  rw [if_neg (by rw [wanted_spec ha hd]; exact Bool.false_ne_true), h0]
  exact k _ w ha hw

/-- the ways of a piece of code brought together -/
def JoinQ (n : Nat) (Mid : Slots → (World → Prop) → Prop) (e : Exit) (a : Act) (w : World) : Prop := e = .normal ∧ ∃ l' C', Mid l' C' ∧ Ag n l' a ∧ C' w
theorem tc_join {c : Code} (Mid : Slots → (World → Prop) → Prop) (h : TC P c (JoinQ n Mid) n l C) (k : ∀ l' C', Mid l' C' → EX Q .normal n l' C') : TC P c Q n l C := by
  intro a w ha hw
  refine wp_mono (h a w ha hw) ?_
  rintro e a' w' ⟨rfl, l', C', h1, h2, h3⟩
  exact k l' C' h1 a' w' h2 h3
theorem ex_join {Mid : Slots → (World → Prop) → Prop} {l' : Slots} {C' : World → Prop} (hI : Mid l' C') (hl : SubL l l') (hC : ∀ w, C w → C' w) : EX (JoinQ n Mid) .normal n l C :=
  fun _ w ha hw => ⟨rfl, l', C', hI, ha.sub hl, hC w hw⟩
end
end
end Go.Proofs.Ytcmgpofcdjejnaa
