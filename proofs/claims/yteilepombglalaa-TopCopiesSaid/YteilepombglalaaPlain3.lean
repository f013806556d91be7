/-
  Copies in registers: how many there are, which registers they touch. Plain mathematics.
-/
import Derived.Test.YteilepombglalaaPlain2
set_option linter.unusedVariables false
namespace Go.Proofs.Yteilepombglalaa
open Go

/-- where a register's value comes from -/
def tgt (ps : List (Int × Int)) (q : Int) : Int := ((ps.find? fun p => decide (p.1 = q)).map (·.2)).getD q

theorem tgt_snoc {ps : List (Int × Int)} {d s q : Int} (h : ∀ p ∈ ps, p.1 ≠ d) : tgt (ps ++ [(d, s)]) q = if q = d then s else tgt ps q := by
  unfold tgt
  rw [List.find?_append]
  by_cases hq : q = d
  · subst hq
    have : ps.find? (fun p => decide (p.1 = q)) = none := List.find?_eq_none.2 (fun p hp => by simpa using h p hp)
    simp [this]
  · have : ¬ d = q := fun e => hq e.symm
    simp [hq, this]
theorem tgt_mem {ps : List (Int × Int)} {p : Int × Int} (hn : (ps.map (·.1)).Nodup) (hp : p ∈ ps) : tgt ps p.1 = p.2 := by
  unfold tgt
  cases hf : ps.find? (fun r => decide (r.1 = p.1)) with
  | none => exact (List.find?_eq_none.1 hf p hp (by simp)).elim
  | some r =>
    have h1 := List.mem_of_find?_eq_some hf
    have h2 := List.find?_some hf
    simp only [decide_eq_true_eq] at h2
    obtain ⟨i, hi⟩ := List.getElem?_of_mem h1
    obtain ⟨j, hj⟩ := List.getElem?_of_mem hp
    have h3 : (ps.map (·.1))[i]? = some r.1 := by rw [List.getElem?_map, hi]; rfl
    have h4 : (ps.map (·.1))[j]? = some p.1 := by rw [List.getElem?_map, hj]; rfl
    have h5 := (List.getElem?_inj (List.getElem?_eq_some_iff.1 h3).1 hn).1 (h3.trans ((congrArg some h2).trans h4.symm))
    subst h5
    rw [hi] at hj
    simp [Option.some.inj hj]
theorem tgt_none {ps : List (Int × Int)} {q : Int} (h : ∀ p ∈ ps, p.1 ≠ q) : tgt ps q = q := by
  unfold tgt
  have : ps.find? (fun p => decide (p.1 = q)) = none := List.find?_eq_none.2 (fun p hp => by simpa using h p hp)
  simp [this]

theorem runs_frame {ok : Int → Prop} {post : (Int → Option Int) → Prop} : ∀ (l : List (Int × Int)) (g : Int → Option Int), (∀ q, ¬ ok q → g q = some q) → Runs ok post l g → Runs ok (fun g => post g ∧ ∀ q, ¬ ok q → g q = some q) l g
  | [], g, hg, h => ⟨h, hg⟩
  | p :: r, g, hg, h => by
    obtain ⟨v, h1, h2, h3⟩ := h
    exact ⟨v, h1, h2, runs_frame r _ (fun q hq => by unfold upd; rw [if_neg (fun e => hq (by rw [e]; exact h2))]; exact hg q hq) h3⟩

theorem sq_mem {t : Int} : ∀ (f : Nat) (l : List (Int × Int)) (p : Int × Int), p ∈ sq f l t → (p.1 = t ∨ ∃ q ∈ l, q.1 = p.1) ∧ (p.2 = t ∨ ∃ q ∈ l, q.1 = p.2 ∨ q.2 = p.2)
  | 0, _, _, h => by simp [sq] at h
  | f + 1, l, p, h => by
    by_cases hl : l = []
    · subst hl; simp [sq] at h
    · have hlen : 0 < l.length := List.length_pos_iff.2 hl
      cases hf : freeIx l with
      | some i =>
        rw [sq_free (by omega) hl hf] at h
        have hi := freeIx_lt hf
        rcases List.mem_cons.1 h with rfl | h
        · have := mem_gt (xs := l) (q := (i : Int)) (by omega)
          exact ⟨.inr ⟨_, this, rfl⟩, .inr ⟨_, this, .inr rfl⟩⟩
        · obtain ⟨h1, h2⟩ := sq_mem f _ p h
          exact ⟨h1.imp id fun ⟨q, hq, e⟩ => ⟨q, List.mem_of_mem_eraseIdx hq, e⟩, h2.imp id fun ⟨q, hq, e⟩ => ⟨q, List.mem_of_mem_eraseIdx hq, e⟩⟩
      | none =>
        rw [sq_none (by omega) hl hf] at h
        rcases List.mem_cons.1 h with rfl | h
        · exact ⟨.inl rfl, .inr ⟨_, mem_gt (xs := l) (q := 0) (by omega), .inl rfl⟩⟩
        · obtain ⟨h1, h2⟩ := sq_mem f _ p h
          have hfs : ∀ q : Int × Int, (if q.2 = (gt l 0).1 then (q.1, t) else q).1 = q.1 := fun q => by split <;> rfl
          refine ⟨?_, ?_⟩
          · rcases h1 with h1 | ⟨q, hq, e⟩
            · exact .inl h1
            · obtain ⟨q', hq', rfl⟩ := List.mem_map.1 hq
              exact .inr ⟨q', hq', by rw [← e, hfs]⟩
          · rcases h2 with h2 | ⟨q, hq, e⟩
            · exact .inl h2
            · obtain ⟨q', hq', rfl⟩ := List.mem_map.1 hq
              rcases e with e | e
              · exact .inr ⟨q', hq', .inl (by rw [← e, hfs])⟩
              · by_cases hc : q'.2 = (gt l 0).1
                · rw [if_pos hc] at e; exact .inl e.symm
                · rw [if_neg hc] at e; exact .inr ⟨q', hq', .inr e⟩

theorem filter_split {α : Type} (p : α → Bool) : ∀ (l : List α), l.length = (l.filter p).length + (l.filter fun a => !p a).length
  | [] => rfl
  | a :: l => by
    have := filter_split p l
    cases h : p a <;> simp [h] <;> omega
/-- how often something is saved -/
def saves : Nat → List (Int × Int) → Int → Nat
  | 0, _, _ => 0
  | f + 1, l, t => if l = [] then 0 else match freeIx l with
    | some i => saves f (l.eraseIdx i) t
    | none => saves f (remap t (gt l 0).1 l) t + 1

theorem sq_count {t : Int} : ∀ (f : Nat) (l : List (Int × Int)), (∀ q ∈ l, q.1 ≠ t) → mz l ≤ f → (sq f l t).length = l.length + saves f l t
  | 0, l, ht, h => by
    have : l = [] := by
      by_cases hl : l = []
      · exact hl
      · have := mz_pos hl h; omega
    subst this; simp [sq, saves]
  | f + 1, l, ht, h => by
    by_cases hl : l = []
    · subst hl; simp [sq, saves]
    · cases hf : freeIx l with
      | some i =>
        have hi := freeIx_lt hf
        rw [sq_free (by omega) hl hf, List.length_cons, Nat.add_sub_cancel, sq_count f _ (fun q hq => ht q (List.mem_of_mem_eraseIdx hq)) (mz_free hf h), List.length_eraseIdx_of_lt hi]
        simp only [saves, if_neg hl, hf]
        omega
      | none =>
        rw [sq_none (by omega) hl hf, List.length_cons, Nat.add_sub_cancel, sq_count f _ (remap_fst ht) (mz_none hl ht hf h), remap_length]
        simp only [saves, if_neg hl, hf]
        omega

/-- it must be gone before anything is saved again -/
def Doomed (t : Int) (l : List (Int × Int)) (p : Int × Int) : Prop := p.2 = t ∨ Free l p
instance (t : Int) (l : List (Int × Int)) (p : Int × Int) : Decidable (Doomed t l p) := by unfold Doomed; infer_instance
def alive (t : Int) (l : List (Int × Int)) : List (Int × Int) := l.filter fun p => !decide (Doomed t l p)

theorem alive_erase {t : Int} {l : List (Int × Int)} {i : Nat} : (alive t (l.eraseIdx i)).length ≤ (alive t l).length := by
  unfold alive
  have h1 : ((l.eraseIdx i).filter fun p => !decide (Doomed t (l.eraseIdx i) p)).length ≤ ((l.eraseIdx i).filter fun p => !decide (Doomed t l p)).length := by
    rw [← List.countP_eq_length_filter, ← List.countP_eq_length_filter]
    refine List.countP_mono_left fun p hp h => ?_
    simp only [Bool.not_eq_true', decide_eq_false_iff_not] at h ⊢
    exact fun hd => h (hd.imp id fun hf q hq => hf q (List.mem_of_mem_eraseIdx hq))
  exact Nat.le_trans h1 ((List.eraseIdx_sublist l i).filter _).length_le

theorem alive_none {t : Int} {l : List (Int × Int)} (hl : l ≠ []) (hn : (l.map (·.1)).Nodup) (ht : ∀ q ∈ l, q.1 ≠ t) (hd : ∀ q ∈ l, q.2 ≠ q.1) (hf : freeIx l = none) : (alive t (remap t (gt l 0).1 l)).length + 2 ≤ (alive t l).length := by
  have hall := none_reads hn hf
  have hlen : 0 < l.length := List.length_pos_iff.2 hl
  have h0 : gt l 0 ∈ l := mem_gt (by omega)
  have hnf : ∀ p ∈ l, ¬ Free l p := by
    unfold freeIx at hf
    rw [List.findIdx?_eq_none_iff] at hf
    exact fun p hp => of_decide_eq_false (hf p hp)
  have hal : alive t l = l := List.filter_eq_self.2 fun p hp => by
    simp only [Bool.not_eq_true', decide_eq_false_iff_not]
    rintro (h | h)
    · obtain ⟨r, hr, e⟩ := List.mem_map.1 (hall p hp)
      exact ht r hr (e.trans h)
    · exact hnf p hp h
  have hrd : ∃ q ∈ l, q.2 = (gt l 0).1 := by
    apply Classical.byContradiction
    intro hno
    exact hnf _ h0 fun q hq e => hno ⟨q, hq, e⟩
  obtain ⟨q0, hq0, e0⟩ := hrd
  have hfs : ∀ q : Int × Int, (if q.2 = (gt l 0).1 then (q.1, t) else q).1 = q.1 := fun q => by split <;> rfl
  rw [hal]
  unfold alive
  -- two of them are doomed
  generalize hR : remap t (gt l 0).1 l = R
  have hRl : R.length = l.length := by rw [← hR, remap_length]
  have hsplit := filter_split (fun p => decide (Doomed t R p)) R
  have m1 : (if (gt l 0).2 = (gt l 0).1 then ((gt l 0).1, t) else gt l 0) ∈ R := by rw [← hR]; exact List.mem_map_of_mem h0
  have m2 : (q0.1, t) ∈ R := by
    have := List.mem_map_of_mem (f := fun q : Int × Int => if q.2 = (gt l 0).1 then (q.1, t) else q) hq0
    rw [← hR]; simp only [e0, if_true] at this; exact this
  rw [if_neg (hd _ h0)] at m1
  have d1 : Doomed t R (gt l 0) := .inr fun q hq e => by
    rw [← hR] at hq
    obtain ⟨q', hq', rfl⟩ := List.mem_map.1 hq
    by_cases hc : q'.2 = (gt l 0).1
    · rw [if_pos hc] at e; exact ht _ h0 e.symm
    · rw [if_neg hc] at e; exact hc e
  have d2 : Doomed t R (q0.1, t) := .inl rfl
  have hne : gt l 0 ≠ (q0.1, t) := fun e => by
    have h1 : (gt l 0).1 = q0.1 := (congrArg Prod.fst e : (gt l 0).1 = ((q0.1, t) : Int × Int).1)
    exact hd q0 hq0 (e0.trans h1)
  have hsub : ∀ p, p ∈ [gt l 0, (q0.1, t)] → p ∈ R.filter (fun p => decide (Doomed t R p)) := by
    intro p hp
    simp only [List.mem_cons, List.not_mem_nil, or_false] at hp
    rcases hp with rfl | rfl
    · exact List.mem_filter.2 ⟨m1, decide_eq_true d1⟩
    · exact List.mem_filter.2 ⟨m2, decide_eq_true d2⟩
  obtain ⟨r, hr⟩ := subperm_of_nodup [gt l 0, (q0.1, t)] _ (by simp [hne]) hsub
  have := hr.length_eq
  simp only [List.length_append, List.length_cons, List.length_nil] at this
  omega

theorem saves_le {t : Int} : ∀ (f : Nat) (l : List (Int × Int)), (l.map (·.1)).Nodup → (∀ q ∈ l, q.1 ≠ t) → (∀ q ∈ l, q.2 ≠ q.1) → 2 * saves f l t ≤ (alive t l).length
  | 0, l, _, _, _ => by simp [saves]
  | f + 1, l, hn, ht, hd => by
    by_cases hl : l = []
    · subst hl; simp [saves]
    · cases hf : freeIx l with
      | some i =>
        simp only [saves, if_neg hl, hf]
        have := saves_le f (l.eraseIdx i) (hn.sublist ((List.eraseIdx_sublist _ _).map _)) (fun q hq => ht q (List.mem_of_mem_eraseIdx hq)) (fun q hq => hd q (List.mem_of_mem_eraseIdx hq))
        exact Nat.le_trans this alive_erase
      | none =>
        simp only [saves, if_neg hl, hf]
        have hfst : (remap t (gt l 0).1 l).map (·.1) = l.map (·.1) := by
          unfold remap
          rw [List.map_map]
          apply List.map_congr_left
          intro q _
          simp only [Function.comp_apply]
          split <;> rfl
        have := saves_le f (remap t (gt l 0).1 l) (by rw [hfst]; exact hn) (remap_fst ht) (fun q hq => by
          obtain ⟨q', hq', rfl⟩ := List.mem_map.1 hq
          split
          · exact fun e => ht q' hq' e.symm
          · exact hd q' hq')
        have h2 := alive_none hl hn ht hd hf
        omega

theorem seqz_count {ds ss : List Int} {t : Int} (hl : ds.length = ss.length) (hn : ds.Nodup) (htd : t ∉ ds) (hts : t ∉ ss) :
    ((ds.zip ss).filter fun p => decide (p.2 ≠ p.1)).length ≤ (seqz ds ss t).length ∧ (seqz ds ss t).length ≤ ((ds.zip ss).filter fun p => decide (p.2 ≠ p.1)).length + ((ds.zip ss).filter fun p => decide (p.2 ≠ p.1)).length / 2 := by
  rw [seqz_pos ⟨hl, hn, htd, hts⟩]
  have hfl : ((ds.zip ss).filter fun p => decide (p.2 ≠ p.1)).length ≤ ds.length := by
    refine Nat.le_trans (List.length_filter_le _ _) ?_
    rw [List.length_zip]; omega
  have ht : ∀ q ∈ (ds.zip ss).filter (fun p => decide (p.2 ≠ p.1)), q.1 ≠ t := fun q hq e => htd (e ▸ (List.of_mem_zip (List.mem_filter.1 hq).1).1)
  have hd : ∀ q ∈ (ds.zip ss).filter (fun p => decide (p.2 ≠ p.1)), q.2 ≠ q.1 := fun q hq => by simpa using (List.mem_filter.1 hq).2
  have hnd : (((ds.zip ss).filter fun p => decide (p.2 ≠ p.1)).map (·.1)).Nodup := by
    have h1 := (List.filter_sublist (p := fun p : Int × Int => decide (p.2 ≠ p.1)) (l := ds.zip ss)).map (·.1)
    rw [List.map_fst_zip (by omega)] at h1
    exact hn.sublist h1
  have h1 := sq_count (t := t) (2 * ds.length + 1) _ ht (Nat.le_trans mz_le (by omega))
  have h2 := saves_le (t := t) (2 * ds.length + 1) _ hnd ht hd
  have h3 : (alive t ((ds.zip ss).filter fun p => decide (p.2 ≠ p.1))).length ≤ ((ds.zip ss).filter fun p => decide (p.2 ≠ p.1)).length := List.length_filter_le _ _
  omega

/-! ### In registers -/
structure Fits (ds ss : List Int) : Prop where
  len : ds.length = ss.length
  nodup : ds.Nodup
  dok : ∀ d ∈ ds, 0 ≤ d ∧ d < 10
  sok : ∀ s ∈ ss, 0 ≤ s ∧ s < 10

theorem Fits.snoc {ds ss : List Int} {d s : Int} (F : Fits ds ss) (hd : d ∉ ds) (h1 : 0 ≤ d ∧ d < 10) (h2 : 0 ≤ s ∧ s < 10) : Fits (ds ++ [d]) (ss ++ [s]) :=
  ⟨by simp [F.len], nodup_snoc F.nodup hd, mem_snoc F.dok h1, mem_snoc F.sok h2⟩
theorem Fits.ten {ds ss : List Int} (F : Fits ds ss) : (10 : Int) ∉ ds ∧ (10 : Int) ∉ ss := ⟨fun h => by have := F.dok _ h; omega, fun h => by have := F.sok _ h; omega⟩
theorem Fits.fst {ds ss : List Int} (F : Fits ds ss) : (ds.zip ss).map (·.1) = ds := List.map_fst_zip (by have := F.len; omega)

theorem twice {ds : List Int} {d : Int} (h : (ds ++ [d]).Nodup) (hd : d ∈ ds) : False := by
  rw [List.nodup_append] at h
  exact h.2.2 d hd d (by simp) rfl
/-- where a register may be written -/
def Ok (ds : List Int) (d : Int) : Prop := d = 10 ∨ d ∈ ds

theorem fits_runs {ds ss : List Int} (F : Fits ds ss) : Runs (Ok ds) (fun g => (∀ p ∈ ds.zip ss, g p.1 = some p.2) ∧ ∀ q, ¬ Ok ds q → g q = some q) (seqz ds ss 10) (fun q => some q) :=
  runs_frame _ _ (fun _ _ => rfl) (runs_seqz F.len F.nodup F.ten.1 F.ten.2 (.inl rfl) (fun d hd => .inr hd) (fun _ _ => rfl))

theorem fits_el {ds ss : List Int} (F : Fits ds ss) {zs : List Mv} (hm : zs.map Mv.p = seqz ds ss 10) {k : Int} (hk : 0 ≤ k ∧ k < zs.length) : (0 ≤ (gt zs k).d ∧ (gt zs k).d ≤ 10) ∧ (0 ≤ (gt zs k).s ∧ (gt zs k).s ≤ 10) := by
  have h1 : (gt zs k).p ∈ seqz ds ss 10 := by rw [← hm]; exact List.mem_map_of_mem (mem_gt hk)
  rw [seqz_pos ⟨F.len, F.nodup, F.ten.1, F.ten.2⟩] at h1
  obtain ⟨h2, h3⟩ := sq_mem _ _ _ h1
  have hz : ∀ q ∈ (ds.zip ss).filter (fun p => decide (p.2 ≠ p.1)), (0 ≤ q.1 ∧ q.1 < 10) ∧ (0 ≤ q.2 ∧ q.2 < 10) := fun q hq => by
    have := List.of_mem_zip (List.mem_filter.1 hq).1
    exact ⟨F.dok _ this.1, F.sok _ this.2⟩
  constructor
  · rcases h2 with h2 | ⟨q, hq, e⟩
    · have : (gt zs k).d = 10 := h2; omega
    · have h4 := hz q hq; have : q.1 = (gt zs k).d := e; omega
  · rcases h3 with h3 | ⟨q, hq, e | e⟩
    · have : (gt zs k).s = 10 := h3; omega
    · have h4 := hz q hq; have : q.1 = (gt zs k).s := e; omega
    · have h4 := hz q hq; have : q.2 = (gt zs k).s := e; omega

theorem regs_same {ds ss nw wn : List Int} {g : Int → Option Int} (F : Fits ds ss) (h1 : nw.length = 12) (h2 : wn.length = 12) (hn : ∀ q : Int, 0 ≤ q ∧ q < 12 → gt nw q = 100 + (g q).getD 0) (hw : ∀ q : Int, 0 ≤ q ∧ q < 12 → gt wn q = 100 + tgt (ds.zip ss) q)
    (hp : (∀ p ∈ ds.zip ss, g p.1 = some p.2) ∧ ∀ q, ¬ Ok ds q → g q = some q) : st nw 10 0 = st wn 10 0 := by
  refine eq_of_gt (by rw [st_length, st_length, h1, h2]) fun q hq => ?_
  rw [st_length, h1] at hq
  rw [gt_st (by omega) hq.1, gt_st (by omega) hq.1]
  by_cases h10 : q = 10
  · rw [if_pos h10, if_pos h10]
  · rw [if_neg h10, if_neg h10, hn q (by omega), hw q (by omega)]
    by_cases hd : q ∈ ds
    · have : q ∈ (ds.zip ss).map (·.1) := by rw [F.fst]; exact hd
      obtain ⟨p, hpm, rfl⟩ := List.mem_map.1 this
      rw [hp.1 p hpm, tgt_mem (by rw [F.fst]; exact F.nodup) hpm]; rfl
    · rw [hp.2 q (fun h => h.elim h10 hd), tgt_none (q := q) (fun p hpm e => hd (by rw [← e]; exact (List.of_mem_zip hpm).1))]; rfl

theorem take_zip {ds ss : List Int} {k : Int} (hk : 0 ≤ k ∧ k < ds.length ∧ k < ss.length) : (ds.zip ss).take (k + 1).toNat = (ds.zip ss).take k.toNat ++ [(gt ds k, gt ss k)] := by
  rw [take_gt (by rw [List.length_zip]; omega), gt_zip hk]
theorem not_before {ds ss : List Int} (F : Fits ds ss) {k : Int} (hk : 0 ≤ k ∧ k < ds.length) : ∀ p ∈ (ds.zip ss).take k.toNat, p.1 ≠ gt ds k := by
  intro p hp e
  have h1 : p.1 ∈ ((ds.zip ss).take k.toNat).map (·.1) := List.mem_map_of_mem hp
  rw [List.map_take, F.fst, e] at h1
  exact nodup_gt F.nodup hk h1
theorem take_all_zip {ds ss : List Int} (F : Fits ds ss) {k : Int} (hk : ds.length ≤ k) : (ds.zip ss).take k.toNat = ds.zip ss := take_self (by rw [List.length_zip]; have := F.len; omega)
end Go.Proofs.Yteilepombglalaa
