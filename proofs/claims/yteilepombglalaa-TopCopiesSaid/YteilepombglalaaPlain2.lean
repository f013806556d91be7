/-
  Copies done one behind the other: what lies in the registers behind them. Plain mathematics.
-/
import Derived.Test.YteilepombglalaaPlain
import Derived.Test.YteilepombglalaaMaps
set_option linter.unusedVariables false
namespace Go.Proofs.Yteilepombglalaa
open Go

/-- each copy reads what is there, writes where it may, and behind all of them something holds -/
def Runs (ok : Int → Prop) (post : (Int → Option Int) → Prop) : List (Int × Int) → (Int → Option Int) → Prop
  | [], g => post g
  | p :: r, g => ∃ v, g p.2 = some v ∧ ok p.1 ∧ Runs ok post r (upd g p.1 v)

/-- the registers in the midst: what is done, what is still to be done -/
structure Mid (zs : List (Int × Int)) (t : Int) (ok : Int → Prop) (cur : List (Int × Int)) (g : Int → Option Int) : Prop where
  each : ∀ p ∈ zs, (g p.1 = some p.2 ∧ ∀ q ∈ cur, q.1 ≠ p.1) ∨ ∃ q ∈ cur, q.1 = p.1 ∧ g q.2 = some p.2
  nodup : (cur.map (·.1)).Nodup
  there : ∀ q ∈ cur, ∃ v, g q.2 = some v
  okd : ∀ q ∈ cur, q.1 ≠ t ∧ ok q.1
  zt : ∀ p ∈ zs, p.1 ≠ t

theorem none_reads {cur : List (Int × Int)} (hn : (cur.map (·.1)).Nodup) (h : freeIx cur = none) : ∀ q ∈ cur, q.2 ∈ cur.map (·.1) := by
  have hsub : ∀ d, d ∈ cur.map (·.1) → d ∈ cur.map (·.2) := by
    intro d hd
    obtain ⟨p, hp, rfl⟩ := List.mem_map.1 hd
    unfold freeIx at h
    rw [List.findIdx?_eq_none_iff] at h
    have := of_decide_eq_false (h p hp)
    apply Classical.byContradiction
    intro hno
    exact this fun q hq e => hno (e ▸ List.mem_map_of_mem hq)
  obtain ⟨r, hr⟩ := subperm_of_nodup _ _ hn hsub
  have hlen := hr.length_eq
  simp only [List.length_append, List.length_map] at hlen
  have : r = [] := List.eq_nil_of_length_eq_zero (by omega)
  subst this
  rw [List.append_nil] at hr
  intro q hq
  exact hr.mem_iff.2 (List.mem_map_of_mem hq)

theorem runs_sq {zs : List (Int × Int)} {t : Int} {ok : Int → Prop} (hok : ok t) : ∀ (f : Nat) (cur : List (Int × Int)) (g : Int → Option Int), Mid zs t ok cur g → mz cur ≤ f → Runs ok (fun g => ∀ p ∈ zs, g p.1 = some p.2) (sq f cur t) g := by
  intro f
  induction f with
  | zero =>
    intro cur g M hz
    have hc : cur = [] := by
      by_cases h : cur = []
      · exact h
      · have := mz_pos h hz; omega
    subst hc
    rw [sq_nil]
    intro p hp
    rcases M.each p hp with ⟨h, _⟩ | ⟨q, hq, _⟩
    · exact h
    · cases hq
  | succ f ih =>
    intro cur g M hz
    by_cases hc : cur = []
    · subst hc
      rw [sq_nil]
      intro p hp
      rcases M.each p hp with ⟨h, _⟩ | ⟨q, hq, _⟩
      · exact h
      · cases hq
    · cases hf : freeIx cur with
      | some i =>
        rw [sq_free (by omega) hc hf]
        have hi := freeIx_lt hf
        have hmem : gt cur i ∈ cur := mem_gt (by omega)
        have hfree : Free cur (gt cur i) := by
          unfold freeIx at hf
          rw [List.findIdx?_eq_some_iff_getElem] at hf
          have := hf.2.1
          rw [gt_eq (by omega)]
          simpa using this
        obtain ⟨v, hv⟩ := M.there _ hmem
        refine ⟨v, hv, (M.okd _ hmem).2, ih _ _ ?_ (mz_free hf hz)⟩
        have hsub : ∀ q, q ∈ cur.eraseIdx i → q ∈ cur := fun q hq => List.mem_of_mem_eraseIdx hq
        have hrest : ∀ q ∈ cur.eraseIdx i, q.1 ≠ (gt cur i).1 := by
          intro q hq e
          obtain ⟨j, hji, hj0⟩ := List.mem_eraseIdx_iff_getElem?.1 hq
          have hj : (cur.map (·.1))[j]? = some q.1 := by rw [List.getElem?_map, hj0]; rfl
          have h4 : (cur.map (·.1))[i]? = some (gt cur i).1 := by
            rw [List.getElem?_map, show cur[i]? = some (gt cur i) from by have := gt_some (xs := cur) (i := (i : Int)) (by omega); simpa using this]; rfl
          rw [e] at hj
          have hjl : j < (cur.map (·.1)).length := (List.getElem?_eq_some_iff.1 hj).1
          exact hji ((List.getElem?_inj hjl M.nodup).1 (hj.trans h4.symm))
        have hkeep : ∀ q ∈ cur, upd g (gt cur i).1 v q.2 = g q.2 := fun q hq => by
          unfold upd; rw [if_neg (hfree q hq)]
        refine ⟨fun p hp => ?_, M.nodup.sublist ((List.eraseIdx_sublist _ _).map _), fun q hq => by rw [hkeep q (hsub q hq)]; exact M.there q (hsub q hq), fun q hq => M.okd q (hsub q hq), M.zt⟩
        rcases M.each p hp with ⟨h1, h2⟩ | ⟨q, hq, h1, h2⟩
        · left
          refine ⟨?_, fun q hq => h2 q (hsub q hq)⟩
          unfold upd
          rw [if_neg (fun e => h2 _ hmem e.symm)]; exact h1
        · by_cases hqi : q.1 = (gt cur i).1
          · left
            have hqe : q = gt cur i := by
              apply Classical.byContradiction
              intro hne
              have : q ∈ cur.eraseIdx i := by
                rw [List.mem_eraseIdx_iff_getElem?]
                obtain ⟨j, hj⟩ := List.getElem?_of_mem hq
                refine ⟨j, fun hji => ?_, hj⟩
                subst hji
                have h5 := gt_some (xs := cur) (i := (j : Int)) (by omega)
                simp only [Int.toNat_natCast] at h5
                rw [hj] at h5
                exact hne (Option.some.inj h5)
              exact hrest q this hqi
            refine ⟨?_, fun q' hq' e => hrest q' hq' (e.trans (h1.symm.trans hqi))⟩
            unfold upd
            rw [if_pos (h1.symm.trans hqi)]
            rw [hqe] at h2
            rw [← h2, hv]
          · right
            refine ⟨q, ?_, h1, by rw [hkeep q hq]; exact h2⟩
            rw [List.mem_eraseIdx_iff_getElem?]
            obtain ⟨j, hj⟩ := List.getElem?_of_mem hq
            refine ⟨j, fun hji => ?_, hj⟩
            subst hji
            have h5 := gt_some (xs := cur) (i := (j : Int)) (by omega)
            simp only [Int.toNat_natCast] at h5
            rw [hj] at h5
            exact hqi (by rw [Option.some.inj h5])
      | none =>
        rw [sq_none (by omega) hc hf]
        have hall := none_reads M.nodup hf
        have hlen : 0 < cur.length := List.length_pos_iff.2 hc
        have h0 : gt cur 0 ∈ cur := mem_gt (by omega)
        have hrd : ∃ q ∈ cur, q.2 = (gt cur 0).1 := by
          unfold freeIx at hf
          rw [List.findIdx?_eq_none_iff] at hf
          have := of_decide_eq_false (hf _ h0)
          apply Classical.byContradiction
          intro hno
          exact this fun q hq e => hno ⟨q, hq, e⟩
        obtain ⟨q0, hq0, e0⟩ := hrd
        obtain ⟨v, hv⟩ := M.there q0 hq0
        rw [e0] at hv
        have hnt : ∀ q ∈ cur, q.2 ≠ t := fun q hq e => by
          obtain ⟨p, hp, e1⟩ := List.mem_map.1 (hall q hq)
          exact (M.okd p hp).1 (e1.trans e)
        have ht : ∀ q ∈ cur, q.1 ≠ t := fun q hq => (M.okd q hq).1
        refine ⟨v, hv, hok, ih _ _ ?_ (mz_none hc ht hf hz)⟩
        have hfst : (remap t (gt cur 0).1 cur).map (·.1) = cur.map (·.1) := by
          unfold remap
          rw [List.map_map]
          apply List.map_congr_left
          intro q _
          simp only [Function.comp_apply]
          split <;> rfl
        have hval : ∀ q ∈ cur, upd g t v (if q.2 = (gt cur 0).1 then (q.1, t) else q).2 = g q.2 := fun q hq => by
          by_cases e : q.2 = (gt cur 0).1
          · rw [if_pos e]; unfold upd; rw [if_pos rfl, e, hv]
          · rw [if_neg e]; unfold upd; rw [if_neg (hnt q hq)]
        have hfs : ∀ q : Int × Int, (if q.2 = (gt cur 0).1 then (q.1, t) else q).1 = q.1 := fun q => by split <;> rfl
        refine ⟨fun p hp => ?_, by rw [hfst]; exact M.nodup, fun q hq => ?_, fun q hq => ?_, M.zt⟩
        · rcases M.each p hp with ⟨h1, h2⟩ | ⟨q, hq, h1, h2⟩
          · left
            refine ⟨by unfold upd; rw [if_neg (M.zt p hp)]; exact h1, fun q hq => ?_⟩
            obtain ⟨q', hq', rfl⟩ := List.mem_map.1 hq
            rw [hfs]; exact h2 q' hq'
          · right
            exact ⟨_, List.mem_map_of_mem hq, by rw [hfs]; exact h1, by rw [hval q hq]; exact h2⟩
        · obtain ⟨q', hq', rfl⟩ := List.mem_map.1 hq
          rw [hval q' hq']; exact M.there q' hq'
        · obtain ⟨q', hq', rfl⟩ := List.mem_map.1 hq
          rw [hfs]; exact M.okd q' hq'

/-- the copies for a parallel assignment -/
theorem runs_seqz {ds ss : List Int} {t : Int} {ok : Int → Prop} (hl : ds.length = ss.length) (hn : ds.Nodup) (htd : t ∉ ds) (hts : t ∉ ss) (hok : ok t) (hokd : ∀ d ∈ ds, ok d) {g : Int → Option Int} (hg : ∀ q, (q ∈ ds ∨ q ∈ ss) → g q = some q) :
    Runs ok (fun g => ∀ p ∈ ds.zip ss, g p.1 = some p.2) (seqz ds ss t) g := by
  rw [seqz_pos ⟨hl, hn, htd, hts⟩]
  have hfl : ((ds.zip ss).filter fun p => decide (p.2 ≠ p.1)).length ≤ ds.length := by
    refine Nat.le_trans (List.length_filter_le _ _) ?_
    rw [List.length_zip]; omega
  refine runs_sq hok _ _ _ ⟨fun p hp => ?_, ?_, fun q hq => ?_, fun q hq => ?_, fun p hp e => htd (e ▸ (List.of_mem_zip hp).1)⟩ (Nat.le_trans mz_le (by omega))
  · by_cases h : p.2 = p.1
    · left
      refine ⟨by rw [hg p.1 (.inl (List.of_mem_zip hp).1), h], fun q hq e => ?_⟩
      have hq' := List.mem_filter.1 hq
      have hqp : q = p := by
        have hz : ((ds.zip ss).map (·.1)).Nodup := by rw [List.map_fst_zip (by omega)]; exact hn
        obtain ⟨i, hi⟩ := List.getElem?_of_mem hq'.1
        obtain ⟨j, hj⟩ := List.getElem?_of_mem hp
        have h1 : ((ds.zip ss).map (·.1))[i]? = some q.1 := by rw [List.getElem?_map, hi]; rfl
        have h2 : ((ds.zip ss).map (·.1))[j]? = some p.1 := by rw [List.getElem?_map, hj]; rfl
        have h3 := (List.getElem?_inj (List.getElem?_eq_some_iff.1 h1).1 hz).1 (h1.trans ((congrArg some e).trans h2.symm))
        subst h3
        rw [hi] at hj
        exact Option.some.inj hj
      rw [hqp] at hq'
      simp [h] at hq'
    · right
      exact ⟨p, List.mem_filter.2 ⟨hp, by simp [h]⟩, rfl, hg p.2 (.inr (List.of_mem_zip hp).2)⟩
  · have : (((ds.zip ss).filter fun p => decide (p.2 ≠ p.1)).map (·.1)).Sublist ds := by
      have h1 := (List.filter_sublist (p := fun p : Int × Int => decide (p.2 ≠ p.1)) (l := ds.zip ss)).map (·.1)
      rwa [List.map_fst_zip (by omega)] at h1
    exact hn.sublist this
  · have := (List.mem_filter.1 hq).1
    exact ⟨_, hg q.2 (.inr (List.of_mem_zip this).2)⟩
  · have := (List.mem_filter.1 hq).1
    exact ⟨fun e => htd (e ▸ (List.of_mem_zip this).1), hokd _ (List.of_mem_zip this).1⟩
theorem runs_step {ok : Int → Prop} {post : (Int → Option Int) → Prop} {zs : List Mv} {k : Int} {g : Int → Option Int} (hk : 0 ≤ k ∧ k < zs.length) (h : Runs ok post ((zs.map Mv.p).drop k.toNat) g) :
    ∃ v, g (gt zs k).s = some v ∧ ok (gt zs k).d ∧ Runs ok post ((zs.map Mv.p).drop (k + 1).toNat) (upd g (gt zs k).d v) := by
  have hl : k.toNat < (zs.map Mv.p).length := by rw [List.length_map]; omega
  rw [List.drop_eq_getElem_cons hl, show k.toNat + 1 = (k + 1).toNat by omega] at h
  have e : (zs.map Mv.p)[k.toNat] = (gt zs k).p := by rw [List.getElem_map, gt_eq hk]
  rw [e] at h
  exact h
theorem runs_end {ok : Int → Prop} {post : (Int → Option Int) → Prop} {zs : List Mv} {k : Int} {g : Int → Option Int} (hk : zs.length ≤ k) (h : Runs ok post ((zs.map Mv.p).drop k.toNat) g) : post g := by
  rw [List.drop_of_length_le (by rw [List.length_map]; omega)] at h
  exact h
theorem zip_gt {xs ys : List Int} {k : Int} (h : 0 ≤ k ∧ k < xs.length ∧ k < ys.length) : (gt xs k, gt ys k) ∈ xs.zip ys := by
  rw [← gt_zip h]; exact mem_gt (by rw [List.length_zip]; omega)
theorem known_step {xs ys : List Int} {k : Int} {g : Int → Option Int} (hk : 0 ≤ k ∧ k < xs.length ∧ k < ys.length) (h : ∀ q, (q ∈ xs.take k.toNat ∨ q ∈ ys.take k.toNat) → g q = some q) :
    ∀ q, (q ∈ xs.take (k + 1).toNat ∨ q ∈ ys.take (k + 1).toNat) → upd (upd g (gt xs k) (gt xs k)) (gt ys k) (gt ys k) q = some q := by
  intro q hq
  rw [take_gt (by omega), take_gt (by omega), List.mem_append, List.mem_append, List.mem_singleton, List.mem_singleton] at hq
  unfold upd
  by_cases h1 : q = gt ys k
  · rw [if_pos h1, h1]
  · rw [if_neg h1]
    by_cases h2 : q = gt xs k
    · rw [if_pos h2, h2]
    · rw [if_neg h2]
      exact h q (by rcases hq with (h | h) | (h | h) <;> first | exact .inl h | exact .inr h | exact absurd h h1 | exact absurd h h2)
end Go.Proofs.Yteilepombglalaa
