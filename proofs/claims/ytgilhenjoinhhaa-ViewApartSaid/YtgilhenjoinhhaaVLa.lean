/- The plain law of the views: a space's memory and the document's book have the same keys with values. -/
import Derived.Test.YtgilhenjoinhhaaVVx
set_option linter.unusedVariables false
set_option linter.unusedSimpArgs false
namespace Go.Sl
open Go.Proofs

abbrev kys (b : Bk) : List B := b.map Prod.fst
/-- What one space's views have in common: 'base' begins all their prefixes; 'rest' is what else the space holds. -/
structure Cond (base : B) (V : List (Nat × Nat × B)) (bk M rest : Bk) (N : Nat) : Prop where
  ne : V ≠ []
  few : V.length ≤ 12
  pre : ∀ q ∈ V, q.2.2.length ≤ 100 ∧ base <+: q.2.2
  ok : bk.Ok
  nd : (kys M).Nodup
  perm : M.Perm (bk ++ rest)
  len : ∀ k ∈ kys M, k.length ≤ 198
  size : M.length ≤ N
  mine : ∀ k ∈ kys bk, base <+: k
  not : ∀ k ∈ kys rest, ¬ base <+: k
section
variable {base : B} {V : List (Nat × Nat × B)} {bk M rest : Bk} {N : Nat}
theorem Cond.nd2 (h : Cond base V bk M rest N) : (kys (bk ++ rest)).Nodup := (h.perm.map Prod.fst).nodup_iff.1 h.nd
theorem Cond.bklen (h : Cond base V bk M rest N) : bk.length ≤ N := by
  have := h.perm.length_eq; rw [List.length_append] at this; have := h.size; omega
theorem Cond.bkkeys (h : Cond base V bk M rest N) : ∀ k ∈ kys bk, k.length ≤ 198 := fun k hk => by
  refine h.len k ((h.perm.map Prod.fst).mem_iff.2 ?_)
  rw [List.map_append]; exact List.mem_append_left _ hk
theorem Cond.get (h : Cond base V bk M rest N) {k : B} (hk : base <+: k) : mget M k = mget bk k := by
  rw [mget_perm h.nd h.perm, mget_append_left (fun hm => h.not k hm hk)]
theorem kys_app (a b : Bk) : kys (a ++ b) = kys a ++ kys b := List.map_append
theorem nodup_app {a b : Bk} (h1 : (kys a).Nodup) (h2 : (kys b).Nodup) (h3 : ∀ k ∈ kys a, k ∉ kys b) : (kys (a ++ b)).Nodup := by
  rw [kys_app]; exact List.nodup_append.2 ⟨h1, h2, fun x hx y hy e => h3 x hx (e ▸ hy)⟩
theorem Cond.rest_nd (h : Cond base V bk M rest N) : (kys rest).Nodup := by
  have := h.nd2; rw [kys_app] at this; exact (List.nodup_append.1 this).2.1
theorem Cond.put (h : Cond base V bk M rest N) {k v : B} (hk : base <+: k) (hl : k.length ≤ 198) : Cond base V (bk.set k v) (mput M k v) rest (N + 1) := by
  have hkr : k ∉ kys rest := fun hm => h.not k hm hk
  refine ⟨h.ne, h.few, h.pre, Bk.set_ok h.ok k v, mput_nodup h.nd k v, ?_, ?_, ?_, ?_, h.not⟩
  · refine perm_of_mget (mput_nodup h.nd k v) (nodup_app (Bk.set_ok h.ok k v).nodup h.rest_nd ?_) fun a => ?_
    · intro a ha hr
      rcases (Bk.set_keys k v a).1 ha with rfl | ha
      · exact hkr hr
      · have := h.nd2; rw [kys_app] at this; exact (List.nodup_append.1 this).2.2 a ha a hr rfl
    · rw [mget_put, mget_perm h.nd h.perm]
      by_cases ha : a = k
      · subst ha; rw [if_pos rfl, mget_append_left hkr, Bk.get_set h.ok, if_pos rfl]
      · rw [if_neg ha]
        by_cases hr : a ∈ kys rest
        · have hb : a ∉ kys bk := fun hb => by have := h.nd2; rw [kys_app] at this; exact (List.nodup_append.1 this).2.2 a hb a hr rfl
          rw [mget_append_right hb, mget_append_right (fun hm => by rcases (Bk.set_keys k v a).1 hm with e | e; exact ha e; exact hb e)]
        · rw [mget_append_left hr, mget_append_left hr, Bk.get_set h.ok, if_neg ha]
  · intro a ha
    rcases (mput_keys M k v a).1 ha with rfl | ha
    · exact hl
    · exact h.len a ha
  · have : (mput M k v).length ≤ M.length + 1 := by
      cases e : mget M k with
      | none => rw [(mget_none M k e v).1]; simp
      | some u =>
        have hm := mget_mem e
        have : ∀ (L : Bk), (k, u) ∈ L → (mput L k v).length = L.length := by
          intro L
          induction L with
          | nil => intro h; simp at h
          | cons p L ih =>
            obtain ⟨b, c⟩ := p
            intro h
            by_cases hb : k = b
            · simp [mput, hb]
            · rcases List.mem_cons.1 h with e | e
              · cases e; exact absurd rfl hb
              · simp [mput, hb, ih e]
        rw [this M hm]; omega
    have := h.size; omega
  · intro a ha
    rcases (Bk.set_keys k v a).1 ha with rfl | ha
    · exact hk
    · exact h.mine a ha
theorem Cond.del (h : Cond base V bk M rest N) {k : B} (hk : base <+: k) : Cond base V (mdel bk k) (mdel M k) rest N := by
  have hkr : k ∉ kys rest := fun hm => h.not k hm hk
  refine ⟨h.ne, h.few, h.pre, Bk.del_ok h.ok k, h.nd.sublist ((mdel_sub M k).map _), ?_, ?_, ?_, ?_, h.not⟩
  · refine perm_of_mget (h.nd.sublist ((mdel_sub M k).map _)) (nodup_app (Bk.del_ok h.ok k).nodup h.rest_nd ?_) fun a => ?_
    · intro a ha hr
      have := h.nd2; rw [kys_app] at this
      exact (List.nodup_append.1 this).2.2 a (((mdel_sub bk k).map _).mem ha) a hr rfl
    · rw [mget_del h.nd, mget_perm h.nd h.perm]
      by_cases ha : a = k
      · subst ha; rw [if_pos rfl, mget_append_left hkr, mget_del h.ok.nodup, if_pos rfl]
      · rw [if_neg ha]
        by_cases hr : a ∈ kys rest
        · have hb : a ∉ kys bk := fun hb => by have := h.nd2; rw [kys_app] at this; exact (List.nodup_append.1 this).2.2 a hb a hr rfl
          rw [mget_append_right hb, mget_append_right (fun hm => hb (((mdel_sub bk k).map _).mem hm))]
        · rw [mget_append_left hr, mget_append_left hr, mget_del h.ok.nodup, if_neg ha]
  · exact fun a ha => h.len a (((mdel_sub M k).map _).mem ha)
  · exact Nat.le_trans (mdel_sub M k).length_le h.size
  · exact fun a ha => h.mine a (((mdel_sub bk k).map _).mem ha)
theorem Cond.lsk (h : Cond base V bk M rest N) {pre : B} (hp : base <+: pre) (pfx after : B) (m : Nat) : Sl.lsk ((kys M).mergeSort leB) pre pfx after m = Sl.lsk (kys bk) pre pfx after m := by
  have tr : ∀ a b c : B, leB a b = true → leB b c = true → leB a c = true := fun a b c h1 h2 => by simp only [leB, decide_eq_true_eq] at *; exact List.le_trans h1 h2
  have to : ∀ a b : B, (leB a b || leB b a) = true := fun a b => by simp only [leB, Bool.or_eq_true, decide_eq_true_eq]; exact List.le_total a b
  have key : ((kys M).mergeSort leB).filter (lsP pre pfx after) = (kys bk).filter (lsP pre pfx after) := by
    have hperm : (((kys M).mergeSort leB).filter (lsP pre pfx after)).Perm ((kys bk).filter (lsP pre pfx after)) := by
      refine ((List.mergeSort_perm _ _).filter _).trans (((h.perm.map Prod.fst).filter _).trans ?_)
      rw [List.map_append, List.filter_append]
      have : (rest.map Prod.fst).filter (lsP pre pfx after) = [] := by
        refine List.filter_eq_nil_iff.2 fun a ha => ?_
        simp only [lsP, Bool.and_eq_true, decide_eq_true_eq]
        rintro ⟨h1, _⟩
        exact h.not a ha (hp.trans ((List.prefix_append pre pfx).trans h1))
      rw [this, List.append_nil]
    refine List.Perm.eq_of_pairwise (le := fun a b => leB a b = true) (fun a b _ _ h1 h2 => ?_) ((List.pairwise_mergeSort tr to (kys M)).filter _) ?_ hperm
    · simp only [leB, decide_eq_true_eq] at h1 h2; exact List.le_antisymm h1 h2
    · refine List.Pairwise.filter _ ?_
      exact List.Pairwise.imp (fun h => by simp only [leB, decide_eq_true_eq]; exact Std.le_of_lt h) h.ok
  unfold Sl.lsk; rw [key]
theorem Cond.clr (h : Cond base V bk M rest N) {pre : B} (hp : base <+: pre) (l : List B) : Cond base V (Sl.clr bk pre l) (Sl.clr M pre l) rest N := by
  induction l generalizing bk M with
  | nil => exact h
  | cons k l ih => exact ih (h.del (k := pre ++ k) (hp.trans (List.prefix_append pre k)))
theorem lsk_big {K : List B} {pre pfx after : B} {m m' : Nat} (h : K.length ≤ m) (h' : K.length ≤ m') : lsk K pre pfx after m = lsk K pre pfx after m' := by
  have hf := List.length_filter_le (lsP pre pfx after) K
  unfold lsk; rw [List.take_of_length_le (by omega), List.take_of_length_le (by omega)]
theorem Cond.more (h : Cond base V bk M rest N) {N' : Nat} (hN : N ≤ N') : Cond base V bk M rest N' := ⟨h.ne, h.few, h.pre, h.ok, h.nd, h.perm, h.len, Nat.le_trans h.size hN, h.mine, h.not⟩
theorem Cond.sub (h : Cond base V bk M rest N) (hV : V.length < 12) (a c : Nat) {pre k : B} (hp : base <+: pre) (hl : pre.length + k.length ≤ 100) : Cond base (V ++ [(a, c, pre ++ k)]) bk M rest N :=
  ⟨by simp, by simp; omega, fun q hq => by
    rcases List.mem_append.1 hq with hq | hq
    · exact h.pre q hq
    · simp at hq; subst hq; exact ⟨by simp; omega, hp.trans (List.prefix_append pre k)⟩, h.ok, h.nd, h.perm, h.len, h.size, h.mine, h.not⟩
end
end Go.Sl
