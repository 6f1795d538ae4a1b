/- A view of a space in memory: what its calls do. -/
import Derived.Test.YtgilhenjoinhhaaVVw
set_option linter.unusedVariables false
set_option linter.unusedSimpArgs false
namespace Go.Sl
open Go.Proofs

abbrev vw (x a : Nat) (pre : B) : HP := blk a [.iface 48 (pB x), str pre]
theorem vmem_spec : Spec Try.prog 5 [] [] (fun v Γ' => ∃ a x, v = pB a ∧ Γ' = [vw x a [], memAt x []]) := by
  refine Spec.enter Try.func5 rfl Try.ntmps5 rfl ?_
  refine .seq ?_
  refine .region ?_
  refine .q (q_as rfl) rfl ?_
  refine .done ?_
  refine .seq ?_
  refine .region ?_
  refine .a (l_mkm) rfl fun r1 => ?_
  refine .q (q_bst rfl) rfl ?_
  refine .a (l_box rfl) rfl fun r3 => ?_
  refine .q (q_mki rfl rfl) rfl ?_
  refine .q (q_bst rfl) rfl ?_
  refine .a (l_box rfl) rfl fun r6 => ?_
  refine .q (q_as rfl) rfl ?_
  refine .done ?_
  refine G.fold (X := memAt r3 []) (Δ := [blk r3 [.map (some r1)], pt r1 (.map #[] 0)]) (by
    intro h s
    obtain ⟨h1, h2, s1, p1, h3, h4, s2, p2, _⟩ := s
    exact memAt.mk (m := r1) [] h ⟨h1, h2, s1, p1, h3, h4, s2, ⟨#[], 0, p2, rfl, by simp, by simp⟩, trivial⟩) ?_
  exact G.retN (ts := [0]) Try.func5 Try.results5 rfl (⟨r6, r3, rfl, rfl⟩)
theorem rmem_spec : Spec Try.prog 6 [] [] (fun v Γ' => ∃ c p, v = pB c ∧ Γ' = [rv p c [], bookAt p []]) := by
  refine Spec.enter Try.func6 rfl Try.ntmps6 rfl ?_
  refine .seq ?_
  refine .region ?_
  refine .q (q_as rfl) rfl ?_
  refine .done ?_
  refine .seq ?_
  refine .region ?_
  refine .q (q_bst rfl) rfl ?_
  refine .a (l_box rfl) rfl fun r2 => ?_
  refine .q (q_bst rfl) rfl ?_
  refine .a (l_box rfl) rfl fun r4 => ?_
  refine .q (q_as rfl) rfl ?_
  refine .done ?_
  refine G.vecNil' 1 (xs := vs []) rfl (G.vecNil' 1 (xs := ks []) rfl ?_)
  refine G.fold (bookAt.mk (p := r2) (k := .slice none 0 0) (v := .slice none 0 0) []) ?_
  exact G.retN (ts := [0]) Try.func6 Try.results6 rfl (⟨r4, r2, rfl, rfl⟩)
theorem may_spec (x a : Nat) (pre k : B) (hp : pre.length ≤ 100) (hk : k.length ≤ 140737488355328) : Spec Try.prog 24 [pB a, str k] [vw x a pre] (Is (i64 (if okk pre k then 0 else 2)) [vw x a pre]) := by
  refine Spec.enter Try.func24 rfl Try.ntmps24 rfl ?_
  refine .seq ?_
  refine .region ?_
  refine .q (q_as rfl) rfl ?_
  refine .done ?_
  refine .seq ?_
  refine .block ?_
  refine .seq ?_
  refine .region ?_
  refine .q (q_mv rfl) rfl ?_
  refine .q (q_pnil rfl rfl) rfl ?_
  refine .q (q_as rfl) rfl ?_
  refine .done ?_
  refine .condDF rfl ((by simp)) ?_
  refine .seq ?_
  refine .region ?_
  refine .q (q_mv rfl) rfl ?_
  refine .q (q_seq rfl rfl) rfl ?_
  refine .q (q_mv rfl) rfl ?_
  refine GR.casesD (t := 11) rfl (fun h11 => ?_) (fun h11 => ?_)
  · refine .no rfl rfl rfl rfl rfl ?_
    refine .no rfl rfl rfl rfl rfl ?_
    refine .no rfl rfl rfl rfl rfl ?_
    refine .no rfl rfl rfl rfl rfl ?_
    refine .no rfl rfl rfl rfl rfl ?_
    refine .no rfl rfl rfl rfl rfl ?_
    refine .no rfl rfl rfl rfl rfl ?_
    refine .no rfl rfl rfl rfl rfl ?_
    refine .no rfl rfl rfl rfl rfl ?_
    refine .q (q_pickT rfl rfl) rfl ?_
    refine .q (q_as rfl) rfl ?_
    refine .done ?_
    have hk0 : ¬ okk pre k := fun h => by have := h.1; simp_all
    refine .condT rfl ?_
    refine .seq ?_
    refine .region ?_
    refine .q (q_as rfl) rfl ?_
    refine .done ?_
    exact G.retN (ts := [4]) Try.func24 Try.results24 rfl (⟨by rw [if_neg hk0]; rfl, rfl⟩)
  · refine .yes rfl rfl rfl ?_
    refine .q (q_mv rfl) rfl ?_
    refine .yes rfl rfl rfl ?_
    refine .q (q_lenS rfl) rfl ?_
    refine .yes rfl rfl rfl ?_
    refine .q (q_mv rfl) rfl ?_
    refine .yes rfl rfl rfl ?_
    refine .q (q_nil rfl) rfl ?_
    refine .yes rfl rfl rfl ?_
    refine .q (q_fa0 rfl) rfl ?_
    refine .yes rfl rfl rfl ?_
    refine .q (q_ld rfl rfl) rfl ?_
    refine .yes rfl rfl rfl ?_
    refine .q (q_lenS rfl) rfl ?_
    refine .yes rfl rfl rfl ?_
    refine .q (q_sub rfl rfl (by omega)) rfl ?_
    refine .yes rfl rfl rfl ?_
    refine .q (q_gt rfl rfl) rfl ?_
    refine .q (q_pickF rfl rfl) rfl ?_
    refine .q (q_as rfl) rfl ?_
    refine .done ?_
    refine .condD rfl (fun h8 => ?_) (fun h8 => ?_)
    · have hk0 : ¬ okk pre k := fun h => by have := h.2; omega
      refine .seq ?_
      refine .region ?_
      refine .q (q_as rfl) rfl ?_
      refine .done ?_
      exact G.retN (ts := [4]) Try.func24 Try.results24 rfl (⟨by rw [if_neg hk0]; rfl, rfl⟩)
    · have hk0 : okk pre k := ⟨by cases k with | nil => simp_all | cons _ _ => simp, by omega⟩
      refine .skip ?_
      refine .inBlock ?_
      refine .seq ?_
      refine .region ?_
      refine .q (q_as rfl) rfl ?_
      refine .done ?_
      exact G.retN (ts := [4]) Try.func24 Try.results24 rfl (⟨by rw [if_pos hk0]; rfl, rfl⟩)
theorem vsub_spec (x a : Nat) (pre k : B) (hp : pre.length ≤ 100) (hk : k.length ≤ 140737488355328) : Spec Try.prog 11 [pB a, str k] [vw x a pre]
    (fun v Γ' => (pre.length + k.length ≤ 100 ∧ ∃ d, v = .tuple #[pB d, i64 0] ∧ Γ' = [vw x d (pre ++ k), vw x a pre]) ∨ (¬ pre.length + k.length ≤ 100 ∧ v = .tuple #[.pointer none, i64 2] ∧ Γ' = [vw x a pre])) := by
  refine Spec.enter Try.func11 rfl Try.ntmps11 rfl ?_
  refine .seq ?_
  refine .region ?_
  refine .q (q_as rfl) rfl ?_
  refine .q (q_as rfl) rfl ?_
  refine .done ?_
  refine .seq ?_
  refine .block ?_
  refine .seq ?_
  refine .region ?_
  refine .q (q_mv rfl) rfl ?_
  refine .q (q_pnil rfl rfl) rfl ?_
  refine .q (q_as rfl) rfl ?_
  refine .done ?_
  refine .condDF rfl ((by simp)) ?_
  refine .seq ?_
  refine .region ?_
  refine .q (q_mv rfl) rfl ?_
  refine .q (q_lenS rfl) rfl ?_
  refine .q (q_mv rfl) rfl ?_
  refine .q (q_nil rfl) rfl ?_
  refine .q (q_fa0 rfl) rfl ?_
  refine .q (q_ld rfl rfl) rfl ?_
  refine .q (q_lenS rfl) rfl ?_
  refine .q (q_sub rfl rfl (by omega)) rfl ?_
  refine .q (q_gt rfl rfl) rfl ?_
  refine .q (q_as rfl) rfl ?_
  refine .done ?_
  refine .condD rfl (fun h9 => ?_) (fun h9 => ?_)
  · refine .seq ?_
    refine .region ?_
    refine .q (q_as rfl) rfl ?_
    refine .q (q_as rfl) rfl ?_
    refine .done ?_
    exact G.retN (ts := [4, 5]) Try.func11 Try.results11 rfl (.inr ⟨by omega, rfl, rfl⟩)
  · refine .skip ?_
    refine .inBlock ?_
    refine .seq ?_
    refine G.regionD [] ?_
    refine .q 0 rfl (by kernel_rfl) (q_mv rfl) rfl ?_
    refine .q 1 rfl (by kernel_rfl) (q_nil rfl) rfl ?_
    refine .q 2 rfl (by kernel_rfl) (q_fa0 rfl) rfl ?_
    refine .q 3 rfl (by kernel_rfl) (q_ld rfl rfl) rfl ?_
    refine .q 4 rfl (by kernel_rfl) (q_mv rfl) rfl ?_
    refine .q 5 rfl (by kernel_rfl) (q_nil rfl) rfl ?_
    refine .q 6 rfl (by kernel_rfl) (q_fa0 rfl) rfl ?_
    refine .q 7 rfl (by kernel_rfl) (q_ld rfl rfl) rfl ?_
    refine .q 8 rfl (by kernel_rfl) (q_mv rfl) rfl ?_
    refine .q 9 rfl (by kernel_rfl) (q_sadd rfl rfl (by first | omega | (simp; omega))) rfl ?_
    refine .q 10 rfl (by kernel_rfl) (q_bst rfl) rfl ?_
    refine .a 11 rfl (by kernel_rfl) (l_box rfl) rfl fun r30 => ?_
    refine .q 12 rfl (by kernel_rfl) (q_as rfl) rfl ?_
    refine .q 13 rfl (by kernel_rfl) (q_as rfl) rfl ?_
    refine .done (by kernel_rfl) ?_
    exact G.retN (ts := [4, 5]) Try.func11 Try.results11 rfl (.inl ⟨by omega, r30, rfl, rfl⟩)
theorem vget_spec (x a : Nat) (M : Bk) (pre k : B) (hp : pre.length ≤ 100) (hk : k.length ≤ 140737488355328) : Spec Try.prog 12 [pB a, str k] [vw x a pre, memAt x M]
    (Is (if okk pre k then getV (mget M (pre ++ k)) else .tuple #[str [], .bool false, i64 2]) [vw x a pre, memAt x M]) := by
  refine Spec.enter Try.func12 rfl Try.ntmps12 rfl ?_
  refine .seq ?_
  refine .region ?_
  refine .q (q_as rfl) rfl ?_
  refine .q (q_as rfl) rfl ?_
  refine .q (q_as rfl) rfl ?_
  refine .done ?_
  refine .seq ?_
  refine .seq ?_
  refine .region ?_
  refine .q (q_mv rfl) rfl ?_
  refine .q (q_mv rfl) rfl ?_
  refine .l (l_call (may_spec x a pre k hp hk) rfl) rfl ?_
  rintro _ _ ⟨_, ⟨rfl, rfl⟩, rfl⟩
  refine .q (q_as rfl) rfl ?_
  refine .done ?_
  refine .seq ?_
  refine .region ?_
  refine .q (q_mv rfl) rfl ?_
  refine .q (q_ne rfl rfl) rfl ?_
  refine .done ?_
  refine .condD rfl (fun h12 => ?_) (fun h12 => ?_)
  · have hk0 : ¬ okk pre k := fun h => by rw [if_pos h] at h12; exact h12 rfl
    refine .seq ?_
    refine .region ?_
    refine .q (q_mv rfl) rfl ?_
    refine .q (q_as rfl) rfl ?_
    refine .q (q_as rfl) rfl ?_
    refine .q (q_as rfl) rfl ?_
    refine .done ?_
    exact G.retN (ts := [4, 5, 6]) Try.func12 Try.results12 rfl (⟨by rw [if_neg hk0, if_neg hk0]; rfl, rfl⟩)
  · have hk0 : okk pre k := by by_cases h : okk pre k; exact h; rw [if_neg h] at h12; simp at h12
    refine .skip ?_
    refine .seq ?_
    refine G.regionD [12] ?_
    refine .q 0 rfl (by kernel_rfl) (q_mv rfl) rfl ?_
    refine .q 1 rfl (by kernel_rfl) (q_nil rfl) rfl ?_
    refine .q 2 rfl (by kernel_rfl) (q_fa0 rfl) rfl ?_
    refine .q 3 rfl (by kernel_rfl) (q_ld rfl rfl) rfl ?_
    refine .q 4 rfl (by kernel_rfl) (q_mv rfl) rfl ?_
    refine .q 5 rfl (by kernel_rfl) (q_nil rfl) rfl ?_
    refine .q 6 rfl (by kernel_rfl) (q_fa0 rfl) rfl ?_
    refine .q 7 rfl (by kernel_rfl) (q_ld rfl rfl) rfl ?_
    refine .q 8 rfl (by kernel_rfl) (q_mv rfl) rfl ?_
    refine .q 9 rfl (by kernel_rfl) (q_sadd rfl rfl (by first | omega | (simp; omega))) rfl ?_
    refine .q 10 rfl (by kernel_rfl) (q_nilI rfl) rfl ?_
    refine .q 11 rfl (by kernel_rfl) (q_mv rfl) rfl ?_
    refine .l 12 rfl (by kernel_rfl) (l_inv rfl rfl (mem_get_spec x M (pre ++ k))) (.inl rfl) rfl ?_
    rintro _ _ ⟨_, ⟨rfl, rfl⟩, rfl⟩
    refine .q 13 rfl (by kernel_rfl) (q_ex rfl rfl) rfl ?_
    refine .q 14 rfl (by kernel_rfl) (q_ex rfl rfl) rfl ?_
    refine .q 15 rfl (by kernel_rfl) (q_ex rfl rfl) rfl ?_
    refine .q 16 rfl (by kernel_rfl) (q_as rfl) rfl ?_
    refine .q 17 rfl (by kernel_rfl) (q_as rfl) rfl ?_
    refine .q 18 rfl (by kernel_rfl) (q_as rfl) rfl ?_
    refine .done (by kernel_rfl) ?_
    exact G.retN (ts := [4, 5, 6]) Try.func12 Try.results12 rfl (⟨by rw [if_pos hk0]; rfl, rfl⟩)
theorem vput_spec (x a : Nat) (M : Bk) (hM : M.length ≤ 1000000) (pre k v : B) (hp : pre.length ≤ 100) (hk : k.length ≤ 140737488355328) (hv : v.length ≤ 140737488355328) : Spec Try.prog 14 [pB a, str k, str v] [vw x a pre, memAt x M]
    (Is (i64 (if okk pre k then (if v.length ≤ 3968 then 0 else 3) else 2)) [vw x a pre, memAt x (if okk pre k ∧ v.length ≤ 3968 then mput M (pre ++ k) v else M)]) := by
  refine Spec.enter Try.func14 rfl Try.ntmps14 rfl ?_
  refine .seq ?_
  refine .region ?_
  refine .q (q_as rfl) rfl ?_
  refine .done ?_
  refine .seq ?_
  refine .seq ?_
  refine .region ?_
  refine .q (q_mv rfl) rfl ?_
  refine .q (q_mv rfl) rfl ?_
  refine .l (l_call (may_spec x a pre k hp hk) rfl) rfl ?_
  rintro _ _ ⟨_, ⟨rfl, rfl⟩, rfl⟩
  refine .q (q_as rfl) rfl ?_
  refine .done ?_
  refine .seq ?_
  refine .region ?_
  refine .q (q_mv rfl) rfl ?_
  refine .q (q_ne rfl rfl) rfl ?_
  refine .done ?_
  refine .condD rfl (fun h12 => ?_) (fun h12 => ?_)
  · have hk0 : ¬ okk pre k := fun h => by rw [if_pos h] at h12; exact h12 rfl
    refine .seq ?_
    refine .region ?_
    refine .q (q_mv rfl) rfl ?_
    refine .q (q_as rfl) rfl ?_
    refine .done ?_
    exact G.retN (ts := [6]) Try.func14 Try.results14 rfl (⟨by rw [if_neg hk0, if_neg hk0]; rfl, by rw [if_neg (fun h => hk0 h.1)]⟩)
  · have hk0 : okk pre k := by by_cases h : okk pre k; exact h; rw [if_neg h] at h12; simp at h12
    refine .skip ?_
    refine .seq ?_
    refine .seq ?_
    refine .region ?_
    refine .q (q_mv rfl) rfl ?_
    refine .q (q_lenS rfl) rfl ?_
    refine .q (q_gt rfl rfl) rfl ?_
    refine .done ?_
    refine .condD rfl (fun h16 => ?_) (fun h16 => ?_)
    · refine .seq ?_
      refine .region ?_
      refine .q (q_as rfl) rfl ?_
      refine .done ?_
      exact G.retN (ts := [6]) Try.func14 Try.results14 rfl (⟨by rw [if_pos hk0, if_neg (by omega)]; rfl, by rw [if_neg (fun h => by omega)]⟩)
    · refine .skip ?_
      refine .seq ?_
      refine G.regionD [13] ?_
      refine .q 0 rfl (by kernel_rfl) (q_mv rfl) rfl ?_
      refine .q 1 rfl (by kernel_rfl) (q_nil rfl) rfl ?_
      refine .q 2 rfl (by kernel_rfl) (q_fa0 rfl) rfl ?_
      refine .q 3 rfl (by kernel_rfl) (q_ld rfl rfl) rfl ?_
      refine .q 4 rfl (by kernel_rfl) (q_mv rfl) rfl ?_
      refine .q 5 rfl (by kernel_rfl) (q_nil rfl) rfl ?_
      refine .q 6 rfl (by kernel_rfl) (q_fa0 rfl) rfl ?_
      refine .q 7 rfl (by kernel_rfl) (q_ld rfl rfl) rfl ?_
      refine .q 8 rfl (by kernel_rfl) (q_mv rfl) rfl ?_
      refine .q 9 rfl (by kernel_rfl) (q_sadd rfl rfl (by first | omega | (simp; omega))) rfl ?_
      refine .q 10 rfl (by kernel_rfl) (q_mv rfl) rfl ?_
      refine .q 11 rfl (by kernel_rfl) (q_nilI rfl) rfl ?_
      refine .q 12 rfl (by kernel_rfl) (q_mv rfl) rfl ?_
      refine .l 13 rfl (by kernel_rfl) (l_inv rfl rfl (mem_put_spec x M hM (pre ++ k) v)) (.inl rfl) rfl ?_
      rintro _ _ ⟨_, ⟨rfl, rfl⟩, rfl⟩
      refine .q 14 rfl (by kernel_rfl) (q_as rfl) rfl ?_
      refine .done (by kernel_rfl) ?_
      exact G.retN (ts := [6]) Try.func14 Try.results14 rfl (⟨by rw [if_pos hk0, if_pos (by omega)]; rfl, by rw [if_pos ⟨hk0, by omega⟩]⟩)
theorem vdel_spec (x a : Nat) (M : Bk) (pre k : B) (hp : pre.length ≤ 100) (hk : k.length ≤ 140737488355328) : Spec Try.prog 16 [pB a, str k] [vw x a pre, memAt x M]
    (Is (if okk pre k then .tuple #[.bool (decide (mget M (pre ++ k) ≠ none)), i64 0] else .tuple #[.bool false, i64 2]) [vw x a pre, memAt x (if okk pre k then mdel M (pre ++ k) else M)]) := by
  refine Spec.enter Try.func16 rfl Try.ntmps16 rfl ?_
  refine .seq ?_
  refine .region ?_
  refine .q (q_as rfl) rfl ?_
  refine .q (q_as rfl) rfl ?_
  refine .done ?_
  refine .seq ?_
  refine .seq ?_
  refine .region ?_
  refine .q (q_mv rfl) rfl ?_
  refine .q (q_mv rfl) rfl ?_
  refine .l (l_call (may_spec x a pre k hp hk) rfl) rfl ?_
  rintro _ _ ⟨_, ⟨rfl, rfl⟩, rfl⟩
  refine .q (q_as rfl) rfl ?_
  refine .done ?_
  refine .seq ?_
  refine .region ?_
  refine .q (q_mv rfl) rfl ?_
  refine .q (q_ne rfl rfl) rfl ?_
  refine .done ?_
  refine .condD rfl (fun h11 => ?_) (fun h11 => ?_)
  · have hk0 : ¬ okk pre k := fun h => by rw [if_pos h] at h11; exact h11 rfl
    refine .seq ?_
    refine .region ?_
    refine .q (q_mv rfl) rfl ?_
    refine .q (q_as rfl) rfl ?_
    refine .q (q_as rfl) rfl ?_
    refine .done ?_
    exact G.retN (ts := [4, 5]) Try.func16 Try.results16 rfl (⟨by rw [if_neg hk0, if_neg hk0]; rfl, by rw [if_neg hk0]⟩)
  · have hk0 : okk pre k := by by_cases h : okk pre k; exact h; rw [if_neg h] at h11; simp at h11
    refine .skip ?_
    refine .seq ?_
    refine G.regionD [12] ?_
    refine .q 0 rfl (by kernel_rfl) (q_mv rfl) rfl ?_
    refine .q 1 rfl (by kernel_rfl) (q_nil rfl) rfl ?_
    refine .q 2 rfl (by kernel_rfl) (q_fa0 rfl) rfl ?_
    refine .q 3 rfl (by kernel_rfl) (q_ld rfl rfl) rfl ?_
    refine .q 4 rfl (by kernel_rfl) (q_mv rfl) rfl ?_
    refine .q 5 rfl (by kernel_rfl) (q_nil rfl) rfl ?_
    refine .q 6 rfl (by kernel_rfl) (q_fa0 rfl) rfl ?_
    refine .q 7 rfl (by kernel_rfl) (q_ld rfl rfl) rfl ?_
    refine .q 8 rfl (by kernel_rfl) (q_mv rfl) rfl ?_
    refine .q 9 rfl (by kernel_rfl) (q_sadd rfl rfl (by first | omega | (simp; omega))) rfl ?_
    refine .q 10 rfl (by kernel_rfl) (q_nilI rfl) rfl ?_
    refine .q 11 rfl (by kernel_rfl) (q_mv rfl) rfl ?_
    refine .l 12 rfl (by kernel_rfl) (l_inv rfl rfl (mem_del_spec x M (pre ++ k))) (.inl rfl) rfl ?_
    rintro _ _ ⟨_, ⟨rfl, rfl⟩, rfl⟩
    refine .q 13 rfl (by kernel_rfl) (q_ex rfl rfl) rfl ?_
    refine .q 14 rfl (by kernel_rfl) (q_ex rfl rfl) rfl ?_
    refine .q 15 rfl (by kernel_rfl) (q_as rfl) rfl ?_
    refine .q 16 rfl (by kernel_rfl) (q_as rfl) rfl ?_
    refine .done (by kernel_rfl) ?_
    exact G.retN (ts := [4, 5]) Try.func16 Try.results16 rfl (⟨by rw [if_pos hk0]; rfl, by rw [if_pos hk0]⟩)

theorem closure_spec (k : B) : Spec Try.prog 30 [str k] [] (Is (.bool (decide (k = []))) []) := by
  refine Spec.enter Try.func30 rfl Try.ntmps30 rfl ?_
  refine .seq ?_
  refine .region ?_
  refine .q (q_as rfl) rfl ?_
  refine .done ?_
  refine .seq ?_
  refine .region ?_
  refine .q (q_mv rfl) rfl ?_
  refine .q (q_seq rfl rfl) rfl ?_
  refine .q (q_as rfl) rfl ?_
  refine .done ?_
  exact G.retN (ts := [2]) Try.func30 Try.results30 rfl (⟨rfl, rfl⟩)
theorem index_spec (x : Value) (l : List B) (hl : l.length ≤ 1000000) (hn : ∀ k ∈ l, k ≠ []) : Spec Try.prog 32 [x, .func (.func 30) #[] #[]] [vec 1 x (strs l)] (Is (i64 (-1)) [vec 1 x (strs l)]) := by
  refine Spec.enter Try.func32 rfl Try.ntmps32 rfl ?_
  refine .seq ?_
  refine .region ?_
  refine .q (q_as rfl) rfl ?_
  refine .done ?_
  refine .seq ?_
  refine .seq ?_
  refine .region ?_
  refine .q (q_mv rfl) rfl ?_
  refine .q (q_lenVm rfl) rfl ?_
  refine .q (q_mv rfl) rfl ?_
  refine .done ?_
  refine .block ?_
  refine G.loop (σ := Nat) (fun i => [(0, x), (1, .func (.func 30) #[] #[]), (7, i64 (l.length : Int)), (8, i64 (i : Int))]) (fun i => [vec 1 x (strs l)]) (fun i => i ≤ l.length) (fun i => l.length - i) (0) ⟨rfl, rfl, rfl, rfl, trivial⟩ (by omega) ?_
  rintro i hi IH
  refine .seq ?_
  refine .region ?_
  refine .q (q_lt rfl rfl) rfl ?_
  refine .done ?_
  refine .seq ?_
  refine .condD rfl (fun h9 => ?_) (fun h9 => ?_)
  · refine .skip ?_
    refine .seq ?_
    refine .block ?_
    refine .seq ?_
    refine .region ?_
    refine .q (q_mv rfl) rfl ?_
    refine .q (q_as rfl) rfl ?_
    refine .done ?_
    refine .seq ?_
    refine .region ?_
    refine .q (q_mv rfl) rfl ?_
    refine .q (q_mv rfl) rfl ?_
    refine .q (q_mv rfl) rfl ?_
    refine .q (q_iaVm rfl rfl rfl (by omega)) rfl ?_
    refine .q (q_ldVm rfl (by omega)) rfl ?_
    refine .l (l_callv rfl rfl (closure_spec l[i])) rfl ?_
    rintro _ _ ⟨_, ⟨rfl, rfl⟩, rfl⟩
    refine .done ?_
    refine .condDF rfl ((hn _ (List.getElem_mem _))) ?_
    refine .skip ?_
    refine .inBlock ?_
    refine .region ?_
    refine .q (q_add rfl rfl (by omega)) rfl ?_
    refine .q (q_mv rfl) rfl ?_
    refine .done ?_
    exact G.again (IH (i + 1) (by omega) (by omega)) ⟨rfl, rfl, rfl, rfl, trivial⟩
  · refine .exit rfl ?_
    refine .seq ?_
    refine .region ?_
    refine .q (q_as rfl) rfl ?_
    refine .done ?_
    exact G.retN (ts := [4]) Try.func32 Try.results32 rfl (⟨rfl, rfl⟩)
theorem delfunc_spec (x : Value) (l : List B) (hl : l.length ≤ 1000000) (hn : ∀ k ∈ l, k ≠ []) : Spec Try.prog 29 [x, .func (.func 30) #[] #[]] [vec 1 x (strs l)] (Is x [vec 1 x (strs l)]) := by
  refine Spec.enter Try.func29 rfl Try.ntmps29 rfl ?_
  refine .seq ?_
  refine .region ?_
  refine .q (q_as rfl) rfl ?_
  refine .done ?_
  refine .seq ?_
  refine .region ?_
  refine .q (q_mv rfl) rfl ?_
  refine .q (q_mv rfl) rfl ?_
  refine .l (l_call (index_spec x l hl hn) rfl) rfl ?_
  rintro _ _ ⟨_, ⟨rfl, rfl⟩, rfl⟩
  refine .q (q_as rfl) rfl ?_
  refine .done ?_
  refine .seq ?_
  refine .seq ?_
  refine .region ?_
  refine .q (q_mv rfl) rfl ?_
  refine .q (q_eq rfl rfl) rfl ?_
  refine .done ?_
  refine .condDT rfl (rfl) ?_
  refine .seq ?_
  refine .region ?_
  refine .q (q_mv rfl) rfl ?_
  refine .q (q_as rfl) rfl ?_
  refine .done ?_
  exact G.retN (ts := [4]) Try.func29 Try.results29 rfl (⟨rfl, rfl⟩)
theorem lsk_ne {K : List B} {pre pfx after : B} {m : Nat} {k : B} (h : k ∈ lsk K pre pfx after m) : k ≠ [] := fun e => by
  obtain ⟨_, h2, _⟩ := lsk_mem h
  subst e; exact List.not_lt_nil _ h2
def cutd (n : Nat) (L : List B) (i : Nat) : List B := (L.take i).map (·.drop n) ++ L.drop i
theorem cutd_len (n : Nat) (L : List B) (i : Nat) : (cutd n L i).length = L.length := by simp [cutd]; omega
theorem cutd_get (n : Nat) (L : List B) (i : Nat) (h : i < L.length) (h' : i < (cutd n L i).length) : (cutd n L i)[i] = L[i] := by
  simp only [cutd]
  rw [List.getElem_append_right (by simp; omega)]
  simp [Nat.min_eq_left (Nat.le_of_lt h)]
theorem cutd_set (n : Nat) (L : List B) (i : Nat) (h : i < L.length) : (strs (cutd n L i)).set i (str (L[i].drop n)) = strs (cutd n L (i + 1)) := by
  rw [strs, map_set (fun k => str k)]
  congr 1
  have hm : ((L.take i).map (·.drop n)).length = i := by simp; omega
  simp only [cutd]
  rw [List.set_append_right _ _ (by omega), hm, Nat.sub_self, List.drop_eq_getElem_cons h, List.set_cons_zero, List.take_succ_eq_append_getElem h, List.map_append]
  simp
theorem vlist_spec (x a : Nat) (M : Bk) (hn : (M.map Prod.fst).Nodup) (hsz : M.length ≤ 1000000) (hk : ∀ k ∈ M.map Prod.fst, k.length ≤ 198) (pre pfx after : B) (hp : pre.length ≤ 100) (hpf : pfx.length ≤ 140737488355328) (haf : after.length ≤ 140737488355328) (most : Int) (hm : 0 ≤ most) :
    Spec Try.prog 18 [pB a, str pfx, str after, i64 most] [vw x a pre, memAt x M]
      (fun v Γ' => ∃ y, One y ∧ v = .tuple #[y, i64 0] ∧ Γ' = [vec 1 y (strs (lsk ((M.map Prod.fst).mergeSort leB) pre pfx after most.toNat)), vw x a pre, memAt x M]) := by
  refine Spec.enter Try.func18 rfl Try.ntmps18 rfl ?_
  refine .seq ?_
  refine .region ?_
  refine .q (q_as rfl) rfl ?_
  refine .q (q_as rfl) rfl ?_
  refine .done ?_
  refine .seq ?_
  refine .block ?_
  refine .seq ?_
  refine .region ?_
  refine .q (q_mv rfl) rfl ?_
  refine .q (q_pnil rfl rfl) rfl ?_
  refine .q (q_as rfl) rfl ?_
  refine .done ?_
  refine .condDF rfl ((by simp)) ?_
  refine .seq ?_
  refine .region ?_
  refine .q (q_mv rfl) rfl ?_
  refine .q (q_lt rfl rfl) rfl ?_
  refine .q (q_as rfl) rfl ?_
  refine .done ?_
  refine .condDF rfl ((by omega)) ?_
  refine .skip ?_
  refine .inBlock ?_
  refine .seq ?_
  refine G.regionD [19] ?_
  refine .q 0 rfl (by kernel_rfl) (q_mv rfl) rfl ?_
  refine .q 1 rfl (by kernel_rfl) (q_nil rfl) rfl ?_
  refine .q 2 rfl (by kernel_rfl) (q_fa0 rfl) rfl ?_
  refine .q 3 rfl (by kernel_rfl) (q_ld rfl rfl) rfl ?_
  refine .q 4 rfl (by kernel_rfl) (q_mv rfl) rfl ?_
  refine .q 5 rfl (by kernel_rfl) (q_nil rfl) rfl ?_
  refine .q 6 rfl (by kernel_rfl) (q_fa0 rfl) rfl ?_
  refine .q 7 rfl (by kernel_rfl) (q_ld rfl rfl) rfl ?_
  refine .q 8 rfl (by kernel_rfl) (q_mv rfl) rfl ?_
  refine .q 9 rfl (by kernel_rfl) (q_sadd rfl rfl (by first | omega | (simp; omega))) rfl ?_
  refine .q 10 rfl (by kernel_rfl) (q_mv rfl) rfl ?_
  refine .q 11 rfl (by kernel_rfl) (q_nil rfl) rfl ?_
  refine .q 12 rfl (by kernel_rfl) (q_fa0 rfl) rfl ?_
  refine .q 13 rfl (by kernel_rfl) (q_ld rfl rfl) rfl ?_
  refine .q 14 rfl (by kernel_rfl) (q_mv rfl) rfl ?_
  refine .q 15 rfl (by kernel_rfl) (q_sadd rfl rfl (by first | omega | (simp; omega))) rfl ?_
  refine .q 16 rfl (by kernel_rfl) (q_mv rfl) rfl ?_
  refine .q 17 rfl (by kernel_rfl) (q_nilI rfl) rfl ?_
  refine .q 18 rfl (by kernel_rfl) (q_mv rfl) rfl ?_
  refine .l 19 rfl (by kernel_rfl) (l_inv rfl rfl (mem_list_spec x M hn hsz (fun k h => Nat.le_trans (hk k h) (by omega)) (pre ++ pfx) (pre ++ after) most hm)) (.inl rfl) rfl ?_
  rintro _ _ ⟨_, ⟨y, iy, rfl, rfl⟩, rfl⟩
  refine .q 20 rfl (by kernel_rfl) (q_mv rfl) rfl ?_
  refine .q 21 rfl (by kernel_rfl) (q_ex rfl rfl) rfl ?_
  refine .q 22 rfl (by kernel_rfl) (q_ex rfl rfl) rfl ?_
  refine .q 23 rfl (by kernel_rfl) (q_as rfl) rfl ?_
  refine .q 24 rfl (by kernel_rfl) (q_as rfl) rfl ?_
  refine .done (by kernel_rfl) ?_
  refine .seq ?_
  refine .seq ?_
  refine .region ?_
  refine .q (q_mv rfl) rfl ?_
  refine .q (q_ne rfl rfl) rfl ?_
  refine .done ?_
  refine .condDF rfl ((by simp)) ?_
  obtain ⟨L, hL⟩ : ∃ L, lsk ((M.map Prod.fst).mergeSort leB) [] (pre ++ pfx) (pre ++ after) most.toNat = L := ⟨_, rfl⟩
  have hLl : L.length ≤ 1000000 := by rw [← hL]; exact Nat.le_trans (lsk_len _ _ _ _ _) (by rw [List.length_mergeSort, List.length_map]; exact hsz)
  have hLp : ∀ k ∈ L, pre.length ≤ k.length := fun k hk => by rw [← hL] at hk; have := (lsk_mem hk).2.2.length_le; rw [List.length_append] at this; omega
  have hLe : L.map (·.drop pre.length) = lsk ((M.map Prod.fst).mergeSort leB) pre pfx after most.toNat := by rw [← hL]; exact lsk_nil _ _ _ _ _
  rw [hL]
  refine G.conseq (Γ' := [vec 1 y (strs (cutd pre.length L 0)), memAt x M, vw x a pre]) (fun _ s => s) ?_
  refine .skip ?_
  refine .seq ?_
  refine .seq ?_
  refine .region ?_
  refine .q (q_mv rfl) rfl ?_
  refine .q (q_lenVm (l := cutd pre.length L 0) rfl) rfl ?_
  refine .q (q_mv rfl) rfl ?_
  refine .done ?_
  refine .block ?_
  refine G.loop (σ := Nat) (fun i => [(0, pB a), (10, y), (46, i64 ((cutd pre.length L 0).length : Int)), (47, i64 (i : Int))]) (fun i => [vec 1 y (strs (cutd pre.length L i)), memAt x M, vw x a pre]) (fun i => i ≤ L.length) (fun i => L.length - i) (0) ⟨rfl, rfl, rfl, rfl, trivial⟩ (by omega) ?_
  rintro i hi IH
  have h0 := cutd_len pre.length L 0
  have hil := cutd_len pre.length L i
  refine .seq ?_
  refine .region ?_
  refine .q (q_lt rfl rfl) rfl ?_
  refine .done ?_
  refine .seq ?_
  refine .condD rfl (fun h48 => ?_) (fun h48 => ?_)
  · have hlt : i < L.length := by omega
    have hg := cutd_get pre.length L i hlt (by omega)
    have hpl := hLp L[i] (List.getElem_mem _)
    refine .skip ?_
    refine .seq ?_
    refine .block ?_
    refine .seq ?_
    refine .region ?_
    refine .q (q_mv rfl) rfl ?_
    refine .q (q_as rfl) rfl ?_
    refine .done ?_
    refine G.regionD [13] ?_
    refine .q 0 rfl (by kernel_rfl) (q_mv rfl) rfl ?_
    refine .q 1 rfl (by kernel_rfl) (q_mv rfl) rfl ?_
    refine .q 2 rfl (by kernel_rfl) (q_mv rfl) rfl ?_
    refine .q 3 rfl (by kernel_rfl) (q_mv rfl) rfl ?_
    refine .q 4 rfl (by kernel_rfl) (q_iaVm rfl rfl rfl (by omega)) rfl ?_
    refine .q 5 rfl (by kernel_rfl) (q_ldVm rfl (by omega)) rfl ?_
    refine .q 6 rfl (by kernel_rfl) (q_mv rfl) rfl ?_
    refine .q 7 rfl (by kernel_rfl) (q_nil rfl) rfl ?_
    refine .q 8 rfl (by kernel_rfl) (q_fa0 rfl) rfl ?_
    refine .q 9 rfl (by kernel_rfl) (q_ld rfl rfl) rfl ?_
    refine .q 10 rfl (by kernel_rfl) (q_lenS rfl) rfl ?_
    refine .q 11 rfl (by kernel_rfl) (q_slS1 rfl rfl (by rw [hg]; exact hpl)) rfl ?_
    refine .q 12 rfl (by kernel_rfl) (q_iaVm rfl rfl rfl (by omega)) rfl ?_
    refine .s0 13 rfl (by kernel_rfl) (l_stV (xs' := strs (cutd pre.length L (i + 1))) rfl rfl (by rw [List.length_map]; omega) (by rw [hg]; exact cutd_set pre.length L i hlt)) rfl ?_
    refine .done (by kernel_rfl) ?_
    refine .inBlock ?_
    refine .region ?_
    refine .q (q_add rfl rfl (by omega)) rfl ?_
    refine .q (q_mv rfl) rfl ?_
    refine .done ?_
    exact G.again (IH (i + 1) (by omega) (by omega)) ⟨rfl, rfl, rfl, rfl, trivial⟩
  · have hiL : i = L.length := by omega
    have hcf : cutd pre.length L L.length = lsk ((M.map Prod.fst).mergeSort leB) pre pfx after most.toNat := by rw [← hLe]; simp [cutd]
    rw [hiL, hcf]
    refine .exit rfl ?_
    refine .seq ?_
    refine .region ?_
    refine .q (q_mv rfl) rfl ?_
    refine .l (l_call (delfunc_spec y (lsk ((M.map Prod.fst).mergeSort leB) pre pfx after most.toNat) (by rw [← hLe, List.length_map]; exact hLl) (fun k hk => lsk_ne hk)) rfl) rfl ?_
    rintro y2 _ ⟨_, ⟨rfl, rfl⟩, rfl⟩
    refine .q (q_as rfl) rfl ?_
    refine .q (q_as rfl) rfl ?_
    refine .done ?_
    exact G.retN (ts := [8, 9]) Try.func18 Try.results18 rfl (⟨y2, iy, rfl, rfl⟩)

theorem clr_nodup (pre : B) (l : List B) : ∀ b : Bk, (b.map Prod.fst).Nodup → ((clr b pre l).map Prod.fst).Nodup := by
  induction l with
  | nil => intro b h; exact h
  | cons k l ih => intro b h; exact ih (mdel b (pre ++ k)) (h.sublist ((mdel_sub b (pre ++ k)).map _))
theorem vclear_spec (x a : Nat) (M : Bk) (hn : (M.map Prod.fst).Nodup) (hsz : M.length ≤ 1000000) (hk : ∀ k ∈ M.map Prod.fst, k.length ≤ 198) (pre pfx : B) (hp : pre.length ≤ 100) (hpf : pfx.length ≤ 140737488355328) :
    Spec Try.prog 21 [pB a, str pfx] [vw x a pre, memAt x M]
      (Is (.tuple #[i64 ((lsk ((M.map Prod.fst).mergeSort leB) pre pfx [] 2147483648).length : Int), i64 0]) [vw x a pre, memAt x (clr M pre (lsk ((M.map Prod.fst).mergeSort leB) pre pfx [] 2147483648))]) := by
  refine Spec.enter Try.func21 rfl Try.ntmps21 rfl ?_
  refine .seq ?_
  refine .region ?_
  refine .q (q_as rfl) rfl ?_
  refine .q (q_as rfl) rfl ?_
  refine .done ?_
  refine .seq ?_
  refine .region ?_
  refine .q (q_mv rfl) rfl ?_
  refine .q (q_mv rfl) rfl ?_
  refine .l (l_call (vlist_spec x a M hn hsz hk pre pfx [] hp hpf (by simp) 2147483648 (by omega)) rfl) rfl ?_
  rintro _ _ ⟨_, ⟨y, iy, rfl, rfl⟩, rfl⟩
  refine .q (q_mv rfl) rfl ?_
  refine .q (q_ex rfl rfl) rfl ?_
  refine .q (q_ex rfl rfl) rfl ?_
  refine .q (q_as rfl) rfl ?_
  refine .q (q_as rfl) rfl ?_
  refine .done ?_
  refine .seq ?_
  refine .seq ?_
  refine .region ?_
  refine .q (q_mv rfl) rfl ?_
  refine .q (q_ne rfl rfl) rfl ?_
  refine .done ?_
  refine .condDF rfl ((by simp)) ?_
  obtain ⟨l, hll⟩ : ∃ l, lsk ((M.map Prod.fst).mergeSort leB) pre pfx [] 2147483648 = l := ⟨_, rfl⟩
  have hok : ∀ k ∈ l, okk pre k := fun k hk2 => lsk_okk (K := (M.map Prod.fst).mergeSort leB) (fun a ha => hk a ((List.mergeSort_perm _ _).mem_iff.1 ha)) (by rw [hll]; exact hk2)
  have hln : l.length ≤ 1000000 := by rw [← hll]; exact Nat.le_trans (lsk_len _ _ _ _ _) (by rw [List.length_mergeSort, List.length_map]; exact hsz)
  refine G.conseq (Γ' := [vec 1 y (strs (lsk ((M.map Prod.fst).mergeSort leB) pre pfx [] 2147483648)), vw x a pre, memAt x M]) (fun _ s => s) ?_
  rw [hll]
  refine G.conseq (Γ' := [vec 1 y (strs l), vw x a pre, memAt x (clr M pre (l.take 0))]) (fun _ s => s) ?_
  refine .skip ?_
  refine .seq ?_
  refine .seq ?_
  refine .region ?_
  refine .q (q_mv rfl) rfl ?_
  refine .q (q_lenVm rfl) rfl ?_
  refine .q (q_mv rfl) rfl ?_
  refine .done ?_
  refine .block ?_
  refine G.loop (σ := Nat) (fun i => [(0, pB a), (21, y), (6, y), (22, i64 (l.length : Int)), (23, i64 (i : Int))]) (fun i => [vec 1 y (strs l), vw x a pre, memAt x (clr M pre (l.take i))]) (fun i => i ≤ l.length) (fun i => l.length - i) (0) ⟨rfl, rfl, rfl, rfl, rfl, trivial⟩ (by omega) ?_
  rintro i hi IH
  refine .seq ?_
  refine .region ?_
  refine .q (q_lt rfl rfl) rfl ?_
  refine .done ?_
  refine .seq ?_
  refine .condD rfl (fun h24 => ?_) (fun h24 => ?_)
  · have hil : i < l.length := by omega
    have hoki := hok l[i] (List.getElem_mem _)
    refine .skip ?_
    refine .seq ?_
    refine .block ?_
    refine .seq ?_
    refine .region ?_
    refine .q (q_iaVm rfl rfl rfl (by omega)) rfl ?_
    refine .q (q_ldVm rfl (by omega)) rfl ?_
    refine .q (q_as rfl) rfl ?_
    refine .done ?_
    refine .seq ?_
    refine .region ?_
    refine .q (q_mv rfl) rfl ?_
    refine .q (q_mv rfl) rfl ?_
    refine .l (l_call (vdel_spec x a (clr M pre (l.take i)) pre l[i] hp (by have := hoki.2; omega)) rfl) rfl ?_
    rintro _ _ ⟨_, ⟨rfl, rfl⟩, rfl⟩
    rw [if_pos hoki, if_pos hoki, ← clr_snoc M pre hil]
    refine .q (q_mv rfl) rfl ?_
    refine .q (q_ex rfl rfl) rfl ?_
    refine .q (q_ex rfl rfl) rfl ?_
    refine .q (q_as rfl) rfl ?_
    refine .q (q_as rfl) rfl ?_
    refine .done ?_
    refine .seq ?_
    refine .region ?_
    refine .q (q_mv rfl) rfl ?_
    refine .q (q_ne rfl rfl) rfl ?_
    refine .done ?_
    refine .condDF rfl ((by simp)) ?_
    refine .skip ?_
    refine .inBlock ?_
    refine .region ?_
    refine .q (q_add rfl rfl (by omega)) rfl ?_
    refine .q (q_mv rfl) rfl ?_
    refine .done ?_
    exact G.again (IH (i + 1) (by omega) (by omega)) ⟨rfl, rfl, rfl, rfl, rfl, trivial⟩
  · have hil : i = l.length := by omega
    rw [hil, List.take_length]
    refine .exit rfl ?_
    refine .seq ?_
    refine .region ?_
    refine .q (q_mv rfl) rfl ?_
    refine .q (q_lenVm rfl) rfl ?_
    refine .q (q_as rfl) rfl ?_
    refine .q (q_as rfl) rfl ?_
    refine .done ?_
    exact G.retN (ts := [4, 5]) Try.func21 Try.results21 rfl (⟨rfl, rfl⟩)
end Go.Sl
