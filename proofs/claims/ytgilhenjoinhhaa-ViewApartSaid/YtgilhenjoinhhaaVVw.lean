/- A space in memory, and a view of it: what their calls do. -/
import Derived.Test.YtgilhenjoinhhaaVSo
set_option linter.unusedVariables false
set_option linter.unusedSimpArgs false
namespace Go.Sl
open Go.Proofs

theorem meth_of {T : TypeId} {name : String} {f : FuncId} (h : ∀ v w, (method (Try.prog.types.size + Made.depth) T v name).run Try.prog w = .ok (f, v) w) : Meth Try.prog T name f := ⟨h⟩
instance : Meth Try.prog 48 "Get" 54 := ⟨fun v w => by kernel_rfl⟩
instance : Meth Try.prog 48 "Put" 56 := ⟨fun v w => by kernel_rfl⟩
instance : Meth Try.prog 48 "Delete" 53 := ⟨fun v w => by kernel_rfl⟩
instance : Meth Try.prog 48 "List" 55 := ⟨fun v w => by kernel_rfl⟩
abbrev vV (v : B) : Value := .agg [str v].toArray
abbrev mm (M : Bk) : List (B × Value) := M.map fun p => (p.1, vV p.2)
def memAt (x : Nat) (M : Bk) : HP := fun h => ∃ m, Sat [blk x [.map (some m)], mapAt kS m (mm M)] h
theorem memAt.out (x : Nat) (M : Bk) : ∀ h, memAt x M h → ∃ m, Sat [blk x [.map (some m)], mapAt kS m (mm M)] h := fun _ s => s
theorem memAt.mk {x m : Nat} (M : Bk) : ∀ h, Sat [blk x [.map (some m)], mapAt kS m (mm M)] h → memAt x M h := fun _ s => ⟨m, s⟩
theorem mm_get (M : Bk) (k : B) : mget (mm M) k = (mget M k).map vV := mget_map vV M k
theorem mm_put (M : Bk) (k v : B) : mput (mm M) k (vV v) = mm (mput M k v) := mput_map vV M k v
theorem mm_del (M : Bk) (k : B) : mdel (mm M) k = mm (mdel M k) := mdel_map vV M k

theorem mem_get_spec (x : Nat) (M : Bk) (k : B) : Spec Try.prog 54 [pB x, str k] [memAt x M] (Is (getV (mget M k)) [memAt x M]) := by
  refine Spec.enter Try.func54 rfl Try.ntmps54 rfl ?_
  refine G.open1 (memAt.out x M) ?_
  intro m
  rcases hb : mget M k with _ | v
  · refine .seq ?_
    refine .region ?_
    refine .q (q_as rfl) rfl ?_
    refine .q (q_as rfl) rfl ?_
    refine .q (q_as rfl) rfl ?_
    refine .done ?_
    refine .seq ?_
    refine .region ?_
    refine .q (q_mv rfl) rfl ?_
    refine .q (q_nil rfl) rfl ?_
    refine .q (q_fa0 rfl) rfl ?_
    refine .q (q_ld rfl rfl) rfl ?_
    refine .q (q_mv rfl) rfl ?_
    refine .q (q_look2N (κ := kS) rfl rfl (by rw [mm_get, hb]; rfl)) rfl ?_
    refine .q (q_mv rfl) rfl ?_
    refine .q (q_ex rfl rfl) rfl ?_
    refine .q (q_ex rfl rfl) rfl ?_
    refine .a (l_alloc) rfl fun r7 => ?_
    refine .s0 (l_stw rfl rfl) ?_
    refine .q (q_as rfl) rfl ?_
    refine .done ?_
    refine .seq ?_
    refine .region ?_
    refine .q (q_fa0 rfl) rfl ?_
    refine .q (q_ld rfl rfl) rfl ?_
    refine .q (q_mv rfl) rfl ?_
    refine .q (q_as rfl) rfl ?_
    refine .q (q_as rfl) rfl ?_
    refine .q (q_as rfl) rfl ?_
    refine .done ?_
    refine G.fold (memAt.mk (x := x) (m := m) M) ?_
    exact G.retN (ts := [4, 5, 6]) Try.func54 Try.results54 rfl (⟨rfl, rfl⟩)
  · refine .seq ?_
    refine .region ?_
    refine .q (q_as rfl) rfl ?_
    refine .q (q_as rfl) rfl ?_
    refine .q (q_as rfl) rfl ?_
    refine .done ?_
    refine .seq ?_
    refine .region ?_
    refine .q (q_mv rfl) rfl ?_
    refine .q (q_nil rfl) rfl ?_
    refine .q (q_fa0 rfl) rfl ?_
    refine .q (q_ld rfl rfl) rfl ?_
    refine .q (q_mv rfl) rfl ?_
    refine .q (q_look2S (κ := kS) rfl rfl (by rw [mm_get, hb]; rfl)) rfl ?_
    refine .q (q_mv rfl) rfl ?_
    refine .q (q_ex rfl rfl) rfl ?_
    refine .q (q_ex rfl rfl) rfl ?_
    refine .a (l_alloc) rfl fun r7 => ?_
    refine .s0 (l_stw rfl rfl) ?_
    refine .q (q_as rfl) rfl ?_
    refine .done ?_
    refine .seq ?_
    refine .region ?_
    refine .q (q_fa0 rfl) rfl ?_
    refine .q (q_ld rfl rfl) rfl ?_
    refine .q (q_mv rfl) rfl ?_
    refine .q (q_as rfl) rfl ?_
    refine .q (q_as rfl) rfl ?_
    refine .q (q_as rfl) rfl ?_
    refine .done ?_
    refine G.fold (memAt.mk (x := x) (m := m) M) ?_
    exact G.retN (ts := [4, 5, 6]) Try.func54 Try.results54 rfl (⟨rfl, rfl⟩)
theorem mem_put_spec (x : Nat) (M : Bk) (hM : M.length ≤ 1000000) (k v : B) : Spec Try.prog 56 [pB x, str k, str v] [memAt x M] (Is (i64 0) [memAt x (mput M k v)]) := by
  refine Spec.enter Try.func56 rfl Try.ntmps56 rfl ?_
  refine G.open1 (memAt.out x M) ?_
  intro m
  refine .seq ?_
  refine .region ?_
  refine .q (q_as rfl) rfl ?_
  refine .done ?_
  refine .seq ?_
  refine .region ?_
  refine .q (q_mv rfl) rfl ?_
  refine .q (q_nil rfl) rfl ?_
  refine .q (q_fa0 rfl) rfl ?_
  refine .q (q_ld rfl rfl) rfl ?_
  refine .q (q_mv rfl) rfl ?_
  refine .q (q_mv rfl) rfl ?_
  refine .q (q_bst rfl) rfl ?_
  refine .s0 (l_mapu (κ := kS) rfl rfl rfl) ?_
  refine .done ?_
  refine .seq ?_
  refine .region ?_
  refine .q (q_as rfl) rfl ?_
  refine .done ?_
  refine G.fold (X := memAt x (mput M k v)) (Δ := [blk x [.map (some m)], mapAt kS m (mput (mm M) k (vV v))]) (by rw [mm_put]; exact memAt.mk (mput M k v)) ?_
  exact G.retN (ts := [6]) Try.func56 Try.results56 rfl (⟨rfl, rfl⟩)
theorem mem_del_spec (x : Nat) (M : Bk) (k : B) : Spec Try.prog 53 [pB x, str k] [memAt x M] (Is (.tuple #[.bool (decide (mget M k ≠ none)), i64 0]) [memAt x (mdel M k)]) := by
  refine Spec.enter Try.func53 rfl Try.ntmps53 rfl ?_
  refine G.open1 (memAt.out x M) ?_
  intro m
  rcases hb : mget M k with _ | v
  · refine .seq ?_
    refine .region ?_
    refine .q (q_as rfl) rfl ?_
    refine .q (q_as rfl) rfl ?_
    refine .done ?_
    refine .seq ?_
    refine .region ?_
    refine .q (q_mv rfl) rfl ?_
    refine .q (q_nil rfl) rfl ?_
    refine .q (q_fa0 rfl) rfl ?_
    refine .q (q_ld rfl rfl) rfl ?_
    refine .q (q_mv rfl) rfl ?_
    refine .q (q_look2N (κ := kS) rfl rfl (by rw [mm_get, hb]; rfl)) rfl ?_
    refine .q (q_mv rfl) rfl ?_
    refine .q (q_ex rfl rfl) rfl ?_
    refine .q (q_ex rfl rfl) rfl ?_
    refine .a (l_alloc) rfl fun r6 => ?_
    refine .s0 (l_stw rfl rfl) ?_
    refine .q (q_as rfl) rfl ?_
    refine .done ?_
    refine .seq ?_
    refine .region ?_
    refine .q (q_mv rfl) rfl ?_
    refine .q (q_nil rfl) rfl ?_
    refine .q (q_fa0 rfl) rfl ?_
    refine .q (q_ld rfl rfl) rfl ?_
    refine .q (q_mv rfl) rfl ?_
    refine .s0 (l_mapd (κ := kS) rfl rfl) ?_
    refine .done ?_
    refine .seq ?_
    refine .region ?_
    refine .q (q_mv rfl) rfl ?_
    refine .q (q_as rfl) rfl ?_
    refine .q (q_as rfl) rfl ?_
    refine .done ?_
    refine G.fold (X := memAt x (mdel M k)) (Δ := [blk x [.map (some m)], mapAt kS m (mdel (mm M) k)]) (by rw [mm_del]; exact memAt.mk (mdel M k)) ?_
    exact G.retN (ts := [4, 5]) Try.func53 Try.results53 rfl (⟨rfl, rfl⟩)
  · refine .seq ?_
    refine .region ?_
    refine .q (q_as rfl) rfl ?_
    refine .q (q_as rfl) rfl ?_
    refine .done ?_
    refine .seq ?_
    refine .region ?_
    refine .q (q_mv rfl) rfl ?_
    refine .q (q_nil rfl) rfl ?_
    refine .q (q_fa0 rfl) rfl ?_
    refine .q (q_ld rfl rfl) rfl ?_
    refine .q (q_mv rfl) rfl ?_
    refine .q (q_look2S (κ := kS) rfl rfl (by rw [mm_get, hb]; rfl)) rfl ?_
    refine .q (q_mv rfl) rfl ?_
    refine .q (q_ex rfl rfl) rfl ?_
    refine .q (q_ex rfl rfl) rfl ?_
    refine .a (l_alloc) rfl fun r6 => ?_
    refine .s0 (l_stw rfl rfl) ?_
    refine .q (q_as rfl) rfl ?_
    refine .done ?_
    refine .seq ?_
    refine .region ?_
    refine .q (q_mv rfl) rfl ?_
    refine .q (q_nil rfl) rfl ?_
    refine .q (q_fa0 rfl) rfl ?_
    refine .q (q_ld rfl rfl) rfl ?_
    refine .q (q_mv rfl) rfl ?_
    refine .s0 (l_mapd (κ := kS) rfl rfl) ?_
    refine .done ?_
    refine .seq ?_
    refine .region ?_
    refine .q (q_mv rfl) rfl ?_
    refine .q (q_as rfl) rfl ?_
    refine .q (q_as rfl) rfl ?_
    refine .done ?_
    refine G.fold (X := memAt x (mdel M k)) (Δ := [blk x [.map (some m)], mapAt kS m (mdel (mm M) k)]) (by rw [mm_del]; exact memAt.mk (mdel M k)) ?_
    exact G.retN (ts := [4, 5]) Try.func53 Try.results53 rfl (⟨rfl, rfl⟩)
theorem keys_spec (m : Nat) : Spec Try.prog 58 [.map (some m)] [] (fun v Γ' => ∃ r, v = .func (.func 62) #[] #[pB r] ∧ Γ' = [blk r [.map (some m)]]) := by
  refine Spec.enter Try.func58 rfl Try.ntmps58 rfl ?_
  refine .seq ?_
  refine .region ?_
  refine .a (l_box rfl) rfl fun r1 => ?_
  refine .q (q_as rfl) rfl ?_
  refine .done ?_
  refine .seq ?_
  refine .region ?_
  refine .q (q_mkf rfl) rfl ?_
  refine .q (q_as rfl) rfl ?_
  refine .done ?_
  exact G.retN (ts := [2]) Try.func58 Try.results58 rfl (⟨r1, rfl, rfl⟩)
theorem sorted_spec (m r : Nat) (M : List (B × Value)) (hn : (M.map Prod.fst).Nodup) (hsz : M.length ≤ 1000000) (hk : ∀ a ∈ M.map Prod.fst, a.length ≤ 140737488355328) :
    Spec Try.prog 57 [.func (.func 62) #[] #[pB r]] [blk r [.map (some m)], mapAt kS m M]
      (fun v Γ' => ∃ x, One x ∧ v = x ∧ Γ' = [vec 1 x (strs ((M.map Prod.fst).mergeSort leB)), mapAt kS m M]) := by
  refine Spec.enter Try.func57 rfl Try.ntmps57 rfl ?_
  refine .seq ?_
  refine .region ?_
  refine .q (q_as rfl) rfl ?_
  refine .done ?_
  refine .seq ?_
  refine .region ?_
  refine .q (q_mv rfl) rfl ?_
  refine .l (l_call (collect_spec m r M hn hsz hk) rfl) rfl ?_
  rintro v5 _ ⟨_, ⟨ss, i5, hp, rfl⟩, rfl⟩
  refine .q (q_as rfl) rfl ?_
  refine .done ?_
  have hll : ss.length < 4611686018427387904 := by rw [hp.length_eq, List.length_map]; omega
  have hss : ss.mergeSort leB = (M.map Prod.fst).mergeSort leB := mergeSort_of_perm hp
  refine .seq ?_
  refine .region ?_
  refine .q (q_mv rfl) rfl ?_
  refine .l (l_call (sort_spec v5 ss hll) rfl) rfl ?_
  rintro _ _ ⟨_, ⟨rfl, rfl⟩, rfl⟩
  refine .done ?_
  refine .seq ?_
  refine .region ?_
  refine .q (q_mv rfl) rfl ?_
  refine .q (q_as rfl) rfl ?_
  refine .done ?_
  rw [hss]
  exact G.retN (ts := [2]) Try.func57 Try.results57 rfl (⟨v5, i5, rfl, rfl⟩)
theorem hasp_spec (s w : B) : Spec Try.prog 59 [str s, str w] [] (Is (.bool (decide (w <+: s))) []) := by
  have h1 : Spec Try.prog 63 [str s, str w] [] (Is (.bool (decide (w <+: s))) []) := by
    refine Spec.enter Try.func63 rfl Try.ntmps63 rfl ?_
    refine .seq ?_
    refine .region ?_
    refine .q (q_as rfl) rfl ?_
    refine .done ?_
    refine .seq ?_
    refine .region ?_
    refine .q (q_mv rfl) rfl ?_
    refine .q (q_lenS rfl) rfl ?_
    refine .q (q_mv rfl) rfl ?_
    refine .q (q_lenS rfl) rfl ?_
    refine .q (q_ge rfl rfl) rfl ?_
    refine .q (q_mv rfl) rfl ?_
    refine GR.casesD (t := 10) rfl (fun h10 => ?_) (fun h10 => ?_)
    · refine .yes rfl rfl rfl ?_
      refine .q (q_mv rfl) rfl ?_
      refine .yes rfl rfl rfl ?_
      refine .q (q_mv rfl) rfl ?_
      refine .yes rfl rfl rfl ?_
      refine .q (q_lenS rfl) rfl ?_
      refine .yes rfl rfl rfl ?_
      refine .q (q_slS2 rfl rfl (by omega)) rfl ?_
      refine .yes rfl rfl rfl ?_
      refine .q (q_mv rfl) rfl ?_
      refine .yes rfl rfl rfl ?_
      refine .q (q_seq rfl rfl) rfl ?_
      refine .q (q_pickT rfl rfl) rfl ?_
      refine .q (q_as rfl) rfl ?_
      refine .done ?_
      exact G.retN (ts := [4]) Try.func63 Try.results63 rfl (⟨congrArg Value.bool (decide_eq_decide.2 ⟨fun h => List.prefix_iff_eq_take.2 h.symm, fun h => (List.prefix_iff_eq_take.1 h).symm⟩), rfl⟩)
    · refine .no rfl rfl rfl rfl rfl ?_
      refine .no rfl rfl rfl rfl rfl ?_
      refine .no rfl rfl rfl rfl rfl ?_
      refine .no rfl rfl rfl rfl rfl ?_
      refine .no rfl rfl rfl rfl rfl ?_
      refine .no rfl rfl rfl rfl rfl ?_
      refine .q (q_pickF rfl rfl) rfl ?_
      refine .q (q_as rfl) rfl ?_
      refine .done ?_
      exact G.retN (ts := [4]) Try.func63 Try.results63 rfl (⟨congrArg Value.bool (decide_eq_false (fun h => by have := h.length_le; omega)).symm, rfl⟩)
  refine Spec.enter Try.func59 rfl Try.ntmps59 rfl ?_
  refine .seq ?_
  refine .region ?_
  refine .q (q_as rfl) rfl ?_
  refine .done ?_
  refine .seq ?_
  refine .region ?_
  refine .q (q_mv rfl) rfl ?_
  refine .q (q_mv rfl) rfl ?_
  refine .l (l_call (h1) rfl) rfl ?_
  rintro _ _ ⟨_, ⟨rfl, rfl⟩, rfl⟩
  refine .q (q_as rfl) rfl ?_
  refine .done ?_
  exact G.retN (ts := [4]) Try.func59 Try.results59 rfl (⟨rfl, rfl⟩)
theorem lt_append (p a b : B) : p ++ a < p ++ b ↔ a < b := by
  induction p with
  | nil => exact Iff.rfl
  | cons x p ih => rw [List.cons_append, List.cons_append, List.cons_lt_cons_iff]; simp [ih, UInt8.lt_irrefl]
theorem lsP_nil (pre pfx after k : B) : lsP [] (pre ++ pfx) (pre ++ after) k = lsP pre pfx after k := by
  unfold lsP
  by_cases h : (pre ++ pfx) <+: k
  · obtain ⟨t, rfl⟩ := h
    simp only [List.nil_append, List.length_nil, List.drop_zero, List.append_assoc, List.drop_left, lt_append]
  · simp [h]
theorem lsk_nil (K : List B) (pre pfx after : B) (m : Nat) : (lsk K [] (pre ++ pfx) (pre ++ after) m).map (·.drop pre.length) = lsk K pre pfx after m := by
  unfold lsk
  have : (fun k => lsP [] (pre ++ pfx) (pre ++ after) k) = lsP pre pfx after := funext fun k => lsP_nil pre pfx after k
  rw [show lsP [] (pre ++ pfx) (pre ++ after) = lsP pre pfx after from this]
  simp
theorem lsk_skip {K : List B} {pre pfx after : B} {m : Nat} {k : B} (h : lsP pre pfx after k = false) : lsk (K ++ [k]) pre pfx after m = lsk K pre pfx after m := by
  unfold lsk; rw [List.filter_append]; simp [h]
theorem mem_list_spec (x : Nat) (M : Bk) (hn : (M.map Prod.fst).Nodup) (hsz : M.length ≤ 1000000) (hk : ∀ a ∈ M.map Prod.fst, a.length ≤ 140737488355328) (pfx after : B) (most : Int) (hm : 0 ≤ most) :
    Spec Try.prog 55 [pB x, str pfx, str after, i64 most] [memAt x M]
      (fun v Γ' => ∃ y, One y ∧ v = .tuple #[y, i64 0] ∧ Γ' = [vec 1 y (strs (lsk ((M.map Prod.fst).mergeSort leB) [] pfx after most.toNat)), memAt x M]) := by
  have e1 : (mm M).map Prod.fst = M.map Prod.fst := by simp [List.map_map, Function.comp_def]
  refine Spec.enter Try.func55 rfl Try.ntmps55 rfl ?_
  refine G.open1 (memAt.out x M) ?_
  intro m
  refine .seq ?_
  refine .region ?_
  refine .q (q_as rfl) rfl ?_
  refine .q (q_as rfl) rfl ?_
  refine .done ?_
  refine .seq ?_
  refine .region ?_
  refine .q (q_as rfl) rfl ?_
  refine .done ?_
  refine .seq ?_
  refine .seq ?_
  refine .region ?_
  refine .q (q_mv rfl) rfl ?_
  refine .q (q_nil rfl) rfl ?_
  refine .q (q_fa0 rfl) rfl ?_
  refine .q (q_ld rfl rfl) rfl ?_
  refine .l (l_call (keys_spec m) rfl) rfl ?_
  rintro _ _ ⟨_, ⟨r, rfl, rfl⟩, rfl⟩
  refine .l (l_call (sorted_spec m r (mm M) (by rw [e1]; exact hn) (by simpa using hsz) (by rw [e1]; exact hk)) rfl) rfl ?_
  rintro v18 _ ⟨_, ⟨_, i18, rfl, rfl⟩, rfl⟩
  rw [e1]
  obtain ⟨K, hK⟩ : ∃ K, (M.map Prod.fst).mergeSort leB = K := ⟨_, rfl⟩
  have hKl : K.length ≤ 1000000 := by rw [← hK, List.length_mergeSort, List.length_map]; exact hsz
  rw [hK]
  refine .q (q_lenVm rfl) rfl ?_
  refine .q (q_mv rfl) rfl ?_
  refine .done ?_
  refine G.vecNil' 1 (xs := strs (lsk (K.take 0) [] pfx after most.toNat)) (by simp [lsk]) ?_
  refine .block ?_
  refine G.loop2 (fun (i : Nat) (y : Value) => [(0, pB x), (1, str pfx), (2, str after), (3, i64 most), (18, v18), (19, i64 (K.length : Int)), (20, i64 (i : Int)), (10, y)]) (fun i y => [blk x [.map (some m)], mapAt kS m (mm M), vec 1 v18 (strs K), vec 1 y (strs (lsk (K.take i) [] pfx after most.toNat))]) (fun i y => i ≤ K.length) (fun i y => K.length - i) 0 (.slice none 0 0) ⟨rfl, rfl, rfl, rfl, rfl, rfl, rfl, rfl, trivial⟩ (by omega) ?_
  rintro i y hi IH
  have hll := lsk_len (K.take i) [] pfx after most.toNat
  simp only [List.length_take] at hll
  refine .seq ?_
  refine .region ?_
  refine .q (q_lt rfl rfl) rfl ?_
  refine .done ?_
  refine .seq ?_
  refine .condD rfl (fun h21 => ?_) (fun h21 => ?_)
  · have hil : i < K.length := by omega
    have hsn := fun h => lsk_snoc (K := K.take i) (pre := []) (pfx := pfx) (after := after) (m := most.toNat) h K[i]
    have hfl := fun h => lsk_full (K := K.take i) (K' := [K[i]]) (pre := []) (pfx := pfx) (after := after) (m := most.toNat) h
    rw [← List.take_succ_eq_append_getElem hil] at hsn hfl
    refine .skip ?_
    refine .seq ?_
    refine .block ?_
    refine .seq ?_
    refine .region ?_
    refine .q (q_iaVm rfl rfl rfl (by omega)) rfl ?_
    refine .q (q_ldVm rfl (by omega)) rfl ?_
    refine .q (q_as rfl) rfl ?_
    refine .done ?_
    refine .seq ?_
    refine .region ?_
    refine .q (q_mv rfl) rfl ?_
    refine .q (q_mv rfl) rfl ?_
    refine .l (l_call (hasp_spec K[i] pfx) rfl) rfl ?_
    rintro _ _ ⟨_, ⟨rfl, rfl⟩, rfl⟩
    refine .q (q_mv rfl) rfl ?_
    refine GR.casesD (t := 27) rfl (fun h27 => ?_) (fun h27 => ?_)
    · refine .yes rfl rfl rfl ?_
      refine .q (q_mv rfl) rfl ?_
      refine .yes rfl rfl rfl ?_
      refine .q (q_mv rfl) rfl ?_
      refine .yes rfl rfl rfl ?_
      refine .q (q_sgt rfl rfl) rfl ?_
      refine .q (q_pickT rfl rfl) rfl ?_
      refine .q (q_mv rfl) rfl ?_
      refine GR.casesD (t := 32) rfl (fun h32 => ?_) (fun h32 => ?_)
      · have hP : lsP [] pfx after K[i] = true := by simp only [lsP, Bool.and_eq_true, decide_eq_true_eq]; exact ⟨by assumption, by assumption⟩
        refine .yes rfl rfl rfl ?_
        refine .q (q_mv rfl) rfl ?_
        refine .yes rfl rfl rfl ?_
        refine .q (q_lenVm rfl) rfl ?_
        refine .yes rfl rfl rfl ?_
        refine .q (q_mv rfl) rfl ?_
        refine .yes rfl rfl rfl ?_
        refine .q (q_lt rfl rfl) rfl ?_
        refine .q (q_pickT rfl rfl) rfl ?_
        refine .done ?_
        refine .condD rfl (fun h37 => ?_) (fun h37 => ?_)
        · have h2 := hsn (by omega)
          rw [if_pos hP] at h2
          refine .region ?_
          refine .q (q_mv rfl) rfl ?_
          refine .q (q_mv rfl) rfl ?_
          refine .a (l_bs rfl rfl (by decide) (by simp [Value.cells])) rfl fun r40 => ?_
          refine .l (l_ap1 rfl rfl rfl (by (try simp only [List.length_map, List.length_append, List.length_nil, List.length_cons, List.length_take, List.length_drop]); omega) (by decide)) rfl ?_
          rintro v41 _ ⟨_, i41, rfl, rfl⟩
          refine .q (q_as rfl) rfl ?_
          refine .done ?_
          refine .inBlock ?_
          refine .region ?_
          refine .q (q_add rfl rfl (by omega)) rfl ?_
          refine .q (q_mv rfl) rfl ?_
          refine .done ?_
          have e2 : strs (lsk (K.take i) [] pfx after most.toNat) ++ [str K[i]] = strs (lsk (K.take (i + 1)) [] pfx after most.toNat) := by rw [h2]; simp
          rw [e2]
          exact G.again (IH (i + 1) v41 (by omega) (by omega)) ⟨rfl, rfl, rfl, rfl, rfl, rfl, rfl, rfl, trivial⟩
        · have h2 := hfl (by omega)
          refine .skip ?_
          refine .inBlock ?_
          refine .region ?_
          refine .q (q_add rfl rfl (by omega)) rfl ?_
          refine .q (q_mv rfl) rfl ?_
          refine .done ?_
          rw [← h2]
          exact G.again (IH (i + 1) y (by omega) (by omega)) ⟨rfl, rfl, rfl, rfl, rfl, rfl, rfl, rfl, trivial⟩
      · have hP : lsP [] pfx after K[i] = false := by simp only [lsP, Bool.and_eq_false_iff, decide_eq_false_iff_not]; exact .inr (by assumption)
        refine .no rfl rfl rfl rfl rfl ?_
        refine .no rfl rfl rfl rfl rfl ?_
        refine .no rfl rfl rfl rfl rfl ?_
        refine .no rfl rfl rfl rfl rfl ?_
        refine .q (q_pickF rfl rfl) rfl ?_
        refine .done ?_
        have h2 := lsk_skip (K := K.take i) (m := most.toNat) hP
        rw [← List.take_succ_eq_append_getElem hil] at h2
        refine .condF rfl ?_
        refine .skip ?_
        refine .inBlock ?_
        refine .region ?_
        refine .q (q_add rfl rfl (by omega)) rfl ?_
        refine .q (q_mv rfl) rfl ?_
        refine .done ?_
        rw [← h2]
        exact G.again (IH (i + 1) y (by omega) (by omega)) ⟨rfl, rfl, rfl, rfl, rfl, rfl, rfl, rfl, trivial⟩
    · have hP : lsP [] pfx after K[i] = false := by simp only [lsP, Bool.and_eq_false_iff, decide_eq_false_iff_not]; exact .inl (by assumption)
      refine .no rfl rfl rfl rfl rfl ?_
      refine .no rfl rfl rfl rfl rfl ?_
      refine .no rfl rfl rfl rfl rfl ?_
      refine .q (q_pickF rfl rfl) rfl ?_
      refine .q (q_mv rfl) rfl ?_
      refine .no rfl rfl rfl rfl rfl ?_
      refine .no rfl rfl rfl rfl rfl ?_
      refine .no rfl rfl rfl rfl rfl ?_
      refine .no rfl rfl rfl rfl rfl ?_
      refine .q (q_pickF rfl rfl) rfl ?_
      refine .done ?_
      have h2 := lsk_skip (K := K.take i) (m := most.toNat) hP
      rw [← List.take_succ_eq_append_getElem hil] at h2
      refine .condF rfl ?_
      refine .skip ?_
      refine .inBlock ?_
      refine .region ?_
      refine .q (q_add rfl rfl (by omega)) rfl ?_
      refine .q (q_mv rfl) rfl ?_
      refine .done ?_
      rw [← h2]
      exact G.again (IH (i + 1) y (by omega) (by omega)) ⟨rfl, rfl, rfl, rfl, rfl, rfl, rfl, rfl, trivial⟩
  · have hil : i = K.length := by omega
    rw [hil, List.take_length]
    refine G.vecOne (s := 1) (v := y) inferInstance ?_
    intro iy
    refine .exit rfl ?_
    refine .seq ?_
    refine .region ?_
    refine .q (q_mv rfl) rfl ?_
    refine .q (q_as rfl) rfl ?_
    refine .q (q_as rfl) rfl ?_
    refine .done ?_
    refine G.fold (memAt.mk (x := x) (m := m) M) ?_
    exact G.retN (ts := [8, 9]) Try.func55 Try.results55 rfl (⟨y, iy, rfl, rfl⟩)
end Go.Sl
