/- The document's view: what its calls do. -/
import Derived.Test.YtgilhenjoinhhaaVBk
set_option linter.unusedVariables false
set_option linter.unusedSimpArgs false
namespace Go.Sl
open Go.Proofs

abbrev i64 (z : Int) : Value := .int .i64 z
/-- A view by the document, at 'c': of the book at 'p', with a prefix. -/
abbrev rv (p c : Nat) (pre : B) : HP := blk c [pB p, str pre]
/-- Is it one of a view's keys? -/
def okk (pre k : B) : Prop := 1 ≤ k.length ∧ pre.length + k.length ≤ 198
instance (pre k : B) : Decidable (okk pre k) := inferInstanceAs (Decidable (_ ∧ _))
def getV (m : Option B) : Value := .tuple #[str (m.getD []), .bool (decide (m ≠ none)), i64 0]

theorem begins_spec (s w : B) : Spec Try.prog 10 [str s, str w] [] (Is (.bool (decide (w <+: s))) []) := by
  refine Spec.enter Try.func10 rfl Try.ntmps10 rfl ?_
  refine .seq ?_
  refine .region ?_
  refine .q (q_as rfl) rfl ?_
  refine .done ?_
  refine .seq ?_
  refine .region ?_
  refine .q (q_mv rfl) rfl ?_
  refine .q (q_lenS rfl) rfl ?_
  refine .q (q_mv rfl) rfl ?_
  refine .q (q_lenS rfl) rfl ?_
  refine .q (q_ge rfl rfl) rfl ?_
  refine .q (q_mv rfl) rfl ?_
  refine GR.casesD (t := 10) rfl (fun h10 => ?_) (fun h10 => ?_)
  · refine .yes rfl rfl rfl ?_
    refine .q (q_mv rfl) rfl ?_
    refine .yes rfl rfl rfl ?_
    refine .q (q_mv rfl) rfl ?_
    refine .yes rfl rfl rfl ?_
    refine .q (q_lenS rfl) rfl ?_
    refine .yes rfl rfl rfl ?_
    refine .q (q_slS2 rfl rfl (by omega)) rfl ?_
    refine .yes rfl rfl rfl ?_
    refine .q (q_mv rfl) rfl ?_
    refine .yes rfl rfl rfl ?_
    refine .q (q_seq rfl rfl) rfl ?_
    refine .q (q_pickT rfl rfl) rfl ?_
    refine .q (q_as rfl) rfl ?_
    refine .done ?_
    exact G.retN (ts := [4]) Try.func10 Try.results10 rfl (⟨congrArg Value.bool (decide_eq_decide.2 ⟨fun h => List.prefix_iff_eq_take.2 h.symm, fun h => (List.prefix_iff_eq_take.1 h).symm⟩), rfl⟩)
  · refine .no rfl rfl rfl rfl rfl ?_
    refine .no rfl rfl rfl rfl rfl ?_
    refine .no rfl rfl rfl rfl rfl ?_
    refine .no rfl rfl rfl rfl rfl ?_
    refine .no rfl rfl rfl rfl rfl ?_
    refine .no rfl rfl rfl rfl rfl ?_
    refine .q (q_pickF rfl rfl) rfl ?_
    refine .q (q_as rfl) rfl ?_
    refine .done ?_
    exact G.retN (ts := [4]) Try.func10 Try.results10 rfl (⟨congrArg Value.bool (decide_eq_false (fun h => by have := h.length_le; omega)).symm, rfl⟩)
theorem rkey_spec (p c : Nat) (pre k : B) (hp : pre.length ≤ 100) (hk : k.length ≤ 140737488355328) : Spec Try.prog 25 [pB c, str k] [rv p c pre] (Is (.bool (decide (okk pre k))) [rv p c pre]) := by
  refine Spec.enter Try.func25 rfl Try.ntmps25 rfl ?_
  refine .seq ?_
  refine .region ?_
  refine .q (q_as rfl) rfl ?_
  refine .done ?_
  refine .seq ?_
  refine .region ?_
  refine .q (q_mv rfl) rfl ?_
  refine .q (q_lenS rfl) rfl ?_
  refine .q (q_ge rfl rfl) rfl ?_
  refine .q (q_mv rfl) rfl ?_
  refine GR.casesD (t := 8) rfl (fun h8 => ?_) (fun h8 => ?_)
  · refine .yes rfl rfl rfl ?_
    refine .q (q_mv rfl) rfl ?_
    refine .yes rfl rfl rfl ?_
    refine .q (q_nil rfl) rfl ?_
    refine .yes rfl rfl rfl ?_
    refine .q (q_fa0 rfl) rfl ?_
    refine .yes rfl rfl rfl ?_
    refine .q (q_ld rfl rfl) rfl ?_
    refine .yes rfl rfl rfl ?_
    refine .q (q_lenS rfl) rfl ?_
    refine .yes rfl rfl rfl ?_
    refine .q (q_mv rfl) rfl ?_
    refine .yes rfl rfl rfl ?_
    refine .q (q_lenS rfl) rfl ?_
    refine .yes rfl rfl rfl ?_
    refine .q (q_add rfl rfl (by omega)) rfl ?_
    refine .yes rfl rfl rfl ?_
    refine .q (q_le rfl rfl) rfl ?_
    refine .q (q_pickT rfl rfl) rfl ?_
    refine .q (q_as rfl) rfl ?_
    refine .done ?_
    exact G.retN (ts := [4]) Try.func25 Try.results25 rfl (⟨congrArg Value.bool (decide_eq_decide.2 ⟨fun h => ⟨by omega, by omega⟩, fun h => by have := h.2; omega⟩), rfl⟩)
  · refine .no rfl rfl rfl rfl rfl ?_
    refine .no rfl rfl rfl rfl rfl ?_
    refine .no rfl rfl rfl rfl rfl ?_
    refine .no rfl rfl rfl rfl rfl ?_
    refine .no rfl rfl rfl rfl rfl ?_
    refine .no rfl rfl rfl rfl rfl ?_
    refine .no rfl rfl rfl rfl rfl ?_
    refine .no rfl rfl rfl rfl rfl ?_
    refine .no rfl rfl rfl rfl rfl ?_
    refine .q (q_pickF rfl rfl) rfl ?_
    refine .q (q_as rfl) rfl ?_
    refine .done ?_
    exact G.retN (ts := [4]) Try.func25 Try.results25 rfl (⟨congrArg Value.bool (decide_eq_false (fun h => by have := h.1; omega)).symm, rfl⟩)
theorem rget_spec (p c : Nat) (b : Bk) (hb : b.Ok) (hl : b.length ≤ 1000000) (pre k : B) (hp : pre.length ≤ 100) (hk : k.length ≤ 140737488355328) : Spec Try.prog 13 [pB c, str k] [rv p c pre, bookAt p b]
    (Is (if okk pre k then getV (mget b (pre ++ k)) else .tuple #[str [], .bool false, i64 2]) [rv p c pre, bookAt p b]) := by
  refine Spec.enter Try.func13 rfl Try.ntmps13 rfl ?_
  refine .seq ?_
  refine .region ?_
  refine .q (q_as rfl) rfl ?_
  refine .q (q_as rfl) rfl ?_
  refine .q (q_as rfl) rfl ?_
  refine .done ?_
  refine .seq ?_
  refine .seq ?_
  refine .region ?_
  refine .q (q_mv rfl) rfl ?_
  refine .q (q_mv rfl) rfl ?_
  refine .l (l_call (rkey_spec p c pre k hp hk) rfl) rfl ?_
  rintro _ _ ⟨_, ⟨rfl, rfl⟩, rfl⟩
  refine .q (q_notD rfl) rfl ?_
  refine .done ?_
  refine .condD rfl (fun h12 => ?_) (fun h12 => ?_)
  · refine .seq ?_
    refine .region ?_
    refine .q (q_as rfl) rfl ?_
    refine .q (q_as rfl) rfl ?_
    refine .q (q_as rfl) rfl ?_
    refine .done ?_
    exact G.retN (ts := [4, 5, 6]) Try.func13 Try.results13 rfl (⟨by rw [if_neg h12]; rfl, rfl⟩)
  · refine .skip ?_
    refine .seq ?_
    refine G.regionD [10] ?_
    refine .q 0 rfl (by kernel_rfl) (q_mv rfl) rfl ?_
    refine .q 1 rfl (by kernel_rfl) (q_nil rfl) rfl ?_
    refine .q 2 rfl (by kernel_rfl) (q_fa0 rfl) rfl ?_
    refine .q 3 rfl (by kernel_rfl) (q_ld rfl rfl) rfl ?_
    refine .q 4 rfl (by kernel_rfl) (q_mv rfl) rfl ?_
    refine .q 5 rfl (by kernel_rfl) (q_nil rfl) rfl ?_
    refine .q 6 rfl (by kernel_rfl) (q_fa0 rfl) rfl ?_
    refine .q 7 rfl (by kernel_rfl) (q_ld rfl rfl) rfl ?_
    refine .q 8 rfl (by kernel_rfl) (q_mv rfl) rfl ?_
    refine .q 9 rfl (by kernel_rfl) (q_sadd rfl rfl (by first | omega | (simp; omega))) rfl ?_
    refine .l 10 rfl (by kernel_rfl) (l_call (place_spec p b hb (by omega) (pre ++ k)) rfl) (.inl rfl) rfl ?_
    rintro _ _ ⟨_, ⟨rfl, rfl⟩, rfl⟩
    refine .q 11 rfl (by kernel_rfl) (q_mv rfl) rfl ?_
    refine .q 12 rfl (by kernel_rfl) (q_ex rfl rfl) rfl ?_
    refine .q 13 rfl (by kernel_rfl) (q_ex rfl rfl) rfl ?_
    refine .q 14 rfl (by kernel_rfl) (q_as rfl) rfl ?_
    refine .q 15 rfl (by kernel_rfl) (q_as rfl) rfl ?_
    refine .done (by kernel_rfl) ?_
    refine .seq ?_
    refine .seq ?_
    refine .region ?_
    refine .q (q_mv rfl) rfl ?_
    refine .q (q_notD rfl) rfl ?_
    refine .done ?_
    refine .condD rfl (fun h28 => ?_) (fun h28 => ?_)
    · have hnone : mget b (pre ++ k) = none := by simpa using h28
      refine .seq ?_
      refine .region ?_
      refine .q (q_as rfl) rfl ?_
      refine .q (q_as rfl) rfl ?_
      refine .q (q_as rfl) rfl ?_
      refine .done ?_
      exact G.retN (ts := [4, 5, 6]) Try.func13 Try.results13 rfl (⟨by rw [if_pos (Classical.not_not.1 h12), hnone]; rfl, rfl⟩)
    · obtain ⟨u, e1, e2⟩ := (Bk.found hb (pre ++ k)).resolve_right (fun e => h28 (by simp [e.1]))
      refine G.open2 (bookAt.out p b) ?_
      intro kv vv
      have hpos : b.pos (pre ++ k) < b.length := by
        rcases Nat.lt_or_ge (b.pos (pre ++ k)) b.length with h | h
        · exact h
        · rw [List.getElem?_eq_none h] at e2; cases e2
      have hat : b[b.pos (pre ++ k)].2 = u := by rw [List.getElem?_eq_getElem hpos] at e2; rw [Option.some.inj e2]
      refine .skip ?_
      refine .seq ?_
      refine .region ?_
      refine .q (q_mv rfl) rfl ?_
      refine .q (q_nil rfl) rfl ?_
      refine .q (q_fa0 rfl) rfl ?_
      refine .q (q_ld rfl rfl) rfl ?_
      refine .q (q_nil rfl) rfl ?_
      refine .q (q_fa0 rfl) rfl ?_
      refine .q (q_ld rfl rfl) rfl ?_
      refine .q (q_mv rfl) rfl ?_
      refine .q (q_iaVm rfl rfl rfl (by omega)) rfl ?_
      refine .q (q_ldVm rfl (by omega)) rfl ?_
      refine .q (q_as rfl) rfl ?_
      refine .q (q_as rfl) rfl ?_
      refine .q (q_as rfl) rfl ?_
      refine .done ?_
      refine G.fold (bookAt.mk (p := p) (k := kv) (v := vv) b) ?_
      exact G.retN (ts := [4, 5, 6]) Try.func13 Try.results13 rfl (⟨by rw [if_pos (Classical.not_not.1 h12), e1, hat]; rfl, rfl⟩)
theorem rput_spec (p c : Nat) (b : Bk) (hb : b.Ok) (hl : b.length ≤ 1000000) (pre k v : B) (hp : pre.length ≤ 100) (hk : k.length ≤ 140737488355328) (hv : v.length ≤ 140737488355328) : Spec Try.prog 15 [pB c, str k, str v] [rv p c pre, bookAt p b]
    (Is (i64 (if okk pre k then (if v.length ≤ 3968 then 0 else 3) else 2)) [rv p c pre, bookAt p (if okk pre k ∧ v.length ≤ 3968 then b.set (pre ++ k) v else b)]) := by
  refine Spec.enter Try.func15 rfl Try.ntmps15 rfl ?_
  refine .seq ?_
  refine .region ?_
  refine .q (q_as rfl) rfl ?_
  refine .done ?_
  refine .seq ?_
  refine .seq ?_
  refine .region ?_
  refine .q (q_mv rfl) rfl ?_
  refine .q (q_mv rfl) rfl ?_
  refine .l (l_call (rkey_spec p c pre k hp hk) rfl) rfl ?_
  rintro _ _ ⟨_, ⟨rfl, rfl⟩, rfl⟩
  refine .q (q_notD rfl) rfl ?_
  refine .done ?_
  refine .condD rfl (fun h10 => ?_) (fun h10 => ?_)
  · refine .seq ?_
    refine .region ?_
    refine .q (q_as rfl) rfl ?_
    refine .done ?_
    exact G.retN (ts := [6]) Try.func15 Try.results15 rfl (⟨by rw [if_neg (by assumption)]; rfl, by rw [if_neg (fun h => absurd h.1 (by assumption))]⟩)
  · have hok : okk pre k := Classical.not_not.1 (by assumption)
    refine .skip ?_
    refine .seq ?_
    refine .seq ?_
    refine .region ?_
    refine .q (q_mv rfl) rfl ?_
    refine .q (q_lenS rfl) rfl ?_
    refine .q (q_gt rfl rfl) rfl ?_
    refine .done ?_
    refine .condD rfl (fun h13 => ?_) (fun h13 => ?_)
    · refine .seq ?_
      refine .region ?_
      refine .q (q_as rfl) rfl ?_
      refine .done ?_
      exact G.retN (ts := [6]) Try.func15 Try.results15 rfl (⟨by rw [if_pos hok, if_neg (by omega)]; rfl, by rw [if_neg (fun h => by omega)]⟩)
    · refine .skip ?_
      refine .seq ?_
      refine G.regionD [11] ?_
      refine .q 0 rfl (by kernel_rfl) (q_mv rfl) rfl ?_
      refine .q 1 rfl (by kernel_rfl) (q_nil rfl) rfl ?_
      refine .q 2 rfl (by kernel_rfl) (q_fa0 rfl) rfl ?_
      refine .q 3 rfl (by kernel_rfl) (q_ld rfl rfl) rfl ?_
      refine .q 4 rfl (by kernel_rfl) (q_mv rfl) rfl ?_
      refine .q 5 rfl (by kernel_rfl) (q_nil rfl) rfl ?_
      refine .q 6 rfl (by kernel_rfl) (q_fa0 rfl) rfl ?_
      refine .q 7 rfl (by kernel_rfl) (q_ld rfl rfl) rfl ?_
      refine .q 8 rfl (by kernel_rfl) (q_mv rfl) rfl ?_
      refine .q 9 rfl (by kernel_rfl) (q_sadd rfl rfl (by first | omega | (simp; omega))) rfl ?_
      refine .q 10 rfl (by kernel_rfl) (q_mv rfl) rfl ?_
      refine .l 11 rfl (by kernel_rfl) (l_call (set_spec p b hb hl (pre ++ k) v) rfl) (.inl rfl) rfl ?_
      rintro _ _ ⟨_, ⟨rfl, rfl⟩, rfl⟩
      refine .done (by kernel_rfl) ?_
      refine .seq ?_
      refine .region ?_
      refine .q (q_as rfl) rfl ?_
      refine .done ?_
      exact G.retN (ts := [6]) Try.func15 Try.results15 rfl (⟨by rw [if_pos hok, if_pos (by omega)]; rfl, by rw [if_pos ⟨hok, by omega⟩]⟩)
theorem rdel_spec (p c : Nat) (b : Bk) (hb : b.Ok) (hl : b.length ≤ 1000000) (pre k : B) (hp : pre.length ≤ 100) (hk : k.length ≤ 140737488355328) : Spec Try.prog 17 [pB c, str k] [rv p c pre, bookAt p b]
    (Is (if okk pre k then .tuple #[.bool (decide (mget b (pre ++ k) ≠ none)), i64 0] else .tuple #[.bool false, i64 2]) [rv p c pre, bookAt p (if okk pre k then mdel b (pre ++ k) else b)]) := by
  refine Spec.enter Try.func17 rfl Try.ntmps17 rfl ?_
  refine .seq ?_
  refine .region ?_
  refine .q (q_as rfl) rfl ?_
  refine .q (q_as rfl) rfl ?_
  refine .done ?_
  refine .seq ?_
  refine .seq ?_
  refine .region ?_
  refine .q (q_mv rfl) rfl ?_
  refine .q (q_mv rfl) rfl ?_
  refine .l (l_call (rkey_spec p c pre k hp hk) rfl) rfl ?_
  rintro _ _ ⟨_, ⟨rfl, rfl⟩, rfl⟩
  refine .q (q_notD rfl) rfl ?_
  refine .done ?_
  refine .condD rfl (fun h11 => ?_) (fun h11 => ?_)
  · refine .seq ?_
    refine .region ?_
    refine .q (q_as rfl) rfl ?_
    refine .q (q_as rfl) rfl ?_
    refine .done ?_
    exact G.retN (ts := [4, 5]) Try.func17 Try.results17 rfl (⟨by rw [if_neg (by assumption)]; rfl, by rw [if_neg (by assumption)]⟩)
  · have hok : okk pre k := Classical.not_not.1 (by assumption)
    refine .skip ?_
    refine .seq ?_
    refine G.regionD [10] ?_
    refine .q 0 rfl (by kernel_rfl) (q_mv rfl) rfl ?_
    refine .q 1 rfl (by kernel_rfl) (q_nil rfl) rfl ?_
    refine .q 2 rfl (by kernel_rfl) (q_fa0 rfl) rfl ?_
    refine .q 3 rfl (by kernel_rfl) (q_ld rfl rfl) rfl ?_
    refine .q 4 rfl (by kernel_rfl) (q_mv rfl) rfl ?_
    refine .q 5 rfl (by kernel_rfl) (q_nil rfl) rfl ?_
    refine .q 6 rfl (by kernel_rfl) (q_fa0 rfl) rfl ?_
    refine .q 7 rfl (by kernel_rfl) (q_ld rfl rfl) rfl ?_
    refine .q 8 rfl (by kernel_rfl) (q_mv rfl) rfl ?_
    refine .q 9 rfl (by kernel_rfl) (q_sadd rfl rfl (by first | omega | (simp; omega))) rfl ?_
    refine .l 10 rfl (by kernel_rfl) (l_call (delete_spec p b hb hl (pre ++ k) (by have := hok.1; have := hok.2; simp; omega)) rfl) (.inl rfl) rfl ?_
    rintro _ _ ⟨_, ⟨rfl, rfl⟩, rfl⟩
    refine .q 11 rfl (by kernel_rfl) (q_mv rfl) rfl ?_
    refine .q 12 rfl (by kernel_rfl) (q_ex rfl rfl) rfl ?_
    refine .q 13 rfl (by kernel_rfl) (q_ex rfl rfl) rfl ?_
    refine .q 14 rfl (by kernel_rfl) (q_as rfl) rfl ?_
    refine .q 15 rfl (by kernel_rfl) (q_as rfl) rfl ?_
    refine .done (by kernel_rfl) ?_
    refine .seq ?_
    refine .region ?_
    refine .q (q_mv rfl) rfl ?_
    refine .q (q_as rfl) rfl ?_
    refine .q (q_as rfl) rfl ?_
    refine .done ?_
    exact G.retN (ts := [4, 5]) Try.func17 Try.results17 rfl (⟨by rw [if_pos hok]; rfl, by rw [if_pos hok]⟩)

abbrev strs (l : List B) : List Value := l.map fun k => str k
/-- Of these keys the first 'm' that begin with a prefix and stand behind 'after', without the view's own prefix. -/
def lsP (pre pfx after k : B) : Bool := decide ((pre ++ pfx) <+: k) && decide (after < k.drop pre.length)
def lsk (K : List B) (pre pfx after : B) (m : Nat) : List B := ((K.filter (lsP pre pfx after)).take m).map (·.drop pre.length)
theorem lsk_len (K : List B) (pre pfx after : B) (m : Nat) : (lsk K pre pfx after m).length ≤ K.length := by
  simp only [lsk, List.length_map, List.length_take]
  exact Nat.le_trans (Nat.min_le_right _ _) (List.length_filter_le _ _)
theorem lsk_snoc {K : List B} {pre pfx after : B} {m : Nat} (h : (lsk K pre pfx after m).length < m) (k : B) : lsk (K ++ [k]) pre pfx after m = lsk K pre pfx after m ++ (if lsP pre pfx after k then [k.drop pre.length] else []) := by
  have h1 : (K.filter (lsP pre pfx after)).length < m := by
    simp only [lsk, List.length_map, List.length_take] at h; omega
  unfold lsk
  rw [List.filter_append]
  by_cases hk : lsP pre pfx after k = true
  · rw [List.take_of_length_le (l := K.filter _) (by omega)]
    simp only [hk, List.filter_cons, if_true, List.filter_nil]
    rw [List.take_of_length_le (by simp; omega)]; simp
  · simp [hk]
theorem lsk_full {K K' : List B} {pre pfx after : B} {m : Nat} (h : m ≤ (lsk K pre pfx after m).length) : lsk (K ++ K') pre pfx after m = lsk K pre pfx after m := by
  have h1 : m ≤ (K.filter (lsP pre pfx after)).length := by
    simp only [lsk, List.length_map, List.length_take] at h; omega
  unfold lsk
  rw [List.filter_append, List.take_append_of_le_length h1]
theorem take_succ_map {α β : Type} (f : α → β) {l : List α} {i : Nat} (h : i < l.length) : (l.take (i + 1)).map f = (l.take i).map f ++ [f l[i]] := by
  rw [List.take_succ_eq_append_getElem h, List.map_append]; rfl
theorem rlist_spec (p c : Nat) (b : Bk) (hl : b.length ≤ 1000000) (pre pfx after : B) (most : Int) (hm : 0 ≤ most) (hp : pre.length ≤ 100) (hk : pfx.length ≤ 140737488355328) : Spec Try.prog 19 [pB c, str pfx, str after, i64 most] [rv p c pre, bookAt p b]
    (fun v Γ' => ∃ x, One x ∧ v = .tuple #[x, i64 0] ∧ Γ' = [vec 1 x (strs (lsk (b.map Prod.fst) pre pfx after most.toNat)), rv p c pre, bookAt p b]) := by
  refine Spec.enter Try.func19 rfl Try.ntmps19 rfl ?_
  refine .seq ?_
  refine .region ?_
  refine .q (q_as rfl) rfl ?_
  refine .q (q_as rfl) rfl ?_
  refine .done ?_
  refine .seq ?_
  refine .seq ?_
  refine .region ?_
  refine .q (q_mv rfl) rfl ?_
  refine .q (q_lt rfl rfl) rfl ?_
  refine .done ?_
  refine .condDF rfl ((by omega)) ?_
  refine G.open2 (bookAt.out p b) ?_
  intro kv vv
  refine G.vecNil' 1 (xs := strs (lsk ((b.take 0).map Prod.fst) pre pfx after most.toNat)) (by simp [lsk]) ?_
  refine .skip ?_
  refine .seq ?_
  refine .region ?_
  refine .q (q_as rfl) rfl ?_
  refine .done ?_
  refine .seq ?_
  refine .region ?_
  refine .q (q_mv rfl) rfl ?_
  refine .q (q_nil rfl) rfl ?_
  refine .q (q_fa0 rfl) rfl ?_
  refine .q (q_ld rfl rfl) rfl ?_
  refine .q (q_lenS rfl) rfl ?_
  refine .q (q_as rfl) rfl ?_
  refine .done ?_
  refine .seq ?_
  refine .seq ?_
  refine .region ?_
  refine .q (q_as rfl) rfl ?_
  refine .done ?_
  refine .block ?_
  refine G.loop2 (fun (i : Nat) (x : Value) => [(0, pB c), (1, str pfx), (2, str after), (3, i64 most), (11, i64 (pre.length : Int)), (12, i64 (i : Int)), (10, x)]) (fun i x => [rv p c pre, blk p [kv, vv], vec 1 kv (ks b), vec 1 vv (vs b), vec 1 x (strs (lsk ((b.take i).map Prod.fst) pre pfx after most.toNat))]) (fun i x => i ≤ b.length) (fun i x => b.length - i) 0 (.slice none 0 0) ⟨rfl, rfl, rfl, rfl, rfl, rfl, rfl, trivial⟩ (by omega) ?_
  rintro i x hi IH
  have hll := lsk_len ((b.take i).map Prod.fst) pre pfx after most.toNat
  simp only [List.length_map, List.length_take] at hll
  refine .seq ?_
  refine .seq ?_
  refine .region ?_
  refine .q (q_mv rfl) rfl ?_
  refine .q (q_mv rfl) rfl ?_
  refine .q (q_nil rfl) rfl ?_
  refine .q (q_fa0 rfl) rfl ?_
  refine .q (q_ld rfl rfl) rfl ?_
  refine .q (q_nil rfl) rfl ?_
  refine .q (q_fa0 rfl) rfl ?_
  refine .q (q_ld rfl rfl) rfl ?_
  refine .q (q_lenVm rfl) rfl ?_
  refine .q (q_lt rfl rfl) rfl ?_
  refine .q (q_mv rfl) rfl ?_
  refine GR.casesD (t := 31) rfl (fun h31 => ?_) (fun h31 => ?_)
  · refine .yes rfl rfl rfl ?_
    refine .q (q_mv rfl) rfl ?_
    refine .yes rfl rfl rfl ?_
    refine .q (q_lenVm rfl) rfl ?_
    refine .yes rfl rfl rfl ?_
    refine .q (q_mv rfl) rfl ?_
    refine .yes rfl rfl rfl ?_
    refine .q (q_lt rfl rfl) rfl ?_
    refine .q (q_pickT rfl rfl) rfl ?_
    refine .done ?_
    refine .condD rfl (fun h36 => ?_) (fun h36 => ?_)
    · have hil : i < b.length := by omega
      have hsn := lsk_snoc (K := (b.take i).map Prod.fst) (pre := pre) (pfx := pfx) (after := after) (m := most.toNat) (by omega) b[i].1
      rw [← take_succ_map Prod.fst hil] at hsn
      refine .skip ?_
      refine .seq ?_
      refine .block ?_
      refine .seq ?_
      refine .region ?_
      refine .q (q_mv rfl) rfl ?_
      refine .q (q_nil rfl) rfl ?_
      refine .q (q_fa0 rfl) rfl ?_
      refine .q (q_ld rfl rfl) rfl ?_
      refine .q (q_nil rfl) rfl ?_
      refine .q (q_fa0 rfl) rfl ?_
      refine .q (q_ld rfl rfl) rfl ?_
      refine .q (q_mv rfl) rfl ?_
      refine .q (q_iaVm rfl rfl rfl (by omega)) rfl ?_
      refine .q (q_ldVm rfl (by omega)) rfl ?_
      refine .q (q_as rfl) rfl ?_
      refine .done ?_
      refine .seq ?_
      refine .region ?_
      refine .q (q_mv rfl) rfl ?_
      refine .q (q_mv rfl) rfl ?_
      refine .q (q_nil rfl) rfl ?_
      refine .q (q_fa0 rfl) rfl ?_
      refine .q (q_ld rfl rfl) rfl ?_
      refine .q (q_mv rfl) rfl ?_
      refine .q (q_sadd rfl rfl (by first | omega | (simp; omega))) rfl ?_
      refine .l (l_call (begins_spec b[i].1 (pre ++ pfx)) rfl) rfl ?_
      rintro _ _ ⟨_, ⟨rfl, rfl⟩, rfl⟩
      refine .q (q_mv rfl) rfl ?_
      refine GR.casesD (t := 57) rfl (fun h57 => ?_) (fun h57 => ?_)
      · have hpk := ((List.prefix_append pre pfx).trans (by assumption)).length_le
        refine .yes rfl rfl rfl ?_
        refine .q (q_mv rfl) rfl ?_
        refine .yes rfl rfl rfl ?_
        refine .q (q_mv rfl) rfl ?_
        refine .yes rfl rfl rfl ?_
        refine .q (q_slS1 rfl rfl (by omega)) rfl ?_
        refine .yes rfl rfl rfl ?_
        refine .q (q_mv rfl) rfl ?_
        refine .yes rfl rfl rfl ?_
        refine .q (q_sgt rfl rfl) rfl ?_
        refine .q (q_pickT rfl rfl) rfl ?_
        refine .done ?_
        refine .condD rfl (fun h63 => ?_) (fun h63 => ?_)
        · have hP : lsP pre pfx after b[i].1 = true := by simp only [lsP, Bool.and_eq_true, decide_eq_true_eq]; exact ⟨by assumption, by assumption⟩
          rw [if_pos hP] at hsn
          refine .region ?_
          refine .q (q_mv rfl) rfl ?_
          refine .q (q_mv rfl) rfl ?_
          refine .q (q_mv rfl) rfl ?_
          refine .q (q_slS1 rfl rfl (by omega)) rfl ?_
          refine .a (l_bs rfl rfl (by decide) (by simp [Value.cells])) rfl fun r68 => ?_
          refine .l (l_ap1 rfl rfl rfl (by (try simp only [List.length_map, List.length_append, List.length_nil, List.length_cons, List.length_take, List.length_drop]); omega) (by decide)) rfl ?_
          rintro v69 _ ⟨_, i69, rfl, rfl⟩
          refine .q (q_as rfl) rfl ?_
          refine .done ?_
          refine .inBlock ?_
          refine .region ?_
          refine .q (q_mv rfl) rfl ?_
          refine .q (q_add rfl rfl (by omega)) rfl ?_
          refine .q (q_as rfl) rfl ?_
          refine .done ?_
          have e2 : strs (lsk ((b.take i).map Prod.fst) pre pfx after most.toNat) ++ [str (b[i].1.drop pre.length)] = strs (lsk ((b.take (i + 1)).map Prod.fst) pre pfx after most.toNat) := by rw [hsn]; simp
          rw [e2]
          exact G.again (IH (i + 1) v69 (by omega) (by omega)) ⟨rfl, rfl, rfl, rfl, rfl, rfl, rfl, trivial⟩
        · have hP : lsP pre pfx after b[i].1 = false := by simp only [lsP, Bool.and_eq_false_iff, decide_eq_false_iff_not]; exact .inr (by assumption)
          rw [if_neg (by rw [hP]; simp), List.append_nil] at hsn
          refine .skip ?_
          refine .inBlock ?_
          refine .region ?_
          refine .q (q_mv rfl) rfl ?_
          refine .q (q_add rfl rfl (by omega)) rfl ?_
          refine .q (q_as rfl) rfl ?_
          refine .done ?_
          rw [← hsn]
          exact G.again (IH (i + 1) x (by omega) (by omega)) ⟨rfl, rfl, rfl, rfl, rfl, rfl, rfl, trivial⟩
      · refine .no rfl rfl rfl rfl rfl ?_
        refine .no rfl rfl rfl rfl rfl ?_
        refine .no rfl rfl rfl rfl rfl ?_
        refine .no rfl rfl rfl rfl rfl ?_
        refine .no rfl rfl rfl rfl rfl ?_
        refine .q (q_pickF rfl rfl) rfl ?_
        refine .done ?_
        have hP : lsP pre pfx after b[i].1 = false := by simp only [lsP, Bool.and_eq_false_iff, decide_eq_false_iff_not]; exact .inl (by assumption)
        rw [if_neg (by rw [hP]; simp), List.append_nil] at hsn
        refine .condF rfl ?_
        refine .skip ?_
        refine .inBlock ?_
        refine .region ?_
        refine .q (q_mv rfl) rfl ?_
        refine .q (q_add rfl rfl (by omega)) rfl ?_
        refine .q (q_as rfl) rfl ?_
        refine .done ?_
        rw [← hsn]
        exact G.again (IH (i + 1) x (by omega) (by omega)) ⟨rfl, rfl, rfl, rfl, rfl, rfl, rfl, trivial⟩
    · have hfull : most.toNat ≤ (lsk ((b.take i).map Prod.fst) pre pfx after most.toNat).length := by omega
      have e2 := lsk_full (K' := (b.drop i).map Prod.fst) hfull
      rw [← List.map_append, List.take_append_drop] at e2
      rw [← e2]
      refine G.vecOne (s := 1) (v := x) inferInstance ?_
      intro io
      refine .exit rfl ?_
      refine .seq ?_
      refine .region ?_
      refine .q (q_mv rfl) rfl ?_
      refine .q (q_as rfl) rfl ?_
      refine .q (q_as rfl) rfl ?_
      refine .done ?_
      refine G.fold (bookAt.mk (p := p) (k := kv) (v := vv) b) ?_
      exact G.retN (ts := [8, 9]) Try.func19 Try.results19 rfl (⟨x, io, rfl, rfl⟩)
  · refine .no rfl rfl rfl rfl rfl ?_
    refine .no rfl rfl rfl rfl rfl ?_
    refine .no rfl rfl rfl rfl rfl ?_
    refine .no rfl rfl rfl rfl rfl ?_
    refine .q (q_pickF rfl rfl) rfl ?_
    refine .done ?_
    have hil : i = b.length := by omega
    rw [hil, List.take_length]
    refine G.vecOne (s := 1) (v := x) inferInstance ?_
    intro io
    refine .condF rfl ?_
    refine .exit rfl ?_
    refine .seq ?_
    refine .region ?_
    refine .q (q_mv rfl) rfl ?_
    refine .q (q_as rfl) rfl ?_
    refine .q (q_as rfl) rfl ?_
    refine .done ?_
    refine G.fold (bookAt.mk (p := p) (k := kv) (v := vv) b) ?_
    exact G.retN (ts := [8, 9]) Try.func19 Try.results19 rfl (⟨x, io, rfl, rfl⟩)

def clr (b : Bk) (pre : B) (l : List B) : Bk := l.foldl (fun b k => mdel b (pre ++ k)) b
theorem clr_len (pre : B) (l : List B) : ∀ b : Bk, (clr b pre l).length ≤ b.length := by
  induction l with
  | nil => intro b; exact Nat.le_refl _
  | cons k l ih => intro b; exact Nat.le_trans (ih (mdel b (pre ++ k))) (mdel_sub b (pre ++ k)).length_le
theorem clr_ok (pre : B) (l : List B) : ∀ b : Bk, b.Ok → (clr b pre l).Ok := by
  induction l with
  | nil => intro b h; exact h
  | cons k l ih => intro b h; exact ih (mdel b (pre ++ k)) (Bk.del_ok h _)
theorem clr_keys (pre : B) (l : List B) : ∀ b : Bk, ∀ a, a ∈ (clr b pre l).map Prod.fst → a ∈ b.map Prod.fst := by
  induction l with
  | nil => intro b a h; exact h
  | cons k l ih => intro b a h; exact ((mdel_sub b (pre ++ k)).map _).mem (ih (mdel b (pre ++ k)) a h)
theorem clr_snoc (b : Bk) (pre : B) {l : List B} {i : Nat} (h : i < l.length) : clr b pre (l.take (i + 1)) = mdel (clr b pre (l.take i)) (pre ++ l[i]) := by
  rw [List.take_succ_eq_append_getElem h]; simp only [clr, List.foldl_append, List.foldl_cons, List.foldl_nil]
theorem lsk_mem {K : List B} {pre pfx after : B} {m : Nat} {k : B} (h : k ∈ lsk K pre pfx after m) : pre ++ k ∈ K ∧ after < k ∧ pfx <+: k := by
  simp only [lsk, List.mem_map] at h
  obtain ⟨a, ha, rfl⟩ := h
  obtain ⟨h1, h2⟩ := List.mem_filter.1 (List.mem_of_mem_take ha)
  simp only [lsP, Bool.and_eq_true, decide_eq_true_eq] at h2
  obtain ⟨t, ht⟩ := h2.1
  have : a.drop pre.length = pfx ++ t := by rw [← ht, List.append_assoc, List.drop_left]
  refine ⟨?_, h2.2, ⟨t, this.symm⟩⟩
  rw [this, ← List.append_assoc, ht]; exact h1
theorem lsk_okk {K : List B} {pre pfx after : B} {m : Nat} (hK : ∀ a ∈ K, a.length ≤ 198) {k : B} (h : k ∈ lsk K pre pfx after m) : okk pre k := by
  obtain ⟨h1, h2, _⟩ := lsk_mem h
  have := hK _ h1
  rw [List.length_append] at this
  refine ⟨?_, by omega⟩
  cases k with
  | nil => exact absurd h2 (List.not_lt_nil _)
  | cons a k => simp
theorem rclear_spec (p c : Nat) (b : Bk) (hb : b.Ok) (hl : b.length ≤ 1000000) (hK : ∀ a ∈ b.map Prod.fst, a.length ≤ 198) (pre pfx : B) (hp : pre.length ≤ 100) (hk : pfx.length ≤ 140737488355328) : Spec Try.prog 22 [pB c, str pfx] [rv p c pre, bookAt p b]
    (Is (i64 ((lsk (b.map Prod.fst) pre pfx [] (b.length + 1)).length : Int)) [rv p c pre, bookAt p (clr b pre (lsk (b.map Prod.fst) pre pfx [] (b.length + 1)))]) := by
  refine Spec.enter Try.func22 rfl Try.ntmps22 rfl ?_
  refine G.open2 (bookAt.out p b) ?_
  intro kv vv
  refine .seq ?_
  refine .region ?_
  refine .q (q_as rfl) rfl ?_
  refine .done ?_
  refine .seq ?_
  refine .region ?_
  refine .q (q_mv rfl) rfl ?_
  refine .q (q_mv rfl) rfl ?_
  refine .q (q_mv rfl) rfl ?_
  refine .q (q_nil rfl) rfl ?_
  refine .q (q_fa0 rfl) rfl ?_
  refine .q (q_ld rfl rfl) rfl ?_
  refine .q (q_nil rfl) rfl ?_
  refine .q (q_fa0 rfl) rfl ?_
  refine .q (q_ld rfl rfl) rfl ?_
  refine .q (q_lenVm rfl) rfl ?_
  refine .q (q_add rfl rfl (by omega)) rfl ?_
  refine GR.fold (bookAt.mk (p := p) (k := kv) (v := vv) b) ?_
  refine .l (l_call (rlist_spec p c b hl pre pfx [] ((b.length : Int) + 1) (by omega) hp hk) rfl) rfl ?_
  rintro _ _ ⟨_, ⟨x, io, rfl, rfl⟩, rfl⟩
  refine .q (q_mv rfl) rfl ?_
  refine .q (q_ex rfl rfl) rfl ?_
  refine .q (q_ex rfl rfl) rfl ?_
  refine .q (q_as rfl) rfl ?_
  refine .q (q_as rfl) rfl ?_
  refine .done ?_
  have hlen : ((b.length : Int) + 1).toNat = b.length + 1 := by omega
  rw [hlen]
  obtain ⟨l, hll⟩ : ∃ l, lsk (b.map Prod.fst) pre pfx [] (b.length + 1) = l := ⟨_, rfl⟩
  have hok : ∀ k ∈ l, okk pre k := fun k hk => lsk_okk hK (by rw [hll]; exact hk)
  have hln : l.length ≤ b.length := by rw [← hll]; exact Nat.le_trans (lsk_len _ _ _ _ _) (by simp)
  rw [hll]
  refine G.conseq (Γ' := [vec 1 x (strs l), rv p c pre, bookAt p (clr b pre (l.take 0))]) (fun _ s => s) ?_
  refine .seq ?_
  refine .seq ?_
  refine .region ?_
  refine .q (q_as rfl) rfl ?_
  refine .done ?_
  refine .block ?_
  refine G.loop (σ := Nat) (fun i => [(0, pB c), (7, i64 (i : Int)), (5, x)]) (fun i => [vec 1 x (strs l), rv p c pre, bookAt p (clr b pre (l.take i))]) (fun i => i ≤ l.length) (fun i => l.length - i) (0) ⟨rfl, rfl, rfl, trivial⟩ (by omega) ?_
  rintro i hi IH
  refine .seq ?_
  refine .seq ?_
  refine .region ?_
  refine .q (q_mv rfl) rfl ?_
  refine .q (q_mv rfl) rfl ?_
  refine .q (q_lenVm rfl) rfl ?_
  refine .q (q_lt rfl rfl) rfl ?_
  refine .done ?_
  refine .condD rfl (fun h26 => ?_) (fun h26 => ?_)
  · have hil : i < l.length := by omega
    have hoki := hok l[i] (List.getElem_mem _)
    refine .skip ?_
    refine .seq ?_
    refine .block ?_
    refine .region ?_
    refine .q (q_mv rfl) rfl ?_
    refine .q (q_mv rfl) rfl ?_
    refine .q (q_mv rfl) rfl ?_
    refine .q (q_iaVm rfl rfl rfl (by omega)) rfl ?_
    refine .q (q_ldVm rfl (by omega)) rfl ?_
    refine .l (l_call (rdel_spec p c (clr b pre (l.take i)) (clr_ok _ _ _ hb) (Nat.le_trans (clr_len _ _ _) hl) pre l[i] hp (by have := hoki.2; omega)) rfl) rfl ?_
    rintro _ _ ⟨_, ⟨rfl, rfl⟩, rfl⟩
    refine .done ?_
    refine .inBlock ?_
    rw [if_pos hoki, if_pos hoki, ← clr_snoc b pre hil]
    refine .region ?_
    refine .q (q_mv rfl) rfl ?_
    refine .q (q_add rfl rfl (by omega)) rfl ?_
    refine .q (q_as rfl) rfl ?_
    refine .done ?_
    exact G.again (IH (i + 1) (by omega) (by omega)) ⟨rfl, rfl, rfl, trivial⟩
  · have hil : i = l.length := by omega
    rw [hil, List.take_length]
    refine .exit rfl ?_
    refine .seq ?_
    refine .region ?_
    refine .q (q_mv rfl) rfl ?_
    refine .q (q_lenVm rfl) rfl ?_
    refine .q (q_as rfl) rfl ?_
    refine .done ?_
    exact G.retN (ts := [4]) Try.func22 Try.results22 rfl (⟨rfl, rfl⟩)
theorem rsub_spec (p c : Nat) (pre k : B) (hp : pre.length ≤ 100) (hk : k.length ≤ 140737488355328) : Spec Try.prog 23 [pB c, str k] [rv p c pre]
    (fun v Γ' => (pre.length + k.length ≤ 100 ∧ ∃ d, v = .tuple #[pB d, i64 0] ∧ Γ' = [rv p d (pre ++ k), rv p c pre]) ∨ (¬ pre.length + k.length ≤ 100 ∧ v = .tuple #[.pointer none, i64 2] ∧ Γ' = [rv p c pre])) := by
  refine Spec.enter Try.func23 rfl Try.ntmps23 rfl ?_
  refine .seq ?_
  refine .region ?_
  refine .q (q_as rfl) rfl ?_
  refine .q (q_as rfl) rfl ?_
  refine .done ?_
  refine .seq ?_
  refine .seq ?_
  refine .region ?_
  refine .q (q_mv rfl) rfl ?_
  refine .q (q_nil rfl) rfl ?_
  refine .q (q_fa0 rfl) rfl ?_
  refine .q (q_ld rfl rfl) rfl ?_
  refine .q (q_lenS rfl) rfl ?_
  refine .q (q_mv rfl) rfl ?_
  refine .q (q_lenS rfl) rfl ?_
  refine .q (q_add rfl rfl (by omega)) rfl ?_
  refine .q (q_gt rfl rfl) rfl ?_
  refine .done ?_
  refine .condD rfl (fun h14 => ?_) (fun h14 => ?_)
  · refine .seq ?_
    refine .region ?_
    refine .q (q_as rfl) rfl ?_
    refine .q (q_as rfl) rfl ?_
    refine .done ?_
    exact G.retN (ts := [4, 5]) Try.func23 Try.results23 rfl (.inr ⟨by omega, rfl, rfl⟩)
  · refine .skip ?_
    refine .seq ?_
    refine G.regionD [] ?_
    refine .q 0 rfl (by kernel_rfl) (q_mv rfl) rfl ?_
    refine .q 1 rfl (by kernel_rfl) (q_nil rfl) rfl ?_
    refine .q 2 rfl (by kernel_rfl) (q_fa0 rfl) rfl ?_
    refine .q 3 rfl (by kernel_rfl) (q_ld rfl rfl) rfl ?_
    refine .q 4 rfl (by kernel_rfl) (q_mv rfl) rfl ?_
    refine .q 5 rfl (by kernel_rfl) (q_nil rfl) rfl ?_
    refine .q 6 rfl (by kernel_rfl) (q_fa0 rfl) rfl ?_
    refine .q 7 rfl (by kernel_rfl) (q_ld rfl rfl) rfl ?_
    refine .q 8 rfl (by kernel_rfl) (q_mv rfl) rfl ?_
    refine .q 9 rfl (by kernel_rfl) (q_sadd rfl rfl (by first | omega | (simp; omega))) rfl ?_
    refine .q 10 rfl (by kernel_rfl) (q_bst rfl) rfl ?_
    refine .a 11 rfl (by kernel_rfl) (l_box rfl) rfl fun r26 => ?_
    refine .q 12 rfl (by kernel_rfl) (q_as rfl) rfl ?_
    refine .q 13 rfl (by kernel_rfl) (q_as rfl) rfl ?_
    refine .done (by kernel_rfl) ?_
    exact G.retN (ts := [4, 5]) Try.func23 Try.results23 rfl (.inl ⟨by omega, r26, rfl, rfl⟩)
theorem eqt_spec (Γ0 : List HP) (x y : Value) (l : List B) (fx : FindV Γ0 1 x (strs l)) (fy : FindV Γ0 1 y (strs l)) (hl : l.length ≤ 9223372036854775806) [tk : Takes Γ0 Γ0 []] : Spec Try.prog 20 [x, y] Γ0 (Is (.bool true) Γ0) := by
  refine Spec.enter Try.func20 rfl Try.ntmps20 rfl ?_
  refine .seq ?_
  refine .region ?_
  refine .q (q_as rfl) rfl ?_
  refine .done ?_
  refine .seq ?_
  refine .seq ?_
  refine .region ?_
  refine .q (q_mv rfl) rfl ?_
  refine .q (q_lenVm rfl) rfl ?_
  refine .q (q_mv rfl) rfl ?_
  refine .q (q_lenVm rfl) rfl ?_
  refine .q (q_ne rfl rfl) rfl ?_
  refine .done ?_
  refine .condDF rfl ((by omega)) ?_
  refine .skip ?_
  refine .seq ?_
  refine .seq ?_
  refine .region ?_
  refine .q (q_as rfl) rfl ?_
  refine .done ?_
  refine .block ?_
  refine G.loop (σ := Nat) (fun i => [(0, x), (1, y), (5, i64 (i : Int))]) (fun i => Γ0) (fun i => i ≤ l.length) (fun i => l.length - i) (0) ⟨rfl, rfl, rfl, trivial⟩ (by omega) ?_
  rintro i hi IH
  refine .seq ?_
  refine .seq ?_
  refine .region ?_
  refine .q (q_mv rfl) rfl ?_
  refine .q (q_mv rfl) rfl ?_
  refine .q (q_lenVm rfl) rfl ?_
  refine .q (q_lt rfl rfl) rfl ?_
  refine .done ?_
  refine .condD rfl (fun h14 => ?_) (fun h14 => ?_)
  · refine .skip ?_
    refine .seq ?_
    refine .block ?_
    refine .seq ?_
    refine G.regionD [] ?_
    refine .q 0 rfl (by kernel_rfl) (q_mv rfl) rfl ?_
    refine .q 1 rfl (by kernel_rfl) (q_mv rfl) rfl ?_
    refine .q 2 rfl (by kernel_rfl) (q_iaVm rfl rfl rfl (by omega)) rfl ?_
    refine .q 3 rfl (by kernel_rfl) (q_ldVm rfl (by omega)) rfl ?_
    refine .q 4 rfl (by kernel_rfl) (q_mv rfl) rfl ?_
    refine .q 5 rfl (by kernel_rfl) (q_mv rfl) rfl ?_
    refine .q 6 rfl (by kernel_rfl) (q_iaVm rfl rfl rfl (by omega)) rfl ?_
    refine .q 7 rfl (by kernel_rfl) (q_ldVm rfl (by omega)) rfl ?_
    refine .q 8 rfl (by kernel_rfl) (q_sne rfl rfl) rfl ?_
    refine .done (by kernel_rfl) ?_
    refine .condDF rfl ((by simp)) ?_
    refine .skip ?_
    refine .inBlock ?_
    refine .region ?_
    refine .q (q_mv rfl) rfl ?_
    refine .q (q_add rfl rfl (by omega)) rfl ?_
    refine .q (q_as rfl) rfl ?_
    refine .done ?_
    exact G.again (IH (i + 1) (by omega) (by omega)) ⟨rfl, rfl, rfl, trivial⟩
  · refine .exit rfl ?_
    refine .seq ?_
    refine .region ?_
    refine .q (q_as rfl) rfl ?_
    refine .done ?_
    exact G.retN (ts := [4]) Try.func20 Try.results20 rfl (⟨rfl, rfl⟩)
end Go.Sl
