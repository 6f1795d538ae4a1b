/- The document's book of keys with values: what its calls do. -/
import Derived.Test.YtgilhenjoinhhaaTy
import Derived.Test.YtgilhenjoinhhaaSlV
set_option linter.unusedVariables false
set_option linter.unusedSimpArgs false
namespace Go.Sl
open Go.Proofs

abbrev B := List UInt8
abbrev pB (b : Nat) : Value := .pointer (some ⟨b, 0, none⟩)
abbrev Bk := List (B × B)
abbrev ks (b : Bk) : List Value := b.map fun p => str p.1
abbrev vs (b : Bk) : List Value := b.map fun p => str p.2
def Bk.Ok (b : Bk) : Prop := (b.map Prod.fst).Pairwise (· < ·)
theorem Bk.Ok.nodup {b : Bk} (h : b.Ok) : (b.map Prod.fst).Nodup := h.imp fun h e => by subst e; exact List.lt_irrefl _ h
theorem str_one {α : Type} (f : α → B) (l : List α) : ∀ x ∈ l.map (fun p => str (f p)), x.oneCell' = true := by
  simp only [List.mem_map]; rintro x ⟨p, _, rfl⟩; rfl
/-- How many keys stand ahead of one. -/
def Bk.pos (b : Bk) (k : B) : Nat := (b.takeWhile fun p => decide (p.1 < k)).length
theorem Bk.pos_eq {b : Bk} {k : B} : ∀ {i : Nat}, i ≤ b.length → (∀ j p, j < i → b[j]? = some p → p.1 < k) → (∀ p, b[i]? = some p → ¬ p.1 < k) → b.pos k = i := by
  induction b with
  | nil => intro i hi _ _; simp at hi; simp [Bk.pos, hi]
  | cons q b ih =>
    intro i hi h1 h2
    cases i with
    | zero => have := h2 q rfl; simp [Bk.pos, this]
    | succ i =>
      have hq := h1 0 q (by omega) rfl
      have := ih (i := i) (by simpa using hi) (fun j p hj hp => h1 (j + 1) p (by omega) (by simpa using hp)) (fun p hp => h2 p (by simpa using hp))
      simp only [Bk.pos] at this ⊢
      simp [hq, this]
theorem Bk.pos_le (b : Bk) (k : B) : b.pos k ≤ b.length := (List.takeWhile_sublist _).length_le
theorem Bk.pos_lt {b : Bk} {k : B} {j : Nat} {p : B × B} (hj : j < b.pos k) (hp : b[j]? = some p) : p.1 < k := by
  induction b generalizing j with
  | nil => simp at hp
  | cons q b ih =>
    by_cases hq : q.1 < k
    · simp only [Bk.pos, List.takeWhile_cons, hq, decide_true, if_true, List.length_cons] at hj
      cases j with
      | zero => simp at hp; subst hp; exact hq
      | succ j => exact ih (j := j) (by simp only [Bk.pos]; omega) (by simpa using hp)
    · simp [Bk.pos, hq] at hj
theorem Bk.pos_at {b : Bk} {k : B} {p : B × B} (hp : b[b.pos k]? = some p) : ¬ p.1 < k := by
  induction b with
  | nil => simp at hp
  | cons q b ih =>
    by_cases hq : q.1 < k
    · simp only [Bk.pos, List.takeWhile_cons, hq, decide_true, if_true, List.length_cons, List.getElem?_cons_succ] at hp
      exact ih (by simpa only [Bk.pos] using hp)
    · simp [Bk.pos, hq] at hp; subst hp; exact hq
/-- Is the key there: just if it stands at its place. -/
theorem Bk.found {b : Bk} (hb : b.Ok) (k : B) : (∃ v, mget b k = some v ∧ b[b.pos k]? = some (k, v)) ∨ (mget b k = none ∧ ∀ p, b[b.pos k]? = some p → k < p.1) := by
  cases e : mget b k with
  | none =>
    right
    refine ⟨rfl, fun p hp => ?_⟩
    have h1 := Bk.pos_at hp
    refine lt_of_not h1 fun e2 => ?_
    exact mget_none_iff.1 e (e2 ▸ List.mem_map_of_mem (f := Prod.fst) (List.mem_of_getElem? hp))
  | some v =>
    left
    refine ⟨v, rfl, ?_⟩
    have hm := mget_mem e
    obtain ⟨i, hi, he⟩ := List.getElem_of_mem hm
    have : b.pos k = i := by
      refine Bk.pos_eq (by omega) (fun j p hj hp => ?_) (fun p hp => ?_)
      · have := List.pairwise_iff_getElem.1 hb j i (by simp; omega) (by simp; omega) hj
        simp only [List.getElem_map, he] at this
        have hjl : j < b.length := by omega
        rw [List.getElem?_eq_getElem hjl] at hp
        rw [← Option.some.inj hp]; exact this
      · rw [List.getElem?_eq_getElem hi, he] at hp
        rw [← Option.some.inj hp]; exact List.lt_irrefl _
    rw [this, List.getElem?_eq_getElem hi, he]
/-- A key has a value. -/
def Bk.set (b : Bk) (k v : B) : Bk := if mget b k = none then b.take (b.pos k) ++ (k, v) :: b.drop (b.pos k) else mput b k v
theorem Bk.set_found {b : Bk} (hb : b.Ok) {k u : B} (v : B) (h : b[b.pos k]? = some (k, u)) : mput b k v = List.set b (b.pos k) (k, v) :=
  (mget_idx b k (b.pos k) (by simp [h]) (fun m hm e => by
    simp only [List.getElem?_map, Option.map_eq_some_iff] at e
    obtain ⟨p, hp, rfl⟩ := e
    exact List.lt_irrefl _ (Bk.pos_lt hm hp)) v).1
theorem Bk.del_found {b : Bk} {k u : B} (h : b[b.pos k]? = some (k, u)) : mdel b k = b.take (b.pos k) ++ b.drop (b.pos k + 1) := by
  rw [(mget_idx b k (b.pos k) (by simp [h]) (fun m hm e => by
    simp only [List.getElem?_map, Option.map_eq_some_iff] at e
    obtain ⟨p, hp, rfl⟩ := e
    exact List.lt_irrefl _ (Bk.pos_lt hm hp)) k).2, List.eraseIdx_eq_take_drop_succ]
theorem Bk.set_keys {b : Bk} (k v : B) : ∀ a, a ∈ (b.set k v).map Prod.fst ↔ a = k ∨ a ∈ b.map Prod.fst := by
  intro a
  unfold Bk.set
  split
  · rw [List.map_append, List.map_cons, List.mem_append, List.mem_cons]
    have : a ∈ b.map Prod.fst ↔ a ∈ (b.take (b.pos k)).map Prod.fst ∨ a ∈ (b.drop (b.pos k)).map Prod.fst := by
      rw [← List.mem_append, ← List.map_append, List.take_append_drop]
    rw [this]
    constructor
    · rintro (h | h | h)
      · exact .inr (.inl h)
      · exact .inl h
      · exact .inr (.inr h)
    · rintro (h | h | h)
      · exact .inr (.inl h)
      · exact .inl h
      · exact .inr (.inr h)
  · exact mput_keys b k v a
theorem Bk.set_ok {b : Bk} (hb : b.Ok) (k v : B) : (b.set k v).Ok := by
  unfold Bk.set
  split
  · rename_i h
    have hf := (Bk.found hb k).resolve_left (by rintro ⟨u, e, _⟩; rw [h] at e; cases e)
    have h0 : (b.map Prod.fst) = (b.take (b.pos k)).map Prod.fst ++ (b.drop (b.pos k)).map Prod.fst := by rw [← List.map_append, List.take_append_drop]
    have hb' := hb
    unfold Bk.Ok at hb'
    rw [h0] at hb'
    unfold Bk.Ok
    rw [List.map_append, List.map_cons]
    obtain ⟨p1, p2, p3⟩ := List.pairwise_append.1 hb'
    have hl : ∀ a ∈ (b.take (b.pos k)).map Prod.fst, a < k := by
      intro a ha
      obtain ⟨p, hp, rfl⟩ := List.mem_map.1 ha
      obtain ⟨j, hj, he⟩ := List.getElem_of_mem hp
      have hj' : j < b.pos k := by simp at hj; omega
      refine Bk.pos_lt hj' (p := p) ?_
      rw [← he, List.getElem_take]; simp
    have hr : ∀ a ∈ (b.drop (b.pos k)).map Prod.fst, k < a := by
      intro a ha
      obtain ⟨p, hp, rfl⟩ := List.mem_map.1 ha
      obtain ⟨j, hj, he⟩ := List.getElem_of_mem hp
      have hj' : b.pos k + j < b.length := by simp at hj; omega
      rw [List.getElem_drop] at he
      have h1 : b.pos k < b.length := by omega
      have h2 := hf.2 _ (List.getElem?_eq_getElem h1)
      rcases Nat.eq_zero_or_pos j with rfl | hj0
      · rw [← he]; simpa using h2
      · have := List.pairwise_iff_getElem.1 hb (b.pos k) (b.pos k + j) (by simp; omega) (by simp; omega) (by omega)
        simp only [List.getElem_map] at this
        rw [← he]; exact List.lt_trans h2 this
    refine List.pairwise_append.2 ⟨p1, List.pairwise_cons.2 ⟨hr, p2⟩, fun a ha c hc => ?_⟩
    rcases List.mem_cons.1 hc with rfl | hc
    · exact hl a ha
    · exact p3 a ha c hc
  · have : (mput b k v).map Prod.fst = b.map Prod.fst := by
      rename_i h
      obtain ⟨u, hu, hp⟩ := (Bk.found hb k).resolve_right (fun e => h e.1)
      rw [Bk.set_found hb v hp]
      refine List.ext_getElem (by simp) fun j h1 h2 => ?_
      simp only [List.getElem_map, List.getElem_set]
      split
      · rename_i hj
        subst hj
        have h3 : b.pos k < b.length := by simpa using h2
        rw [List.getElem?_eq_getElem h3] at hp
        simp [Option.some.inj hp]
      · rfl
    unfold Bk.Ok; rw [this]; exact hb
theorem Bk.get_set {b : Bk} (hb : b.Ok) (k v a : B) : mget (b.set k v) a = if a = k then some v else mget b a := by
  unfold Bk.set
  split
  · rename_i h
    have hsplit : b = b.take (b.pos k) ++ b.drop (b.pos k) := (List.take_append_drop _ _).symm
    by_cases ha : a = k
    · subst ha
      rw [mget_append_right]
      · simp [mget]
      · intro hm
        exact mget_none_iff.1 h (List.Sublist.mem hm ((List.take_sublist _ _).map _))
    · simp only [ha, if_false]
      by_cases hm : a ∈ (b.take (b.pos k)).map Prod.fst
      · have hnd := hb.nodup
        rw [hsplit, List.map_append, List.nodup_append] at hnd
        have hnot : a ∉ (b.drop (b.pos k)).map Prod.fst := fun h2 => hnd.2.2 a hm a h2 rfl
        conv => rhs; rw [hsplit]
        rw [mget_append_left hnot, mget_append_left]
        simp only [List.map_cons, List.mem_cons, not_or]; exact ⟨ha, hnot⟩
      · conv => rhs; rw [hsplit]
        rw [mget_append_right hm, mget_append_right hm]
        simp [mget, ha]
  · exact mget_put b k a v
theorem Bk.del_ok {b : Bk} (hb : b.Ok) (k : B) : Bk.Ok (mdel b k) := hb.sublist ((mdel_sub b k).map _)

def bookAt (p : Nat) (b : Bk) : HP := fun h => ∃ k v, Sat [blk p [k, v], vec 1 k (ks b), vec 1 v (vs b)] h
theorem bookAt.out (p : Nat) (b : Bk) : ∀ h, bookAt p b h → ∃ k v, Sat [blk p [k, v], vec 1 k (ks b), vec 1 v (vs b)] h := fun _ s => s
theorem bookAt.mk {p : Nat} {k v : Value} (b : Bk) : ∀ h, Sat [blk p [k, v], vec 1 k (ks b), vec 1 v (vs b)] h → bookAt p b h := fun _ s => ⟨k, v, s⟩

theorem place_spec (p : Nat) (b : Bk) (hb : b.Ok) (hl : b.length ≤ 9223372036854775806) (k : B) : Spec Try.prog 26 [pB p, str k] [bookAt p b] (Is (.tuple #[.int .i64 (b.pos k : Int), .bool (decide (mget b k ≠ none))]) [bookAt p b]) := by
  refine Spec.enter Try.func26 rfl Try.ntmps26 rfl ?_
  refine G.open2 (bookAt.out p b) ?_
  intro kv vv
  refine .seq ?_
  refine .region ?_
  refine .q (q_as rfl) rfl ?_
  refine .q (q_as rfl) rfl ?_
  refine .done ?_
  refine .seq ?_
  refine .region ?_
  refine .q (q_as rfl) rfl ?_
  refine .done ?_
  refine .seq ?_
  refine .block ?_
  refine G.loop (σ := Nat) (fun i => [(0, pB p), (1, str k), (6, .int .i64 (i : Int))]) (fun i => [blk p [kv, vv], vec 1 kv (ks b), vec 1 vv (vs b)]) (fun i => i ≤ b.length ∧ ∀ j q, j < i → b[j]? = some q → q.1 < k) (fun i => b.length - i) (0) ⟨rfl, rfl, rfl, trivial⟩ ⟨by omega, by omega⟩ ?_
  rintro i ⟨hi, hlt⟩ IH
  refine .seq ?_
  refine .seq ?_
  refine .region ?_
  refine .q (q_mv rfl) rfl ?_
  refine .q (q_mv rfl) rfl ?_
  refine .q (q_nil rfl) rfl ?_
  refine .q (q_fa0 rfl) rfl ?_
  refine .q (q_ld rfl rfl) rfl ?_
  refine .q (q_lenVm rfl) rfl ?_
  refine .q (q_lt rfl rfl) rfl ?_
  refine .q (q_mv rfl) rfl ?_
  refine GR.casesD (t := 14) rfl (fun h14 => ?_) (fun h14 => ?_)
  · refine .yes rfl rfl rfl ?_
    refine .q (q_mv rfl) rfl ?_
    refine .yes rfl rfl rfl ?_
    refine .q (q_nil rfl) rfl ?_
    refine .yes rfl rfl rfl ?_
    refine .q (q_fa0 rfl) rfl ?_
    refine .yes rfl rfl rfl ?_
    refine .q (q_ld rfl rfl) rfl ?_
    refine .yes rfl rfl rfl ?_
    refine .q (q_mv rfl) rfl ?_
    refine .yes rfl rfl rfl ?_
    refine .q (q_iaVm rfl rfl rfl (by omega)) rfl ?_
    refine .yes rfl rfl rfl ?_
    refine .q (q_ldVm rfl (by omega)) rfl ?_
    refine .yes rfl rfl rfl ?_
    refine .q (q_mv rfl) rfl ?_
    refine .yes rfl rfl rfl ?_
    refine .q (q_slt rfl rfl) rfl ?_
    refine .q (q_pickT rfl rfl) rfl ?_
    refine .done ?_
    refine .condD rfl (fun h24 => ?_) (fun h24 => ?_)
    · have hnext : ∀ j q, j < i + 1 → b[j]? = some q → q.1 < k := by
        intro j q hj hq
        rcases Nat.lt_or_ge j i with h | h
        · exact hlt j q h hq
        · obtain rfl : j = i := by omega
          rw [List.getElem?_eq_getElem (by omega)] at hq; rw [← Option.some.inj hq]; exact h24
      refine .skip ?_
      refine .block ?_
      refine .region ?_
      refine .q (q_mv rfl) rfl ?_
      refine .q (q_add rfl rfl (by omega)) rfl ?_
      refine .q (q_as rfl) rfl ?_
      refine .done ?_
      refine .inBlock ?_
      exact G.again (IH (i + 1) ⟨by omega, hnext⟩ (by omega)) ⟨rfl, rfl, rfl, trivial⟩
    · have hil : i < b.length := by omega
      have hp : b.pos k = i := Bk.pos_eq hi hlt (fun q hq => by rw [List.getElem?_eq_getElem hil] at hq; rw [← Option.some.inj hq]; exact h24)
      have hf : decide (b[i].1 = k) = decide (mget b k ≠ none) := by
        rcases Bk.found hb k with ⟨u, e1, e2⟩ | ⟨e1, e2⟩
        · rw [hp, List.getElem?_eq_getElem hil] at e2; rw [Option.some.inj e2, e1]; simp
        · have h2 := e2 b[i] (by rw [hp, List.getElem?_eq_getElem hil])
          rw [e1]
          exact decide_eq_decide.2 ⟨fun e => (by rw [e] at h2; exact (List.lt_irrefl _ h2).elim), fun e => (e rfl).elim⟩
      refine .exit rfl ?_
      refine .seq ?_
      refine G.regionD [] ?_
      refine .q 0 rfl (by kernel_rfl) (q_mv rfl) rfl ?_
      refine .q 1 rfl (by kernel_rfl) (q_mv rfl) rfl ?_
      refine .q 2 rfl (by kernel_rfl) (q_mv rfl) rfl ?_
      refine .q 3 rfl (by kernel_rfl) (q_nil rfl) rfl ?_
      refine .q 4 rfl (by kernel_rfl) (q_fa0 rfl) rfl ?_
      refine .q 5 rfl (by kernel_rfl) (q_ld rfl rfl) rfl ?_
      refine .q 6 rfl (by kernel_rfl) (q_lenVm rfl) rfl ?_
      refine .q 7 rfl (by kernel_rfl) (q_lt rfl rfl) rfl ?_
      refine .q 8 rfl (by kernel_rfl) (q_mv rfl) rfl ?_
      refine GD.setT (t := 35) rfl ((by omega)) ?_
      refine .qy 9 rfl (by kernel_rfl) rfl rfl rfl (q_mv rfl) rfl ?_
      refine .qy 10 rfl (by kernel_rfl) rfl rfl rfl (q_nil rfl) rfl ?_
      refine .qy 11 rfl (by kernel_rfl) rfl rfl rfl (q_fa0 rfl) rfl ?_
      refine .qy 12 rfl (by kernel_rfl) rfl rfl rfl (q_ld rfl rfl) rfl ?_
      refine .qy 13 rfl (by kernel_rfl) rfl rfl rfl (q_mv rfl) rfl ?_
      refine .qy 14 rfl (by kernel_rfl) rfl rfl rfl (q_iaVm rfl rfl rfl (by omega)) rfl ?_
      refine .qy 15 rfl (by kernel_rfl) rfl rfl rfl (q_ldVm rfl (by omega)) rfl ?_
      refine .qy 16 rfl (by kernel_rfl) rfl rfl rfl (q_mv rfl) rfl ?_
      refine .qy 17 rfl (by kernel_rfl) rfl rfl rfl (q_seq rfl rfl) rfl ?_
      refine .q 18 rfl (by kernel_rfl) (q_pickT rfl rfl) rfl ?_
      refine .q 19 rfl (by kernel_rfl) (q_as rfl) rfl ?_
      refine .q 20 rfl (by kernel_rfl) (q_as rfl) rfl ?_
      refine .done (by kernel_rfl) ?_
      refine G.fold (bookAt.mk (p := p) (k := kv) (v := vv) b) ?_
      exact G.retN (ts := [4, 5]) Try.func26 Try.results26 rfl (⟨by rw [hp, ← hf]; rfl, rfl⟩)
  · refine .no rfl rfl rfl rfl rfl ?_
    refine .no rfl rfl rfl rfl rfl ?_
    refine .no rfl rfl rfl rfl rfl ?_
    refine .no rfl rfl rfl rfl rfl ?_
    refine .no rfl rfl rfl rfl rfl ?_
    refine .no rfl rfl rfl rfl rfl ?_
    refine .no rfl rfl rfl rfl rfl ?_
    refine .no rfl rfl rfl rfl rfl ?_
    refine .no rfl rfl rfl rfl rfl ?_
    refine .q (q_pickF rfl rfl) rfl ?_
    refine .done ?_
    have hil : i = b.length := by omega
    have hp : b.pos k = i := Bk.pos_eq hi hlt (fun q hq => by rw [hil, List.getElem?_eq_none (Nat.le_refl _)] at hq; cases hq)
    have hf : decide (mget b k ≠ none) = false := by
      rcases Bk.found hb k with ⟨u, e1, e2⟩ | ⟨e1, e2⟩
      · rw [hp, hil, List.getElem?_eq_none (Nat.le_refl _)] at e2; cases e2
      · rw [e1]; simp
    refine .condF rfl ?_
    refine .exit rfl ?_
    refine .seq ?_
    refine G.regionD [] ?_
    refine .q 0 rfl (by kernel_rfl) (q_mv rfl) rfl ?_
    refine .q 1 rfl (by kernel_rfl) (q_mv rfl) rfl ?_
    refine .q 2 rfl (by kernel_rfl) (q_mv rfl) rfl ?_
    refine .q 3 rfl (by kernel_rfl) (q_nil rfl) rfl ?_
    refine .q 4 rfl (by kernel_rfl) (q_fa0 rfl) rfl ?_
    refine .q 5 rfl (by kernel_rfl) (q_ld rfl rfl) rfl ?_
    refine .q 6 rfl (by kernel_rfl) (q_lenVm rfl) rfl ?_
    refine .q 7 rfl (by kernel_rfl) (q_lt rfl rfl) rfl ?_
    refine .q 8 rfl (by kernel_rfl) (q_mv rfl) rfl ?_
    refine GD.setF (t := 35) rfl ((by omega)) ?_
    refine .no 9 rfl (by kernel_rfl) rfl rfl rfl rfl rfl ?_
    refine .no 10 rfl (by kernel_rfl) rfl rfl rfl rfl rfl ?_
    refine .no 11 rfl (by kernel_rfl) rfl rfl rfl rfl rfl ?_
    refine .no 12 rfl (by kernel_rfl) rfl rfl rfl rfl rfl ?_
    refine .no 13 rfl (by kernel_rfl) rfl rfl rfl rfl rfl ?_
    refine .no 14 rfl (by kernel_rfl) rfl rfl rfl rfl rfl ?_
    refine .no 15 rfl (by kernel_rfl) rfl rfl rfl rfl rfl ?_
    refine .no 16 rfl (by kernel_rfl) rfl rfl rfl rfl rfl ?_
    refine .no 17 rfl (by kernel_rfl) rfl rfl rfl rfl rfl ?_
    refine .q 18 rfl (by kernel_rfl) (q_pickF rfl rfl) rfl ?_
    refine .q 19 rfl (by kernel_rfl) (q_as rfl) rfl ?_
    refine .q 20 rfl (by kernel_rfl) (q_as rfl) rfl ?_
    refine .done (by kernel_rfl) ?_
    refine G.fold (bookAt.mk (p := p) (k := kv) (v := vv) b) ?_
    exact G.retN (ts := [4, 5]) Try.func26 Try.results26 rfl (⟨by rw [hp, hf]; rfl, rfl⟩)
theorem map_set {α β : Type} (f : α → β) (l : List α) (i : Nat) (a : α) : (l.map f).set i (f a) = (l.set i a).map f := by simp [List.map_set]
theorem set_spec (p : Nat) (b : Bk) (hb : b.Ok) (hl : b.length ≤ 1000000) (k v : B) : Spec Try.prog 27 [pB p, str k, str v] [bookAt p b] (Is (.tuple #[]) [bookAt p (b.set k v)]) := by
  refine Spec.enter Try.func27 rfl Try.ntmps27 rfl ?_
  refine .seq ?_
  refine .region ?_
  refine .q (q_mv rfl) rfl ?_
  refine .q (q_mv rfl) rfl ?_
  refine .l (l_call (place_spec p b hb (by omega) k) rfl) rfl ?_
  rintro _ _ ⟨_, ⟨rfl, rfl⟩, rfl⟩
  refine .q (q_mv rfl) rfl ?_
  refine .q (q_ex rfl rfl) rfl ?_
  refine .q (q_ex rfl rfl) rfl ?_
  refine .q (q_as rfl) rfl ?_
  refine .q (q_as rfl) rfl ?_
  refine .done ?_
  refine G.open2 (bookAt.out p b) ?_
  intro kv vv
  have hpl := b.pos_le k
  refine .seq ?_
  refine .seq ?_
  refine .region ?_
  refine .q (q_mv rfl) rfl ?_
  refine .done ?_
  refine .condD rfl (fun h16 => ?_) (fun h16 => ?_)
  · obtain ⟨u, e1, e2⟩ := (Bk.found hb k).resolve_right (fun e => h16 e.1)
    have hpos : b.pos k < b.length := by
      rcases Nat.lt_or_ge (b.pos k) b.length with h | h
      · exact h
      · rw [List.getElem?_eq_none h] at e2; cases e2
    have hset : b.set k v = List.set b (b.pos k) (k, v) := by rw [← Bk.set_found hb v e2]; simp [Bk.set, e1]
    refine .seq ?_
    refine .region ?_
    refine .q (q_mv rfl) rfl ?_
    refine .q (q_nil rfl) rfl ?_
    refine .q (q_fa0 rfl) rfl ?_
    refine .q (q_ld rfl rfl) rfl ?_
    refine .q (q_mv rfl) rfl ?_
    refine .q (q_mv rfl) rfl ?_
    refine .q (q_iaVm rfl rfl rfl (by omega)) rfl ?_
    refine .s0 (l_stV rfl rfl (by simpa using hpos) rfl) ?_
    refine .done ?_
    refine G.fold (X := bookAt p (b.set k v)) (Δ := [blk p [kv, vv], vec 1 kv (ks b), vec 1 vv ((vs b).set (b.pos k) (str v))]) (by
      have hk : ks b = ks (b.set k v) := by
        rw [hset]; refine List.ext_getElem (by simp) fun j h1 h2 => ?_
        simp only [List.getElem_map, List.getElem_set]
        split
        · rename_i hj; subst hj; rw [List.getElem?_eq_getElem hpos] at e2; rw [Option.some.inj e2]
        · rfl
      have hv : (vs b).set (b.pos k) (str v) = vs (b.set k v) := by rw [hset]; exact map_set _ b _ (k, v)
      rw [hk, hv]; exact bookAt.mk (b.set k v)) ?_
    exact G.retN (ts := []) Try.func27 Try.results27 rfl (⟨rfl, rfl⟩)
  · have hnone : mget b k = none := by simpa using h16
    refine G.vecNil 1 (G.vecNil 1 ?_)
    refine .skip ?_
    refine .seq ?_
    refine .region ?_
    refine .q (q_as rfl) rfl ?_
    refine .q (q_as rfl) rfl ?_
    refine .done ?_
    refine .seq ?_
    refine .region ?_
    refine .q (q_mv rfl) rfl ?_
    refine .q (q_mv rfl) rfl ?_
    refine .q (q_nil rfl) rfl ?_
    refine .q (q_fa0 rfl) rfl ?_
    refine .q (q_ld rfl rfl) rfl ?_
    refine .q (q_mv rfl) rfl ?_
    refine .q (q_slVm2 rfl rfl rfl (by omega)) rfl ?_
    refine .l (l_apS rfl rfl (by omega) (by omega) (by intro; rfl) rfl (by (try simp only [List.length_map, List.length_append, List.length_nil, List.length_cons, List.length_take, List.length_drop]); omega) (by decide)) rfl ?_
    rintro v31 _ ⟨_, i31, rfl, rfl⟩
    refine .q (q_as rfl) rfl ?_
    refine .done ?_
    refine .seq ?_
    refine .region ?_
    refine .q (q_mv rfl) rfl ?_
    refine .q (q_mv rfl) rfl ?_
    refine .a (l_bs rfl rfl (by decide) (by simp [Value.cells])) rfl fun r34 => ?_
    refine .l (l_ap1 rfl rfl rfl (by (try simp only [List.length_map, List.length_append, List.length_nil, List.length_cons, List.length_take, List.length_drop]); omega) (by decide)) rfl ?_
    rintro v35 _ ⟨_, i35, rfl, rfl⟩
    refine .q (q_as rfl) rfl ?_
    refine .done ?_
    refine .seq ?_
    refine .region ?_
    refine .q (q_mv rfl) rfl ?_
    refine .q (q_mv rfl) rfl ?_
    refine .q (q_nil rfl) rfl ?_
    refine .q (q_fa0 rfl) rfl ?_
    refine .q (q_ld rfl rfl) rfl ?_
    refine .q (q_mv rfl) rfl ?_
    refine .q (q_slVm1 rfl rfl rfl (by omega)) rfl ?_
    refine .l (l_apS rfl rfl (by omega) (by omega) (by intro; rfl) rfl (by (try simp only [List.length_map, List.length_append, List.length_nil, List.length_cons, List.length_take, List.length_drop]); omega) (by decide)) rfl ?_
    rintro v43 _ ⟨_, i43, rfl, rfl⟩
    refine .q (q_as rfl) rfl ?_
    refine .done ?_
    refine .seq ?_
    refine .region ?_
    refine .q (q_mv rfl) rfl ?_
    refine .q (q_mv rfl) rfl ?_
    refine .q (q_nil rfl) rfl ?_
    refine .q (q_fa0 rfl) rfl ?_
    refine .q (q_ld rfl rfl) rfl ?_
    refine .q (q_mv rfl) rfl ?_
    refine .q (q_slVm2 rfl rfl rfl (by omega)) rfl ?_
    refine .l (l_apS rfl rfl (by omega) (by omega) (by intro; rfl) rfl (by (try simp only [List.length_map, List.length_append, List.length_nil, List.length_cons, List.length_take, List.length_drop]); omega) (by decide)) rfl ?_
    rintro v51 _ ⟨_, i51, rfl, rfl⟩
    refine .q (q_as rfl) rfl ?_
    refine .done ?_
    refine .seq ?_
    refine .region ?_
    refine .q (q_mv rfl) rfl ?_
    refine .q (q_mv rfl) rfl ?_
    refine .a (l_bs rfl rfl (by decide) (by simp [Value.cells])) rfl fun r54 => ?_
    refine .l (l_ap1 rfl rfl rfl (by (try simp only [List.length_map, List.length_append, List.length_nil, List.length_cons, List.length_take, List.length_drop]); omega) (by decide)) rfl ?_
    rintro v55 _ ⟨_, i55, rfl, rfl⟩
    refine .q (q_as rfl) rfl ?_
    refine .done ?_
    refine .seq ?_
    refine .region ?_
    refine .q (q_mv rfl) rfl ?_
    refine .q (q_mv rfl) rfl ?_
    refine .q (q_nil rfl) rfl ?_
    refine .q (q_fa0 rfl) rfl ?_
    refine .q (q_ld rfl rfl) rfl ?_
    refine .q (q_mv rfl) rfl ?_
    refine .q (q_slVm1 rfl rfl rfl (by omega)) rfl ?_
    refine .l (l_apS rfl rfl (by omega) (by omega) (by intro; rfl) rfl (by (try simp only [List.length_map, List.length_append, List.length_nil, List.length_cons, List.length_take, List.length_drop]); omega) (by decide)) rfl ?_
    rintro v63 _ ⟨_, i63, rfl, rfl⟩
    refine .q (q_as rfl) rfl ?_
    refine .done ?_
    refine .seq ?_
    refine .region ?_
    refine .q (q_mv rfl) rfl ?_
    refine .q (q_mv rfl) rfl ?_
    refine .q (q_nil rfl) rfl ?_
    refine .q (q_fa0 rfl) rfl ?_
    refine .s0 (l_st rfl rfl) ?_
    refine .done ?_
    have hset : b.set k v = b.take (b.pos k) ++ (k, v) :: b.drop (b.pos k) := by simp [Bk.set, hnone]
    refine .region ?_
    refine .q (q_mv rfl) rfl ?_
    refine .q (q_mv rfl) rfl ?_
    refine .q (q_nil rfl) rfl ?_
    refine .q (q_fa0 rfl) rfl ?_
    refine .s0 (l_st rfl rfl) ?_
    refine .done ?_
    have ek : ∀ g : B × B → Value, [] ++ ((b.drop 0).take (b.pos k - 0)).map g ++ [g (k, v)] ++ ((b.drop (b.pos k)).take (b.length - b.pos k)).map g = (b.set k v).map g := by
      intro g; rw [hset]; simp [List.take_of_length_le]
    have e1 := ek (fun p => str p.1)
    have e2 := ek (fun p => str p.2)
    dsimp only at e1 e2
    rw [e1, e2]
    refine G.fold (X := bookAt p (b.set k v)) (Δ := [blk p [v43, v63], vec 1 v43 (ks (b.set k v)), vec 1 v63 (vs (b.set k v))]) (bookAt.mk _) ?_
    exact G.endsN (ts := []) Try.func27 Try.results27 rfl (⟨rfl, rfl⟩)
theorem key10_spec (k : B) : Spec Try.prog 31 [str k] [] (Is (.bool (decide (1 ≤ k.length ∧ k.length ≤ 200))) []) := by
  refine Spec.enter Try.func31 rfl Try.ntmps31 rfl ?_
  refine .seq ?_
  refine .region ?_
  refine .q (q_as rfl) rfl ?_
  refine .done ?_
  refine .seq ?_
  refine .region ?_
  refine .q (q_mv rfl) rfl ?_
  refine .q (q_lenS rfl) rfl ?_
  refine .q (q_ge rfl rfl) rfl ?_
  refine .q (q_mv rfl) rfl ?_
  refine GR.casesD (t := 6) rfl (fun h6 => ?_) (fun h6 => ?_)
  · refine .yes rfl rfl rfl ?_
    refine .q (q_mv rfl) rfl ?_
    refine .yes rfl rfl rfl ?_
    refine .q (q_lenS rfl) rfl ?_
    refine .yes rfl rfl rfl ?_
    refine .q (q_le rfl rfl) rfl ?_
    refine .q (q_pickT rfl rfl) rfl ?_
    refine .q (q_as rfl) rfl ?_
    refine .done ?_
    exact G.retN (ts := [2]) Try.func31 Try.results31 rfl (⟨congrArg Value.bool (decide_eq_decide.2 ⟨fun h => by omega, fun h => by omega⟩), rfl⟩)
  · refine .no rfl rfl rfl rfl rfl ?_
    refine .no rfl rfl rfl rfl rfl ?_
    refine .no rfl rfl rfl rfl rfl ?_
    refine .q (q_pickF rfl rfl) rfl ?_
    refine .q (q_as rfl) rfl ?_
    refine .done ?_
    exact G.retN (ts := [2]) Try.func31 Try.results31 rfl (⟨congrArg Value.bool (decide_eq_false (by omega)).symm, rfl⟩)
theorem delete_spec (p : Nat) (b : Bk) (hb : b.Ok) (hl : b.length ≤ 1000000) (k : B) (hk : 1 ≤ k.length ∧ k.length ≤ 200) : Spec Try.prog 28 [pB p, str k] [bookAt p b] (Is (.tuple #[.bool (decide (mget b k ≠ none)), .int .i64 0]) [bookAt p (mdel b k)]) := by
  refine Spec.enter Try.func28 rfl Try.ntmps28 rfl ?_
  refine .seq ?_
  refine .region ?_
  refine .q (q_as rfl) rfl ?_
  refine .q (q_as rfl) rfl ?_
  refine .done ?_
  refine .seq ?_
  refine .seq ?_
  refine .region ?_
  refine .q (q_mv rfl) rfl ?_
  refine .l (l_call (key10_spec k) rfl) rfl ?_
  rintro _ _ ⟨_, ⟨rfl, rfl⟩, rfl⟩
  refine .q (q_notD rfl) rfl ?_
  refine .done ?_
  refine .condDF rfl ((by simpa using hk)) ?_
  refine .skip ?_
  refine .seq ?_
  refine .region ?_
  refine .q (q_mv rfl) rfl ?_
  refine .q (q_mv rfl) rfl ?_
  refine .l (l_call (place_spec p b hb (by omega) k) rfl) rfl ?_
  rintro _ _ ⟨_, ⟨rfl, rfl⟩, rfl⟩
  refine .q (q_mv rfl) rfl ?_
  refine .q (q_ex rfl rfl) rfl ?_
  refine .q (q_ex rfl rfl) rfl ?_
  refine .q (q_as rfl) rfl ?_
  refine .q (q_as rfl) rfl ?_
  refine .done ?_
  refine .seq ?_
  refine .seq ?_
  refine .region ?_
  refine .q (q_mv rfl) rfl ?_
  refine .q (q_notD rfl) rfl ?_
  refine .done ?_
  refine .condD rfl (fun h20 => ?_) (fun h20 => ?_)
  · have hnone : mget b k = none := by simpa using h20
    have hdel : mdel b k = b := (mget_none b k hnone k).2
    refine .seq ?_
    refine .region ?_
    refine .q (q_as rfl) rfl ?_
    refine .q (q_as rfl) rfl ?_
    refine .done ?_
    exact G.retN (ts := [4, 5]) Try.func28 Try.results28 rfl (⟨by rw [hnone]; simp; rfl, by rw [hdel]⟩)
  · obtain ⟨u, e1, e2⟩ := (Bk.found hb k).resolve_right (fun e => h20 (by simp [e.1]))
    refine G.open2 (bookAt.out p b) ?_
    intro kv vv
    have hpos : b.pos k < b.length := by
      rcases Nat.lt_or_ge (b.pos k) b.length with h | h
      · exact h
      · rw [List.getElem?_eq_none h] at e2; cases e2
    refine G.vecNil 1 (G.vecNil 1 ?_)
    refine .skip ?_
    refine .seq ?_
    refine .region ?_
    refine .q (q_as rfl) rfl ?_
    refine .q (q_as rfl) rfl ?_
    refine .done ?_
    refine .seq ?_
    refine .region ?_
    refine .q (q_mv rfl) rfl ?_
    refine .q (q_mv rfl) rfl ?_
    refine .q (q_nil rfl) rfl ?_
    refine .q (q_fa0 rfl) rfl ?_
    refine .q (q_ld rfl rfl) rfl ?_
    refine .q (q_mv rfl) rfl ?_
    refine .q (q_slVm2 rfl rfl rfl (by omega)) rfl ?_
    refine .l (l_apS rfl rfl (by omega) (by omega) (by intro; rfl) rfl (by (try simp only [List.length_map, List.length_append, List.length_nil, List.length_cons, List.length_take, List.length_drop]); omega) (by decide)) rfl ?_
    rintro v28 _ ⟨_, i28, rfl, rfl⟩
    refine .q (q_as rfl) rfl ?_
    refine .done ?_
    refine .seq ?_
    refine .region ?_
    refine .q (q_mv rfl) rfl ?_
    refine .q (q_mv rfl) rfl ?_
    refine .q (q_nil rfl) rfl ?_
    refine .q (q_fa0 rfl) rfl ?_
    refine .q (q_ld rfl rfl) rfl ?_
    refine .q (q_mv rfl) rfl ?_
    refine .q (q_add rfl rfl (by omega)) rfl ?_
    refine .q (q_slVm1 (lo := b.pos k + 1) rfl rfl (by omega) (by omega)) rfl ?_
    refine .l (l_apS rfl rfl (by omega) (by omega) (by intro; rfl) rfl (by (try simp only [List.length_map, List.length_append, List.length_nil, List.length_cons, List.length_take, List.length_drop]); omega) (by decide)) rfl ?_
    rintro v37 _ ⟨_, i37, rfl, rfl⟩
    refine .q (q_as rfl) rfl ?_
    refine .done ?_
    refine .seq ?_
    refine .region ?_
    refine .q (q_mv rfl) rfl ?_
    refine .q (q_mv rfl) rfl ?_
    refine .q (q_nil rfl) rfl ?_
    refine .q (q_fa0 rfl) rfl ?_
    refine .q (q_ld rfl rfl) rfl ?_
    refine .q (q_mv rfl) rfl ?_
    refine .q (q_slVm2 rfl rfl rfl (by omega)) rfl ?_
    refine .l (l_apS rfl rfl (by omega) (by omega) (by intro; rfl) rfl (by (try simp only [List.length_map, List.length_append, List.length_nil, List.length_cons, List.length_take, List.length_drop]); omega) (by decide)) rfl ?_
    rintro v45 _ ⟨_, i45, rfl, rfl⟩
    refine .q (q_as rfl) rfl ?_
    refine .done ?_
    refine .seq ?_
    refine .region ?_
    refine .q (q_mv rfl) rfl ?_
    refine .q (q_mv rfl) rfl ?_
    refine .q (q_nil rfl) rfl ?_
    refine .q (q_fa0 rfl) rfl ?_
    refine .q (q_ld rfl rfl) rfl ?_
    refine .q (q_mv rfl) rfl ?_
    refine .q (q_add rfl rfl (by omega)) rfl ?_
    refine .q (q_slVm1 (lo := b.pos k + 1) rfl rfl (by omega) (by omega)) rfl ?_
    refine .l (l_apS rfl rfl (by omega) (by omega) (by intro; rfl) rfl (by (try simp only [List.length_map, List.length_append, List.length_nil, List.length_cons, List.length_take, List.length_drop]); omega) (by decide)) rfl ?_
    rintro v54 _ ⟨_, i54, rfl, rfl⟩
    refine .q (q_as rfl) rfl ?_
    refine .done ?_
    refine .seq ?_
    refine .region ?_
    refine .q (q_mv rfl) rfl ?_
    refine .q (q_mv rfl) rfl ?_
    refine .q (q_nil rfl) rfl ?_
    refine .q (q_fa0 rfl) rfl ?_
    refine .s0 (l_st rfl rfl) ?_
    refine .done ?_
    refine .seq ?_
    refine .region ?_
    refine .q (q_mv rfl) rfl ?_
    refine .q (q_mv rfl) rfl ?_
    refine .q (q_nil rfl) rfl ?_
    refine .q (q_fa0 rfl) rfl ?_
    refine .s0 (l_st rfl rfl) ?_
    refine .done ?_
    refine .seq ?_
    refine .region ?_
    refine .q (q_as rfl) rfl ?_
    refine .q (q_as rfl) rfl ?_
    refine .done ?_
    have ek : ∀ g : B × B → Value, [] ++ ((b.drop 0).take (b.pos k - 0)).map g ++ ((b.drop (b.pos k + 1)).take (b.length - (b.pos k + 1))).map g = (mdel b k).map g := by
      intro g; rw [Bk.del_found e2]; simp [List.take_of_length_le]
    have e3 := ek (fun p => str p.1)
    have e4 := ek (fun p => str p.2)
    rw [e3, e4]
    refine G.fold (X := bookAt p (mdel b k)) (Δ := [blk p [v37, v54], vec 1 v37 (ks (mdel b k)), vec 1 v54 (vs (mdel b k))]) (bookAt.mk _) ?_
    exact G.retN (ts := [4, 5]) Try.func28 Try.results28 rfl (⟨by rw [e1]; simp; rfl, rfl⟩)
end Go.Sl
