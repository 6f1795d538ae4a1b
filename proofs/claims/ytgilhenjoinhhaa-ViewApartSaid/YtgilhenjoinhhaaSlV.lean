/- Slices by their value alone: length, places, loads, stores, parts: no case of nil at each. And a heap that is only read. -/
import Derived.Test.YtgilhenjoinhhaaSlX
import Derived.Laws.Small
set_option linter.unusedVariables false
namespace Go.Sl

/-- In this heap the slice 'v' has these cells. -/
def rdH (H : Heap) (s : Nat) (v : Value) (xs : List Value) : Prop := (∃ p c, v = .slice p 0 c ∧ xs = []) ∨
  ∃ (b o len cap : Nat) (l : List Value) (T : TypeId) (fr : Nat × Nat), v = .slice (some ⟨b, o, none⟩) len cap ∧ xs.length = len * s ∧ len ≤ cap ∧ o + len * s ≤ l.length ∧ (l.drop o).take (len * s) = xs ∧ H b = some (.cells l.toArray T fr)
theorem rdH.mono {H H' : Heap} {s : Nat} {v : Value} {xs : List Value} (h : rdH H s v xs) (hs : sub H H') : rdH H' s v xs := by
  rcases h with h | ⟨b, o, len, cap, l, T, fr, h1, h2, h3, h4, h5, h6⟩
  · exact .inl h
  · exact .inr ⟨b, o, len, cap, l, T, fr, h1, h2, h3, h4, h5, hs _ _ h6⟩
/-- A heap as it was, only read. -/
def ini (H : Heap) : HP := fun h => h = H
class RdI (H : Heap) (s : outParam Nat) (v : Value) (xs : outParam (List Value)) : Prop where
  rd : rdH H s v xs
class FindV (Γ : List HP) (s : outParam Nat) (v : Value) (xs : outParam (List Value)) : Prop where
  rd : ∀ (F : Heap) (w : World), Holds Γ F w → rdH (hp w) s v xs
theorem vec.rd {s : Nat} {v : Value} {xs : List Value} {h : Heap} (hv : vec s v xs h) : rdH h s v xs := by
  rcases hv with ⟨e1, e2, _⟩ | ⟨b, pre, spare, len, cap, e1, e2, e3, e4, fr, T, _, hb, _⟩
  · exact .inl ⟨none, 0, e1, e2⟩
  · exact .inr ⟨b, pre.length, len, cap, _, T, fr, e1, e2, e4, by simp; omega, by simp [← e2], hb⟩
instance (priority := high) FindV.here {s : Nat} {v : Value} {xs : List Value} {Γ : List HP} : FindV (vec s v xs :: Γ) s v xs := ⟨fun F w hh => by
  obtain ⟨h, hv, hs⟩ := hh.head
  exact (vec.rd hv).mono hs⟩
instance FindV.ini {H : Heap} {s : Nat} {v : Value} {xs : List Value} {Γ : List HP} [r : RdI H s v xs] : FindV (ini H :: Γ) s v xs := ⟨fun F w hh => by
  obtain ⟨h, hv, hs⟩ := hh.head
  cases hv
  exact r.rd.mono hs⟩
instance FindV.there {s : Nat} {v : Value} {xs : List Value} {A : HP} {Γ : List HP} [t : FindV Γ s v xs] : FindV (A :: Γ) s v xs := ⟨fun F w hh => t.rd F w hh.tail⟩
instance FindV.app {s : Nat} {v : Value} {xs : List Value} {A : HP} {Γ Δ : List HP} [t : FindV (A :: (Γ ++ Δ)) s v xs] : FindV ((A :: Γ) ++ Δ) s v xs := t
instance FindV.app0 {s : Nat} {v : Value} {xs : List Value} {Δ : List HP} [t : FindV Δ s v xs] : FindV ([] ++ Δ) s v xs := t

/-- The place of a slice's cell 'j'. -/
def atP (v : Value) (j : Nat) : Value := match v with
  | .slice (some a) _ _ => .pointer (some (a.add j))
  | _ => undef
/-- 'v[lo:hi]'. -/
def subV (v : Value) (s lo hi : Nat) : Value := match v with
  | .slice p _ cap => .slice (if cap = lo then p else p.map (·.add (lo * s))) (hi - lo) (cap - lo)
  | _ => undef
/-- Some value, whatever it is, of which this is known. -/
def NewP (Φ : Value → Prop) (Γ : Value → List HP) : Value → List HP → Prop := fun v' Γ' => ∃ x, Φ x ∧ v' = x ∧ Γ' = Γ x

theorem nil_len {s m : Nat} (h : ([] : List Value).length = m * s) (hs : 0 < s) : m = 0 := by
  rcases Nat.mul_eq_zero.1 (show m * s = 0 from h.symm) with e | e
  · exact e
  · omega
section vs
variable {P : Program} {f : FuncId} {n : Nat} {Q : Value → List HP → Prop} {k : List Item} {K : Env} {Γ : List HP}

theorem q_lenV {t e : TypeId} {x : Operand} {v : Value} {xs : List Value} {s m : Nat} (hx : ev K x = some v) [u : Und P t (.slice e)] [sz : Siz P e s] [fv : FindV Γ s v xs] (hm : xs.length = m * s) (hs : 0 < s) : QOp P n K Γ (.call ⟨.builtin .len, #[x], #[t]⟩) (.int .i64 (m : Int)) := fun F a w ty ha hh => by
  rcases fv.rd F w hh with ⟨p0, c0, rfl, rfl⟩ | ⟨b, o, len, cap, l, T, fr, rfl, h2, _⟩
  · have : m = 0 := nil_len hm hs
    subst this
    exact q_len (P := P) (n := n) (Γ := Γ) hx F a w ty ha hh
  · have : m = len := Nat.eq_of_mul_eq_mul_right hs (by rw [← hm, h2])
    subst this
    exact q_len (P := P) (n := n) (Γ := Γ) hx F a w ty ha hh
/-- One cell an element. -/
theorem q_lenV1 {t e : TypeId} {x : Operand} {v : Value} {xs : List Value} (hx : ev K x = some v) [u : Und P t (.slice e)] [sz : Siz P e 1] [fv : FindV Γ 1 v xs] : QOp P n K Γ (.call ⟨.builtin .len, #[x], #[t]⟩) (.int .i64 (xs.length : Int)) :=
  q_lenV hx (s := 1) (by omega) (by omega)
theorem q_iaV {t e : TypeId} {x i : Operand} {v : Value} {xs : List Value} {s j m : Nat} {k : IntKind} {z : Int} (hx : ev K x = some v) (hi : ev K i = some (.int k z)) [u : Und P t (.slice e)] [sz : Siz P e s] [fv : FindV Γ s v xs] (hz : z = (j : Int)) (hm : xs.length = m * s) (hs : 0 < s) (hj : j < m) : QOp P n K Γ (.indexAddr t x i) (atP v (j * s)) := fun F a w ty ha hh => by
  rcases fv.rd F w hh with ⟨p0, c0, rfl, rfl⟩ | ⟨b, o, len, cap, l, T, fr, rfl, h2, _⟩
  · have := nil_len hm hs; omega
  · have : m = len := Nat.eq_of_mul_eq_mul_right hs (by rw [← hm, h2])
    subst this
    have := q_iaN (P := P) (n := n) (Γ := Γ) (t := t) (s := s) hx hi hz hj F a w ty ha hh
    rw [this]; simp [atP, add_none]
theorem q_iaV1 {t e : TypeId} {x i : Operand} {v : Value} {xs : List Value} {j : Nat} {k : IntKind} {z : Int} (hx : ev K x = some v) (hi : ev K i = some (.int k z)) [u : Und P t (.slice e)] [sz : Siz P e 1] [fv : FindV Γ 1 v xs] (hz : z = (j : Int)) (hj : j < xs.length) : QOp P n K Γ (.indexAddr t x i) (atP v j) := by
  have := q_iaV (P := P) (n := n) (K := K) (Γ := Γ) (t := t) (s := 1) (m := xs.length) hx hi hz (by omega) (by omega) hj
  simpa using this
theorem q_faV {s : TypeId} {x : Operand} {v : Value} {xs : List Value} {sz i c j : Nat} (h : ev K x = some (atP v j)) [t : FOff P s i c] [fv : FindV Γ sz v xs] (hj : j < xs.length) : QOp P n K Γ (.fieldAddr s x i) (atP v (j + c)) := fun F a w ty ha hh => by
  rcases fv.rd F w hh with ⟨p0, c0, rfl, rfl⟩ | ⟨b, o, len, cap, l, T, fr, rfl, h2, _⟩
  · simp at hj
  · have h' : ev K x = some (.pointer (some ⟨b, o + j, none⟩)) := by rw [h]; simp [atP, add_none]
    have := q_fa (P := P) (n := n) (Γ := Γ) (s := s) (i := i) (k := c) h' F a w ty ha hh
    rw [this]; simp [atP, add_none, Nat.add_assoc]
theorem q_ldV {t : TypeId} {x : Operand} {v u : Value} {xs : List Value} {sz j : Nat} (h : ev K x = some (atP v j)) [s : Scal P t] [fv : FindV Γ sz v xs] (hv : xs[j]? = some u) : QOp P n K Γ (.load t x) u := fun F a w ty ha hh => by
  rcases fv.rd F w hh with ⟨p0, c0, rfl, rfl⟩ | ⟨b, o, len, cap, l, T, fr, rfl, h2, h3, h4, h5, h6⟩
  · simp at hv
  · have h' : ev K x = some (.pointer (some ⟨b, o + j, none⟩)) := by rw [h]; simp [atP, add_none]
    have hl : l[o + j]? = some u := by
      rw [← h5, List.getElem?_take] at hv
      split at hv
      · simpa [List.getElem?_drop] using hv
      · cases hv
    have := run_loadVar1 (P := P) (t := t) h6 hl
    simp [execOp, ha.ev h', Instr.loadAt, Instr.sureAddr, this]
theorem q_ldaV {t : TypeId} {x : Operand} {v : Value} {xs l' : List Value} {sz j m : Nat} (h : ev K x = some (atP v j)) [s : Aggr P t m] [fv : FindV Γ sz v xs] (hle : j + m ≤ xs.length) (hm : 0 < m) (hl : (xs.drop j).take m = l') : QOp P n K Γ (.load t x) (.agg l'.toArray) := fun F a w ty ha hh => by
  rcases fv.rd F w hh with ⟨p0, c0, rfl, rfl⟩ | ⟨b, o, len, cap, l, T, fr, rfl, h2, h3, h4, h5, h6⟩
  · simp at hle; omega
  · have h' : ev K x = some (.pointer (some ⟨b, o + j, none⟩)) := by rw [h]; simp [atP, add_none]
    have hl' : (l.drop (o + j)).take m = l' := by
      rw [← hl, ← h5, List.drop_take, List.take_take, Nat.min_eq_left (by omega), List.drop_drop]
    have := run_loadVarA (P := P) (t := t) (m := m) h6 (by omega) hl'
    simp [execOp, ha.ev h', Instr.loadAt, Instr.sureAddr, this]
theorem src_V {s m : Nat} {v : Value} {xs : List Value} [fv : FindV Γ s v xs] (hm : xs.length = m * s) (hs : 0 < s) (h1 : ∀ x ∈ xs, x.oneCell' = true) : Src P Γ s v m xs := by
  refine ⟨hm, h1, fun F w hh => ?_⟩
  rcases fv.rd F w hh with ⟨p0, c0, rfl, rfl⟩ | ⟨b, o, len, cap, l, T, fr, rfl, h2, h3, h4, h5, h6⟩
  · have : m = 0 := nil_len hm hs
    subst this
    refine ⟨rfl, fun j hj => ?_⟩
    obtain rfl : j = 0 := by omega
    cases p0 <;> simp [Builtin.firstCells, loadCells, loadCellsFrom]
  · have : m = len := Nat.eq_of_mul_eq_mul_right hs (by rw [← hm, h2])
    subst this
    refine ⟨rfl, fun j hj => ?_⟩
    have hjs : j * s ≤ m * s := Nat.mul_le_mul_right s hj
    have := run_loadCells_list (P := P) (w := w) ⟨b, o, none⟩ (xs.take (j * s)) (fun i v e => by
      rw [add_none]
      simp only [hp] at h6
      simp only [World.cell?, h6]
      subst h5
      simp only [List.getElem?_take, List.getElem?_drop] at e
      split at e
      · split at e
        · simpa using e
        · cases e
      · cases e)
    rw [show (xs.take (j * s)).length = j * s from by rw [List.length_take, hm]; omega] at this
    exact this
/-- A part of a slice, read. -/
theorem sub_find {s m lo hi : Nat} {v : Value} {xs : List Value} [fv : FindV Γ s v xs] (hm : xs.length = m * s) (hs : 0 < s) (h1 : lo ≤ hi) (h2 : hi ≤ m) : FindV Γ s (subV v s lo hi) ((xs.drop (lo * s)).take ((hi - lo) * s)) := ⟨fun F w hh => by
  rcases fv.rd F w hh with ⟨p0, c0, rfl, rfl⟩ | ⟨b, o, len, cap, l, T, fr, rfl, g2, g3, g4, g5, g6⟩
  · have hm0 : m = 0 := nil_len hm hs
    have : lo = 0 ∧ hi = 0 := by omega
    obtain ⟨rfl, rfl⟩ := this
    left; simp [subV]
  · have hml : m = len := Nat.eq_of_mul_eq_mul_right hs (by rw [← hm, g2])
    subst hml
    have hmul : (hi - lo) * s + lo * s = hi * s := by rw [← Nat.add_mul]; congr 1; omega
    have hmul2 : hi * s ≤ m * s := Nat.mul_le_mul_right s h2
    by_cases hc : cap = lo
    · have : hi = lo ∧ m = lo := by omega
      obtain ⟨rfl, rfl⟩ := this
      right
      refine ⟨b, o, 0, 0, l, T, fr, ?_, ?_, by omega, by omega, ?_, g6⟩
      · simp [subV, hc]
      · simp
      · simp
    · right
      refine ⟨b, o + lo * s, hi - lo, cap - lo, l, T, fr, ?_, ?_, by omega, by omega, ?_, g6⟩
      · simp [subV, hc, add_none]
      · rw [List.length_take, List.length_drop, hm]; omega
      · rw [← g5, List.drop_take, List.take_take, Nat.min_eq_left (by omega), List.drop_drop]⟩
theorem q_slV {t e : TypeId} {x y u : Operand} {v : Value} {xs : List Value} {s m lo hi : Nat} {k k' : IntKind} {z z' : Int} (hx : ev K x = some v) (hlo : ev K y = some (.int k z)) (hhi : ev K u = some (.int k' z')) [us : Und P t (.slice e)] [sz : Siz P e s] [fv : FindV Γ s v xs] (e1 : z = (lo : Int)) (e2 : z' = (hi : Int)) (hm : xs.length = m * s) (hs : 0 < s) (h1 : lo ≤ hi) (h2 : hi ≤ m) :
    QOp P n K Γ (.slice t x (some y) (some u) none) (subV v s lo hi) := fun F a w ty ha hh => by
  subst e1 e2
  rcases fv.rd F w hh with ⟨p0, c0, rfl, rfl⟩ | ⟨b, o, len, cap, l, T, fr, rfl, g2, g3, _⟩
  · have hm0 : m = 0 := nil_len hm hs
    have : lo = 0 ∧ hi = 0 := by omega
    obtain ⟨rfl, rfl⟩ := this
    simp [execOp, ha.ev hx, ha.ev hlo, ha.ev hhi, Instr.sliceAt, Instr.slice, run_underlying' us.eq, Instr.sliceBounds, Instr.sliceBound, asIntOf, sz.eq, subV]
  · have hml : m = len := Nat.eq_of_mul_eq_mul_right hs (by rw [← hm, g2])
    subst hml
    have h3 : hi ≤ cap := by omega
    simp [execOp, ha.ev hx, ha.ev hlo, ha.ev hhi, Instr.sliceAt, Instr.slice, run_underlying' us.eq, Instr.sliceBounds, Instr.sliceBound, asIntOf, sz.eq, subV, h1, h3]
theorem q_slV1 {t e : TypeId} {x y : Operand} {v : Value} {xs : List Value} {s m lo : Nat} {k : IntKind} {z : Int} (hx : ev K x = some v) (hlo : ev K y = some (.int k z)) [us : Und P t (.slice e)] [sz : Siz P e s] [fv : FindV Γ s v xs] (e1 : z = (lo : Int)) (hm : xs.length = m * s) (hs : 0 < s) (h1 : lo ≤ m) :
    QOp P n K Γ (.slice t x (some y) none none) (subV v s lo m) := fun F a w ty ha hh => by
  subst e1
  rcases fv.rd F w hh with ⟨p0, c0, rfl, rfl⟩ | ⟨b, o, len, cap, l, T, fr, rfl, g2, g3, _⟩
  · have hm0 : m = 0 := nil_len hm hs
    have : lo = 0 := by omega
    subst this hm0
    simp [execOp, ha.ev hx, ha.ev hlo, Instr.sliceAt, Instr.slice, run_underlying' us.eq, Instr.sliceBounds, Instr.sliceBound, asIntOf, sz.eq, subV]
  · have hml : m = len := Nat.eq_of_mul_eq_mul_right hs (by rw [← hm, g2])
    subst hml
    simp [execOp, ha.ev hx, ha.ev hlo, Instr.sliceAt, Instr.slice, run_underlying' us.eq, Instr.sliceBounds, Instr.sliceBound, asIntOf, sz.eq, subV, h1]
theorem q_slV2 {t e : TypeId} {x u : Operand} {v : Value} {xs : List Value} {s m hi : Nat} {k' : IntKind} {z' : Int} (hx : ev K x = some v) (hhi : ev K u = some (.int k' z')) [us : Und P t (.slice e)] [sz : Siz P e s] [fv : FindV Γ s v xs] (e2 : z' = (hi : Int)) (hm : xs.length = m * s) (hs : 0 < s) (h2 : hi ≤ m) :
    QOp P n K Γ (.slice t x none (some u) none) (subV v s 0 hi) := fun F a w ty ha hh => by
  subst e2
  rcases fv.rd F w hh with ⟨p0, c0, rfl, rfl⟩ | ⟨b, o, len, cap, l, T, fr, rfl, g2, g3, _⟩
  · have hm0 : m = 0 := nil_len hm hs
    have : hi = 0 := by omega
    subst this hm0
    simp [execOp, ha.ev hx, ha.ev hhi, Instr.sliceAt, Instr.slice, run_underlying' us.eq, Instr.sliceBounds, Instr.sliceBound, asIntOf, sz.eq, subV]
  · have hml : m = len := Nat.eq_of_mul_eq_mul_right hs (by rw [← hm, g2])
    subst hml
    have h3 : hi ≤ cap := by omega
    simp [execOp, ha.ev hx, ha.ev hhi, Instr.sliceAt, Instr.slice, run_underlying' us.eq, Instr.sliceBounds, Instr.sliceBound, asIntOf, sz.eq, subV, h3]
/-- A cell of a slice of its own. -/
theorem l_stV {t : TypeId} {x y : Operand} {v u : Value} {xs xs' : List Value} {s j : Nat} {Γ1 : List HP} (hx : ev K x = some (atP v j)) (hy : ev K y = some u) [sc : Scal P t] [ov : One u] [fv : FindV Γ s v xs] [tk : Take (vec s v xs) Γ Γ1] (hj : j < xs.length) (hl : xs.set j u = xs') :
    LOp P n K Γ (.store t x y) (Is undef (vec s v xs' :: Γ1)) := by
  intro F a w o Kn Qe ho ha hh hk
  obtain ⟨h, ⟨g1, g2, sp, hv, hr⟩, hy2⟩ := hh.perm tk.perm
  rcases hv with ⟨e1, e2, _⟩ | ⟨b, pre, spare, len, cap, e1, e2, e3, e4, hb⟩
  · subst e2; simp at hj
  · subst e1
    have hB : Holds (blk b (pre ++ xs ++ spare) :: Γ1) F w := ⟨h, ⟨g1, g2, sp, hb, hr⟩, hy2⟩
    have h' : ev K x = some (.pointer (some ⟨b, pre.length + j, none⟩)) := by rw [hx]; simp [atP, add_none]
    have hset : (pre ++ xs ++ spare).set (pre.length + j) u = pre ++ xs' ++ spare := by
      rw [← hl, List.append_assoc, List.set_append_right _ _ (by omega), Nat.add_sub_cancel_left, List.set_append_left _ _ hj, List.append_assoc]
    have hst := l_stc (P := P) (n := n) (K := K) (Γ := blk b (pre ++ xs ++ spare) :: Γ1) (t := t) (pre ++ xs' ++ spare) h' hy (by simp; omega) hset
    refine hst F a w o Kn Qe ho ha hB fun v2 Γ2 w2 hn hh2 kp => ?_
    obtain ⟨rfl, rfl⟩ := hn
    refine hk undef _ w2 ⟨rfl, rfl⟩ ?_ kp
    obtain ⟨h2, ⟨k1, k2, sp2, hb2, hr2⟩, y2⟩ := hh2
    exact ⟨h2, ⟨k1, k2, sp2, .inr ⟨b, pre, spare, len, cap, rfl, by rw [← hl, List.length_set]; exact e2, e3, e4, hb2⟩, hr2⟩, y2⟩
theorem src_subm {α : Type} {v : Value} {l : List α} {g : α → Value} {lo hi : Nat} [fv : FindV Γ 1 v (l.map g)] (h1 : lo ≤ hi) (h2 : hi ≤ l.length) (ho : ∀ a, (g a).oneCell' = true) : Src P Γ 1 (subV v 1 lo hi) (hi - lo) (((l.drop lo).take (hi - lo)).map g) := by
  have f := sub_find (Γ := Γ) (s := 1) (m := l.length) (v := v) (xs := l.map g) (lo := lo) (hi := hi) (by simp) (by omega) h1 h2
  have e : ((l.map g).drop (lo * 1)).take ((hi - lo) * 1) = ((l.drop lo).take (hi - lo)).map g := by simp [List.map_take, List.map_drop]
  rw [e] at f
  exact src_V (fv := f) (by simp; omega) (by omega) (by simp only [List.mem_map]; rintro x ⟨a, _, rfl⟩; exact ho a)
/-- 'append(v, u[lo:hi]...)', cells of one. -/
theorem l_apS {α : Type} {sT by_ lo hi : Nat} {e : TypeId} {x y : Operand} {v u z : Value} {l : List α} {g : α → Value} {xs zl : List Value} {Γ1 : List HP} [us : Und P sT (.slice e)] [sz : Siz P e 1] [bb : Byt P e by_] [zz : Zer P e z zl]
    (hx : ev K x = some v) (hy : ev K y = some (subV u 1 lo hi)) [_f : FindV Γ 1 v xs] [t : Take (vec 1 v xs) Γ Γ1] [fv : FindV Γ1 1 u (l.map g)] (h1 : lo ≤ hi) (h2 : hi ≤ l.length) (ho : ∀ a, (g a).oneCell' = true) (hzl : zl.length = 1) (hb : (xs.length + (hi - lo)) * by_ ≤ 140737488355328) (hb0 : 0 < by_) :
    LOp P n K Γ (.call ⟨.builtin .append, #[x, y], #[sT, sT]⟩) (New1 fun v' => vec 1 v' (xs ++ ((l.drop lo).take (hi - lo)).map g) :: Γ1) :=
  l_app hx hy (src_subm (fv := fv) h1 h2 ho) (.inl ⟨_, rfl⟩) hzl (by simp; rw [Nat.min_eq_left (by omega)]; omega) (by omega) hb0
/-- 'append(v, a)'. -/
theorem l_ap1 {sT by_ r : Nat} {e : TypeId} {x y : Operand} {v u z : Value} {xs zl : List Value} {Γ1 : List HP} [us : Und P sT (.slice e)] [sz : Siz P e 1] [bb : Byt P e by_] [zz : Zer P e z zl]
    (hx : ev K x = some v) (hy : ev K y = some (.slice (some ⟨r, 0, none⟩) 1 1)) [_f : FindV Γ 1 v xs] [t : Take (vec 1 v xs) Γ Γ1] [fb : FindB Γ1 r [u]] [o : One u] (hzl : zl.length = 1) (hb : (xs.length + 1) * by_ ≤ 140737488355328) (hb0 : 0 < by_) :
    LOp P n K Γ (.call ⟨.builtin .append, #[x, y], #[sT, sT]⟩) (New1 fun v' => vec 1 v' (xs ++ [u]) :: Γ1) :=
  l_app hx hy (src_blk (ys := [u]) (by simp) (by simp) (by simp; exact o.eq)) (.inl ⟨_, rfl⟩) hzl (by simpa using hb) (by omega) hb0
/-- A new slice of its own, out of a literal. -/
theorem l_bsV {t e : TypeId} {m s : Nat} {parts : List (Nat × Operand)} {vs l : List Value} {z : Value} {zl : List Value} [u : Und P t (.slice e)] [sz : Siz P e s] [zz : Zer P e z zl] (hp : evp K 0 parts = some vs) (hm : vs.length = m) (hsm : m * s ≤ 16777216)
    (hv : ∀ v ∈ vs, v.cells.size = s) [fl : Flat vs l] : LOp P n K Γ (.buildSlice t m parts.toArray) (New1 fun v => vec s v l :: Γ) := by
  intro F a w o Kn Qe ho ha hh hk
  refine l_bs (P := P) (n := n) (K := K) (Γ := Γ) (t := t) (m := m) (s := s) (parts := parts) hp hm hsm hv F a w o Kn Qe ho ha hh fun v Γ' w' hn hh2 kp => ?_
  obtain ⟨r, rfl, rfl⟩ := hn
  refine hk _ _ w' ⟨_, inferInstance, rfl, rfl⟩ ?_ kp
  obtain ⟨h2, ⟨k1, k2, sp2, hb2, hr2⟩, y2⟩ := hh2
  refine ⟨h2, ⟨k1, k2, sp2, vec.ofBlk (spare := []) (by
    have : ∀ vs : List Value, (∀ v ∈ vs, v.cells.size = s) → (vs.flatMap fun v => v.cells.toList).length = vs.length * s := by
      intro vs
      induction vs with
      | nil => intro _; simp
      | cons x vs ih => intro h; rw [List.flatMap_cons, List.length_append, ih (fun y hy => h y (by simp [hy])), Array.length_toList, h x (by simp), List.length_cons, Nat.add_mul]; omega
    rw [fl.eq, this vs hv, hm]) (by simp) (Nat.le_refl _) _ (by simpa using hb2), hr2⟩, y2⟩
/-- The same three where the cells are made of a list. -/
theorem q_lenVm {α : Type} {t e : TypeId} {x : Operand} {v : Value} {l : List α} {g : α → Value} (hx : ev K x = some v) [u : Und P t (.slice e)] [sz : Siz P e 1] [fv : FindV Γ 1 v (l.map g)] : QOp P n K Γ (.call ⟨.builtin .len, #[x], #[t]⟩) (.int .i64 (l.length : Int)) := by
  have := q_lenV1 (P := P) (n := n) (K := K) (Γ := Γ) (t := t) (xs := l.map g) hx
  rw [List.length_map] at this; exact this
theorem q_iaVm {α : Type} {t e : TypeId} {x i : Operand} {v : Value} {l : List α} {g : α → Value} {j : Nat} {k : IntKind} {z : Int} (hx : ev K x = some v) (hi : ev K i = some (.int k z)) [u : Und P t (.slice e)] [sz : Siz P e 1] [fv : FindV Γ 1 v (l.map g)] (hz : z = (j : Int)) (hj : j < l.length) : QOp P n K Γ (.indexAddr t x i) (atP v j) :=
  q_iaV1 (xs := l.map g) hx hi hz (by simpa using hj)
theorem q_ldVm {α : Type} {t : TypeId} {x : Operand} {v : Value} {l : List α} {g : α → Value} {sz j : Nat} (h : ev K x = some (atP v j)) [s : Scal P t] [fv : FindV Γ sz v (l.map g)] (hj : j < l.length) : QOp P n K Γ (.load t x) (g l[j]) :=
  q_ldV (sz := sz) (xs := l.map g) h (by simp [hj])
theorem q_slVm2 {α : Type} {t e : TypeId} {x u : Operand} {v : Value} {l : List α} {g : α → Value} {hi : Nat} {k' : IntKind} {z' : Int} (hx : ev K x = some v) (hhi : ev K u = some (.int k' z')) [us : Und P t (.slice e)] [sz : Siz P e 1] [fv : FindV Γ 1 v (l.map g)] (e2 : z' = (hi : Int)) (h2 : hi ≤ l.length) :
    QOp P n K Γ (.slice t x none (some u) none) (subV v 1 0 hi) := q_slV2 (m := l.length) (xs := l.map g) hx hhi e2 (by simp) (by omega) h2
theorem q_slVm1 {α : Type} {t e : TypeId} {x y : Operand} {v : Value} {l : List α} {g : α → Value} {lo : Nat} {k : IntKind} {z : Int} (hx : ev K x = some v) (hlo : ev K y = some (.int k z)) [us : Und P t (.slice e)] [sz : Siz P e 1] [fv : FindV Γ 1 v (l.map g)] (e1 : z = (lo : Int)) (h1 : lo ≤ l.length) :
    QOp P n K Γ (.slice t x (some y) none none) (subV v 1 lo l.length) := q_slV1 (m := l.length) (xs := l.map g) hx hlo e1 (by simp) (by omega) h1
/-- What an owned slice's value is. -/
theorem G.vecV {s : Nat} {v : Value} {xs : List Value} (fv : FindV Γ s v xs) (h : (∃ p len cap, v = .slice p len cap ∧ xs.length = len * s ∧ (p = none → len = 0)) → G P f n Q k K Γ) : G P f n Q k K Γ := by
  intro w0 F a w h1 h2 h3
  refine h ?_ w0 F a w h1 h2 h3
  rcases fv.rd F w h3 with ⟨p0, c0, rfl, rfl⟩ | ⟨b, o, len, cap, l, T, fr, rfl, g2, _⟩
  · exact ⟨p0, 0, c0, rfl, by simp, fun _ => rfl⟩
  · exact ⟨_, len, cap, rfl, g2, by simp⟩
theorem G.vecOne {s : Nat} {v : Value} {xs : List Value} (fv : FindV Γ s v xs) (h : One v → G P f n Q k K Γ) : G P f n Q k K Γ :=
  G.vecV fv fun ⟨p, len, cap, e, _⟩ => h (by subst e; exact inferInstance)
/-- The empty slice, as one of its own. -/
theorem G.vecNil (s : Nat) (h : G P f n Q k K (vec s (.slice none 0 0) [] :: Γ)) : G P f n Q k K Γ := G.conseq (fun h hs => vec.nil s Γ h hs) h
theorem G.vecNil' (s : Nat) {xs : List Value} (e : xs = []) (h : G P f n Q k K (vec s (.slice none 0 0) xs :: Γ)) : G P f n Q k K Γ := by subst e; exact G.vecNil s h
theorem q_beq {t u : TypeId} {x y : Operand} {a b : Bool} [uu : Und P t .bool] (h1 : ev K x = some (.bool a)) (h2 : ev K y = some (.bool b)) : QOp P n K Γ (.binOp .eql t x y u) (.bool (decide (a = b))) := q_bin h1 h2 (by simp) fun w => by
  rw [run_eql_bool w t a b uu.eq]; cases a <;> cases b <;> rfl
theorem q_bne {t u : TypeId} {x y : Operand} {a b : Bool} [uu : Und P t .bool] (h1 : ev K x = some (.bool a)) (h2 : ev K y = some (.bool b)) : QOp P n K Γ (.binOp .neq t x y u) (.bool (decide (a ≠ b))) := q_bin h1 h2 (by simp) fun w => by
  rw [run_neq_bool w t a b uu.eq]; cases a <;> cases b <;> rfl
end vs

theorem Sat.as {Γ Γ1 : List HP} {h : Heap} (Δ : List HP) [t : Takes Δ Γ Γ1] (s : Sat Γ h) : Sat Δ h := by
  obtain ⟨h1, h2, sp, s1, _⟩ := Sat.append (s.perm t.perm)
  exact s1.mono sp.left
theorem Sat.into {A : List HP} {X : HP} {Γ Γ1 : List HP} {h : Heap} (hX : ∀ h, Sat A h → X h) [t : Takes A Γ Γ1] (s : Sat Γ h) : Sat (X :: Γ1) h := Sat.front hX (s.perm t.perm)
/-! ### many parts of one make -/
/-- One part for each of a list. -/
def rows {α : Type} (f : α → HP) (l : List α) : HP := fun h => Sat (l.map f) h
theorem rows.nil {α : Type} (f : α → HP) (Γ : List HP) : ∀ h, Sat Γ h → Sat (rows f [] :: Γ) h :=
  fun h hs => ⟨fun _ => none, h, fun _ => .inr ⟨rfl, rfl⟩, trivial, hs⟩
theorem perm_take {α : Type} : ∀ (l : List α) (i : Nat) (h : i < l.length), l.Perm (l[i] :: l.eraseIdx i)
  | a :: l, 0, _ => by simp
  | a :: l, i + 1, h => by
    simp only [List.getElem_cons_succ, List.eraseIdx_cons_succ]
    exact ((perm_take l i (by simpa using h)).cons a).trans (.swap _ _ _)
theorem rows.out {α : Type} {f : α → HP} {l : List α} (i : Nat) (hi : i < l.length) : ∀ h, rows f l h → Sat [f l[i], rows f (l.eraseIdx i)] h := fun h hr => by
  have := Sat.perm ((perm_take l i hi).map f) hr
  obtain ⟨h1, h2, sp, s1, s2⟩ := this
  exact ⟨h1, h2, sp, s1, h2, fun _ => none, fun _ => .inl ⟨rfl, rfl⟩, s2, trivial⟩
theorem rows.into {α : Type} {f : α → HP} {l : List α} (i : Nat) (hi : i < l.length) : ∀ h, Sat [f l[i], rows f (l.eraseIdx i)] h → rows f l h := fun h ⟨h1, h2, sp, s1, h3, h4, sp2, s2, _⟩ =>
  Sat.perm ((perm_take l i hi).map f).symm ⟨h1, h2, sp, s1, Sat.mono s2 sp2.left⟩
theorem rows.push {α : Type} {f : α → HP} {l : List α} (a : α) : ∀ h, Sat [f a, rows f l] h → rows f (l ++ [a]) h := fun h ⟨h1, h2, sp, s1, h3, h4, sp2, s2, _⟩ => by
  have : (l ++ [a]).Perm (a :: l) := List.perm_append_comm
  exact Sat.perm (this.map f).symm ⟨h1, h2, sp, s1, Sat.mono s2 sp2.left⟩
end Go.Sl
