/- More rules: whole blocks, results in cells, ranges over maps. -/
import Derived.Test.YtgilhenjoinhhaaSlVe
namespace Go.Sl

/-- A list of so many. -/
class Len {α : Type} (l : List α) (m : Nat) : Prop where
  eq : l.length = m
instance {α : Type} {m : Nat} {a : α} : Len (List.replicate m a) m := ⟨List.length_replicate⟩
instance {α β : Type} {f : α → β} {l : List α} {m : Nat} [t : Len l m] : Len (l.map f) m := ⟨by rw [List.length_map, t.eq]⟩
instance {α : Type} : Len ([] : List α) 0 := ⟨rfl⟩
instance {α : Type} {a : α} {l : List α} {m : Nat} [t : Len l m] : Len (a :: l) (m + 1) := ⟨by simp [t.eq]⟩
/-- Values of one cell each. -/
class Ones (l : List Value) : Prop where
  eq : ∀ v ∈ l, v.oneCell' = true
instance {m : Nat} {v : Value} [o : One v] : Ones (List.replicate m v) := ⟨fun u hu => by rw [List.eq_of_mem_replicate hu]; exact o.eq⟩
instance {s : List UInt8} : Ones (s.map byteV) := ⟨by simp only [List.mem_map]; rintro v ⟨b, _, rfl⟩; rfl⟩
instance : Ones [] := ⟨by simp⟩
instance {v : Value} {l : List Value} [o : One v] [t : Ones l] : Ones (v :: l) := ⟨by simp only [List.mem_cons]; rintro u (rfl | h); exact o.eq; exact t.eq u h⟩
section more
variable {P : Program} {f : FuncId} {n : Nat} {Q : Value → List HP → Prop} {k : List Item} {K : Env} {Γ : List HP}

theorem G.loop2 {σ τ : Type} (Kf : σ → τ → Env) (Γf : σ → τ → List HP) (I : σ → τ → Prop) (μ : σ → τ → Nat) (s0 : σ) (t0 : τ) {c : Code} {Δ : List HP} (hK : tells K (Kf s0 t0)) [t : Takes (Γf s0 t0) Γ Δ] (hI : I s0 t0)
    (h : ∀ a b, I a b → (∀ a' b', I a' b' → μ a' b' < μ a b → G P f n Q (.inLoop c :: k) (Kf a' b') (Γf a' b')) → G P f n Q (.code c :: .inLoop c :: k) (Kf a b) (Γf a b)) :
    G P f n Q (.code (.loop c) :: k) K Γ :=
  G.loop (σ := σ × τ) (fun s => Kf s.1 s.2) (fun s => Γf s.1 s.2) (fun s => I s.1 s.2) (fun s => μ s.1 s.2) (s0, t0) hK (t := t) hI (fun s hs IH => h s.1 s.2 hs (fun a b => IH (a, b)))
theorem G.loop3 {σ τ υ : Type} (Kf : σ → τ → υ → Env) (Γf : σ → τ → υ → List HP) (I : σ → τ → υ → Prop) (μ : σ → τ → υ → Nat) (s0 : σ) (t0 : τ) (u0 : υ) {c : Code} {Δ : List HP} (hK : tells K (Kf s0 t0 u0)) [t : Takes (Γf s0 t0 u0) Γ Δ] (hI : I s0 t0 u0)
    (h : ∀ a b d, I a b d → (∀ a' b' d', I a' b' d' → μ a' b' d' < μ a b d → G P f n Q (.inLoop c :: k) (Kf a' b' d') (Γf a' b' d')) → G P f n Q (.code c :: .inLoop c :: k) (Kf a b d) (Γf a b d)) :
    G P f n Q (.code (.loop c) :: k) K Γ :=
  G.loop (σ := σ × τ × υ) (fun s => Kf s.1 s.2.1 s.2.2) (fun s => Γf s.1 s.2.1 s.2.2) (fun s => I s.1 s.2.1 s.2.2) (fun s => μ s.1 s.2.1 s.2.2) (s0, t0, u0) hK (t := t) hI (fun s hs IH => h s.1 s.2.1 s.2.2 hs (fun a b d => IH (a, b, d)))
theorem G.again {K' : Env} {Γ' Δ : List HP} (h : G P f n Q k K' Γ') (hK : tells K K') [t : Takes Γ' Γ Δ] : G P f n Q k K Γ := G.weaken hK h
/-- One result. -/
def RV (P : Program) (n : Nat) (K : Env) (Γ : List HP) (rv : ResultVar) (v : Value) : Prop := ∀ (F : Heap) (a : Act) (w : World), Agrees n K a → Holds Γ F w →
  (match rv with
    | .tmp t => Pure.pure (a.tmps.getD t undef)
    | .cell b t => do loadVar t (← asAddr (a.tmps.getD b undef)) : Sem Value).run P w = .ok v w
theorem rv_t {t : Nat} {v : Value} (h : lk K t = some v) : RV P n K Γ (.tmp t) v := fun F a w ha _ => by simp [ha.2.2 t v h]
theorem rv_c {c t b o : Nat} {l : List Value} {v : Value} [s : Scal P t] (h : lk K c = some (.pointer (some ⟨b, o, none⟩))) [fd : FindB Γ b l] (hv : l[o]? = some v) : RV P n K Γ (.cell c t) v := fun F a w ha hh => by
  obtain ⟨fr, T, _, hb⟩ := fd.get hh
  have := run_loadVar1 (P := P) (t := t) hb hv
  simp [ha.2.2 c _ h, asAddr, this]
theorem rv_ca {c t b m : Nat} {l : List Value} [s : Aggr P t m] (h : lk K c = some (.pointer (some ⟨b, 0, none⟩))) [fd : FindB Γ b l] [ln : Len l m] : RV P n K Γ (.cell c t) (.agg l.toArray) := fun F a w ha hh => by
  have hl := ln.eq
  obtain ⟨fr, T, _, hb⟩ := fd.get hh
  have := run_loadVarA (P := P) (t := t) (o := 0) (l' := l) hb (by omega) (by simp [← hl])
  simp [ha.2.2 c _ h, asAddr, this]
def RVs (P : Program) (n : Nat) (K : Env) (Γ : List HP) : List ResultVar → List Value → Prop
  | [], [] => True
  | r :: rs, v :: vs => RV P n K Γ r v ∧ RVs P n K Γ rs vs
  | _, _ => False
theorem RVs.nil : RVs P n K Γ [] [] := trivial
theorem RVs.cons {r : ResultVar} {rs : List ResultVar} {v : Value} {vs : List Value} (h1 : RV P n K Γ r v) (h2 : RVs P n K Γ rs vs) : RVs P n K Γ (r :: rs) (v :: vs) := ⟨h1, h2⟩
theorem run_resultsC {fn : Func} {rs : List ResultVar} {vs : List Value} (h : fn.results = rs.toArray) (hs : RVs P n K Γ rs vs) {F : Heap} {a : Act} {w : World} (ha : Agrees n K a) (hh : Holds Γ F w) :
    (results fn a.tmps).run P w = .ok (tupV vs) w := by
  have key : ∀ (g : ResultVar → Sem Value), (∀ t, g (.tmp t) = Pure.pure (a.tmps.getD t undef)) → (∀ b t, g (.cell b t) = do loadVar t (← asAddr (a.tmps.getD b undef))) → (rs.toArray.mapM g).run P w = .ok vs.toArray w := by
    intro g hg hg2
    rw [List.mapM_toArray, Sem.run_map]
    have : ∀ (rs : List ResultVar) (vs : List Value), RVs P n K Γ rs vs → (rs.mapM g).run P w = .ok vs w := by
      intro rs
      induction rs with
      | nil =>
        intro vs h
        cases vs with
        | nil => simp
        | cons v vs => simp [RVs] at h
      | cons r rs ih =>
        intro vs h
        cases vs with
        | nil => simp [RVs] at h
        | cons v vs =>
          obtain ⟨h1, h2⟩ := h
          have h3 := h1 F a w ha hh
          have : (g r).run P w = .ok v w := by cases r with
            | tmp t => rw [hg]; exact h3
            | cell b t => rw [hg2]; exact h3
          rw [List.mapM_cons, Sem.run_bind, this, Result.andThen_ok, Sem.run_bind, ih vs h2]; simp
    rw [this rs vs hs]; simp
  unfold results
  rw [h, Sem.run_bind, key _ (fun t => rfl) (fun b t => rfl)]
  simp only [Result.andThen_ok, Sem.run_pure]
  match vs with
  | [] => simp [tupV]
  | [v] => simp [tupV]
  | v :: u :: r => simp [tupV]
theorem G.retC {fn : Func} {rs : List ResultVar} {vs : List Value} {Γ' Δ : List HP} (hf : P.funcs[f]? = some fn) (hr : fn.results = rs.toArray) (hs : RVs P n K Γ rs vs) (hq : Q (tupV vs) Γ') [t : Takes Γ' Γ Δ] : G P f n Q (.code .ret :: k) K Γ := by
  intro w0 F a w h1 h2 hh b cs hb hk
  have hres := run_resultsC hr hs h2 hh
  obtain ⟨h, s, r⟩ := hh
  obtain ⟨hs1, hs2, hs3, hs4, hs5⟩ : ∃ hs1 hs2, split h hs1 hs2 ∧ Sat Γ' hs1 ∧ Sat Δ hs2 := Sat.append (s.perm t.perm)
  exact ⟨.returned _, w, _, ⟨_, Γ', hq, rfl, ⟨hs1, hs4, hs3.left.trans r.1, r.2.1, r.2.2.mono hs3.left (sub.refl _)⟩, h1⟩, .one step_ret, hb, rfl, h2.1, hk, fn, by rw [← hb] at hf; exact hf, hres⟩

/-- A whole block, read or written. -/
theorem q_ldw {t : TypeId} {x : Operand} {b m : Nat} {l : List Value} [s : Aggr P t m] (h : ev K x = some (.pointer (some ⟨b, 0, none⟩))) [fd : FindB Γ b l] [ln : Len l m] : QOp P n K Γ (.load t x) (.agg l.toArray) :=
  q_lda h (by have := ln.eq; omega) (by simp [← ln.eq])
theorem l_stw {t : TypeId} {x y : Operand} {b m : Nat} {l vs : List Value} {Γ' : List HP} [s : Siz P t m] (hx : ev K x = some (.pointer (some ⟨b, 0, none⟩))) (hy : ev K y = some (.agg vs.toArray))
    [FindB Γ b l] [u : UpdB Γ b l vs Γ'] [lm : Len vs m] [ll : Len l m] [hv : Ones vs] : LOp P n K Γ (.store t x y) (Is undef Γ') :=
  l_sta vs hx hy lm.eq (by have := lm.eq; have := ll.eq; omega) hv.eq (by have := lm.eq; have := ll.eq; simp [splice]; omega)
/-- Nothing but zeros. -/
theorem q_build0 {t e : TypeId} {m s : Nat} {z : Value} {zl : List Value} [u : Und P t (.array m e)] [sz : Siz P e s] [zz : Zer P t z zl] : QOp P n K Γ (.build t #[]) (.agg zl.toArray) := fun F a w ty ha hh => by
  simp [execOp, Instr.build, run_underlying' u.eq, zz.eq, zz.cells, sz.eq, Instr.fill]
theorem q_build0s {t : TypeId} {fs : Array Field} {z : Value} {zl : List Value} [u : Und P t (.struct fs)] [zz : Zer P t z zl] (hf : ∀ w, ∃ ps, (fs.mapM fun f => do Pure.pure (f.offset, ← sizeOf f.type) : Sem (Array (Nat × Nat))).run P w = .ok ps w) : QOp P n K Γ (.build t #[]) (.agg zl.toArray) := fun F a w ty ha hh => by
  obtain ⟨ps, hps⟩ := hf w
  simp only [execOp, Instr.build, Sem.run_bind, zz.eq, Result.andThen_ok, run_underlying' u.eq, Array.map_empty, hps, zz.cells, Instr.fill, Sem.run_pure]
end more

/-! ### structs put together -/
/-- Cells of a list turned from a place on. -/
class Spl (l : List Value) (o : Nat) (vs : List Value) (l' : outParam (List Value)) : Prop where
  eq : splice l o vs = l'
  le : o + vs.length ≤ l.length
instance Spl.one {a v : Value} {l : List Value} : Spl (a :: l) 0 [v] (v :: l) := ⟨by simp [splice], by simp⟩
instance Spl.rep {m : Nat} {z : Value} {vs : List Value} [t : Len vs m] : Spl (List.replicate m z) 0 vs vs := ⟨by simp [splice, t.eq], by simp [t.eq]⟩
instance Spl.succ {a : Value} {l l' vs : List Value} {o : Nat} [t : Spl l o vs l'] : Spl (a :: l) (o + 1) vs (a :: l') :=
  ⟨by rw [← t.eq]; simp [splice, Nat.succ_add], by have := t.le; simp; omega⟩
/-- Where the fields of a struct lie: place and size. -/
class Pls (P : Program) (t : TypeId) (pl : outParam (List (Nat × Nat))) : Prop where
  eq : ∃ fs, P.underlying t = some (.struct fs) ∧ ∀ w, (fs.mapM fun f => do Pure.pure (f.offset, ← sizeOf f.type) : Sem (Array (Nat × Nat))).run P w = .ok pl.toArray w
class PlAt (pl : List (Nat × Nat)) (i : Nat) (o s : outParam Nat) : Prop where
  eq : pl[i]? = some (o, s)
instance PlAt.zero {o s : Nat} {pl : List (Nat × Nat)} : PlAt ((o, s) :: pl) 0 o s := ⟨rfl⟩
instance PlAt.succ {q : Nat × Nat} {pl : List (Nat × Nat)} {i o s : Nat} [t : PlAt pl i o s] : PlAt (q :: pl) (i + 1) o s := ⟨by simpa using t.eq⟩
/-- The cells behind all parts. -/
class FillL (pl : List (Nat × Nat)) (l : List Value) (ps : List (Nat × Value)) (l' : outParam (List Value)) : Prop where
  eq : Instr.fill (pl.toArray[·]?) l.toArray ps = some l'.toArray
instance FillL.nil {pl : List (Nat × Nat)} {l : List Value} : FillL pl l [] l := ⟨rfl⟩
instance FillL.cons {pl : List (Nat × Nat)} {l l1 l2 vs : List Value} {i o s : Nat} {v : Value} {ps : List (Nat × Value)} [a : PlAt pl i o s] [c : Cls v vs] [ln : Len vs s] [sp : Spl l o vs l1] [f : FillL pl l1 ps l2] : FillL pl l ((i, v) :: ps) l2 := ⟨by
  have h1 : v.cells.size = s := by rw [c.eq]; simp [ln.eq]
  have h2 := sp.le
  have h3 := set_foldl l vs o 0 (by simpa using h2)
  simp only [Nat.add_zero] at h3
  have ha := a.eq
  simp only [Instr.fill, List.getElem?_toArray, ha, h1]
  rw [if_neg (by simp; rw [← ln.eq]; exact h2)]
  rw [show v.cells.zipIdx.foldl (fun cs x => cs.setIfInBounds (o + x.2) x.1) l.toArray = l1.toArray from by
    rw [← Array.foldl_toList, Array.toList_zipIdx, c.eq, h3, sp.eq]]
  simpa using f.eq⟩
def evq (K : Env) : List (Nat × Operand) → Option (List (Nat × Value))
  | [] => some []
  | (j, o) :: l => (ev K o).bind fun v => (evq K l).bind fun vs => some ((j, v) :: vs)
theorem Agrees.evq {n : Nat} {K : Env} {a : Act} (h : Agrees n K a) : ∀ {l : List (Nat × Operand)} {ps : List (Nat × Value)}, evq K l = some ps → l.map (fun p => (p.1, a.eval p.2)) = ps := by
  intro l
  induction l with
  | nil => intro vs e; simp [Sl.evq] at e; simp [e]
  | cons p l ih =>
    intro vs e
    obtain ⟨j, o⟩ := p
    simp only [Sl.evq, Option.bind_eq_some_iff] at e
    obtain ⟨v, hv, us, hu, e⟩ := e
    simp at e
    subst e
    simp [h.ev hv, ih hu]
theorem q_bst {P : Program} {n : Nat} {K : Env} {Γ : List HP} {t : TypeId} {parts : List (Nat × Operand)} {ps : List (Nat × Value)} {z : Value} {zl l : List Value} {pl : List (Nat × Nat)} [pp : Pls P t pl] [zz : Zer P t z zl] (h : evq K parts = some ps) [f : FillL pl zl ps l] :
    QOp P n K Γ (.build t parts.toArray) (.agg l.toArray) := by
  refine q_build (ps := ps) (fun a ha => ha.evq h) fun w => ?_
  obtain ⟨fs, hu, hp⟩ := pp.eq
  have hf := f.eq
  simp only [Instr.build, Sem.run_bind, zz.eq, Result.andThen_ok, run_underlying' hu, hp, zz.cells]
  rw [hf]
  simp

/-! ### a range over a map -/
/-- The iterator 'r' over the map block 'm': the keys that have come up, the entries that have not. -/
def iterAt {α : Type} (κ : α → Value) (r m : Nat) (L left : List (α × Value)) (cur : Option (α × Value)) : HP := fun h => ∃ (es : Array MapEntry) (clock since : Nat) (seen : Array Nat),
  Sat [pt m (.map es clock), pt r (.mapIter (some m) since seen clock)] h ∧ es.toList.map (fun e => (e.key, e.val)) = L.map (fun p => (κ p.1, p.2)) ∧ (es.toList.map (·.born)).Pairwise (· < ·) ∧ (∀ e ∈ es.toList, e.born < clock) ∧ since = clock ∧
  (es.toList.filter fun e => !seen.contains e.born).map (fun e => (e.key, e.val)) = left.map (fun p => (κ p.1, p.2)) ∧ (∀ c, cur = some c → ∃ e ∈ es.toList, seen.back? = some e.born ∧ e.key = κ c.1 ∧ e.val = c.2)
class FindI {α : Type} (κ : α → Value) (Γ : List HP) (r : Nat) (m : outParam Nat) (L left : outParam (List (α × Value))) (cur : outParam (Option (α × Value))) (Γ' : outParam (List HP)) : Prop where
  perm : Γ.Perm (iterAt κ r m L left cur :: Γ')
instance (priority := high) FindI.here {α : Type} {κ : α → Value} {r m : Nat} {L left : List (α × Value)} {cur : Option (α × Value)} {Γ : List HP} : FindI κ (iterAt κ r m L left cur :: Γ) r m L left cur Γ := ⟨.refl _⟩
instance FindI.there {α : Type} {κ : α → Value} {r m : Nat} {L left : List (α × Value)} {cur : Option (α × Value)} {A : HP} {Γ Γ' : List HP} [t : FindI κ Γ r m L left cur Γ'] : FindI κ (A :: Γ) r m L left cur (A :: Γ') :=
  ⟨(t.perm.cons A).trans (.swap _ _ _)⟩
instance FindI.app {α : Type} {κ : α → Value} {r m : Nat} {L left : List (α × Value)} {cur : Option (α × Value)} {A : HP} {Γ Δ Γ' : List HP} [t : FindI κ (A :: (Γ ++ Δ)) r m L left cur Γ'] : FindI κ ((A :: Γ) ++ Δ) r m L left cur Γ' := t
instance FindI.app0 {α : Type} {κ : α → Value} {r m : Nat} {L left : List (α × Value)} {cur : Option (α × Value)} {Δ Γ' : List HP} [t : FindI κ Δ r m L left cur Γ'] : FindI κ ([] ++ Δ) r m L left cur Γ' := t
section iter
variable {P : Program} {n : Nat} {K : Env} {Γ : List HP} {α : Type} {κ : α → Value}

theorem l_range {t kt et : TypeId} {x : Operand} {m : Nat} {L : List (α × Value)} {Γ1 : List HP} [u : Und P t (.map kt et)] (hx : ev K x = some (.map (some m))) [_fm : FindM κ Γ m L] [tk : Take (mapAt κ m L) Γ Γ1] :
    LOp P n K Γ (.range t x) (New (fun r => .pointer (some ⟨r, 0, none⟩)) fun r => iterAt κ r m L L none :: Γ1) :=
  .of_value fun F a w ty ha hh => by
    obtain ⟨es, clock, hb, hL, hbn, hcl, hp⟩ := (hh.perm tk.perm).map
    have hg : (getObj m).run P w = .ok (.map es clock) w := by simp [getObj, Sem.run, hb]
    refine ⟨.pointer (some ⟨w.heap.size, 0, none⟩), { w with heap := w.heap.push (.mapIter (some m) clock #[] clock) }, _, ?_, ⟨_, rfl, rfl⟩, ?_, Keep.alloc _ _⟩
    · simp only [execOp, ha.ev hx, Instr.range, Sem.run_bind, run_underlying' u.eq, Result.andThen_ok, hg, Sem.run_pure, run_newObj]
    · obtain ⟨h, s, r⟩ := (hp.new (.mapIter (some m) clock #[] clock)).perm (.swap _ _ _)
      obtain ⟨h1, h2, sp, s1, s2⟩ := Sat.append (Γ := [pt m (.map es clock), pt w.heap.size (.mapIter (some m) clock #[] clock)]) (Δ := Γ1) s
      exact ⟨h, ⟨h1, h2, sp, ⟨es, clock, clock, #[], s1, hL, hbn, hcl, rfl, by rw [List.filter_eq_self.2 (by simp)]; exact hL, by simp⟩, s2⟩, r⟩

theorem iter_open {r m : Nat} {L left : List (α × Value)} {cur : Option (α × Value)} {F : Heap} {w : World} (h : Holds (iterAt κ r m L left cur :: Γ) F w) : ∃ (es : Array MapEntry) (clock : Nat) (seen : Array Nat),
    Holds (pt m (.map es clock) :: pt r (.mapIter (some m) clock seen clock) :: Γ) F w ∧ w.heap[m]? = some (.map es clock) ∧ w.heap[r]? = some (.mapIter (some m) clock seen clock) ∧ es.toList.map (fun e => (e.key, e.val)) = L.map (fun p => (κ p.1, p.2)) ∧
    (es.toList.map (·.born)).Pairwise (· < ·) ∧ (∀ e ∈ es.toList, e.born < clock) ∧ (es.toList.filter fun e => !seen.contains e.born).map (fun e => (e.key, e.val)) = left.map (fun p => (κ p.1, p.2)) ∧ (∀ c, cur = some c → ∃ e ∈ es.toList, seen.back? = some e.born ∧ e.key = κ c.1 ∧ e.val = c.2) := by
  obtain ⟨h, ⟨h1, h2, sp, ⟨es, clock, since, seen, s1, a1, a2, a3, rfl, a5, a6⟩, s2⟩, y⟩ := h
  have hH : Holds (pt m (.map es since) :: pt r (.mapIter (some m) since seen since) :: Γ) F w := by
    refine ⟨h, ?_, y⟩
    have := s1.join s2 sp.apart
    refine Sat.mono (Γ := [pt m (.map es since), pt r (.mapIter (some m) since seen since)] ++ Γ) this ?_
    intro b o e
    unfold join at e
    cases q : h1 b with
    | none => rw [q] at e; exact sp.right _ _ (by simpa using e)
    | some z => rw [q] at e; simp at e; exact sp.left _ _ (by rw [q, e])
  exact ⟨es, since, seen, hH, hH.ofPt, hH.tail.ofPt, a1, a2, a3, a5, a6⟩
theorem iter_close {r m : Nat} {L left : List (α × Value)} {cur : Option (α × Value)} {es : Array MapEntry} {clock : Nat} {seen : Array Nat} {F : Heap} {w : World} (h : Holds (pt m (.map es clock) :: pt r (.mapIter (some m) clock seen clock) :: Γ) F w)
    (a1 : es.toList.map (fun e => (e.key, e.val)) = L.map (fun p => (κ p.1, p.2))) (a2 : (es.toList.map (·.born)).Pairwise (· < ·)) (a3 : ∀ e ∈ es.toList, e.born < clock) (a5 : (es.toList.filter fun e => !seen.contains e.born).map (fun e => (e.key, e.val)) = left.map (fun p => (κ p.1, p.2)))
    (a6 : ∀ c, cur = some c → ∃ e ∈ es.toList, seen.back? = some e.born ∧ e.key = κ c.1 ∧ e.val = c.2) : Holds (iterAt κ r m L left cur :: Γ) F w := by
  obtain ⟨h, s, y⟩ := h
  obtain ⟨h1, h2, sp, s1, s2⟩ := Sat.append (Γ := [pt m (.map es clock), pt r (.mapIter (some m) clock seen clock)]) (Δ := Γ) s
  exact ⟨h, ⟨h1, h2, sp, ⟨es, clock, clock, seen, s1, a1, a2, a3, rfl, a5, a6⟩, s2⟩, y⟩

/-- The next entry: any of those that are left; or the end. -/
def NextIs {α : Type} (κ : α → Value) (r m : Nat) (L left : List (α × Value)) (Γ1 : List HP) : Value → List HP → Prop := fun v Γ' =>
  (left = [] ∧ v = .tuple #[.bool false] ∧ Γ' = iterAt κ r m L [] none :: Γ1) ∨
  ∃ p q, ∃ c : α × Value, left = p ++ c :: q ∧ v = .tuple #[.bool true, κ c.1, c.2] ∧ Γ' = iterAt κ r m L (p ++ q) (some c) :: Γ1
theorem l_next {x : Operand} {r m : Nat} {L left : List (α × Value)} {cur : Option (α × Value)} {Γ1 : List HP} (hx : ev K x = some (.pointer (some ⟨r, 0, none⟩))) [tk : FindI κ Γ r m L left cur Γ1] :
    LOp P n K Γ (.next x false) (NextIs κ r m L left Γ1) :=
  .of_value fun F a w ty ha hh => by
    obtain ⟨es, clock, seen, hp, hm, hr, hL, hbn, hcl, hleft, _⟩ := iter_open (hh.perm tk.perm)
    have hg : (getObj r).run P w = .ok (.mapIter (some m) clock seen clock) w := by simp [getObj, Sem.run, hr]
    have hg2 : (getObj m).run P w = .ok (.map es clock) w := by simp [getObj, Sem.run, hm]
    have hall : (!seen.isEmpty && !es.isEmpty && es.all (fun e => decide (e.born ≥ clock))) = false := by
      cases he : es.isEmpty with
      | true => simp
      | false =>
        have hne : es.toList ≠ [] := by
          intro h; apply Bool.false_ne_true; rw [← he]; simp [Array.isEmpty_iff, ← Array.toList_eq_nil_iff, h]
        obtain ⟨e, he'⟩ := List.exists_mem_of_ne_nil _ hne
        have := hcl e he'
        have : es.all (fun e => decide (e.born ≥ clock)) = false := by
          rw [Array.all_eq_false]
          obtain ⟨i, hi, hie⟩ := List.getElem_of_mem he'
          refine ⟨i, by simpa using hi, ?_⟩
          have : es[i]'(by simpa using hi) = e := by simpa using hie
          simp [this]; omega
        simp [this]
    let lf := es.filter fun e => !seen.contains e.born
    have hlf : lf.toList = es.toList.filter fun e => !seen.contains e.born := by simp [lf]
    have hold : (lf.filter fun e => decide (e.born < clock)) = lf := by
      apply Array.ext'
      rw [Array.toList_filter]
      refine List.filter_eq_self.2 fun e he => ?_
      rw [hlf] at he
      simpa using hcl e (List.mem_filter.1 he).1
    have hnew : (lf.filter fun e => decide (e.born ≥ clock)) = #[] := by
      apply Array.ext'
      rw [Array.toList_filter]
      refine List.filter_eq_nil_iff.2 fun e he => ?_
      rw [hlf] at he
      have := hcl e (List.mem_filter.1 he).1
      simp; omega
    have hcand : ((if lf.isEmpty then #[none] else #[]) ++ (lf ++ #[]).map some : Array (Option MapEntry)) = if lf.isEmpty then #[none] else lf.map some := by
      split
      · rename_i h; simp [Array.isEmpty_iff.1 h]
      · simp
    have hrun : ∀ k, (execOp a.eval ⟨none, .next x false, ty, "", #[], none⟩).run P w = k → True := fun _ _ => trivial
    by_cases hemp : lf.isEmpty = true
    · have hle : left = [] := by
        have : lf = #[] := Array.isEmpty_iff.1 hemp
        rw [← hlf, this] at hleft
        simpa using hleft.symm
      subst hle
      refine ⟨.tuple #[.bool false], w, _, ?_, .inl ⟨rfl, rfl, rfl⟩, iter_close hp hL hbn hcl hleft (by simp), Keep.refl w⟩
      simp only [execOp, ha.ev hx, Instr.next, Sem.run_bind, hg, hg2, Result.andThen_ok]
      rw [if_neg (by rw [hall]; simp)]
      simp only [Sem.run_bind, Sem.run_pure]
      rw [show (Array.filter (fun e => !seen.contains e.born) es) = lf from rfl, hold, hnew, hcand, if_pos hemp]
      simp [run_choose, Question.forced]
    · have hne : lf.size ≠ 0 := fun h => hemp (by simpa [Array.isEmpty_iff_size_eq_zero] using h)
      -- which one
      obtain ⟨j, w1, hj, hch, hw1, hk1⟩ : ∃ j w1, j < lf.size ∧ (choose (.mapNext (lf.map some).size)).run P w = .ok j w1 ∧ w1.heap = w.heap ∧ Keep w w1 := by
        rw [run_choose]
        by_cases hf : (Question.mapNext (lf.map some).size).forced = true
        · rw [if_pos hf]; exact ⟨0, w, by omega, rfl, rfl, Keep.refl w⟩
        · rw [if_neg hf]
          refine ⟨_, _, ?_, rfl, rfl, ⟨rfl, rfl, Nat.le_refl _⟩⟩
          simp only [Question.cut, Array.size_map]
          exact Nat.mod_lt _ (by omega)
      let e := lf[j]
      have hjl : j < left.length := by
        have := congrArg List.length hleft
        simp only [List.length_map] at this
        rw [← hlf] at this; simp at this; omega
      have hlj : κ (left[j]).1 = e.key ∧ (left[j]).2 = e.val := by
        have h2 : (lf.toList.map fun e => (e.key, e.val))[j]? = (left.map fun p => (κ p.1, p.2))[j]? := by rw [hlf, hleft]
        simp [hj, hjl] at h2
        exact ⟨h2.1.symm, h2.2.symm⟩
      have hemem : e ∈ es.toList := by
        have : e ∈ lf.toList := by simp [e]
        rw [hlf] at this
        exact (List.mem_filter.1 this).1
      refine ⟨.tuple #[.bool true, e.key, e.val], { w1 with heap := w1.heap.setIfInBounds r (.mapIter (some m) clock (seen.push e.born) clock) }, _, ?_, .inr ⟨left.take j, left.drop (j + 1), left[j], ?_, ?_, rfl⟩, ?_, hk1.trans ⟨rfl, rfl, by simp⟩⟩
      · simp only [execOp, ha.ev hx, Instr.next, Sem.run_bind, hg, hg2, Result.andThen_ok]
        rw [if_neg (by rw [hall]; simp)]
        simp only [Sem.run_bind, Sem.run_pure]
        rw [show (Array.filter (fun e => !seen.contains e.born) es) = lf from rfl, hold, hnew, hcand, if_neg hemp, hch]
        have hr1 : w1.heap[r]? = some (.mapIter (some m) clock seen clock) := by rw [hw1]; exact hr
        simp [hj, setObj, Sem.run, hr1, e]
      · simp
      · rw [hlj.1, hlj.2]
      · have hne2 : r ≠ m := by
          intro h; rw [h, hm] at hr; cases hr
        have hlt : r < w.heap.size := (Array.getElem?_eq_some_iff.1 hr).1
        have hq := ((hp.same hw1).perm (.swap _ _ _)).write (w' := { w1 with heap := w1.heap.setIfInBounds r (.mapIter (some m) clock (seen.push e.born) clock) }) (o' := .mapIter (some m) clock (seen.push e.born) clock) (by simp [hw1, hlt]) (fun c hc => by simp [Array.getElem?_setIfInBounds_ne (Ne.symm hc)])
        refine iter_close (hq.perm (.swap _ _ _)) hL hbn hcl ?_ ?_
        · have hpw : (lf.toList.map (·.born)).Pairwise (· < ·) := by
            rw [hlf]; exact hbn.sublist (List.filter_sublist.map _)
          obtain ⟨A, B, hA, hB, hsplit⟩ : ∃ A B, lf.toList.take j = A ∧ lf.toList.drop (j + 1) = B ∧ lf.toList = A ++ e :: B := by
            refine ⟨_, _, rfl, rfl, ?_⟩
            have hjl' : j < lf.toList.length := by simpa using hj
            have : e = lf.toList[j]'hjl' := by simp [e]
            rw [this, ← List.drop_eq_getElem_cons hjl', List.take_append_drop]
          have hflt : (es.toList.filter fun x => !(seen.push e.born).contains x.born) = A ++ B := by
            have h1 : (es.toList.filter fun x => !(seen.push e.born).contains x.born) = lf.toList.filter fun x => decide (x.born ≠ e.born) := by
              rw [hlf, List.filter_filter]
              apply List.filter_congr
              intro x _
              rw [Bool.eq_iff_iff]; simp [and_comm]
            rw [h1]
            rw [hsplit] at hpw ⊢
            simp only [List.map_append, List.map_cons] at hpw
            obtain ⟨_, q2, q3⟩ := List.pairwise_append.1 hpw
            obtain ⟨q4, _⟩ := List.pairwise_cons.1 q2
            rw [List.filter_append, List.filter_cons_of_neg (by simp)]
            congr 1
            · refine List.filter_eq_self.2 fun x hx => ?_
              have := q3 x.born (List.mem_map_of_mem hx) e.born (by simp)
              simp; omega
            · refine List.filter_eq_self.2 fun x hx => ?_
              have := q4 x.born (List.mem_map_of_mem hx)
              simp; omega
          rw [hflt]
          have h2 : lf.toList.map (fun e => (e.key, e.val)) = left.map fun p => (κ p.1, p.2) := by rw [hlf]; exact hleft
          rw [← hA, ← hB, List.map_append, List.map_take, List.map_drop, h2, ← List.map_take, ← List.map_drop, ← List.map_append]
        · intro c hc
          cases hc
          exact ⟨e, hemem, by simp, hlj.1.symm, hlj.2.symm⟩
theorem find_born : ∀ (l : List MapEntry), (l.map (·.born)).Pairwise (· < ·) → ∀ {e : MapEntry}, e ∈ l → l.find? (fun x => x.born == e.born) = some e := by
  intro l
  induction l with
  | nil => intro _ e h; cases h
  | cons x l ih =>
    intro hp e h
    simp only [List.map_cons] at hp
    obtain ⟨h1, h2⟩ := List.pairwise_cons.1 hp
    rcases List.mem_cons.1 h with rfl | h
    · simp
    · have := h1 e.born (List.mem_map_of_mem h)
      rw [List.find?_cons_of_neg (by simp; omega)]
      exact ih h2 h
/-- What came up. -/
theorem q_entry {x : Operand} {r m : Nat} {L left : List (α × Value)} {c : α × Value} {Γ1 : List HP} (hx : ev K x = some (.pointer (some ⟨r, 0, none⟩))) [tk : FindI κ Γ r m L left (some c) Γ1] :
    QOp P n K Γ (.entry x) (.tuple #[κ c.1, c.2]) := fun F a w ty ha hh => by
  obtain ⟨es, clock, seen, hp, hm, hr, hL, hbn, hcl, hleft, hcur⟩ := iter_open (hh.perm tk.perm)
  obtain ⟨e, he, hbk, hke, hve⟩ := hcur c rfl
  have hg : (getObj r).run P w = .ok (.mapIter (some m) clock seen clock) w := by simp [getObj, Sem.run, hr]
  have hg2 : (getObj m).run P w = .ok (.map es clock) w := by simp [getObj, Sem.run, hm]
  have hfind : es.find? (fun x => x.born == e.born) = some e := by
    rw [← Array.find?_toList]
    exact find_born es.toList hbn he
  simp only [execOp, ha.ev hx, Instr.entry, Sem.run_bind, hg, hg2, Result.andThen_ok, hbk]
  simp [hfind, hke, hve]
theorem iter_end {r m : Nat} {L left : List (α × Value)} {cur : Option (α × Value)} : ∀ h, iterAt κ r m L left cur h → Sat [mapAt κ m L] h := fun h ⟨es, clock, since, seen, s1, a1, a2, a3, _⟩ => by
  obtain ⟨h1, h2, sp, p1, _⟩ := s1
  exact ⟨h1, h2, sp, ⟨es, clock, p1, a1, a2, a3⟩, trivial⟩
end iter
end Go.Sl
