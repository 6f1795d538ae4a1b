/- Rules for what writes or makes memory: new blocks, stores, literals, slices that grow, copies, calls. -/
import Derived.Test.YtgilhenjoinhhaaSlDr
namespace Go.Sl

theorem setRow_other (w : World) (g k : Nat) (cs : Array Value) (h : k ≠ g) : (w.setRow g cs).heap[k]? = w.heap[k]? := by
  simp [World.setRow, Array.getElem?_modify, Ne.symm h]
theorem run_storeCells_fr (P : Program) (g o : Nat) (t : TypeId) (fr : Nat × Nat) : ∀ (vs : List Value) (i : Nat) (cur : Array Value) (w : World), w.heap[g]? = some (.cells cur t fr) → thaw fr cur.size → o + i + vs.length ≤ cur.size → (∀ v ∈ vs, v.oneCell' = true) →
    (storeCells ⟨g, o, none⟩ vs i).run P w = .ok () (w.setRow g (cur.toList.take (o + i) ++ vs ++ cur.toList.drop (o + i + vs.length)).toArray)
  | [], i, cur, w, hg, _, _, _ => by
    simp only [storeCells, List.append_nil, List.length_nil, Nat.add_zero, List.take_append_drop, Array.toArray_toList]
    rw [setRow_self w g cur t fr hg]
    rfl
  | v :: rest, i, cur, w, hg, ht, hl, h1 => by
    have hi : o + i < cur.size := by simp at hl; omega
    have hcell : w.cell? ⟨g, o + i, none⟩ = some cur[o + i] := by simp [World.cell?, hg, hi]
    have hfro : w.frozen? ⟨g, o + i, none⟩ = false := by
      have := ht (o + i) hi
      simp only [World.frozen?, hg]
      simpa using this
    have hst : (store ((⟨g, o, none⟩ : Addr).add i) v).run P w = .ok () (w.setRow g (cur.setIfInBounds (o + i) v)) := by
      rw [add_none, run_store P w _ v _ (h1 v (by simp)), hcell]
      simp [hfro, setCell_eq_setRow w g (o + i) cur t fr v hg]
    have ih := run_storeCells_fr P g o t fr rest (i + 1) (cur.setIfInBounds (o + i) v) (w.setRow g (cur.setIfInBounds (o + i) v)) (setRow_heap w g cur _ t _ hg) (by simpa using ht) (by simp at hl ⊢; omega) (fun x hx => h1 x (by simp [hx]))
    simp only [storeCells, Sem.run_bind, hst, Result.andThen_ok, ih, setRow_setRow]
    congr 3
    have e := list_seg_step cur.toList (o + i) v rest (by simp at hl ⊢; omega)
    simpa [Array.toList_setIfInBounds, Nat.add_assoc] using e

/-- A list with other cells from a place on. -/
def splice (l : List Value) (o : Nat) (vs : List Value) : List Value := l.take o ++ vs ++ l.drop (o + vs.length)
theorem splice_length {l vs : List Value} {o : Nat} (h : o + vs.length ≤ l.length) : (splice l o vs).length = l.length := by
  simp [splice]; omega
theorem splice_one {l : List Value} {o : Nat} {v : Value} (h : o < l.length) : splice l o [v] = l.set o v := by
  simp [splice, List.set_eq_take_append_cons_drop, h]
theorem splice_mid (a b c vs : List Value) (h : vs.length = b.length) : splice (a ++ b ++ c) a.length vs = a ++ vs ++ c := by
  simp only [splice]
  rw [List.append_assoc a b c, List.take_left, List.drop_append, List.drop_eq_nil_of_le (by omega)]
  rw [show a.length + vs.length - a.length = b.length from by omega]
  simp
/-- Cells are written within one block. -/
theorem Keep.setRow (w : World) (g : Nat) (cs : Array Value) : Keep w (w.setRow g cs) := ⟨rfl, rfl, by simp [World.setRow]⟩
theorem storeCells_put {P : Program} {Γ Γ' : List HP} {b o : Nat} {l vs : List Value} {F : Heap} {w : World} (u : UpdB Γ b l (splice l o vs) Γ') (hh : Holds Γ F w) (hle : o + vs.length ≤ l.length) (hv : ∀ v ∈ vs, v.oneCell' = true) :
    ∃ w', (storeCells ⟨b, o, none⟩ vs).run P w = .ok () w' ∧ Holds Γ' F w' ∧ Keep w w' := by
  obtain ⟨fr, T, ht, hb⟩ := u.get hh
  have h1 := run_storeCells_fr P b o T fr vs 0 l.toArray w hb (by simpa using ht) (by simpa using hle) hv
  refine ⟨_, h1, u.put hh hb ?_ ?_ ?_, Keep.setRow _ _ _⟩
  · rw [splice_length hle]; exact ht
  · rw [setRow_heap w b l.toArray _ T fr hb]; simp [splice]
  · exact fun c hc => setRow_other _ _ _ _ hc

class SetAt (l : List Value) (o : Nat) (v : Value) (l' : outParam (List Value)) : Prop where
  eq : l' = l.set o v
  lt : o < l.length
instance SetAt.zero {a v : Value} {l : List Value} : SetAt (a :: l) 0 v (v :: l) := ⟨rfl, by simp⟩
instance SetAt.succ {a v : Value} {l l' : List Value} {o : Nat} [t : SetAt l o v l'] : SetAt (a :: l) (o + 1) v (a :: l') := ⟨by simp [t.eq], by have := t.lt; simp; omega⟩

/-- A value of one cell. -/
class One (v : Value) : Prop where
  eq : v.oneCell' = true
instance {k : IntKind} {x : Int} : One (.int k x) := ⟨rfl⟩
instance {x : Bool} : One (.bool x) := ⟨rfl⟩
instance {x : ByteArray} : One (.string x) := ⟨rfl⟩
instance {x : Option Addr} : One (.pointer x) := ⟨rfl⟩
instance {x : Option Addr} {m c : Nat} : One (.slice x m c) := ⟨rfl⟩
instance {x : Option Nat} : One (.map x) := ⟨rfl⟩
instance {f : Fn} {x y : Array Value} : One (.func f x y) := ⟨rfl⟩
instance : One .nilFunc := ⟨rfl⟩
instance : One .nilIface := ⟨rfl⟩
instance {t : TypeId} {v : Value} : One (.iface t v) := ⟨rfl⟩
theorem One.cells {v : Value} [o : One v] : v.cells = #[v] := by
  have := o.eq
  cases v <;> first | rfl | (simp [Value.oneCell'] at this)
/-- A value's cells. -/
class Cls (v : Value) (l : outParam (List Value)) : Prop where
  eq : v.cells = l.toArray
instance {v : Value} [One v] : Cls v [v] := ⟨One.cells⟩
instance {l : List Value} : Cls (.agg l.toArray) l := ⟨rfl⟩
class AppV (a b : List Value) (c : outParam (List Value)) : Prop where
  eq : c = a ++ b
instance {b : List Value} : AppV [] b b := ⟨rfl⟩
instance {x : Value} {a b c : List Value} [t : AppV a b c] : AppV (x :: a) b (x :: c) := ⟨by rw [t.eq]; rfl⟩
class Flat (vs : List Value) (l : outParam (List Value)) : Prop where
  eq : l = vs.flatMap fun v => v.cells.toList
instance : Flat [] [] := ⟨rfl⟩
instance {v : Value} {vs a l l' : List Value} [c : Cls v a] [t : Flat vs l] [u : AppV a l l'] : Flat (v :: vs) l' := ⟨by simp [u.eq, t.eq, c.eq]⟩

section mem
variable {P : Program} {n : Nat} {K : Env} {Γ : List HP}

theorem Keep.alloc (w : World) (o : Obj) : Keep w { w with heap := w.heap.push o } := ⟨rfl, rfl, by simp⟩
theorem Holds.newBlk {F : Heap} {w : World} {T : TypeId} {l : List Value} (h : Holds Γ F w) : Holds (blk w.heap.size l :: Γ) F { w with heap := w.heap.push (.cells l.toArray T (0, 0)) } :=
  (h.new _).reblk (thaw_zero _)
theorem l_alloc {T : TypeId} {z : Value} {l : List Value} [zz : Zer P T z l] : LOp P n K Γ (.alloc T) (New (fun r => .pointer (some ⟨r, 0, none⟩)) fun r => blk r l :: Γ) :=
  .of_value fun F a w ty ha hh => ⟨.pointer (some ⟨w.heap.size, 0, none⟩), _, blk w.heap.size l :: Γ, by
    simp only [execOp, Instr.alloc, Sem.run_bind, zz.eq, Result.andThen_ok, newVar, newRow, run_newObj, Sem.run_pure, zz.cells], ⟨_, rfl, rfl⟩, Holds.newBlk (T := T) hh, Keep.alloc _ _⟩
theorem l_box {T : TypeId} {x : Operand} {v : Value} {l : List Value} (h : ev K x = some v) [c : Cls v l] : LOp P n K Γ (.box T x) (New (fun r => .pointer (some ⟨r, 0, none⟩)) fun r => blk r l :: Γ) :=
  .of_value fun F a w ty ha hh => ⟨.pointer (some ⟨w.heap.size, 0, none⟩), _, blk w.heap.size l :: Γ, by
    simp only [execOp, Instr.box, Sem.run_bind, Result.andThen_ok, newVar, newRow, run_newObj, Sem.run_pure, ha.ev h, c.eq], ⟨_, rfl, rfl⟩, Holds.newBlk (T := T) hh, Keep.alloc _ _⟩
theorem run_storeVar {T : TypeId} {b o m : Nat} {v : Value} {vs : List Value} {w : World} (hs : (sizeOf T).run P w = .ok m w) (hc : v.cells = vs.toArray) (hm : vs.length = m) :
    (Instr.storeAt T (.pointer (some ⟨b, o, none⟩)) v).run P w = (storeCells ⟨b, o, none⟩ vs).run P w := by
  simp [Instr.storeAt, Instr.sureAddr, storeVar, hs, hc, hm]
theorem l_stv {t : TypeId} {x y : Operand} {b o m : Nat} {l vs : List Value} {v : Value} {Γ' : List HP} [s : Siz P t m] (hx : ev K x = some (.pointer (some ⟨b, o, none⟩))) (hy : ev K y = some v) [c : Cls v vs]
    (u : UpdB Γ b l (splice l o vs) Γ') (hm : vs.length = m) (hle : o + vs.length ≤ l.length) (hv : ∀ v ∈ vs, v.oneCell' = true) : LOp P n K Γ (.store t x y) (Is undef Γ') :=
  .of_skip fun F a w ty ha hh => by
    obtain ⟨w', hr, hh', kp⟩ := storeCells_put (P := P) u hh hle hv
    refine ⟨w', Γ', ?_, ⟨rfl, rfl⟩, hh', kp⟩
    simp only [execOp, ha.ev hx, ha.ev hy, Sem.run_bind, run_storeVar (s.eq w) c.eq hm, hr, Result.andThen_ok, Sem.run_pure]
/-- One cell of a block whose cells are written out. -/
theorem l_st {t : TypeId} {x y : Operand} {b o : Nat} {l l' : List Value} {v : Value} {Γ' : List HP} [s : Scal P t] (hx : ev K x = some (.pointer (some ⟨b, o, none⟩))) (hy : ev K y = some v) [ov : One v]
    [FindB Γ b l] [sa : SetAt l o v l'] [u : UpdB Γ b l l' Γ'] : LOp P n K Γ (.store t x y) (Is undef Γ') := by
  have e : splice l o [v] = l' := by rw [splice_one sa.lt, sa.eq]
  exact @l_stv P n K Γ t x y b o 1 l [v] v Γ' ⟨s.size⟩ hx hy inferInstance (e ▸ u) rfl (by have := sa.lt; simp; omega) (by simpa using ov.eq)
/-- One cell of any block. -/
theorem l_stc {t : TypeId} {x y : Operand} {b o : Nat} {l : List Value} {v : Value} {Γ' : List HP} (l' : List Value) [s : Scal P t] (hx : ev K x = some (.pointer (some ⟨b, o, none⟩))) (hy : ev K y = some v) [ov : One v]
    [u : UpdB Γ b l l' Γ'] (hlt : o < l.length) (hl : l.set o v = l') : LOp P n K Γ (.store t x y) (Is undef Γ') := by
  have e : splice l o [v] = l' := by rw [splice_one hlt, hl]
  exact @l_stv P n K Γ t x y b o 1 l [v] v Γ' ⟨s.size⟩ hx hy inferInstance (e ▸ u) rfl (by simp; omega) (by simpa using ov.eq)
/-- Several cells. -/
theorem l_sta {t : TypeId} {x y : Operand} {b o m : Nat} {l vs : List Value} {Γ' : List HP} (l' : List Value) [s : Siz P t m] (hx : ev K x = some (.pointer (some ⟨b, o, none⟩))) (hy : ev K y = some (.agg vs.toArray))
    [u : UpdB Γ b l l' Γ'] (hm : vs.length = m) (hle : o + vs.length ≤ l.length) (hv : ∀ v ∈ vs, v.oneCell' = true) (hl : splice l o vs = l') : LOp P n K Γ (.store t x y) (Is undef Γ') :=
  l_stv hx hy (hl ▸ u) hm hle hv

/-! #### literals -/
def evp (K : Env) : Nat → List (Nat × Operand) → Option (List Value)
  | _, [] => some []
  | i, (j, o) :: l => if i = j then (ev K o).bind fun v => (evp K (i + 1) l).bind fun vs => some (v :: vs) else none
theorem Agrees.evp {a : Act} (h : Agrees n K a) : ∀ {l : List (Nat × Operand)} {i : Nat} {vs : List Value}, evp K i l = some vs → l.map (fun p => (p.1, a.eval p.2)) = (vs.zipIdx i).map fun p => (p.2, p.1) := by
  intro l
  induction l with
  | nil => intro i vs e; simp [Sl.evp] at e; simp [e]
  | cons p l ih =>
    intro i vs e
    obtain ⟨j, o⟩ := p
    simp only [Sl.evp] at e
    split at e
    · rename_i hij
      subst hij
      simp only [Option.bind_eq_some_iff] at e
      obtain ⟨v, hv, us, hu, e⟩ := e
      simp at e
      subst e
      simp [h.ev hv, ih hu]
    · cases e
theorem set_foldl (cs : List Value) : ∀ (vs : List Value) (o j : Nat), o + j + vs.length ≤ cs.length →
    (vs.zipIdx j).foldl (fun (c : Array Value) (p : Value × Nat) => c.setIfInBounds (o + p.2) p.1) cs.toArray = (splice cs (o + j) vs).toArray := by
  intro vs
  induction vs generalizing cs with
  | nil => intro o j _; simp [splice]
  | cons v vs ih =>
    intro o j h
    simp only [List.zipIdx_cons, List.foldl_cons, List.setIfInBounds_toArray]
    rw [ih (cs.set (o + j) v) o (j + 1) (by simp at h ⊢; omega)]
    congr 1
    have := list_seg_step cs (o + j) v vs (by simp at h; omega)
    simp only [splice, List.length_cons]
    rw [show o + (j + 1) = o + j + 1 from by omega]
    exact this
theorem fill_seq (s : Nat) : ∀ (vs : List Value) (i : Nat) (cs : List Value), (∀ v ∈ vs, v.cells.size = s) → cs.length = (i + vs.length) * s →
    Instr.fill (fun i => some (i * s, s)) cs.toArray ((vs.zipIdx i).map fun p => (p.2, p.1)) = some (cs.take (i * s) ++ vs.flatMap fun v => v.cells.toList).toArray := by
  intro vs
  induction vs with
  | nil => intro i cs _ h; simp at h; simp [Instr.fill, ← h]
  | cons v vs ih =>
    intro i cs hv h
    have hs := hv v (by simp)
    have hle : i * s + s ≤ cs.length := by
      rw [h, Nat.add_mul]; simp only [List.length_cons, Nat.add_mul]; omega
    simp only [List.zipIdx_cons, List.map_cons, Instr.fill, hs]
    rw [if_neg (by simp; exact hle)]
    have e : v.cells.zipIdx.foldl (fun cs x => cs.setIfInBounds (i * s + x.2) x.1) cs.toArray = (splice cs (i * s) v.cells.toList).toArray := by
      have := set_foldl cs v.cells.toList (i * s) 0 (by simpa [hs] using hle)
      simp only [Nat.add_zero] at this
      rw [← this, ← Array.foldl_toList, Array.toList_zipIdx]
    rw [e, ih (i + 1) _ (fun u hu => hv u (by simp [hu])) (by rw [splice_length (by simpa [hs] using hle), h]; simp [Nat.add_mul, Nat.add_comm, Nat.add_left_comm])]
    congr 2
    rw [List.flatMap_cons, ← List.append_assoc]
    congr 1
    have hl : (cs.take (i * s)).length = i * s := by simp; omega
    simp only [splice]
    rw [show (i + 1) * s = i * s + s from by rw [Nat.add_mul]; omega]
    rw [List.take_append_of_le_length (by simp [hs]; omega), List.take_of_length_le (by simp [hs]; omega)]
theorem l_bs {t e : TypeId} {m s : Nat} {parts : List (Nat × Operand)} {vs l : List Value} {z : Value} {zl : List Value} [u : Und P t (.slice e)] [sz : Siz P e s] [zz : Zer P e z zl] (hp : evp K 0 parts = some vs) (hm : vs.length = m) (hsm : m * s ≤ 16777216)
    (hv : ∀ v ∈ vs, v.cells.size = s) [fl : Flat vs l] : LOp P n K Γ (.buildSlice t m parts.toArray) (New (fun r => .slice (some ⟨r, 0, none⟩) m m) fun r => blk r l :: Γ) :=
  .of_value fun F a w ty ha hh => by
    refine ⟨.slice (some ⟨w.heap.size, 0, none⟩) m m, { w with heap := w.heap.push (.cells l.toArray e (0, 0)) }, blk w.heap.size l :: Γ, ?_, ⟨_, rfl, rfl⟩, Holds.newBlk (T := e) hh, Keep.alloc _ _⟩
    have hparts : (parts.toArray.map fun x => (x.1, a.eval x.2)).toList = (vs.zipIdx 0).map fun p => (p.2, p.1) := by
      rw [Array.toList_map]; exact ha.evp hp
    have key : ∀ cs : List Value, cs.length = m * s → Instr.fill (fun i => some (i * s, s)) cs.toArray (parts.toArray.map fun x => (x.1, a.eval x.2)).toList = some l.toArray := fun cs hcs => by
      rw [hparts, fill_seq s vs 0 cs hv (by rw [hcs, hm]; simp), fl.eq]; simp
    simp only [execOp, Instr.buildSlice, Sem.run_bind, run_underlying' u.eq, sz.eq, Result.andThen_ok]
    rw [if_neg (by omega)]
    by_cases h0 : m * s = 0
    · simp only [h0, if_true, Sem.run_bind, Sem.run_pure, Result.andThen_ok]
      have := key ((Array.range 0).map fun i => (#[] : Array Value)[i % (#[] : Array Value).size]!).toList (by simp [h0])
      simp only [Array.toArray_toList] at this
      simp only [this, Sem.run_bind, newRow, run_newObj, Result.andThen_ok, Sem.run_pure]
    · simp only [h0, if_false, Sem.run_bind, Sem.run_pure, Result.andThen_ok, zz.eq]
      have := key ((Array.range (m * s)).map fun i => z.cells[i % z.cells.size]!).toList (by simp)
      simp only [Array.toArray_toList] at this
      simp only [this, Sem.run_bind, newRow, run_newObj, Result.andThen_ok, Sem.run_pure]
/-- A struct put together: its cells by a law of your own. -/
theorem q_build {t : TypeId} {parts : List (Nat × Operand)} {ps : List (Nat × Value)} {v : Value} (hp : ∀ a, Agrees n K a → parts.map (fun x => (x.1, a.eval x.2)) = ps) (hb : ∀ w, (Instr.build t ps.toArray).run P w = .ok v w) :
    QOp P n K Γ (.build t parts.toArray) v := fun F a w ty ha _ => by
  have : parts.toArray.map (fun x => (x.1, a.eval x.2)) = ps.toArray := by
    rw [← hp a ha]; simp
  simp only [execOp, this, Sem.run_bind, hb, Result.andThen_ok, Sem.run_pure]
theorem l_mkm {t : TypeId} : LOp P n K Γ (.makeMap t none) (New (fun r => .map (some r)) fun r => pt r (.map #[] 0) :: Γ) :=
  .of_value fun F a w ty ha hh => ⟨.map (some w.heap.size), _, pt w.heap.size (.map #[] 0) :: Γ, by
    simp only [execOp, Instr.makeMap, Option.map_none, Sem.run_bind, run_newObj, Result.andThen_ok, Sem.run_pure], ⟨_, rfl, rfl⟩, hh.new _, Keep.alloc _ _⟩

/-! #### calls -/
theorem l_call {f : FuncId} {as : List Operand} {vs : List Value} {tys : Array TypeId} {Δ Γ1 : List HP} {Q : Value → List HP → Prop} [e : Ent P f] (hs : Spec P f vs Δ Q) (h : evs K as = some vs) [t : Takes Δ Γ Γ1] :
    LOp P n K Γ (.call ⟨.value (.func f), as.toArray, tys⟩) (fun v Γ' => ∃ Γ2, Q v Γ2 ∧ Γ' = Γ2 ++ Γ1) :=
  .of_enter hs fun F a w ty ha hh => by
    have := ha.evs h
    simp [execOp, resolve, Deferred.ofValue, Act.eval, invoke, this, e.eq]
/-- A call of a closure, or of a function that is a value. -/
theorem l_callv {f : FuncId} {x : Operand} {cap fst : List Value} {as : List Operand} {vs : List Value} {tys : Array TypeId} {Δ Γ1 : List HP} {Q : Value → List HP → Prop} [e : Ent P f] (hx : ev K x = some (.func (.func f) fst.toArray cap.toArray)) (h : evs K as = some vs)
    (hs : Spec P f (fst ++ vs ++ cap) Δ Q) [t : Takes Δ Γ Γ1] : LOp P n K Γ (.call ⟨.value x, as.toArray, tys⟩) (fun v Γ' => ∃ Γ2, Q v Γ2 ∧ Γ' = Γ2 ++ Γ1) :=
  .of_enter hs fun F a w ty ha hh => by
    have := ha.evs h
    simp [execOp, resolve, Deferred.ofValue, ha.ev hx, invoke, this, e.eq]
class Meth (P : Program) (T : TypeId) (name : String) (f : outParam FuncId) : Prop where
  eq : ∀ v w, (method (P.types.size + Made.depth) T v name).run P w = .ok (f, v) w
theorem l_inv {f : FuncId} {T : TypeId} {name : String} {x : Operand} {rv : Value} {as : List Operand} {vs : List Value} {tys : Array TypeId} {Δ Γ1 : List HP} {Q : Value → List HP → Prop} [mm : Meth P T name f] [e : Ent P f] (hx : ev K x = some (.iface T rv)) (h : evs K as = some vs)
    (hs : Spec P f (rv :: vs) Δ Q) [t : Takes Δ Γ Γ1] : LOp P n K Γ (.call ⟨.invoke x name, as.toArray, tys⟩) (fun v Γ' => ∃ Γ2, Q v Γ2 ∧ Γ' = Γ2 ++ Γ1) :=
  .of_enter hs fun F a w ty ha hh => by
    have := ha.evs h
    simp [execOp, resolve, ha.ev hx, invoke, callMethod, this, e.eq, mm.eq]
end mem
end Go.Sl
