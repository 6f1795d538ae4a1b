/- A rule for each operation that leaves memory alone, and for loads, stores, new blocks, calls. -/
import Derived.Test.YtgilhenjoinhhaaSlD
import Derived.Laws.Cells
import Derived.Laws.CopyRow
import Derived.Laws.Rows
import Derived.Laws.Pointers
namespace Go.Sl

/-! ### what the tables say -/
class Und (P : Program) (t : TypeId) (d : outParam TypeDesc) : Prop where
  eq : P.underlying t = some d
/-- A type of one cell: neither a struct nor an array. -/
class Scal (P : Program) (t : TypeId) : Prop where
  agg : ∀ w, (isAgg t).run P w = .ok false w
  size : ∀ w, (sizeOf t).run P w = .ok 1 w
class Aggr (P : Program) (t : TypeId) (m : outParam Nat) : Prop where
  agg : ∀ w, (isAgg t).run P w = .ok true w
  size : ∀ w, (sizeOf t).run P w = .ok m w
class Siz (P : Program) (t : TypeId) (m : outParam Nat) : Prop where
  eq : ∀ w, (sizeOf t).run P w = .ok m w
class Byt (P : Program) (t : TypeId) (m : outParam Nat) : Prop where
  eq : ∃ i, P.info? t = some i ∧ i.bytes = m
/-- The zero value's cells. -/
class Zer (P : Program) (t : TypeId) (z : outParam Value) (l : outParam (List Value)) : Prop where
  eq : ∀ w, (zeroValue t).run P w = .ok z w
  cells : z.cells = l.toArray
class FOff (P : Program) (s : TypeId) (i : Nat) (k : outParam Nat) : Prop where
  eq : ∀ w a, (Instr.fieldAt s (.pointer (some a)) i).run P w = .ok (.pointer (some (a.add k))) w
class Ent (P : Program) (f : FuncId) : Prop where
  eq : ∀ args w, (callFunc f args).run P w = .ok (.enter f args) w

theorem run_underlying' {P : Program} {t : TypeId} {d : TypeDesc} (h : P.underlying t = some d) (w : World) : (underlying t).run P w = .ok d w := by
  simp [underlying, h]
theorem run_typeInfo' {P : Program} {t : TypeId} {i : TypeInfo} (h : P.info? t = some i) (w : World) : (typeInfo t).run P w = .ok i w := by
  simp [typeInfo, h]
def scalB : TypeDesc → Bool
  | .struct _ => false
  | .array _ _ => false
  | _ => true
theorem Scal.mk' {P : Program} {t : TypeId} {d : TypeDesc} (h : P.underlying t = some d) (hd : scalB d = true) (hs : (P.info? t).map (·.size) = some 1) : Scal P t where
  agg w := by
    simp only [isAgg, Sem.run_bind, run_underlying' h, Result.andThen_ok]
    cases d <;> first | rfl | (simp [scalB] at hd)
  size w := by
    obtain ⟨i, hi, hs⟩ := Option.map_eq_some_iff.1 hs
    simp [sizeOf, run_typeInfo' hi, hs]
theorem Aggr.mk' {P : Program} {t : TypeId} {d : TypeDesc} {m : Nat} (h : P.underlying t = some d) (hd : scalB d = false) (hs : (P.info? t).map (·.size) = some m) : Aggr P t m where
  agg w := by
    simp only [isAgg, Sem.run_bind, run_underlying' h, Result.andThen_ok]
    cases d <;> first | rfl | (simp [scalB] at hd)
  size w := by
    obtain ⟨i, hi, hs⟩ := Option.map_eq_some_iff.1 hs
    simp [sizeOf, run_typeInfo' hi, hs]
theorem Siz.mk' {P : Program} {t : TypeId} {m : Nat} (hs : (P.info? t).map (·.size) = some m) : Siz P t m where
  eq w := by
    obtain ⟨i, hi, hs⟩ := Option.map_eq_some_iff.1 hs
    simp [sizeOf, run_typeInfo' hi, hs]
theorem Byt.mk' {P : Program} {t : TypeId} {m : Nat} (hs : (P.info? t).map (·.bytes) = some m) : Byt P t m where
  eq := by
    obtain ⟨i, hi, hs⟩ := Option.map_eq_some_iff.1 hs
    exact ⟨i, hi, hs⟩
theorem Zer.mk' {P : Program} {t : TypeId} {z : Value} {l : List Value} (hz : (P.info? t).bind (·.zero) = some z) (hl : z.cells = l.toArray) : Zer P t z l where
  eq w := by
    obtain ⟨i, hi, hz⟩ := Option.bind_eq_some_iff.1 hz
    simp [zeroValue, run_typeInfo' hi, hz]
  cells := hl
theorem FOff.mk' {P : Program} {s : TypeId} {i k : Nat} {fs : Array Field} {m t : Nat} (h : P.underlying s = some (.struct fs)) (hf : (fs[i]?).map (fun f => (f.offset, f.type)) = some (k, t)) (hj : (P.info? t).map (·.size) = some (m + 1)) : FOff P s i k where
  eq w a := by
    obtain ⟨f, hf', e⟩ := Option.map_eq_some_iff.1 hf
    obtain ⟨j, hj', hs⟩ := Option.map_eq_some_iff.1 hj
    simp only [Prod.mk.injEq] at e
    obtain ⟨e1, e2⟩ := e
    have e2' : P.info? f.type = some j := by rw [e2]; exact hj'
    simp [Instr.fieldAt, Instr.sureAddr, fieldPlace, run_underlying' h, hf', sizeOf, run_typeInfo' e2', hs, e1]
theorem Ent.mk' {P : Program} {f : FuncId} {fn : Func} (h : P.funcs[f]? = some fn) (h1 : fn.body.isNone = false) (h2 : (fn.name == "runtime.NumGoroutine") = false) : Ent P f where
  eq args w := by
    have h1' : ∃ c, fn.body = some c := by
      cases e : fn.body with
      | none => simp [e] at h1
      | some c => exact ⟨c, rfl⟩
    obtain ⟨c, hc⟩ := h1'
    simp only [callFunc, Sem.run_bind, run_program, Result.andThen_ok, h]
    rw [if_neg (by simp [h2]), if_neg (by simp [hc])]
    rfl

theorem add_none (b o k : Nat) : (⟨b, o, none⟩ : Addr).add k = ⟨b, o + k, none⟩ := by
  unfold Addr.add
  by_cases h : k = 0 <;> simp [h]

/-- A text. -/
abbrev str (l : List UInt8) : Value := .string ⟨⟨l⟩⟩
theorem str_size (l : List UInt8) : (⟨⟨l⟩⟩ : ByteArray).size = l.length := rfl
theorem toList_loop (a : ByteArray) : ∀ (m i : Nat) (r : List UInt8), a.size - i = m → ByteArray.toList.loop a i r = r.reverse ++ a.data.toList.drop i := by
  intro m
  induction m with
  | zero =>
    intro i r h
    unfold ByteArray.toList.loop
    rw [if_neg (by omega)]
    rw [List.drop_eq_nil_of_le (by simpa using (by omega : a.size ≤ i))]
    simp
  | succ m ih =>
    intro i r h
    unfold ByteArray.toList.loop
    have hi : i < a.size := by omega
    rw [if_pos hi, ih (i + 1) _ (by omega)]
    have hi' : i < a.data.toList.length := by simpa using hi
    rw [List.drop_eq_getElem_cons hi']
    simp [ByteArray.get!, hi]
theorem str_toList (l : List UInt8) : (⟨⟨l⟩⟩ : ByteArray).toList = l := by
  rw [ByteArray.toList, toList_loop _ _ 0 [] rfl]; simp

/-- Exactly this. -/
def Is (v : Value) (Γ : List HP) : Value → List HP → Prop := fun v' Γ' => v' = v ∧ Γ' = Γ
/-- A new block, of whatever number. -/
def New (v : Nat → Value) (Γ : Nat → List HP) : Value → List HP → Prop := fun v' Γ' => ∃ r, v' = v r ∧ Γ' = Γ r

section frames
variable {P : Program} {f : FuncId} {n : Nat} {Q : Value → List HP → Prop} {ops : Array Oper} {rest : List Oper} {k : List Item} {K : Env} {Γ : List HP}
theorem GR.s {d : Nat} {op : Op} {ty : TypeId} {pos : String} {aft : Array Edge} {v : Value} {Γ' : List HP} (h : LOp P n K Γ op (Is v Γ')) (hd : Nat.blt d n = true)
    (k' : GR P f n Q ops rest k ((d, v) :: K) Γ') : GR P f n Q ops (⟨some d, op, ty, pos, aft, none⟩ :: rest) k K Γ :=
  GR.l h hd fun _ _ ⟨e1, e2⟩ => by rw [e1, e2]; exact k'
theorem GR.s0 {op : Op} {ty : TypeId} {pos : String} {aft : Array Edge} {v : Value} {Γ' : List HP} (h : LOp P n K Γ op (Is v Γ'))
    (k' : GR P f n Q ops rest k K Γ') : GR P f n Q ops (⟨none, op, ty, pos, aft, none⟩ :: rest) k K Γ :=
  GR.l0 h fun _ _ ⟨_, e2⟩ => by rw [e2]; exact k'
theorem GR.a {d : Nat} {op : Op} {ty : TypeId} {pos : String} {aft : Array Edge} {v : Nat → Value} {Γ' : Nat → List HP} (h : LOp P n K Γ op (New v Γ')) (hd : Nat.blt d n = true)
    (k' : ∀ r, GR P f n Q ops rest k ((d, v r) :: K) (Γ' r)) : GR P f n Q ops (⟨some d, op, ty, pos, aft, none⟩ :: rest) k K Γ :=
  GR.l h hd fun _ _ ⟨r, e1, e2⟩ => by rw [e1, e2]; exact k' r
theorem GR.casesD {l : List Oper} {t : Nat} {p : Prop} [Decidable p] (h : lk K t = some (.bool (decide p))) (hT : p → GR P f n Q ops l k ((t, .bool true) :: K) Γ) (hF : ¬ p → GR P f n Q ops l k ((t, .bool false) :: K) Γ) :
    GR P f n Q ops l k K Γ := GR.cases h (fun e => hT (of_decide_eq_true e)) (fun e => hF (of_decide_eq_false e))
theorem GR.setT {l : List Oper} {t : Nat} {p : Prop} [Decidable p] (h : lk K t = some (.bool (decide p))) (hp : p) (hT : GR P f n Q ops l k ((t, .bool true) :: K) Γ) :
    GR P f n Q ops l k K Γ := GR.casesD h (fun _ => hT) (fun e => (e hp).elim)
theorem GR.setF {l : List Oper} {t : Nat} {p : Prop} [Decidable p] (h : lk K t = some (.bool (decide p))) (hp : ¬ p) (hF : GR P f n Q ops l k ((t, .bool false) :: K) Γ) :
    GR P f n Q ops l k K Γ := GR.casesD h (fun e => (hp e).elim) (fun _ => hF)
theorem G.condD {c : Operand} {x y : Code} {p : Prop} [Decidable p] (hc : ev K c = some (.bool (decide p))) (h : p → G P f n Q (.code x :: k) K Γ)
    (h' : ¬ p → G P f n Q (.code y :: k) K Γ) : G P f n Q (.code (.cond c x y) :: k) K Γ :=
  G.cond hc (fun e => h (of_decide_eq_true e)) (fun e => h' (of_decide_eq_false e))
theorem G.condDT {c : Operand} {x y : Code} {p : Prop} [Decidable p] (hc : ev K c = some (.bool (decide p))) (hp : p) (h : G P f n Q (.code x :: k) K Γ) :
    G P f n Q (.code (.cond c x y) :: k) K Γ := G.condD hc (fun _ => h) (fun e => (e hp).elim)
theorem G.condDF {c : Operand} {x y : Code} {p : Prop} [Decidable p] (hc : ev K c = some (.bool (decide p))) (hp : ¬ p) (h : G P f n Q (.code y :: k) K Γ) :
    G P f n Q (.code (.cond c x y) :: k) K Γ := G.condD hc (fun e => (hp e).elim) (fun _ => h)
def tupV : List Value → Value
  | [v] => v
  | vs => .tuple vs.toArray
def lks (K : Env) : List Nat → Option (List Value)
  | [] => some []
  | t :: ts => (lk K t).bind fun v => (lks K ts).bind fun vs => some (v :: vs)
theorem Agrees.lks {a : Act} (h : Agrees n K a) : ∀ {ts : List Nat} {vs : List Value}, lks K ts = some vs → ts.map (fun t => a.tmps.getD t undef) = vs := by
  intro ts
  induction ts with
  | nil => intro vs e; simp [Sl.lks] at e; simp [e]
  | cons t ts ih =>
    intro vs e
    simp only [Sl.lks, Option.bind_eq_some_iff] at e
    obtain ⟨v, hv, us, hu, e⟩ := e
    simp at e
    subst e
    rw [List.map_cons, h.2.2 t v hv, ih hu]
theorem run_results {fn : Func} {ts : List Nat} (h : fn.results = (ts.map ResultVar.tmp).toArray) (tmps : Array Value) (w : World) :
    (results fn tmps).run P w = .ok (tupV (ts.map fun t => tmps.getD t undef)) w := by
  have key : ∀ (g : ResultVar → Sem Value), (∀ t, g (.tmp t) = Pure.pure (tmps.getD t undef)) → ((ts.map ResultVar.tmp).toArray.mapM g).run P w = .ok (ts.map fun t => tmps.getD t undef).toArray w := by
    intro g hg
    rw [List.mapM_toArray, Sem.run_map]
    have : ∀ l : List Nat, ((l.map ResultVar.tmp).mapM g).run P w = .ok (l.map fun t => tmps.getD t undef) w := by
      intro l
      induction l with
      | nil => simp
      | cons t l ih => rw [List.map_cons, List.mapM_cons, Sem.run_bind, hg, Sem.run_pure, Result.andThen_ok, Sem.run_bind, ih]; simp
    rw [this]; simp
  unfold results
  rw [h, Sem.run_bind, key _ (fun t => rfl)]
  simp only [Result.andThen_ok, Sem.run_pure]
  match ts with
  | [] => simp [tupV]
  | [t] => simp [tupV]
  | t :: u :: r => simp [tupV]
theorem G.retN {fn : Func} {ts : List Nat} {vs : List Value} {Γ' Δ : List HP} (hf : P.funcs[f]? = some fn) (hr : fn.results = (ts.map ResultVar.tmp).toArray) (hv : lks K ts = some vs)
    (hq : Q (tupV vs) Γ') [t : Takes Γ' Γ Δ] : G P f n Q (.code .ret :: k) K Γ :=
  G.ret hf (fun a ha w => by rw [run_results hr, ha.lks hv]) hq
theorem G.endsN {fn : Func} {ts : List Nat} {vs : List Value} {Γ' Δ : List HP} (hf : P.funcs[f]? = some fn) (hr : fn.results = (ts.map ResultVar.tmp).toArray) (hv : lks K ts = some vs)
    (hq : Q (tupV vs) Γ') [t : Takes Γ' Γ Δ] : G P f n Q [] K Γ :=
  G.ends hf (fun a ha w => by rw [run_results hr, ha.lks hv]) hq
theorem GR.setBT {l : List Oper} {t : Nat} {b : Bool} (h : lk K t = some (.bool b)) (hp : b = true) (hT : GR P f n Q ops l k ((t, .bool true) :: K) Γ) :
    GR P f n Q ops l k K Γ := GR.cases h (fun _ => hT) (fun e => by rw [hp] at e; cases e)
theorem GR.setBF {l : List Oper} {t : Nat} {b : Bool} (h : lk K t = some (.bool b)) (hp : b = false) (hF : GR P f n Q ops l k ((t, .bool false) :: K) Γ) :
    GR P f n Q ops l k K Γ := GR.cases h (fun e => by rw [hp] at e; cases e) (fun _ => hF)
theorem G.condBT {c : Operand} {x y : Code} {b : Bool} (hc : ev K c = some (.bool b)) (hp : b = true) (h : G P f n Q (.code x :: k) K Γ) :
    G P f n Q (.code (.cond c x y) :: k) K Γ := G.condT (hp ▸ hc) h
theorem G.condBF {c : Operand} {x y : Code} {b : Bool} (hc : ev K c = some (.bool b)) (hp : b = false) (h : G P f n Q (.code y :: k) K Γ) :
    G P f n Q (.code (.cond c x y) :: k) K Γ := G.condF (hp ▸ hc) h
end frames

section quiet
variable {P : Program} {n : Nat} {K : Env} {Γ : List HP}

theorem q_mv {x : Operand} {v : Value} (h : ev K x = some v) : QOp P n K Γ (.move x) v := fun F a w ty ha _ => by
  simp [execOp, ha.ev h]
theorem q_as {x : Operand} {v : Value} (h : ev K x = some v) : QOp P n K Γ (.assign x) v := fun F a w ty ha _ => by
  simp [execOp, ha.ev h]
theorem q_pickT {c x y : Operand} {v : Value} (hc : ev K c = some (.bool true)) (h : ev K x = some v) : QOp P n K Γ (.pick c x y) v := fun F a w ty ha _ => by
  simp [execOp, ha.ev hc, ha.ev h, asBool]
theorem q_pickF {c x y : Operand} {v : Value} (hc : ev K c = some (.bool false)) (h : ev K y = some v) : QOp P n K Γ (.pick c x y) v := fun F a w ty ha _ => by
  simp [execOp, ha.ev hc, ha.ev h, asBool]
theorem q_nil {x : Operand} {p : Addr} (h : ev K x = some (.pointer (some p))) : QOp P n K Γ (.nilCheck x) (.pointer (some p)) := fun F a w ty ha _ => by
  simp [execOp, ha.ev h]
theorem q_nilI {x : Operand} {t : TypeId} {v : Value} (h : ev K x = some (.iface t v)) : QOp P n K Γ (.nilCheck x) (.iface t v) := fun F a w ty ha _ => by
  simp [execOp, ha.ev h]
theorem q_nilF {x : Operand} {f : FuncId} {c d : Array Value} (h : ev K x = some (.func (.func f) c d)) : QOp P n K Γ (.nilCheck x) (.func (.func f) c d) := fun F a w ty ha _ => by
  simp [execOp, ha.ev h]
theorem q_fa {s : TypeId} {x : Operand} {i k b o : Nat} [t : FOff P s i k] (h : ev K x = some (.pointer (some ⟨b, o, none⟩))) :
    QOp P n K Γ (.fieldAddr s x i) (.pointer (some ⟨b, o + k, none⟩)) := fun F a w ty ha _ => by
  simp [execOp, ha.ev h, t.eq, add_none]
theorem q_fa0 {s : TypeId} {x : Operand} {i k b : Nat} [t : FOff P s i k] (h : ev K x = some (.pointer (some ⟨b, 0, none⟩))) :
    QOp P n K Γ (.fieldAddr s x i) (.pointer (some ⟨b, k, none⟩)) := fun F a w ty ha _ => by
  simp [execOp, ha.ev h, t.eq, add_none]
theorem run_loadVar1 {t : TypeId} [s : Scal P t] {w : World} {b o : Nat} {l : List Value} {T : TypeId} {fr : Nat × Nat} {v : Value} (hb : w.heap[b]? = some (.cells l.toArray T fr)) (hv : l[o]? = some v) :
    (loadVar t ⟨b, o, none⟩).run P w = .ok v w := by
  simp [loadVar, s.agg, World.cell?, hb, hv]
theorem q_ld {t : TypeId} {x : Operand} {b o : Nat} {l : List Value} {v : Value} [s : Scal P t] (h : ev K x = some (.pointer (some ⟨b, o, none⟩)))
    [fd : FindB Γ b l] (hv : l[o]? = some v) : QOp P n K Γ (.load t x) v := fun F a w ty ha hh => by
  obtain ⟨fr, T, _, hb⟩ := fd.get hh
  have := run_loadVar1 (P := P) (t := t) hb hv
  simp [execOp, ha.ev h, Instr.loadAt, Instr.sureAddr, this]
theorem run_loadVarA {t : TypeId} {m : Nat} [s : Aggr P t m] {w : World} {b o : Nat} {l l' : List Value} {T : TypeId} {fr : Nat × Nat} (hb : w.heap[b]? = some (.cells l.toArray T fr)) (hle : o + m ≤ l.length)
    (hl : (l.drop o).take m = l') : (loadVar t ⟨b, o, none⟩).run P w = .ok (.agg l'.toArray) w := by
  have hlen : l'.length = m := by rw [← hl]; simp; omega
  have := run_loadCells_list (P := P) (w := w) ⟨b, o, none⟩ l' (fun j v e => by
    rw [add_none]
    simp only [World.cell?, hb]
    subst hl
    simp only [List.getElem?_take, List.getElem?_drop] at e
    split at e
    · simpa using e
    · cases e)
  rw [hlen] at this
  simp [loadVar, s.agg, s.size, this]
theorem q_lda {t : TypeId} {x : Operand} {b o m : Nat} {l l' : List Value} [s : Aggr P t m] (h : ev K x = some (.pointer (some ⟨b, o, none⟩)))
    [fd : FindB Γ b l] (hle : o + m ≤ l.length) (hl : (l.drop o).take m = l') : QOp P n K Γ (.load t x) (.agg l'.toArray) := fun F a w ty ha hh => by
  obtain ⟨fr, T, _, hb⟩ := fd.get hh
  have := run_loadVarA (P := P) (t := t) hb hle hl
  simp [execOp, ha.ev h, Instr.loadAt, Instr.sureAddr, this]
/-- The i-th of a list. -/
def nth : List Value → Nat → Option Value
  | [], _ => none
  | v :: _, 0 => some v
  | _ :: l, i + 1 => nth l i
theorem nth_eq : ∀ (l : List Value) (i : Nat), nth l i = l[i]?
  | [], i => by simp [nth]
  | v :: _, 0 => by simp [nth]
  | _ :: l, i + 1 => by simp [nth, nth_eq l i]
theorem q_ex {x : Operand} {i : Nat} {vs : List Value} {v : Value} (h : ev K x = some (.tuple vs.toArray)) (hv : nth vs i = some v) : QOp P n K Γ (.extract x i) v := fun F a w ty ha _ => by
  rw [nth_eq] at hv
  simp [execOp, ha.ev h, Instr.extract, hv]
theorem q_fld {t : TypeId} {x : Operand} {i : Nat} {fs : Array Field} {f : Field} {cs : Array Value} {v : Value} [u : Und P t (.struct fs)] (hf : fs[i]? = some f) (h : ev K x = some (.agg cs)) [s : Scal P f.type] (hv : cs[f.offset]? = some v) :
    QOp P n K Γ (.field t x i) v := fun F a w ty ha _ => by
  simp [execOp, ha.ev h, Instr.field, run_underlying' u.eq, hf, asAgg, part, s.agg, hv]
theorem q_mkf {fn : Fn} {cap : List Operand} {vs : List Value} (h : evs K cap = some vs) : QOp P n K Γ (.makeFunc fn #[] cap.toArray) (.func fn #[] vs.toArray) := fun F a w ty ha _ => by
  have := ha.evs h
  simp [execOp, Instr.makeFunc, this]
theorem q_mki {t : TypeId} {x : Operand} {v : Value} {d : TypeDesc} [u : Und P t d] (hd : (match d with | .interface _ => false | _ => true) = true) (h : ev K x = some v) : QOp P n K Γ (.makeInterface t x) (.iface t v) := fun F a w ty ha _ => by
  cases d <;> first | (simp at hd; done) | simp [execOp, ha.ev h, Instr.makeInterface, run_underlying' u.eq]

/-! #### numbers -/
theorem wrapI {x : Int} (h : -9223372036854775808 ≤ x ∧ x ≤ 9223372036854775807) : IntKind.i64.wrap x = x := by
  unfold IntKind.wrap IntKind.signed IntKind.bits
  simp only [Nat.reduceSub]
  by_cases h0 : 0 ≤ x
  · rw [if_neg] <;> simp <;> omega
  · rw [if_pos] <;> simp <;> omega
theorem wrapU {k : IntKind} (hk : k.signed = false) {x : Int} (h : 0 ≤ x ∧ x < (2 ^ k.bits : Int)) : k.wrap x = x := by
  unfold IntKind.wrap
  simp only [hk, Bool.false_and, Bool.false_eq_true, if_false]
  exact Int.emod_eq_of_lt h.1 h.2
theorem q_bin {op : BinOp} {t u : TypeId} {x y : Operand} {vx vy v : Value} (h1 : ev K x = some vx) (h2 : ev K y = some vy) (he : (op = .eql ∨ op = .neq) → (match vx, vy with | .nilIface, .nilIface => false | .agg _, .agg _ => false | _, _ => true) = true)
    (hr : ∀ w, (binOp op t vx vy).run P w = .ok v w) : QOp P n K Γ (.binOp op t x y u) v := fun F a w ty ha _ => by
  have hg : (eqGuard op t x y vx vy).run P w = .ok () w := by
    unfold eqGuard
    by_cases ho : op = .eql ∨ op = .neq
    · have := he ho
      rcases ho with rfl | rfl <;> simp <;> cases vx <;> first | rfl | (cases vy <;> first | rfl | (simp at this; done))
    · cases op <;> first | rfl | (simp at ho; done)
  simp only [execOp, ha.ev h1, ha.ev h2, Sem.run_bind, hg, hr, Result.andThen_ok, Sem.run_pure]
theorem q_add {t u : TypeId} {x y : Operand} {a b : Int} (h1 : ev K x = some (.int .i64 a)) (h2 : ev K y = some (.int .i64 b)) (h : -9223372036854775808 ≤ a + b ∧ a + b ≤ 9223372036854775807) :
    QOp P n K Γ (.binOp .add t x y u) (.int .i64 (a + b)) := q_bin h1 h2 (by simp) fun w => by simp [binOp, Op.intArith, wrapI h]
theorem q_sub {t u : TypeId} {x y : Operand} {a b : Int} (h1 : ev K x = some (.int .i64 a)) (h2 : ev K y = some (.int .i64 b)) (h : -9223372036854775808 ≤ a - b ∧ a - b ≤ 9223372036854775807) :
    QOp P n K Γ (.binOp .sub t x y u) (.int .i64 (a - b)) := q_bin h1 h2 (by simp) fun w => by simp [binOp, Op.intArith, wrapI h]
theorem q_mul {t u : TypeId} {x y : Operand} {a b : Int} (h1 : ev K x = some (.int .i64 a)) (h2 : ev K y = some (.int .i64 b)) (h : -9223372036854775808 ≤ a * b ∧ a * b ≤ 9223372036854775807) :
    QOp P n K Γ (.binOp .mul t x y u) (.int .i64 (a * b)) := q_bin h1 h2 (by simp) fun w => by simp [binOp, Op.intArith, wrapI h]
theorem q_addU {k : IntKind} {t u : TypeId} {x y : Operand} {a b : Int} (hk : k.signed = false) (h1 : ev K x = some (.int k a)) (h2 : ev K y = some (.int k b)) (h : 0 ≤ a + b ∧ a + b < (2 ^ k.bits : Int)) :
    QOp P n K Γ (.binOp .add t x y u) (.int k (a + b)) := q_bin h1 h2 (by simp) fun w => by simp [binOp, Op.intArith, wrapU hk h]
theorem q_addW {k : IntKind} {t u : TypeId} {x y : Operand} {a b : Int} (h1 : ev K x = some (.int k a)) (h2 : ev K y = some (.int k b)) :
    QOp P n K Γ (.binOp .add t x y u) (.int k (k.wrap (a + b))) := q_bin h1 h2 (by simp) fun w => by simp [binOp, Op.intArith]
/-- '/' and '%' of numbers that are not negative, by one above zero. -/
theorem q_quo {k : IntKind} {t u : TypeId} {x y : Operand} {a b : Int} (h1 : ev K x = some (.int k a)) (h2 : ev K y = some (.int k b)) (ha : 0 ≤ a) (hb : 0 < b) (hw : k.wrap (a / b) = a / b) :
    QOp P n K Γ (.binOp .quo t x y u) (.int k (a / b)) := q_bin h1 h2 (by simp) fun w => by
  have e : a.tdiv b = a / b := Int.tdiv_eq_ediv_of_nonneg ha
  simp [binOp, Op.intDiv, e, hw, Int.ne_of_gt hb]
theorem q_rem {k : IntKind} {t u : TypeId} {x y : Operand} {a b : Int} (h1 : ev K x = some (.int k a)) (h2 : ev K y = some (.int k b)) (ha : 0 ≤ a) (hb : 0 < b) :
    QOp P n K Γ (.binOp .rem t x y u) (.int k (a % b)) := q_bin h1 h2 (by simp) fun w => by
  have e : a.tmod b = a % b := Int.tmod_eq_emod_of_nonneg ha
  simp [binOp, Op.intDiv, e, Int.ne_of_gt hb]
theorem q_remT {k : IntKind} {t u : TypeId} {x y : Operand} {a b : Int} (h1 : ev K x = some (.int k a)) (h2 : ev K y = some (.int k b)) (hb : b ≠ 0) :
    QOp P n K Γ (.binOp .rem t x y u) (.int k (a.tmod b)) := q_bin h1 h2 (by simp) fun w => by
  simp [binOp, Op.intDiv, hb]
theorem q_lt {k : IntKind} {t u : TypeId} {x y : Operand} {a b : Int} (h1 : ev K x = some (.int k a)) (h2 : ev K y = some (.int k b)) :
    QOp P n K Γ (.binOp .lss t x y u) (.bool (decide (a < b))) := q_bin h1 h2 (by simp) fun w => by simp [binOp, Op.intCmp]
theorem q_le {k : IntKind} {t u : TypeId} {x y : Operand} {a b : Int} (h1 : ev K x = some (.int k a)) (h2 : ev K y = some (.int k b)) :
    QOp P n K Γ (.binOp .leq t x y u) (.bool (decide (a ≤ b))) := q_bin h1 h2 (by simp) fun w => by simp [binOp, Op.intCmp]
theorem q_gt {k : IntKind} {t u : TypeId} {x y : Operand} {a b : Int} (h1 : ev K x = some (.int k a)) (h2 : ev K y = some (.int k b)) :
    QOp P n K Γ (.binOp .gtr t x y u) (.bool (decide (a > b))) := q_bin h1 h2 (by simp) fun w => by simp [binOp, Op.intCmp]
theorem q_ge {k : IntKind} {t u : TypeId} {x y : Operand} {a b : Int} (h1 : ev K x = some (.int k a)) (h2 : ev K y = some (.int k b)) :
    QOp P n K Γ (.binOp .geq t x y u) (.bool (decide (a ≥ b))) := q_bin h1 h2 (by simp) fun w => by simp [binOp, Op.intCmp]
theorem q_eq {k : IntKind} {t u : TypeId} {x y : Operand} {a b : Int} (h1 : ev K x = some (.int k a)) (h2 : ev K y = some (.int k b)) :
    QOp P n K Γ (.binOp .eql t x y u) (.bool (decide (a = b))) := q_bin h1 h2 (by simp) fun w => by simp [binOp, Op.intCmp]; rfl
theorem q_ne {k : IntKind} {t u : TypeId} {x y : Operand} {a b : Int} (h1 : ev K x = some (.int k a)) (h2 : ev K y = some (.int k b)) :
    QOp P n K Γ (.binOp .neq t x y u) (.bool (decide (a ≠ b))) := q_bin h1 h2 (by simp) fun w => by simp [binOp, Op.intCmp]; rfl
theorem q_not {t : TypeId} {x : Operand} {b : Bool} (h : ev K x = some (.bool b)) : QOp P n K Γ (.unOp .not t x) (.bool (!b)) := fun F a w ty ha _ => by
  simp [execOp, ha.ev h, Op.unary]
theorem q_notD {t : TypeId} {x : Operand} {p : Prop} [Decidable p] (h : ev K x = some (.bool (decide p))) : QOp P n K Γ (.unOp .not t x) (.bool (decide (¬ p))) := fun F a w ty ha _ => by
  simp [execOp, ha.ev h, Op.unary]
theorem q_notT {t : TypeId} {x : Operand} (h : ev K x = some (.bool true)) : QOp P n K Γ (.unOp .not t x) (.bool false) := q_not h
theorem q_notF {t : TypeId} {x : Operand} (h : ev K x = some (.bool false)) : QOp P n K Γ (.unOp .not t x) (.bool true) := q_not h
/-- A pointer against nil. -/
theorem q_pnil {t e u : TypeId} {x y : Operand} {p : Option Addr} [uu : Und P t (.pointer e)] (h1 : ev K x = some (.pointer p)) (h2 : ev K y = some (.pointer none)) :
    QOp P n K Γ (.binOp .eql t x y u) (.bool (decide (p = none))) := q_bin h1 h2 (by simp) fun w => by
  have h : P.underlying t = some (.pointer (P.pointee t)) := by
    have := uu.eq
    simp [Program.pointee, this]
  rw [run_eql_pointer_nil w t p h]
  cases p <;> simp
theorem q_pnnil {t e u : TypeId} {x y : Operand} {p : Option Addr} [uu : Und P t (.pointer e)] (h1 : ev K x = some (.pointer p)) (h2 : ev K y = some (.pointer none)) :
    QOp P n K Γ (.binOp .neq t x y u) (.bool (decide (p ≠ none))) := q_bin h1 h2 (by simp) fun w => by
  have h : P.underlying t = some (.pointer (P.pointee t)) := by
    have := uu.eq
    simp [Program.pointee, this]
  rw [run_neq_pointer_nil w t p h]
  cases p <;> simp
theorem q_cv {s d : TypeId} {ds : TypeDesc} {k k' : IntKind} {x : Operand} {a b : Int} [us : Und P s ds] [ud : Und P d (.int k)] (h : ev K x = some (.int k' a)) (hw : k.wrap a = b) : QOp P n K Γ (.convert s d x) (.int k b) := fun F a' w ty ha _ => by
  subst hw
  simp only [execOp, ha.ev h, convert, Sem.run_bind, run_underlying' us.eq, run_underlying' ud.eq, Result.andThen_ok]
  cases ds <;> simp [Conv.intToInt]

/-! #### lengths, texts -/
theorem q_len {t e : TypeId} {x : Operand} {p : Option Addr} {m c : Nat} [u : Und P t (.slice e)] (h : ev K x = some (.slice p m c)) : QOp P n K Γ (.call ⟨.builtin .len, #[x], #[t]⟩) (.int .i64 (m : Int)) := fun F a w ty ha _ => by
  simp [execOp, resolve, invoke, builtin, Builtin.len_, ha.ev h, run_underlying' u.eq, goInt]
theorem q_lenS {t : TypeId} {x : Operand} {l : List UInt8} [u : Und P t .string] (h : ev K x = some (str l)) : QOp P n K Γ (.call ⟨.builtin .len, #[x], #[t]⟩) (.int .i64 (l.length : Int)) := fun F a w ty ha _ => by
  simp [execOp, resolve, invoke, builtin, Builtin.len_, ha.ev h, run_underlying' u.eq, goInt, str_size]
theorem q_cap {t e : TypeId} {x : Operand} {p : Option Addr} {m c : Nat} [u : Und P t (.slice e)] (h : ev K x = some (.slice p m c)) : QOp P n K Γ (.call ⟨.builtin .cap, #[x], #[t]⟩) (.int .i64 (c : Int)) := fun F a w ty ha _ => by
  simp [execOp, resolve, invoke, builtin, Builtin.cap_, ha.ev h, run_underlying' u.eq, goInt]
theorem q_sadd {t u : TypeId} {x y : Operand} {a b : List UInt8} (h1 : ev K x = some (str a)) (h2 : ev K y = some (str b)) (h : a.length + b.length ≤ 9223372036854775807) :
    QOp P n K Γ (.binOp .add t x y u) (str (a ++ b)) := q_bin h1 h2 (by simp) fun w => by
  have e : (⟨⟨a⟩⟩ : ByteArray) ++ ⟨⟨b⟩⟩ = ⟨⟨a ++ b⟩⟩ := by
    apply ByteArray.ext; simp
  have hm : IntKind.i64.max = 9223372036854775807 := rfl
  simp only [binOp, Op.stringOp, str_size, hm]
  rw [if_neg (by omega)]
  simp [e]
theorem q_seq {t u : TypeId} {x y : Operand} {a b : List UInt8} (h1 : ev K x = some (str a)) (h2 : ev K y = some (str b)) :
    QOp P n K Γ (.binOp .eql t x y u) (.bool (decide (a = b))) := q_bin h1 h2 (by simp) fun w => by
  simp only [binOp, Op.stringOp, str_toList, Sem.run_pure]
  congr 2
  exact Bool.eq_iff_iff.2 (by simp)
theorem q_sne {t u : TypeId} {x y : Operand} {a b : List UInt8} (h1 : ev K x = some (str a)) (h2 : ev K y = some (str b)) :
    QOp P n K Γ (.binOp .neq t x y u) (.bool (decide (a ≠ b))) := q_bin h1 h2 (by simp) fun w => by
  simp only [binOp, Op.stringOp, str_toList, Sem.run_pure]
  congr 2
  exact Bool.eq_iff_iff.2 (by simp)
/-- Ahead of, in the order of the bytes. -/
theorem slt_eq : ∀ (x y : List UInt8), Op.bytesLess x y = decide (x < y)
  | [], [] => by simp [Op.bytesLess]
  | _ :: _, [] => by simp [Op.bytesLess]
  | [], _ :: _ => by simp [Op.bytesLess]
  | a :: x, b :: y => by
    rw [Op.bytesLess, slt_eq x y]
    simp only [List.cons_lt_cons_iff]
    by_cases h1 : a < b <;> by_cases h2 : a = b <;> by_cases h3 : x < y <;> simp [h1, h2, h3]
theorem lt_of_not {a b : List UInt8} (h : ¬ a < b) (hne : a ≠ b) : b < a := by
  rcases List.le_total a b with h' | h'
  · exfalso
    exact h (Std.lt_of_le_of_ne h' hne)
  · exact Std.lt_of_le_of_ne h' (Ne.symm hne)
theorem q_slt {t u : TypeId} {x y : Operand} {a b : List UInt8} (h1 : ev K x = some (str a)) (h2 : ev K y = some (str b)) :
    QOp P n K Γ (.binOp .lss t x y u) (.bool (decide (a < b))) := q_bin h1 h2 (by simp) fun w => by
  simp [binOp, Op.stringOp, str_toList, slt_eq]
theorem q_sgt {t u : TypeId} {x y : Operand} {a b : List UInt8} (h1 : ev K x = some (str a)) (h2 : ev K y = some (str b)) :
    QOp P n K Γ (.binOp .gtr t x y u) (.bool (decide (b < a))) := q_bin h1 h2 (by simp) fun w => by
  have key : (!(decide (a < b) || a == b)) = decide (b < a) := by
    rw [Bool.eq_iff_iff]
    simp only [Bool.not_eq_true', Bool.or_eq_false_iff, decide_eq_false_iff_not, beq_eq_false_iff_ne, decide_eq_true_eq]
    constructor
    · rintro ⟨g1, g2⟩; exact lt_of_not g1 g2
    · intro g; exact ⟨fun g2 => List.lt_irrefl _ (List.lt_trans g g2), fun g2 => by subst g2; exact List.lt_irrefl _ g⟩
  simp [binOp, Op.stringOp, str_toList, slt_eq, ← key]
theorem q_sge {t u : TypeId} {x y : Operand} {a b : List UInt8} (h1 : ev K x = some (str a)) (h2 : ev K y = some (str b)) :
    QOp P n K Γ (.binOp .geq t x y u) (.bool (decide (¬ a < b))) := q_bin h1 h2 (by simp) fun w => by
  simp only [binOp, Op.stringOp, str_toList, slt_eq, Sem.run_pure]
  congr 2
  by_cases h : a < b <;> simp [h]

/-! #### places in slices -/
theorem q_ia {t e : TypeId} {x i : Operand} {b o len cap s : Nat} {k : IntKind} {z : Int} [u : Und P t (.slice e)] [sz : Siz P e s] (h : ev K x = some (.slice (some ⟨b, o, none⟩) len cap)) (hi : ev K i = some (.int k z)) (h0 : 0 ≤ z ∧ z < len) :
    QOp P n K Γ (.indexAddr t x i) (.pointer (some ⟨b, o + z.toNat * s, none⟩)) := fun F a w ty ha _ => by
  simp [execOp, ha.ev h, ha.ev hi, Instr.indexAt, asIntOf, run_underlying' u.eq, h0, sz.eq, add_none]
/-- The same at an index that is a Nat. -/
theorem q_iaN {t e : TypeId} {x i : Operand} {b o len cap s j : Nat} {k : IntKind} {z : Int} [u : Und P t (.slice e)] [sz : Siz P e s] (h : ev K x = some (.slice (some ⟨b, o, none⟩) len cap)) (hi : ev K i = some (.int k z)) (hj : z = (j : Int)) (h0 : j < len) :
    QOp P n K Γ (.indexAddr t x i) (.pointer (some ⟨b, o + j * s, none⟩)) := by
  subst hj
  have := q_ia (P := P) (n := n) (Γ := Γ) (t := t) (e := e) (s := s) h hi (by omega)
  simpa using this
/-- An element of an array that a pointer leads to. -/
theorem q_iaA {t e : TypeId} {x i : Operand} {b o len s : Nat} {k : IntKind} {z : Int} [u : Und P t (.array len e)] [sz : Siz P e s] (h : ev K x = some (.pointer (some ⟨b, o, none⟩))) (hi : ev K i = some (.int k z)) (h0 : 0 ≤ z ∧ z < len) :
    QOp P n K Γ (.indexAddr t x i) (.pointer (some ⟨b, o + z.toNat * s, none⟩)) := fun F a w ty ha _ => by
  simp [execOp, ha.ev h, ha.ev hi, Instr.indexAt, Instr.sureAddr, asIntOf, run_underlying' u.eq, h0, sz.eq, add_none]
theorem q_six {t : TypeId} {x i : Operand} {l : List UInt8} {k : IntKind} {z : Int} {c : UInt8} [u : Und P t .string] (h : ev K x = some (str l)) (hi : ev K i = some (.int k z)) (h0 : 0 ≤ z) (hc : l[z.toNat]? = some c) :
    QOp P n K Γ (.index t x i) (.int .u8 (c.toNat : Int)) := fun F a w ty ha _ => by
  have e : (⟨⟨l⟩⟩ : ByteArray)[z.toNat]? = some c := by
    have hlt : z.toNat < l.length := by
      rcases Nat.lt_or_ge z.toNat l.length with y | y
      · exact y
      · simp [List.getElem?_eq_none y] at hc
    rw [getElem?_pos _ _ (by simpa [ByteArray.size] using hlt)]
    rw [List.getElem?_eq_getElem hlt] at hc
    simpa [ByteArray.getElem_eq_getElem_data] using hc
  simp [execOp, ha.ev h, ha.ev hi, Instr.index, asIntOf, run_underlying' u.eq, h0, e]
end quiet
end Go.Sl
