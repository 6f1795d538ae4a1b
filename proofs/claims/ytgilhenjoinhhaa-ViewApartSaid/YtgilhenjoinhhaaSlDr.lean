/- Regions that draw their order: one plan serves every order. Operations that leave memory alone are taken first; what does more comes up alone; what undoes what is known of memory ('effs') waits for all that was looked at. -/
import Derived.Test.YtgilhenjoinhhaaSlOps
namespace Go.Sl

section draw
variable {P : Program} {ops : Array Oper} {Q : Exit → Act → World → Prop}

def closed (ops : Array Oper) (listed : Array Bool) : Prop :=
  ∀ j o, ops[j]? = some o → listed.getD j false = true → ∀ e ∈ o.after, Region.binds .any e = true → listed.getD e.on false = true

def wpD (P : Program) (ops : Array Oper) (Q : Exit → Act → World → Prop) (effs : List Nat) : Nat → Array Bool → (World → Prop) → Act → World → Prop
  | 0, listed, _, a, w => Region.ready .any ops listed = [] ∧ Q .normal a w
  | f + 1, listed, S, a, w => (Region.ready .any ops listed = [] → Q .normal a w) ∧
    ∀ i ∈ Region.ready .any ops listed, wpOp P ops Q i (fun a' w' => ∃ S' : World → Prop, (effs.contains i = true ∨ ∀ x, S' x → S x) ∧ S' w' ∧ wpD P ops Q effs f (listed.setIfInBounds i true) S' a' w') a w

theorem wpAny_of_D {effs : List Nat} : ∀ (f : Nat) (listed : Array Bool) (S : World → Prop) (a : Act) (w : World), wpD P ops Q effs f listed S a w → wpAny P .any ops Q f listed a w
  | 0, _, _, _, _, h => h
  | f + 1, _, _, _, _, h => ⟨h.1, fun i hi => wpOp_mono (fun _ _ ⟨S', _, _, h'⟩ => wpAny_of_D f _ S' _ _ h') (h.2 i hi)⟩

/-- What waits for 'i', through others. -/
def descStep (ops : Array Oper) (desc : List Nat) (j : Nat) : List Nat :=
  if desc.contains j then desc else if ((ops[j]?).map fun o => o.after.any fun e => Region.binds .any e && desc.contains e.on).getD false then j :: desc else desc
def descOf (ops : Array Oper) (i : Nat) : List Nat := (List.range ops.size ++ List.range ops.size).foldl (descStep ops) [i]

theorem descStep_ok {desc : List Nat} {j : Nat} {listed : Array Bool} (hc : closed ops listed)
    (h : ∀ d ∈ desc, listed.getD d false = false) : ∀ d ∈ descStep ops desc j, listed.getD d false = false := by
  unfold descStep
  split
  · exact h
  · split
    · rename_i hx hy
      intro d hd
      rcases List.mem_cons.1 hd with rfl | hd
      · cases ho : ops[d]? with
        | none => simp [ho] at hy
        | some o =>
          simp only [ho, Option.map_some, Option.getD_some] at hy
          obtain ⟨e, he, hb⟩ := Array.any_eq_true'.1 hy
          simp only [Bool.and_eq_true] at hb
          cases hl : listed.getD d false with
          | false => rfl
          | true =>
            have h1 := hc d o ho hl e he hb.1
            have h2 := h e.on (by simpa using hb.2)
            rw [h2] at h1; cases h1
      · exact h d hd
    · exact h
theorem descOf_ok {i : Nat} {listed : Array Bool} (hc : closed ops listed) (hi : listed.getD i false = false) : ∀ d ∈ descOf ops i, listed.getD d false = false := by
  unfold descOf
  generalize List.range ops.size ++ List.range ops.size = l
  have : ∀ (l : List Nat) (desc : List Nat), (∀ d ∈ desc, listed.getD d false = false) → ∀ d ∈ l.foldl (descStep ops) desc, listed.getD d false = false := by
    intro l
    induction l with
    | nil => exact fun _ h => h
    | cons j l ih => exact fun desc h => ih _ (descStep_ok hc h)
  exact this l [i] (by simpa using hi)
theorem closed.set {listed : Array Bool} {i : Nat} (hc : closed ops listed) (hi : i ∈ Region.ready .any ops listed) : closed ops (listed.setIfInBounds i true) := by
  obtain ⟨_, oi, hoi, hall⟩ := mem_ready.1 hi
  intro j o hj hl e he hb
  by_cases hij : i = j
  · subst hij
    obtain rfl : o = oi := Option.some.inj (hj.symm.trans hoi)
    exact getD_set_true (hall e he hb)
  · rw [getD_set_ne false hij] at hl
    exact getD_set_true (hc j o hj hl e he hb)
theorem yields_less {S S' : World → Prop} {o : Oper} {v : Value} {a : Act} (h : YieldsIf P ops S o v a) (hs : ∀ x, S' x → S x) : YieldsIf P ops S' o v a :=
  h.imp (fun ⟨h1, h2⟩ => ⟨h1, fun w hw => h2 w (hs w hw)⟩) id

theorem wpD_first {effs : List Nat} {i : Nat} {oi : Oper} {v : Value} (hi : ops[i]? = some oi) (hsel : ∀ (j : Nat) (o : Oper) cs b, ops[j]? = some o → o.op ≠ .select cs b)
    (hQ : ∀ c a w, Q (.panic c) (a.put oi.dst v) w → Q (.panic c) a w) :
    ∀ (fuel : Nat) (listed : Array Bool) (S : World → Prop) (a : Act) (w : World), closed ops listed →
      (∀ j oj, ops[j]? = some oj → j ≠ i → listed.getD j true = false → (∀ e ∈ oj.after, Region.binds .any e = true → e.on ≠ i) → oi.apart ops oj = true) →
      (∀ e, effs.contains e = true → listed.getD e true = false → e ≠ i ∧ e ∈ descOf ops i) →
      i ∈ Region.ready .any ops listed → S w → YieldsIf P ops S oi v a →
      wpD P ops Q effs fuel (listed.setIfInBounds i true) S (a.put oi.dst v) w → wpD P ops Q effs (fuel + 1) listed S a w := by
  intro fuel
  induction fuel with
  | zero =>
    intro listed S a w hc _ _ hr hS hy H
    refine ⟨fun h => (by rw [h] at hr; cases hr), fun j hj => ?_⟩
    by_cases hji : j = i
    · subst hji; exact hy.wpOp hi hS ⟨S, .inr fun _ h => h, hS, H⟩
    · have := ready_mono hj hji
      rw [H.1] at this
      cases this
  | succ fuel ih =>
    intro listed S a w hc hfree hanc hr hS hy H
    refine ⟨fun h => (by rw [h] at hr; cases hr), fun j hj => ?_⟩
    by_cases hji : j = i
    · subst hji; exact hy.wpOp hi hS ⟨S, .inr fun _ h => h, hS, H⟩
    · have h1 := H.2 j (ready_mono hj hji)
      obtain ⟨hjun, oj, hoj, hall⟩ := mem_ready.1 hj
      have hin : listed.getD i false = false := by
        have h0 := (mem_ready.1 hr).1
        rcases Nat.lt_or_ge i listed.size with h' | h'
        · simp [h'] at h0 ⊢; exact h0
        · simp [Array.getElem?_eq_none h']
      have hnot : ∀ e ∈ oj.after, Region.binds .any e = true → e.on ≠ i := fun e he hb heq => by
        have h1 := hall e he hb
        rw [heq, hin] at h1
        cases h1
      have hje : effs.contains j = false := by
        cases hx : effs.contains j with
        | false => rfl
        | true =>
          exfalso
          obtain ⟨_, hd⟩ := hanc j hx hjun
          have hjr : closed ops (listed.setIfInBounds j true) := hc.set hj
          have h2 := descOf_ok hjr (by rw [getD_set_ne false hji]; exact hin) j hd
          have hlt : j < listed.size := by
            rcases Nat.lt_or_ge j listed.size with h' | h'
            · exact h'
            · simp [Array.getElem?_eq_none h'] at hjun
          simp [hlt] at h2
      have h2 := wpOp_putIf hoj (hfree j oj hoj hji hjun hnot) (fun cs b => hsel i oi cs b hi) (fun cs b => hsel j oj cs b hoj) hQ hy h1
      have hfree' : ∀ k ok, ops[k]? = some ok → k ≠ i → (listed.setIfInBounds j true).getD k true = false →
          (∀ e ∈ ok.after, Region.binds .any e = true → e.on ≠ i) → oi.apart ops ok = true := fun k ok hk hki hun hno => by
        refine hfree k ok hk hki ?_ hno
        by_cases hjk : j = k
        · subst hjk; exact hjun
        · rw [getD_set_ne true hjk] at hun; exact hun
      have hanc' : ∀ e, effs.contains e = true → (listed.setIfInBounds j true).getD e true = false → e ≠ i ∧ e ∈ descOf ops i := fun e he hun => by
        refine hanc e he ?_
        by_cases hjk : j = e
        · subst hjk; exact hjun
        · rw [getD_set_ne true hjk] at hun; exact hun
      refine wpOp_mono (fun a' w' ⟨hy', S', hs, hS', h3⟩ => ?_) h2
      have hs' : ∀ x, S' x → S x := hs.resolve_left (by rw [hje]; simp)
      refine ⟨S', .inr hs', hS', ih (listed.setIfInBounds j true) S' a' w' (hc.set hj) hfree' hanc' (ready_mono hr (Ne.symm hji)) hS' (yields_less hy' hs') ?_⟩
      rw [Array.setIfInBounds_comm _ _ hji]
      exact h3
end draw

theorem getD_replicate_false' (m j : Nat) : (Array.replicate m false).getD j false = false := by
  rcases Nat.lt_or_ge j m with h | h
  · simp [h]
  · simp [h]
/-- What has come up, as the order's array. -/
def lst (m : Nat) : List Nat → Array Bool
  | [] => Array.replicate m false
  | i :: done => (lst m done).setIfInBounds i true
def takeB (ops : Array Oper) (effs done : List Nat) (i : Nat) : Bool :=
  Region.noSelect ops && Region.free .any ops (lst ops.size done) i && (Region.ready .any ops (lst ops.size done)).contains i &&
    effs.all fun e => (lst ops.size done).getD e true || (e != i && (descOf ops i).contains e)
/-- This one alone may come up. -/
def aloneB (ops : Array Oper) (done : List Nat) (i : Nat) : Bool := Region.ready .any ops (lst ops.size done) == [i]
def doneB (ops : Array Oper) (done : List Nat) : Bool := Region.ready .any ops (lst ops.size done) == []

class Mixed (P : Program) : Prop where
  eq : P.follows .mixedOrders = true

def GD (P : Program) (f : FuncId) (n : Nat) (Q : Value → List HP → Prop) (ops : Array Oper) (effs : List Nat) (fuel : Nat) (done : List Nat) (k : List Item) (K : Env) (Γ : List HP) : Prop :=
  closed ops (lst ops.size done) → ∀ w0 F a w, Keep w0 w → Agrees n K a → Holds Γ F w →
    wpD P ops (fun e a' w' => e = .normal ∧ Runs P f k a' w' (Fin Q F w0)) effs fuel (lst ops.size done) (fun x => Holds Γ F x) a w

section rules
variable {P : Program} {f : FuncId} {n : Nat} {Q : Value → List HP → Prop} {ops : Array Oper} {effs dn : List Nat} {fuel : Nat} {k : List Item} {K : Env} {Γ : List HP}

theorem G.regionD {id : Nat} {l : List Oper} [hm : Mixed P] (effs : List Nat) (h : GD P f n Q l.toArray effs l.length [] k K Γ) : G P f n Q (.code (.region id l.toArray true) :: k) K Γ := by
  intro w0 F a w h1 h2 h3 b cs hb hk
  have hc : closed l.toArray (lst l.toArray.size []) := by
    intro j o _ hl
    simp only [lst] at hl
    rw [show (Array.replicate l.toArray.size false).getD j false = false from by
      exact getD_replicate_false' _ _] at hl
    cases hl
  have hw : wpAny P .any l.toArray (fun e a' w' => e = .normal ∧ Runs P f k a' w' (Fin Q F w0)) l.toArray.size (Array.replicate l.toArray.size false) a { w with drawn := w.drawn + 1 } := by
    have := wpAny_of_D _ _ _ _ _ (h hc w0 F a { w with drawn := w.drawn + 1 } h1 h2 (h3.same rfl))
    simpa [lst] using this
  have := wp_region_any (id := id) hm.eq hw b k cs
  obtain ⟨e, a', w', ⟨rfl, hr⟩, harr⟩ := this
  obtain ⟨e2, w2, fr, r, c, x⟩ := hr b cs hb hk
  exact ⟨e2, w2, fr, r, Comes.of_steps harr c, x⟩

theorem GD.take {i : Nat} {o : Oper} {v : Value} {K' : Env} (ho : ops[i]? = some o) (hb : takeB ops effs dn i = true)
    (hy : ∀ F a, Agrees n K a → YieldsIf P ops (fun x => Holds Γ F x) o v a) (hK : ∀ a, Agrees n K a → Agrees n K' (a.put o.dst v))
    (k' : GD P f n Q ops effs fuel (i :: dn) k K' Γ) : GD P f n Q ops effs (fuel + 1) dn k K Γ := by
  simp only [takeB, Bool.and_eq_true, List.all_eq_true, Bool.or_eq_true] at hb
  obtain ⟨⟨⟨b1, b2⟩, b3⟩, b4⟩ := hb
  intro hc w0 F a w h1 h2 h3
  have hr : i ∈ Region.ready .any ops (lst ops.size dn) := by simpa using b3
  refine wpD_first ho (Region.noSelect_spec b1) (fun _ _ _ x => by cases x.1) fuel _ _ a w hc (Region.free_spec ho b2) ?_ hr h3 (hy F a h2) (k' (hc.set hr) w0 F _ w h1 (hK a h2) h3)
  intro e he hun
  rcases b4 e (by simpa using he) with x | x
  · rw [hun] at x; cases x
  · exact ⟨by simpa using x.1, by simpa using x.2⟩
/-- An operation that leaves memory alone. -/
theorem GD.q (i : Nat) {d : Nat} {op : Op} {ty : TypeId} {pos : String} {aft : Array Edge} {v : Value} (ho : ops[i]? = some ⟨some d, op, ty, pos, aft, none⟩) (hb : takeB ops effs dn i = true)
    (h : QOp P n K Γ op v) (hd : Nat.blt d n = true) (k' : GD P f n Q ops effs fuel (i :: dn) k ((d, v) :: K) Γ) : GD P f n Q ops effs (fuel + 1) dn k K Γ :=
  GD.take ho hb (fun F a ha => .inl ⟨by simp [Region.wanted], fun w hw => h F a w ty ha hw⟩) (fun a ha => ha.put hd) k'
/-- The same behind a guard that says yes. -/
theorem GD.qy (i : Nat) {d : Nat} {op : Op} {ty : TypeId} {pos : String} {aft : Array Edge} {v : Value} {j dg : Nat} {b : Bool} (ho : ops[i]? = some ⟨some d, op, ty, pos, aft, some (j, b)⟩) (hb : takeB ops effs dn i = true)
    (hj : (ops[j]?).bind (·.dst) = some dg) (hv : lk K dg = some (.bool b)) (hg : Nat.blt dg n = true)
    (h : QOp P n K Γ op v) (hd : Nat.blt d n = true) (k' : GD P f n Q ops effs fuel (i :: dn) k ((d, v) :: K) Γ) : GD P f n Q ops effs (fuel + 1) dn k K Γ :=
  GD.take ho hb (fun F a ha => .inl ⟨by simp [Region.wanted, yielded_of ha hj hv hg], fun w hw => h F a w ty ha hw⟩) (fun a ha => ha.put hd) k'
/-- A guard that says no. -/
theorem GD.no (i : Nat) {d : Nat} {op : Op} {ty : TypeId} {pos : String} {aft : Array Edge} {j dg : Nat} {b b' : Bool} (ho : ops[i]? = some ⟨some d, op, ty, pos, aft, some (j, b)⟩) (hb : takeB ops effs dn i = true)
    (hj : (ops[j]?).bind (·.dst) = some dg) (hv : lk K dg = some (.bool b')) (hbb : (b' == b) = false) (hg : Nat.blt dg n = true)
    (hd : Nat.blt d n = true) (k' : GD P f n Q ops effs fuel (i :: dn) k ((d, undef) :: K) Γ) : GD P f n Q ops effs (fuel + 1) dn k K Γ :=
  GD.take ho hb (fun F a ha => .inr ⟨by simp only [Region.wanted, yielded_of ha hj hv hg]; simpa using hbb, rfl⟩) (fun a ha => ha.put hd) k'
/-- What comes up alone. 'he': it undoes what is known ('effs'), or it leaves it. -/
theorem GD.loud {i : Nat} {o : Oper} {next : Value → List HP → Prop} {K' : Value → Env} (ho : ops[i]? = some o) (hr : aloneB ops dn i = true)
    (hw : ∀ a, Agrees n K a → Region.wanted o (yielded ops a.tmps) = true) (hl : LOp P n K Γ o.op next)
    (he : effs.contains i = true ∨ ∀ v Γ', next v Γ' → ∀ h, Sat Γ' h → Sat Γ h) (hK : ∀ a v, Agrees n K a → Agrees n (K' v) (a.put o.dst v))
    (k' : ∀ v Γ', next v Γ' → GD P f n Q ops effs fuel (i :: dn) k (K' v) Γ') : GD P f n Q ops effs (fuel + 1) dn k K Γ := by
  have hr' : Region.ready .any ops (lst ops.size dn) = [i] := by simpa [aloneB] using hr
  intro hc w0 F a w h1 h2 h3
  refine ⟨fun h0 => (by rw [hr'] at h0; cases h0), fun j hj => ?_⟩
  have hi : i ∈ Region.ready .any ops (lst ops.size dn) := by rw [hr']; simp
  obtain rfl : j = i := by rw [hr'] at hj; simpa using hj
  unfold wpOp
  simp only [ho, hw a h2, if_true]
  refine .inl (hl F a w o _ _ rfl h2 h3 fun v Γ' w' hn hh kp => ⟨fun x => Holds Γ' F x, ?_, hh, k' v Γ' hn (hc.set hi) w0 F _ w' (h1.trans kp) (hK a v h2) hh⟩)
  rcases he with he | he
  · exact .inl he
  · exact .inr fun x ⟨h, s, r⟩ => ⟨h, he v Γ' hn h s, r⟩
theorem GD.l (i : Nat) {d : Nat} {op : Op} {ty : TypeId} {pos : String} {aft : Array Edge} {next : Value → List HP → Prop} (ho : ops[i]? = some ⟨some d, op, ty, pos, aft, none⟩) (hr : aloneB ops dn i = true)
    (h : LOp P n K Γ op next) (he : effs.contains i = true ∨ ∀ v Γ', next v Γ' → ∀ h, Sat Γ' h → Sat Γ h) (hd : Nat.blt d n = true)
    (k' : ∀ v Γ', next v Γ' → GD P f n Q ops effs fuel (i :: dn) k ((d, v) :: K) Γ') : GD P f n Q ops effs (fuel + 1) dn k K Γ :=
  GD.loud ho hr (fun _ _ => by simp [Region.wanted]) h he (fun a v ha => ha.put hd) k'
theorem GD.l0 (i : Nat) {op : Op} {ty : TypeId} {pos : String} {aft : Array Edge} {next : Value → List HP → Prop} (ho : ops[i]? = some ⟨none, op, ty, pos, aft, none⟩) (hr : aloneB ops dn i = true)
    (h : LOp P n K Γ op next) (he : effs.contains i = true ∨ ∀ v Γ', next v Γ' → ∀ h, Sat Γ' h → Sat Γ h)
    (k' : ∀ v Γ', next v Γ' → GD P f n Q ops effs fuel (i :: dn) k K Γ') : GD P f n Q ops effs (fuel + 1) dn k K Γ :=
  GD.loud ho hr (fun _ _ => by simp [Region.wanted]) h he (fun a v ha => ha.put_none) k'
theorem GD.ly (i : Nat) {d : Nat} {op : Op} {ty : TypeId} {pos : String} {aft : Array Edge} {next : Value → List HP → Prop} {j dg : Nat} {b : Bool} (ho : ops[i]? = some ⟨some d, op, ty, pos, aft, some (j, b)⟩) (hr : aloneB ops dn i = true)
    (hj : (ops[j]?).bind (·.dst) = some dg) (hv : lk K dg = some (.bool b)) (hg : Nat.blt dg n = true)
    (h : LOp P n K Γ op next) (he : effs.contains i = true ∨ ∀ v Γ', next v Γ' → ∀ h, Sat Γ' h → Sat Γ h) (hd : Nat.blt d n = true)
    (k' : ∀ v Γ', next v Γ' → GD P f n Q ops effs fuel (i :: dn) k ((d, v) :: K) Γ') : GD P f n Q ops effs (fuel + 1) dn k K Γ :=
  GD.loud ho hr (fun _ ha => by simp [Region.wanted, yielded_of ha hj hv hg]) h he (fun a v ha => ha.put hd) k'
/-- A store, at the end. -/
theorem GD.s0 (i : Nat) {op : Op} {ty : TypeId} {pos : String} {aft : Array Edge} {v : Value} {Γ' : List HP} (ho : ops[i]? = some ⟨none, op, ty, pos, aft, none⟩) (hr : aloneB ops dn i = true)
    (h : LOp P n K Γ op (Is v Γ')) (he : effs.contains i = true)
    (k' : GD P f n Q ops effs fuel (i :: dn) k K Γ') : GD P f n Q ops effs (fuel + 1) dn k K Γ :=
  GD.l0 i ho hr h (.inl he) fun _ _ ⟨_, e2⟩ => by rw [e2]; exact k'
theorem GD.s (i : Nat) {d : Nat} {op : Op} {ty : TypeId} {pos : String} {aft : Array Edge} {v : Value} {Γ' : List HP} (ho : ops[i]? = some ⟨some d, op, ty, pos, aft, none⟩) (hr : aloneB ops dn i = true)
    (h : LOp P n K Γ op (Is v Γ')) (he : effs.contains i = true) (hd : Nat.blt d n = true)
    (k' : GD P f n Q ops effs fuel (i :: dn) k ((d, v) :: K) Γ') : GD P f n Q ops effs (fuel + 1) dn k K Γ :=
  GD.l i ho hr h (.inl he) hd fun _ _ ⟨e1, e2⟩ => by rw [e1, e2]; exact k'
/-- A new block. -/
theorem GD.a (i : Nat) {d : Nat} {op : Op} {ty : TypeId} {pos : String} {aft : Array Edge} {v : Nat → Value} {A : Nat → HP} (ho : ops[i]? = some ⟨some d, op, ty, pos, aft, none⟩) (hr : aloneB ops dn i = true)
    (h : LOp P n K Γ op (New v fun r => A r :: Γ)) (hd : Nat.blt d n = true)
    (k' : ∀ r, GD P f n Q ops effs fuel (i :: dn) k ((d, v r) :: K) (A r :: Γ)) : GD P f n Q ops effs (fuel + 1) dn k K Γ :=
  GD.l i ho hr h (.inr fun _ _ ⟨r, _, e2⟩ h s => by subst e2; obtain ⟨_, h2, s1, _, s2⟩ := s; exact s2.mono s1.right) hd fun _ _ ⟨r, e1, e2⟩ => by rw [e1, e2]; exact k' r
theorem GD.done (hr : doneB ops dn = true) (k' : G P f n Q k K Γ) : GD P f n Q ops effs fuel dn k K Γ := by
  have hr' : Region.ready .any ops (lst ops.size dn) = [] := by simpa [doneB] using hr
  intro _ w0 F a w h1 h2 h3
  cases fuel with
  | zero => exact ⟨hr', rfl, k' w0 F a w h1 h2 h3⟩
  | succ m => exact ⟨fun _ => ⟨rfl, k' w0 F a w h1 h2 h3⟩, fun i hi => by rw [hr'] at hi; cases hi⟩
theorem GD.cases {t : Nat} {b : Bool} (h : lk K t = some (.bool b)) (hT : b = true → GD P f n Q ops effs fuel dn k ((t, .bool true) :: K) Γ) (hF : b = false → GD P f n Q ops effs fuel dn k ((t, .bool false) :: K) Γ) :
    GD P f n Q ops effs fuel dn k K Γ := by
  intro hc w0 F a w h1 h2 h3
  have up : ∀ c, b = c → Agrees n ((t, .bool c) :: K) a := fun c hc => ⟨h2.1, h2.2.1, fun i v e => by
    simp only [lk, cond_eq_ite, Nat.beq_eq] at e
    by_cases hi : i = t
    · subst hi; simp at e; subst e; exact h2.2.2 i _ (hc ▸ h)
    · rw [if_neg (by simpa using hi)] at e; exact h2.2.2 i v e⟩
  cases hb : b
  · exact hF hb hc w0 F a w h1 (up false hb) h3
  · exact hT hb hc w0 F a w h1 (up true hb) h3
theorem GD.casesD {t : Nat} {p : Prop} [Decidable p] (h : lk K t = some (.bool (decide p))) (hT : p → GD P f n Q ops effs fuel dn k ((t, .bool true) :: K) Γ) (hF : ¬ p → GD P f n Q ops effs fuel dn k ((t, .bool false) :: K) Γ) :
    GD P f n Q ops effs fuel dn k K Γ := GD.cases h (fun e => hT (of_decide_eq_true e)) (fun e => hF (of_decide_eq_false e))
theorem GD.setT {t : Nat} {p : Prop} [Decidable p] (h : lk K t = some (.bool (decide p))) (hp : p) (hT : GD P f n Q ops effs fuel dn k ((t, .bool true) :: K) Γ) :
    GD P f n Q ops effs fuel dn k K Γ := GD.casesD h (fun _ => hT) (fun e => (e hp).elim)
theorem GD.setF {t : Nat} {p : Prop} [Decidable p] (h : lk K t = some (.bool (decide p))) (hp : ¬ p) (hF : GD P f n Q ops effs fuel dn k ((t, .bool false) :: K) Γ) :
    GD P f n Q ops effs fuel dn k K Γ := GD.casesD h (fun e => (hp e).elim) (fun _ => hF)
theorem GD.setBT {t : Nat} {b : Bool} (h : lk K t = some (.bool b)) (hp : b = true) (hT : GD P f n Q ops effs fuel dn k ((t, .bool true) :: K) Γ) :
    GD P f n Q ops effs fuel dn k K Γ := GD.cases h (fun _ => hT) (fun e => by rw [hp] at e; cases e)
theorem GD.setBF {t : Nat} {b : Bool} (h : lk K t = some (.bool b)) (hp : b = false) (hF : GD P f n Q ops effs fuel dn k ((t, .bool false) :: K) Γ) :
    GD P f n Q ops effs fuel dn k K Γ := GD.cases h (fun e => by rw [hp] at e; cases e) (fun _ => hF)
end rules
theorem Sat.ent {Γ Γ' Δ : List HP} [t : Takes Γ Γ' Δ] {h : Heap} (s : Sat Γ' h) : Sat Γ h := by
  obtain ⟨h1, h2, sp, s1, _⟩ := Sat.append (s.perm t.perm)
  exact s1.mono sp.left
end Go.Sl
