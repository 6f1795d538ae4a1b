/- Regions: a rule for an operation that leaves memory as it is ('QOp'), one for an operation that does not ('LOp'); regions in the order of the text, and regions that draw their order, by a plan that a Bool function looks over. -/
import Derived.Test.YtgilhenjoinhhaaSl
import Derived.OrdersHeld
namespace Go.Sl

/-- The operation yields 'v' and leaves the world alone. -/
def QOp (P : Program) (n : Nat) (K : Env) (Γ : List HP) (op : Op) (v : Value) : Prop :=
  ∀ (F : Heap) (a : Act) (w : World) (ty : TypeId), Agrees n K a → Holds Γ F w → (execOp a.eval ⟨none, op, ty, "", #[], none⟩).run P w = .ok (.value v) w
/-- The operation is carried out, whatever is asked behind it of what 'next' lets in. -/
def LOp (P : Program) (n : Nat) (K : Env) (Γ : List HP) (op : Op) (next : Value → List HP → Prop) : Prop :=
  ∀ (F : Heap) (a : Act) (w : World) (o : Oper) (Kn : Act → World → Prop) (Qe : Exit → Act → World → Prop), o.op = op → Agrees n K a → Holds Γ F w → (∀ v Γ' w', next v Γ' → Holds Γ' F w' → Keep w w' → Kn (a.put o.dst v) w') → o.wp P a w Kn Qe

theorem execOp_only (ρ : Operand → Value) (d : Option Tmp) (op : Op) (ty : TypeId) (pos : String) (aft : Array Edge) (g : Option (Nat × Bool)) :
    execOp ρ ⟨d, op, ty, pos, aft, g⟩ = execOp ρ ⟨none, op, ty, "", #[], none⟩ := rfl

theorem LOp.of_value {P : Program} {n : Nat} {K : Env} {Γ : List HP} {op : Op} {next : Value → List HP → Prop}
    (h : ∀ F a w ty, Agrees n K a → Holds Γ F w → ∃ v w' Γ', (execOp a.eval ⟨none, op, ty, "", #[], none⟩).run P w = .ok (.value v) w' ∧ next v Γ' ∧ Holds Γ' F w' ∧ Keep w w') : LOp P n K Γ op next := by
  intro F a w o Kn Qe ho ha hh hk
  obtain ⟨d, op', ty, pos, aft, g⟩ := o
  subst ho
  obtain ⟨v, w', Γ', hr, hn, hh', kp⟩ := h F a w ty ha hh
  unfold Oper.wp
  rw [execOp_only, hr]
  exact hk v Γ' w' hn hh' kp
theorem LOp.of_skip {P : Program} {n : Nat} {K : Env} {Γ : List HP} {op : Op} {next : Value → List HP → Prop}
    (h : ∀ F a w ty, Agrees n K a → Holds Γ F w → ∃ w' Γ', (execOp a.eval ⟨none, op, ty, "", #[], none⟩).run P w = .ok .skip w' ∧ next undef Γ' ∧ Holds Γ' F w' ∧ Keep w w') : LOp P n K Γ op next := by
  intro F a w o Kn Qe ho ha hh hk
  obtain ⟨d, op', ty, pos, aft, g⟩ := o
  subst ho
  obtain ⟨w', Γ', hr, hn, hh', kp⟩ := h F a w ty ha hh
  unfold Oper.wp
  rw [execOp_only, hr]
  exact hk undef Γ' w' hn hh' kp
/-- A call that is entered. -/
theorem LOp.of_enter {P : Program} {n : Nat} {K : Env} {Γ Δ Γ1 : List HP} {op : Op} {f : FuncId} {args : List Value} {Q : Value → List HP → Prop} (hs : Spec P f args Δ Q) [t : Takes Δ Γ Γ1]
    (h : ∀ F a w ty, Agrees n K a → Holds Γ F w → (execOp a.eval ⟨none, op, ty, "", #[], none⟩).run P w = .ok (.enter f args.toArray) w) :
    LOp P n K Γ op (fun v Γ' => ∃ Γ2, Q v Γ2 ∧ Γ' = Γ2 ++ Γ1) := by
  intro F a w o Kn Qe ho ha hh hk
  obtain ⟨d, op', ty, pos, aft, g⟩ := o
  subst ho
  unfold Oper.wp
  rw [execOp_only, h F a w ty ha hh]
  rw [Oper.upon_enter]
  obtain ⟨h0, s, r, f0, ap⟩ := hh.perm t.perm
  obtain ⟨h1, h2, sp, s1, s2⟩ := Sat.append s
  have ap2 : apart h2 F := ap.mono sp.right (sub.refl _)
  have hpre : Holds Δ (join h2 F) w := ⟨h1, s1, sp.left.trans r, sub_join (sp.right.trans r) f0, fun b => by
    rcases sp.apart b with e | e
    · exact .inl e
    · rcases ap.mono sp.left (sub.refl F) b with e' | e'
      · exact .inl e'
      · right; simp [join, e, e']⟩
  refine (hs (join h2 F) w hpre).mono fun e w' hfin => ?_
  obtain ⟨v, Γ2, hq, rfl, ⟨g1, t1, t2, t3, t4⟩, kp⟩ := hfin
  refine hk v (Γ2 ++ Γ1) w' ⟨Γ2, hq, rfl⟩ ⟨join g1 h2, t1.join s2 (t4.mono (sub.refl _) (sub_join_left _ _)), sub_join t2 ((sub_join_left _ _).trans t3), (sub_join_right ap2).trans t3, ?_⟩ kp
  exact apart_join (t4.mono (sub.refl _) (sub_join_right ap2)) ap2

section text
variable {P : Program} {f : FuncId} {n : Nat} {Q : Value → List HP → Prop} {ops : Array Oper} {rest : List Oper} {k : List Item} {K : Env} {Γ : List HP}

theorem GR.done (h : G P f n Q k K Γ) : GR P f n Q ops [] k K Γ :=
  fun w0 F a w h1 h2 h3 => ⟨rfl, h w0 F a w h1 h2 h3⟩
theorem GR.weaken {l : List Oper} {K' : Env} {Γ' Δ : List HP} (hK : tells K K') [t : Takes Γ' Γ Δ] (h : GR P f n Q ops l k K' Γ') : GR P f n Q ops l k K Γ := by
  intro w0 F a w h1 h2 ⟨g, s, r⟩
  obtain ⟨hs1, hs2, hs3, hs4, hs5⟩ : ∃ hs1 hs2, split g hs1 hs2 ∧ Sat Γ' hs1 ∧ Sat Δ hs2 := Sat.append (s.perm t.perm)
  exact h w0 F a w h1 (h2.weaken hK) ⟨hs1, hs4, hs3.left.trans r.1, r.2.1, r.2.2.mono hs3.left (sub.refl _)⟩
theorem GR.conseq {l : List Oper} {Γ' : List HP} (hg : ∀ h, Sat Γ h → Sat Γ' h) (h : GR P f n Q ops l k K Γ') : GR P f n Q ops l k K Γ :=
  fun w0 F a w h1 h2 ⟨g, s, r⟩ => h w0 F a w h1 h2 ⟨g, hg g s, r⟩
theorem GR.fold {l : List Oper} {X : HP} {Δ Γ1 : List HP} (hA : ∀ h, Sat Δ h → X h) [t : Takes Δ Γ Γ1] (h : GR P f n Q ops l k K (X :: Γ1)) : GR P f n Q ops l k K Γ := by
  intro w0 F a w h1 h2 ⟨g, s, r⟩
  obtain ⟨h3, h4, s1, ha, hr⟩ := Sat.append (s.perm t.perm)
  exact h w0 F a w h1 h2 ⟨g, ⟨h3, h4, s1, hA h3 ha, hr⟩, r⟩
theorem GR.open {l : List Oper} {α : Sort _} {A : HP} {Γ1 : List HP} {Δ : α → List HP} (hA : ∀ h, A h → ∃ x, Sat (Δ x) h) [t : Take A Γ Γ1]
    (h : ∀ x, GR P f n Q ops l k K (Δ x ++ Γ1)) : GR P f n Q ops l k K Γ := by
  intro w0 F a w h1 h2 ⟨g, s, r⟩
  obtain ⟨h3, h4, s1, ha, hr⟩ := s.perm t.perm
  obtain ⟨x, hx⟩ := hA h3 ha
  refine h x w0 F a w h1 h2 ⟨g, (hx.join hr s1.apart).mono fun b o e => ?_, r⟩
  unfold Sl.join at e
  cases y : h3 b with
  | none => rw [y] at e; exact s1.right _ _ (by simpa using e)
  | some z => rw [y] at e; simp at e; exact s1.left _ _ (by rw [y, e])
theorem wpList_mono {Qe : Exit → Act → World → Prop} {o : Oper} {a : Act} {w : World} (hg : o.guard = none) (h : o.wp P a w (wpList P ops Qe rest) Qe) : wpList P ops Qe (o :: rest) a w := by
  unfold wpList
  rw [if_pos (by simp [Region.wanted, hg])]
  exact .inl h
/-- An operation that leaves memory alone, with a slot for its value. -/
theorem GR.q {d : Nat} {op : Op} {ty : TypeId} {pos : String} {aft : Array Edge} {v : Value} (h : QOp P n K Γ op v) (hd : Nat.blt d n = true)
    (k' : GR P f n Q ops rest k ((d, v) :: K) Γ) : GR P f n Q ops (⟨some d, op, ty, pos, aft, none⟩ :: rest) k K Γ := by
  intro w0 F a w h1 h2 h3
  refine wpList_mono rfl ?_
  unfold Oper.wp
  rw [execOp_only, h F a w ty h2 h3]
  exact k' w0 F _ w h1 (h2.put hd) h3
theorem GR.q0 {op : Op} {ty : TypeId} {pos : String} {aft : Array Edge} {v : Value} (h : QOp P n K Γ op v)
    (k' : GR P f n Q ops rest k K Γ) : GR P f n Q ops (⟨none, op, ty, pos, aft, none⟩ :: rest) k K Γ := by
  intro w0 F a w h1 h2 h3
  refine wpList_mono rfl ?_
  unfold Oper.wp
  rw [execOp_only, h F a w ty h2 h3]
  exact k' w0 F _ w h1 h2.put_none h3
theorem GR.l {d : Nat} {op : Op} {ty : TypeId} {pos : String} {aft : Array Edge} {next : Value → List HP → Prop} (h : LOp P n K Γ op next) (hd : Nat.blt d n = true)
    (k' : ∀ v Γ', next v Γ' → GR P f n Q ops rest k ((d, v) :: K) Γ') : GR P f n Q ops (⟨some d, op, ty, pos, aft, none⟩ :: rest) k K Γ := by
  intro w0 F a w h1 h2 h3
  refine wpList_mono rfl (h F a w _ _ _ rfl h2 h3 fun v Γ' w' hn hh kp => ?_)
  exact k' v Γ' hn w0 F _ w' (h1.trans kp) (h2.put hd) hh
theorem GR.l0 {op : Op} {ty : TypeId} {pos : String} {aft : Array Edge} {next : Value → List HP → Prop} (h : LOp P n K Γ op next)
    (k' : ∀ v Γ', next v Γ' → GR P f n Q ops rest k K Γ') : GR P f n Q ops (⟨none, op, ty, pos, aft, none⟩ :: rest) k K Γ := by
  intro w0 F a w h1 h2 h3
  refine wpList_mono rfl (h F a w _ _ _ rfl h2 h3 fun v Γ' w' hn hh kp => ?_)
  exact k' v Γ' hn w0 F _ w' (h1.trans kp) h2.put_none hh
theorem yielded_of {a : Act} {j d : Nat} {b : Bool} (h2 : Agrees n K a) (hj : (ops[j]?).bind (·.dst) = some d) (hv : lk K d = some (.bool b)) (hd : Nat.blt d n = true) : yielded ops a.tmps j = some b := by
  have hd' : d < n := by simpa [Nat.blt_eq] using hd
  have e := h2.2.2 d _ hv
  have hlt : d < a.tmps.size := by rw [h2.2.1]; exact hd'
  simp only [Array.getD_eq_getD_getElem?, Array.getElem?_eq_getElem hlt, Option.getD_some] at e
  unfold yielded
  rw [hj]
  simp [Array.getElem?_eq_getElem hlt, e]
/-- A guard that says yes. -/
theorem GR.yes {dst : Option Nat} {op : Op} {ty : TypeId} {pos : String} {aft : Array Edge} {j d : Nat} {b : Bool} (hj : (ops[j]?).bind (·.dst) = some d) (hv : lk K d = some (.bool b)) (hd : Nat.blt d n = true)
    (k' : GR P f n Q ops (⟨dst, op, ty, pos, aft, none⟩ :: rest) k K Γ) : GR P f n Q ops (⟨dst, op, ty, pos, aft, some (j, b)⟩ :: rest) k K Γ := by
  intro w0 F a w h1 h2 h3
  have := k' w0 F a w h1 h2 h3
  unfold wpList at this ⊢
  rw [if_pos (by simp [Region.wanted])] at this
  rw [if_pos (by simp [Region.wanted, yielded_of h2 hj hv hd])]
  exact this
/-- A guard that says no. -/
theorem GR.no {dst : Nat} {op : Op} {ty : TypeId} {pos : String} {aft : Array Edge} {j d : Nat} {b b' : Bool} (hj : (ops[j]?).bind (·.dst) = some d) (hv : lk K d = some (.bool b')) (hb : (b' == b) = false) (hd : Nat.blt d n = true)
    (hd' : Nat.blt dst n = true) (k' : GR P f n Q ops rest k ((dst, undef) :: K) Γ) : GR P f n Q ops (⟨some dst, op, ty, pos, aft, some (j, b)⟩ :: rest) k K Γ := by
  intro w0 F a w h1 h2 h3
  unfold wpList
  rw [if_neg (by simp only [Region.wanted, yielded_of h2 hj hv hd]; simpa using hb)]
  exact k' w0 F _ w h1 (h2.put hd') h3
theorem GR.no0 {op : Op} {ty : TypeId} {pos : String} {aft : Array Edge} {j d : Nat} {b b' : Bool} (hj : (ops[j]?).bind (·.dst) = some d) (hv : lk K d = some (.bool b')) (hb : (b' == b) = false) (hd : Nat.blt d n = true)
    (k' : GR P f n Q ops rest k K Γ) : GR P f n Q ops (⟨none, op, ty, pos, aft, some (j, b)⟩ :: rest) k K Γ := by
  intro w0 F a w h1 h2 h3
  unfold wpList
  rw [if_neg (by simp only [Region.wanted, yielded_of h2 hj hv hd]; simpa using hb)]
  exact k' w0 F _ w h1 h2.put_none h3
/-- A Bool in a slot: a way for each. -/
theorem GR.cases {l : List Oper} {t : Nat} {b : Bool} (h : lk K t = some (.bool b)) (hT : b = true → GR P f n Q ops l k ((t, .bool true) :: K) Γ) (hF : b = false → GR P f n Q ops l k ((t, .bool false) :: K) Γ) :
    GR P f n Q ops l k K Γ := by
  intro w0 F a w h1 h2 h3
  have up : ∀ c, b = c → Agrees n ((t, .bool c) :: K) a := fun c hc => ⟨h2.1, h2.2.1, fun i v e => by
    simp only [lk, cond_eq_ite, Nat.beq_eq] at e
    by_cases hi : i = t
    · subst hi; simp at e; subst e; exact h2.2.2 i _ (hc ▸ h)
    · rw [if_neg (by simpa using hi)] at e; exact h2.2.2 i v e⟩
  cases hb : b
  · exact hF hb w0 F a w h1 (up false hb) h3
  · exact hT hb w0 F a w h1 (up true hb) h3
theorem G.cases {t : Nat} {b : Bool} (h : lk K t = some (.bool b)) (hT : b = true → G P f n Q k ((t, .bool true) :: K) Γ) (hF : b = false → G P f n Q k ((t, .bool false) :: K) Γ) :
    G P f n Q k K Γ := by
  intro w0 F a w h1 h2 h3
  have up : ∀ c, b = c → Agrees n ((t, .bool c) :: K) a := fun c hc => ⟨h2.1, h2.2.1, fun i v e => by
    simp only [lk, cond_eq_ite, Nat.beq_eq] at e
    by_cases hi : i = t
    · subst hi; simp at e; subst e; exact h2.2.2 i _ (hc ▸ h)
    · rw [if_neg (by simpa using hi)] at e; exact h2.2.2 i v e⟩
  cases hb : b
  · exact hF hb w0 F a w h1 (up false hb) h3
  · exact hT hb w0 F a w h1 (up true hb) h3
end text
end Go.Sl
