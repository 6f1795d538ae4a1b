/- A small program logic over the walk's 'Code' and 'wpList': a frame's slots as a list of what is known, memory as a list of disjoint parts, a rule an operation. Generic: no program is named. -/
import Derived.Tactics
import Derived.Laws.Sem
import Derived.KernelRfl
namespace Go.Sl

/-! ### memory in parts -/

abbrev Heap := Nat → Option Obj
abbrev HP := Heap → Prop
def hp (w : World) : Heap := fun b => w.heap[b]?
def sub (h h' : Heap) : Prop := ∀ b o, h b = some o → h' b = some o
def split (h h1 h2 : Heap) : Prop := ∀ b, (h1 b = h b ∧ h2 b = none) ∨ (h1 b = none ∧ h2 b = h b)
def join (h1 h2 : Heap) : Heap := fun b => (h1 b).or (h2 b)
def apart (h1 h2 : Heap) : Prop := ∀ b, h1 b = none ∨ h2 b = none
def Sat : List HP → Heap → Prop
  | [], _ => True
  | A :: Γ, h => ∃ h1 h2, split h h1 h2 ∧ A h1 ∧ Sat Γ h2

theorem sub.refl (h : Heap) : sub h h := fun _ _ e => e
theorem sub.trans {a b c : Heap} (x : sub a b) (y : sub b c) : sub a c := fun _ _ e => y _ _ (x _ _ e)
theorem split.left {h h1 h2 : Heap} (s : split h h1 h2) : sub h1 h := fun b o e => by
  rcases s b with ⟨x, _⟩ | ⟨x, _⟩ <;> simp_all
theorem split.right {h h1 h2 : Heap} (s : split h h1 h2) : sub h2 h := fun b o e => by
  rcases s b with ⟨_, x⟩ | ⟨_, x⟩ <;> simp_all
theorem split.symm {h h1 h2 : Heap} (s : split h h1 h2) : split h h2 h1 := fun b => by
  rcases s b with ⟨x, y⟩ | ⟨x, y⟩
  · exact .inr ⟨y, x⟩
  · exact .inl ⟨y, x⟩
theorem split.apart {h h1 h2 : Heap} (s : split h h1 h2) : apart h1 h2 := fun b => by
  rcases s b with ⟨_, y⟩ | ⟨x, _⟩
  · exact .inr y
  · exact .inl x
theorem apart.symm {a b : Heap} (s : apart a b) : apart b a := fun x => (s x).symm
theorem apart.mono {a b a' b' : Heap} (s : apart a b) (x : sub a' a) (y : sub b' b) : apart a' b' := fun c => by
  rcases s c with e | e
  · left
    cases h : a' c with
    | none => rfl
    | some o => have := x _ _ h; simp_all
  · right
    cases h : b' c with
    | none => rfl
    | some o => have := y _ _ h; simp_all
theorem split_join {a b : Heap} (s : apart a b) : split (join a b) a b := fun c => by
  rcases s c with e | e
  · right; simp [join, e]
  · left
    refine ⟨?_, e⟩
    unfold join
    cases a c <;> simp [e]
theorem sub_join_left (a b : Heap) : sub a (join a b) := fun c o e => by simp [join, e]
theorem sub_join_right {a b : Heap} (s : apart a b) : sub b (join a b) := (split_join s).right
theorem sub_join {a b c : Heap} (x : sub a c) (y : sub b c) : sub (join a b) c := fun d o e => by
  unfold join at e
  cases h : a d with
  | none => rw [h] at e; exact y _ _ (by simpa using e)
  | some z => rw [h] at e; simp at e; exact x _ _ (by rw [h, e])
theorem split_rest {h h1 : Heap} (s : sub h1 h) : split h h1 (fun b => if (h1 b).isSome then none else h b) := fun b => by
  cases e : h1 b with
  | none => right; simp [e]
  | some o => left; exact ⟨(s _ _ e).symm ▸ rfl, by simp [e]⟩
theorem apart_join {a b c : Heap} (x : apart a c) (y : apart b c) : apart (join a b) c := fun d => by
  rcases x d with e | e
  · rcases y d with f | f
    · left; simp [join, e, f]
    · exact .inr f
  · exact .inr e

theorem Sat.mono {Γ : List HP} : ∀ {h h' : Heap}, Sat Γ h → sub h h' → Sat Γ h' := by
  induction Γ with
  | nil => exact fun _ _ => trivial
  | cons A Γ ih =>
    rintro h h' ⟨h1, h2, s, hA, hΓ⟩ hs
    refine ⟨h1, _, split_rest (s.left.trans hs), hA, ih hΓ ?_⟩
    intro b o e
    rcases s b with ⟨_, y⟩ | ⟨x, y⟩
    · simp_all
    · have := hs b o (by rw [← y, e])
      simp [x, this]

theorem Sat.swap {A B : HP} {Γ : List HP} {h : Heap} (s : Sat (A :: B :: Γ) h) : Sat (B :: A :: Γ) h := by
  obtain ⟨h1, h2, s1, hA, h3, h4, s2, hB, hΓ⟩ := s
  refine ⟨h3, join h1 h4, ?_, hB, h1, h4, ?_, hA, hΓ⟩
  · intro b
    rcases s2 b with ⟨x, y⟩ | ⟨x, y⟩ <;> rcases s1 b with ⟨u, v⟩ | ⟨u, v⟩ <;> simp_all [join]
  · refine split_join fun b => ?_
    rcases s2 b with ⟨x, y⟩ | ⟨x, y⟩ <;> rcases s1 b with ⟨u, v⟩ | ⟨u, v⟩ <;> simp_all

theorem Sat.perm {Γ Γ' : List HP} (p : Γ.Perm Γ') : ∀ {h : Heap}, Sat Γ h → Sat Γ' h := by
  induction p with
  | nil => exact fun s => s
  | cons A _ ih => exact fun ⟨h1, h2, s, hA, hΓ⟩ => ⟨h1, h2, s, hA, ih hΓ⟩
  | swap A B l => exact fun s => s.swap
  | trans _ _ ih1 ih2 => exact fun s => ih2 (ih1 s)

theorem Sat.append {Γ Δ : List HP} : ∀ {h : Heap}, Sat (Γ ++ Δ) h → ∃ h1 h2, split h h1 h2 ∧ Sat Γ h1 ∧ Sat Δ h2 := by
  induction Γ with
  | nil => exact fun {h} s => ⟨fun _ => none, h, fun b => .inr ⟨rfl, rfl⟩, trivial, s⟩
  | cons A Γ ih =>
    rintro h ⟨h1, h2, s, hA, hr⟩
    obtain ⟨h3, h4, s2, hΓ, hΔ⟩ := ih hr
    have a1 : apart h1 h3 := s.apart.mono (sub.refl _) s2.left
    refine ⟨join h1 h3, h4, ?_, ⟨h1, h3, split_join a1, hA, hΓ⟩, hΔ⟩
    intro b
    rcases s2 b with ⟨x, y⟩ | ⟨x, y⟩ <;> rcases s b with ⟨u, v⟩ | ⟨u, v⟩ <;> simp_all [join]
theorem Sat.join {Γ Δ : List HP} : ∀ {h1 h2 : Heap}, Sat Γ h1 → Sat Δ h2 → apart h1 h2 → Sat (Γ ++ Δ) (join h1 h2) := by
  induction Γ with
  | nil => exact fun {h1 h2} _ s a => s.mono (sub_join_right a)
  | cons A Γ ih =>
    rintro h1 h2 ⟨h3, h4, s, hA, hΓ⟩ hΔ a
    have a4 : apart h4 h2 := a.mono s.right (sub.refl _)
    refine ⟨h3, Sl.join h4 h2, ?_, hA, ih hΓ hΔ a4⟩
    intro b
    rcases s b with ⟨u, v⟩ | ⟨u, v⟩ <;> rcases a b with e | e <;> simp_all [Sl.join]

/-- A part that is a single block. -/
def pt (b : Nat) (o : Obj) : HP := fun h => h b = some o ∧ ∀ c, c ≠ b → h c = none
/-- None of the first 'm' cells is frozen. -/
def thaw (fr : Nat × Nat) (m : Nat) : Prop := ∀ o, o < m → (decide (fr.1 ≤ o) && decide (o < fr.2)) = false
theorem thaw_zero (m : Nat) : thaw (0, 0) m := fun o _ => by simp
/-- A block of cells, none of them frozen. -/
def blk (b : Nat) (l : List Value) : HP := fun h => ∃ fr T, thaw fr l.length ∧ pt b (.cells l.toArray T fr) h
/-- What is known, as a part without memory. -/
def fact (p : Prop) : HP := fun h => p ∧ ∀ c, h c = none
def ex {α : Sort _} (A : α → HP) : HP := fun h => ∃ x, A x h
/-- Several parts as one. -/
def stars (Γ : List HP) : HP := fun h => Sat Γ h

def Holds (Γ : List HP) (F : Heap) (w : World) : Prop := ∃ h, Sat Γ h ∧ sub h (hp w) ∧ sub F (hp w) ∧ apart h F

theorem Holds.perm {Γ Γ' : List HP} {F : Heap} {w : World} (p : Γ.Perm Γ') : Holds Γ F w → Holds Γ' F w :=
  fun ⟨h, s, r⟩ => ⟨h, s.perm p, r⟩
theorem Holds.head {A : HP} {Γ : List HP} {F : Heap} {w : World} : Holds (A :: Γ) F w → ∃ h, A h ∧ sub h (hp w) :=
  fun ⟨_, ⟨h1, _, s, hA, _⟩, r, _⟩ => ⟨h1, hA, s.left.trans r⟩
theorem Holds.ofPt {b : Nat} {o : Obj} {Γ : List HP} {F : Heap} {w : World} (h : Holds (pt b o :: Γ) F w) : w.heap[b]? = some o := by
  obtain ⟨h1, ⟨e, _⟩, s⟩ := h.head
  exact s _ _ e
theorem Holds.tail {A : HP} {Γ : List HP} {F : Heap} {w : World} : Holds (A :: Γ) F w → Holds Γ F w :=
  fun ⟨_, ⟨_, h2, s, _, hΓ⟩, r, f, a⟩ => ⟨h2, hΓ, s.right.trans r, f, a.mono s.right (sub.refl _)⟩
/-- One block is written: whatever the world does else with its blocks, it leaves them. -/
theorem Holds.write {b : Nat} {o o' : Obj} {Γ : List HP} {F : Heap} {w w' : World} (h : Holds (Sl.pt b o :: Γ) F w)
    (h1 : w'.heap[b]? = some o') (h2 : ∀ c, c ≠ b → w'.heap[c]? = w.heap[c]?) : Holds (Sl.pt b o' :: Γ) F w' := by
  obtain ⟨h, ⟨h3, h4, s, ⟨e, en⟩, hΓ⟩, r, f, a⟩ := h
  have hb4 : h4 b = none := by rcases s b with ⟨x, y⟩ | ⟨x, y⟩ <;> simp_all
  have hF : F b = none := by
    rcases a b with x | x
    · have := s.left _ _ e; simp_all
    · exact x
  have s4 : ∀ c, h4 c = if c = b then none else h c := fun c => by
    by_cases hc : c = b
    · simp [hc, hb4]
    · rcases s c with ⟨x, y⟩ | ⟨x, y⟩ <;> have := en c hc <;> simp_all
  refine ⟨fun c => if c = b then some o' else h c, ⟨fun c => if c = b then some o' else none, h4, ?_, ⟨by simp, fun c hc => by simp [hc]⟩, hΓ⟩, ?_, ?_, ?_⟩
  · intro c
    by_cases hc : c = b
    · left; simp [hc, hb4]
    · right; simp [hc, s4 c]
  · intro c x hx
    by_cases hc : c = b
    · subst hc; simp at hx; subst hx; exact h1
    · simp [hc] at hx
      have := r _ _ hx
      simpa [hp, h2 c hc] using this
  · intro c x hx
    by_cases hc : c = b
    · subst hc; simp_all
    · have := f _ _ hx
      simpa [hp, h2 c hc] using this
  · intro c
    by_cases hc : c = b
    · subst hc; exact .inr hF
    · rcases a c with x | x
      · left; simp [hc, x]
      · exact .inr x
/-- A block is new. -/
theorem Holds.new {Γ : List HP} {F : Heap} {w : World} (o : Obj) (h : Holds Γ F w) :
    Holds (Sl.pt w.heap.size o :: Γ) F { w with heap := w.heap.push o } := by
  obtain ⟨h, s, r, f, a⟩ := h
  have hn : ∀ g : Heap, sub g (hp w) → g w.heap.size = none := fun g hg => by
    cases e : g w.heap.size with
    | none => rfl
    | some x => have := hg _ _ e; simp [hp] at this
  have hup : sub (hp w) (hp { w with heap := w.heap.push o }) := fun c x e => by
    simp only [hp] at e ⊢
    have hc : c < w.heap.size := by
      rcases Nat.lt_or_ge c w.heap.size with y | y
      · exact y
      · simp [Array.getElem?_eq_none y] at e
    rw [Array.getElem?_push_lt hc]; simpa [Array.getElem?_eq_getElem hc] using e
  refine ⟨fun c => if c = w.heap.size then some o else h c, ⟨fun c => if c = w.heap.size then some o else none, h, ?_, ⟨by simp, fun c hc => by simp [hc]⟩, s⟩, ?_, f.trans hup, ?_⟩
  · intro c
    by_cases hc : c = w.heap.size
    · left; subst hc; simp [hn h r]
    · right; simp [hc]
  · intro c x hx
    by_cases hc : c = w.heap.size
    · subst hc; simp at hx; subst hx; simp [hp]
    · simp [hc] at hx; exact hup _ _ (r _ _ hx)
  · intro c
    by_cases hc : c = w.heap.size
    · subst hc; exact .inr (hn F f)
    · rcases a c with x | x
      · left; simp [hc, x]
      · exact .inr x
/-- Only parts outside the blocks turn (a draw). -/
theorem Holds.same {Γ : List HP} {F : Heap} {w w' : World} (h : Holds Γ F w) (e : w'.heap = w.heap) : Holds Γ F w' := by
  obtain ⟨h, s, r, f, a⟩ := h
  have : hp w' = hp w := by funext b; simp [hp, e]
  exact ⟨h, s, this ▸ r, this ▸ f, a⟩

/-! ### looking for parts by class instances -/

class Take (A : HP) (Γ : List HP) (Γ' : outParam (List HP)) : Prop where
  perm : Γ.Perm (A :: Γ')
instance (priority := high) Take.here {A : HP} {Γ : List HP} : Take A (A :: Γ) Γ := ⟨.refl _⟩
instance Take.there {A B : HP} {Γ Γ' : List HP} [t : Take A Γ Γ'] : Take A (B :: Γ) (B :: Γ') := ⟨(t.perm.cons B).trans (.swap _ _ _)⟩
instance Take.app {A B : HP} {Γ Δ Γ' : List HP} [t : Take A (B :: (Γ ++ Δ)) Γ'] : Take A ((B :: Γ) ++ Δ) Γ' := t
instance Take.app0 {A : HP} {Δ Γ' : List HP} [t : Take A Δ Γ'] : Take A ([] ++ Δ) Γ' := t
class Takes (Δ Γ : List HP) (Γ' : outParam (List HP)) : Prop where
  perm : Γ.Perm (Δ ++ Γ')
instance Takes.none {Γ : List HP} : Takes [] Γ Γ := ⟨.refl _⟩
instance Takes.more {A : HP} {Δ Γ Γ1 Γ' : List HP} [t : Take A Γ Γ1] [s : Takes Δ Γ1 Γ'] : Takes (A :: Δ) Γ Γ' := ⟨t.perm.trans (s.perm.cons A)⟩
class App (Δ Γ : List HP) (Θ : outParam (List HP)) : Prop where
  eq : Θ = Δ ++ Γ
instance App.none {Γ : List HP} : App [] Γ Γ := ⟨rfl⟩
instance App.more {A : HP} {Δ Γ Θ : List HP} [t : App Δ Γ Θ] : App (A :: Δ) Γ (A :: Θ) := ⟨by rw [t.eq]; rfl⟩
/-- The block 'b' is known to be 'o'. -/
class Find (Γ : List HP) (b : Nat) (o : outParam Obj) : Prop where
  ex : ∃ Γ', Γ.Perm (pt b o :: Γ')
instance (priority := high) Find.here {b : Nat} {o : Obj} {Γ : List HP} : Find (pt b o :: Γ) b o := ⟨Γ, .refl _⟩
instance Find.there {b : Nat} {o : Obj} {A : HP} {Γ : List HP} [t : Find Γ b o] : Find (A :: Γ) b o :=
  ⟨t.ex.elim fun Γ' p => ⟨A :: Γ', (p.cons A).trans (.swap _ _ _)⟩⟩
instance Find.app {b : Nat} {o : Obj} {A : HP} {Γ Δ : List HP} [t : Find (A :: (Γ ++ Δ)) b o] : Find ((A :: Γ) ++ Δ) b o := t
instance Find.app0 {b : Nat} {o : Obj} {Δ : List HP} [t : Find Δ b o] : Find ([] ++ Δ) b o := t
/-- The block 'b' was 'o' and is 'o''. -/
class Upd (Γ : List HP) (b : Nat) (o : outParam Obj) (o' : Obj) (Γ' : outParam (List HP)) : Prop where
  ex : ∃ Δ, Γ.Perm (pt b o :: Δ) ∧ Γ'.Perm (pt b o' :: Δ)
instance (priority := high) Upd.here {b : Nat} {o o' : Obj} {Γ : List HP} : Upd (pt b o :: Γ) b o o' (pt b o' :: Γ) := ⟨Γ, .refl _, .refl _⟩
instance Upd.there {b : Nat} {o o' : Obj} {A : HP} {Γ Γ' : List HP} [t : Upd Γ b o o' Γ'] : Upd (A :: Γ) b o o' (A :: Γ') :=
  ⟨t.ex.elim fun Δ p => ⟨A :: Δ, (p.1.cons A).trans (.swap _ _ _), (p.2.cons A).trans (.swap _ _ _)⟩⟩
instance Upd.app {b : Nat} {o o' : Obj} {A : HP} {Γ Δ Γ' : List HP} [t : Upd (A :: (Γ ++ Δ)) b o o' Γ'] : Upd ((A :: Γ) ++ Δ) b o o' Γ' := t
instance Upd.app0 {b : Nat} {o o' : Obj} {Δ Γ' : List HP} [t : Upd Δ b o o' Γ'] : Upd ([] ++ Δ) b o o' Γ' := t
theorem Find.get {Γ : List HP} {b : Nat} {o : Obj} [t : Find Γ b o] {F : Heap} {w : World} (h : Holds Γ F w) : w.heap[b]? = some o :=
  t.ex.elim fun _ p => (h.perm p).ofPt
theorem Upd.get {Γ Γ' : List HP} {b : Nat} {o o' : Obj} [t : Upd Γ b o o' Γ'] {F : Heap} {w : World} (h : Holds Γ F w) : w.heap[b]? = some o :=
  t.ex.elim fun _ p => (h.perm p.1).ofPt
theorem Upd.put {Γ Γ' : List HP} {b : Nat} {o o' : Obj} [t : Upd Γ b o o' Γ'] {F : Heap} {w w' : World} (h : Holds Γ F w)
    (h1 : w'.heap[b]? = some o') (h2 : ∀ c, c ≠ b → w'.heap[c]? = w.heap[c]?) : Holds Γ' F w' :=
  t.ex.elim fun _ p => ((h.perm p.1).write h1 h2).perm p.2.symm

class FindB (Γ : List HP) (b : Nat) (l : outParam (List Value)) : Prop where
  ex : ∃ Γ', Γ.Perm (blk b l :: Γ')
instance (priority := high) FindB.here {b : Nat} {l : List Value} {Γ : List HP} : FindB (blk b l :: Γ) b l := ⟨Γ, .refl _⟩
instance FindB.there {b : Nat} {l : List Value} {A : HP} {Γ : List HP} [t : FindB Γ b l] : FindB (A :: Γ) b l :=
  ⟨t.ex.elim fun Γ' p => ⟨A :: Γ', (p.cons A).trans (.swap _ _ _)⟩⟩
instance FindB.app {b : Nat} {l : List Value} {A : HP} {Γ Δ : List HP} [t : FindB (A :: (Γ ++ Δ)) b l] : FindB ((A :: Γ) ++ Δ) b l := t
instance FindB.app0 {b : Nat} {l : List Value} {Δ : List HP} [t : FindB Δ b l] : FindB ([] ++ Δ) b l := t
class UpdB (Γ : List HP) (b : Nat) (l : outParam (List Value)) (l' : List Value) (Γ' : outParam (List HP)) : Prop where
  ex : ∃ Δ, Γ.Perm (blk b l :: Δ) ∧ Γ'.Perm (blk b l' :: Δ)
instance (priority := high) UpdB.here {b : Nat} {l l' : List Value} {Γ : List HP} : UpdB (blk b l :: Γ) b l l' (blk b l' :: Γ) := ⟨Γ, .refl _, .refl _⟩
instance UpdB.there {b : Nat} {l l' : List Value} {A : HP} {Γ Γ' : List HP} [t : UpdB Γ b l l' Γ'] : UpdB (A :: Γ) b l l' (A :: Γ') :=
  ⟨t.ex.elim fun Δ p => ⟨A :: Δ, (p.1.cons A).trans (.swap _ _ _), (p.2.cons A).trans (.swap _ _ _)⟩⟩
instance UpdB.app {b : Nat} {l l' : List Value} {A : HP} {Γ Δ Γ' : List HP} [t : UpdB (A :: (Γ ++ Δ)) b l l' Γ'] : UpdB ((A :: Γ) ++ Δ) b l l' Γ' := t
instance UpdB.app0 {b : Nat} {l l' : List Value} {Δ Γ' : List HP} [t : UpdB Δ b l l' Γ'] : UpdB ([] ++ Δ) b l l' Γ' := t
theorem Holds.ofBlk {b : Nat} {l : List Value} {Γ : List HP} {F : Heap} {w : World} (h : Holds (blk b l :: Γ) F w) : ∃ fr T, thaw fr l.length ∧ w.heap[b]? = some (.cells l.toArray T fr) := by
  obtain ⟨h1, ⟨fr, T, ht, e, _⟩, s⟩ := h.head
  exact ⟨fr, T, ht, s _ _ e⟩
theorem FindB.get {Γ : List HP} {b : Nat} {l : List Value} [t : FindB Γ b l] {F : Heap} {w : World} (h : Holds Γ F w) : ∃ fr T, thaw fr l.length ∧ w.heap[b]? = some (.cells l.toArray T fr) :=
  t.ex.elim fun _ p => (h.perm p).ofBlk
theorem UpdB.get {Γ Γ' : List HP} {b : Nat} {l l' : List Value} (t : UpdB Γ b l l' Γ') {F : Heap} {w : World} (h : Holds Γ F w) : ∃ fr T, thaw fr l.length ∧ w.heap[b]? = some (.cells l.toArray T fr) :=
  t.ex.elim fun _ p => (h.perm p.1).ofBlk
theorem Holds.unblk {b : Nat} {T : TypeId} {l : List Value} {Γ : List HP} {F : Heap} {w : World} {fr : Nat × Nat} (h : Holds (Sl.blk b l :: Γ) F w) (hb : w.heap[b]? = some (.cells l.toArray T fr)) : Holds (Sl.pt b (.cells l.toArray T fr) :: Γ) F w := by
  obtain ⟨h, ⟨h1, h2, s, ⟨fr', T', ht, hp⟩, hr⟩, r⟩ := h
  have : w.heap[b]? = some (.cells l.toArray T' fr') := r.1 _ _ (s.left _ _ hp.1)
  rw [this] at hb
  have h0 := Option.some.inj hb
  injection h0 with _ e1 e2
  subst e1 e2
  exact ⟨h, ⟨h1, h2, s, hp, hr⟩, r⟩
theorem Holds.reblk {b : Nat} {T : TypeId} {l : List Value} {Γ : List HP} {F : Heap} {w : World} {fr : Nat × Nat} (ht : thaw fr l.length) (h : Holds (Sl.pt b (.cells l.toArray T fr) :: Γ) F w) : Holds (Sl.blk b l :: Γ) F w := by
  obtain ⟨h, ⟨h1, h2, s, hp, hr⟩, r⟩ := h
  exact ⟨h, ⟨h1, h2, s, ⟨fr, T, ht, hp⟩, hr⟩, r⟩
theorem UpdB.put {Γ Γ' : List HP} {b : Nat} {T : TypeId} {l l' : List Value} {fr : Nat × Nat} (t : UpdB Γ b l l' Γ') {F : Heap} {w w' : World} (h : Holds Γ F w) (hb : w.heap[b]? = some (.cells l.toArray T fr)) (ht : thaw fr l'.length)
    (h1 : w'.heap[b]? = some (.cells l'.toArray T fr)) (h2 : ∀ c, c ≠ b → w'.heap[c]? = w.heap[c]?) : Holds Γ' F w' :=
  t.ex.elim fun _ p => ((((h.perm p.1).unblk hb).write h1 h2).reblk ht).perm p.2.symm

/-! ### slots -/

abbrev Env := List (Nat × Value)
def lk : Env → Nat → Option Value
  | [], _ => none
  | (t', v) :: K, t => bif Nat.beq t t' then some v else lk K t
def ev (K : Env) : Operand → Option Value
  | .tmp t => lk K t
  | .const v => some v
  | .global g => some (.pointer (some ⟨g, 0, none⟩))
  | .func f => some (.func (.func f) #[] #[])
def evs (K : Env) : List Operand → Option (List Value)
  | [] => some []
  | o :: l => (ev K o).bind fun v => (evs K l).bind fun vs => some (v :: vs)
def Agrees (n : Nat) (K : Env) (a : Act) : Prop := a.defers = [] ∧ a.tmps.size = n ∧ ∀ t v, lk K t = some v → a.tmps.getD t undef = v
theorem Agrees.ev {n : Nat} {K : Env} {a : Act} {o : Operand} {v : Value} (h : Agrees n K a) (e : ev K o = some v) : a.eval o = v := by
  cases o with
  | tmp t => exact h.2.2 t v e
  | const c => simpa [Sl.ev, Act.eval] using e
  | global g => simpa [Sl.ev, Act.eval] using e
  | func f => simpa [Sl.ev, Act.eval] using e
theorem Agrees.evs {n : Nat} {K : Env} {a : Act} (h : Agrees n K a) : ∀ {l : List Operand} {vs : List Value}, evs K l = some vs → l.map a.eval = vs := by
  intro l
  induction l with
  | nil => intro vs e; simp [Sl.evs] at e; simp [e]
  | cons o l ih =>
    intro vs e
    simp only [Sl.evs, Option.bind_eq_some_iff] at e
    obtain ⟨v, hv, us, hu, e⟩ := e
    simp at e
    simp [h.ev hv, ih hu, e]
theorem Agrees.put {n : Nat} {K : Env} {a : Act} {d : Nat} {v : Value} (h : Agrees n K a) (hd : Nat.blt d n = true) : Agrees n ((d, v) :: K) (a.put (some d) v) := by
  obtain ⟨h1, h2, h3⟩ := h
  have hd' : d < n := by simpa [Nat.blt_eq] using hd
  refine ⟨h1, by simp [Act.put, h2], fun t u e => ?_⟩
  simp only [lk, cond_eq_ite, Nat.beq_eq] at e
  by_cases ht : t = d
  · subst ht
    simp at e; subst e
    simp [Act.put, Array.getD_eq_getD_getElem?, h2, hd']
  · rw [if_neg (by simpa using ht)] at e
    have := h3 t u e
    simp only [Act.put, Array.getD_eq_getD_getElem?] at this ⊢
    rw [Array.getElem?_setIfInBounds_ne (fun x => ht x.symm)]; exact this
theorem Agrees.put_none {n : Nat} {K : Env} {a : Act} {v : Value} (h : Agrees n K a) : Agrees n K (a.put none v) := h
/-- 'K' tells all that 'K'' tells. -/
def tells (K : Env) : Env → Prop
  | [] => True
  | (t, v) :: K' => lk K t = some v ∧ tells K K'
theorem tells.lk {K : Env} : ∀ {K' : Env}, tells K K' → ∀ t v, lk K' t = some v → lk K t = some v := by
  intro K'
  induction K' with
  | nil => intro _ t v e; simp [Sl.lk] at e
  | cons p K' ih =>
    obtain ⟨t', v'⟩ := p
    rintro ⟨h1, h2⟩ t v e
    simp only [Sl.lk, cond_eq_ite, Nat.beq_eq] at e
    by_cases ht : t = t'
    · subst ht; simp at e; subst e; exact h1
    · rw [if_neg (by simpa using ht)] at e; exact ih h2 t v e
theorem Agrees.weaken {n : Nat} {K K' : Env} {a : Act} (h : Agrees n K a) (t : tells K K') : Agrees n K' a :=
  ⟨h.1, h.2.1, fun i v e => h.2.2 i v (t.lk i v e)⟩

/-! ### runs -/

def Keep (w w' : World) : Prop := w'.os = w.os ∧ w'.output = w.output ∧ w.heap.size ≤ w'.heap.size
theorem Keep.refl (w : World) : Keep w w := ⟨rfl, rfl, Nat.le_refl _⟩
theorem Keep.trans {a b c : World} (x : Keep a b) (y : Keep b c) : Keep a c := ⟨y.1.trans x.1, y.2.1.trans x.2.1, Nat.le_trans x.2.2 y.2.2⟩

def Fin (Q : Value → List HP → Prop) (F : Heap) (w0 : World) : Ending → World → Prop :=
  fun e w' => ∃ v Γ', Q v Γ' ∧ e = .returned v ∧ Holds Γ' F w' ∧ Keep w0 w'
theorem Fin.from {Q : Value → List HP → Prop} {F : Heap} {w0 w1 : World} (k : Keep w0 w1) {e : Ending} {w' : World} (h : Fin Q F w1 e w') : Fin Q F w0 e w' :=
  let ⟨v, Γ', q, he, hh, hk⟩ := h; ⟨v, Γ', q, he, hh, k.trans hk⟩

/-- The contract of a function. -/
def Spec (P : Program) (f : FuncId) (args : List Value) (Γ : List HP) (Q : Value → List HP → Prop) : Prop :=
  ∀ F w, Holds Γ F w → Calls P f args.toArray w (Fin Q F w)

theorem Spec.mono {P : Program} {f : FuncId} {args : List Value} {Γ : List HP} {Q Q' : Value → List HP → Prop} (h : Spec P f args Γ Q) (hq : ∀ v Γ', Q v Γ' → Q' v Γ') : Spec P f args Γ Q' :=
  fun F w hh => (h F w hh).mono fun _ _ ⟨v, Γ', q, r⟩ => ⟨v, Γ', hq v Γ' q, r⟩

def Runs (P : Program) (f : FuncId) (k : List Item) (a : Act) (w : World) (R : Ending → World → Prop) : Prop :=
  ∀ (b : Frame) (cs : List Frame), b.fn = f → b.kind = .normal → ∃ e w' fr, R e w' ∧ Comes P (lone (b.at a k) cs w) (lone fr cs w') e ∧ fr.fn = f ∧ fr.leaving P w' e

theorem Runs.step {P : Program} {f : FuncId} {k k' : List Item} {a a' : Act} {w w' : World} {R : Ending → World → Prop}
    (hs : ∀ (b : Frame) (cs : List Frame), step P (lone (b.at a k) cs w) = .next (lone (b.at a' k') cs w')) (h : Runs P f k' a' w' R) : Runs P f k a w R :=
  fun b cs hb hk => let ⟨e, w2, fr, r, c, x⟩ := h b cs hb hk; ⟨e, w2, fr, r, Comes.of_steps (.one (hs b cs)) c, x⟩

def G (P : Program) (f : FuncId) (n : Nat) (Q : Value → List HP → Prop) (k : List Item) (K : Env) (Γ : List HP) : Prop :=
  ∀ w0 F a w, Keep w0 w → Agrees n K a → Holds Γ F w → Runs P f k a w (Fin Q F w0)

def GR (P : Program) (f : FuncId) (n : Nat) (Q : Value → List HP → Prop) (ops : Array Oper) (l : List Oper) (k : List Item) (K : Env) (Γ : List HP) : Prop :=
  ∀ w0 F a w, Keep w0 w → Agrees n K a → Holds Γ F w → wpList P ops (fun e a' w' => e = .normal ∧ Runs P f k a' w' (Fin Q F w0)) l a w

def envOf : Nat → List Value → Env
  | _, [] => []
  | i, v :: vs => (i, v) :: envOf (i + 1) vs
theorem lk_envOf : ∀ (vs : List Value) (i t : Nat) (v : Value), lk (envOf i vs) t = some v → i ≤ t ∧ vs[t - i]? = some v := by
  intro vs
  induction vs with
  | nil => intro i t v e; simp [envOf, lk] at e
  | cons u vs ih =>
    intro i t v e
    simp only [envOf, lk, cond_eq_ite, Nat.beq_eq] at e
    by_cases ht : t = i
    · subst ht; simp at e; simp [e]
    · rw [if_neg (by simpa using ht)] at e
      obtain ⟨h1, h2⟩ := ih (i + 1) t v e
      refine ⟨by omega, ?_⟩
      rw [show t - i = (t - (i + 1)) + 1 from by omega]
      simpa using h2

theorem Spec.enter {P : Program} {f : FuncId} {fn : Func} {c : Code} {args : List Value} {Γ : List HP} {Q : Value → List HP → Prop} {n : Nat}
    (hf : P.funcs[f]? = some fn) (hb : fn.body = some c) (hn : fn.ntmps = n) (ha : Nat.ble args.length n = true)
    (h : G P f n Q [.code c] (envOf 0 args) Γ) : Spec P f args Γ Q := by
  intro F w hh cs
  have ha' : args.length ≤ n := by simpa using ha
  let b : Frame := { (default : Frame) with fn := f, kind := .normal }
  have henter : Frame.enter P f args.toArray .normal = b.at { tmps := args.toArray ++ Array.replicate (fn.ntmps - args.toArray.size) undef, defers := [] } [.code c] := by
    simp [Frame.enter, Frame.at, hf, hb, b]
  rw [henter]
  refine h w F _ w (Keep.refl w) ⟨rfl, by simp [hn]; omega, fun t v e => ?_⟩ hh b cs rfl rfl
  obtain ⟨_, e⟩ := lk_envOf _ _ _ _ e
  have hlt : t < args.length := by
    rcases Nat.lt_or_ge t args.length with y | y
    · exact y
    · simp [List.getElem?_eq_none y] at e
  simp only [Nat.sub_zero] at e
  simp only [Array.getD_eq_getD_getElem?]
  rw [Array.getElem?_append_left (by simpa using hlt)]
  simp [e]

section control
variable {P : Program} {f : FuncId} {n : Nat} {Q : Value → List HP → Prop} {k : List Item} {K : Env} {Γ : List HP}

theorem G.seq {x y : Code} (h : G P f n Q (.code x :: .code y :: k) K Γ) : G P f n Q (.code (.seq x y) :: k) K Γ :=
  fun w0 F a w h1 h2 h3 => .step (fun _ _ => step_seq) (h w0 F a w h1 h2 h3)
theorem G.skip (h : G P f n Q k K Γ) : G P f n Q (.code .skip :: k) K Γ :=
  fun w0 F a w h1 h2 h3 => .step (fun _ _ => step_skip) (h w0 F a w h1 h2 h3)
theorem G.label {l : Nat} (h : G P f n Q k K Γ) : G P f n Q (.code (.label l) :: k) K Γ :=
  fun w0 F a w h1 h2 h3 => .step (fun _ _ => step_label) (h w0 F a w h1 h2 h3)
theorem G.block {id : Nat} {c : Code} (h : G P f n Q (.code c :: .inBlock id :: k) K Γ) : G P f n Q (.code (.block id c) :: k) K Γ :=
  fun w0 F a w h1 h2 h3 => .step (fun _ _ => step_block) (h w0 F a w h1 h2 h3)
theorem G.inBlock {id : Nat} (h : G P f n Q k K Γ) : G P f n Q (.inBlock id :: k) K Γ :=
  fun w0 F a w h1 h2 h3 => .step (fun _ _ => step_inBlock) (h w0 F a w h1 h2 h3)
theorem G.exit {id : Nat} {k' : List Item} (hk : exitTo id k = some k') (h : G P f n Q k' K Γ) : G P f n Q (.code (.exit id) :: k) K Γ :=
  fun w0 F a w h1 h2 h3 => .step (fun _ _ => step_exit hk) (h w0 F a w h1 h2 h3)
theorem G.enterLoop {c : Code} (h : G P f n Q (.code c :: .inLoop c :: k) K Γ) : G P f n Q (.code (.loop c) :: k) K Γ :=
  fun w0 F a w h1 h2 h3 => .step (fun _ _ => step_loop) (h w0 F a w h1 h2 h3)
theorem G.inLoop {c : Code} (h : G P f n Q (.code c :: .inLoop c :: k) K Γ) : G P f n Q (.inLoop c :: k) K Γ :=
  fun w0 F a w h1 h2 h3 => .step (fun _ _ => step_inLoop) (h w0 F a w h1 h2 h3)
theorem G.condT {c : Operand} {x y : Code} (hc : ev K c = some (.bool true)) (h : G P f n Q (.code x :: k) K Γ) : G P f n Q (.code (.cond c x y) :: k) K Γ :=
  fun w0 F a w h1 h2 h3 => .step (fun _ _ => step_cond (h2.ev hc)) (h w0 F a w h1 h2 h3)
theorem G.condF {c : Operand} {x y : Code} (hc : ev K c = some (.bool false)) (h : G P f n Q (.code y :: k) K Γ) : G P f n Q (.code (.cond c x y) :: k) K Γ :=
  fun w0 F a w h1 h2 h3 => .step (fun _ _ => step_cond (h2.ev hc)) (h w0 F a w h1 h2 h3)
/-- A test: a way for each answer. -/
theorem G.cond {c : Operand} {x y : Code} {t : Bool} (hc : ev K c = some (.bool t)) (h : t = true → G P f n Q (.code x :: k) K Γ)
    (h' : t = false → G P f n Q (.code y :: k) K Γ) : G P f n Q (.code (.cond c x y) :: k) K Γ := by
  cases t
  · exact G.condF hc (h' rfl)
  · exact G.condT hc (h rfl)
theorem G.ret {fn : Func} {v : Value} {Γ' Δ : List HP} (hf : P.funcs[f]? = some fn) (hr : ∀ a, Agrees n K a → ∀ w, (results fn a.tmps).run P w = .ok v w)
    (hq : Q v Γ') [t : Takes Γ' Γ Δ] : G P f n Q (.code .ret :: k) K Γ := by
  intro w0 F a w h1 h2 ⟨h, s, r⟩ b cs hb hk
  obtain ⟨hs1, hs2, hs3, hs4, hs5⟩ : ∃ hs1 hs2, split h hs1 hs2 ∧ Sat Γ' hs1 ∧ Sat Δ hs2 := Sat.append (s.perm t.perm)
  exact ⟨.returned v, w, _, ⟨v, Γ', hq, rfl, ⟨hs1, hs4, hs3.left.trans r.1, r.2.1, r.2.2.mono hs3.left (sub.refl _)⟩, h1⟩, .one step_ret, hb, rfl, h2.1, hk, fn, by rw [← hb] at hf; exact hf, hr a h2 w⟩
theorem G.ends {fn : Func} {v : Value} {Γ' Δ : List HP} (hf : P.funcs[f]? = some fn) (hr : ∀ a, Agrees n K a → ∀ w, (results fn a.tmps).run P w = .ok v w)
    (hq : Q v Γ') [t : Takes Γ' Γ Δ] : G P f n Q [] K Γ := by
  intro w0 F a w h1 h2 ⟨h, s, r⟩ b cs hb hk
  obtain ⟨hs1, hs2, hs3, hs4, hs5⟩ : ∃ hs1 hs2, split h hs1 hs2 ∧ Sat Γ' hs1 ∧ Sat Δ hs2 := Sat.append (s.perm t.perm)
  exact ⟨.returned v, w, _, ⟨v, Γ', hq, rfl, ⟨hs1, hs4, hs3.left.trans r.1, r.2.1, r.2.2.mono hs3.left (sub.refl _)⟩, h1⟩, .one step_end, hb, rfl, h2.1, hk, fn, by rw [← hb] at hf; exact hf, hr a h2 w⟩
theorem G.weaken {K' : Env} {Γ' Δ : List HP} (hK : tells K K') [t : Takes Γ' Γ Δ] (h : G P f n Q k K' Γ') : G P f n Q k K Γ := by
  intro w0 F a w h1 h2 ⟨g, s, r⟩
  obtain ⟨hs1, hs2, hs3, hs4, hs5⟩ : ∃ hs1 hs2, split g hs1 hs2 ∧ Sat Γ' hs1 ∧ Sat Δ hs2 := Sat.append (s.perm t.perm)
  exact h w0 F a w h1 (h2.weaken hK) ⟨hs1, hs4, hs3.left.trans r.1, r.2.1, r.2.2.mono hs3.left (sub.refl _)⟩
/-- A loop: what holds of slots and memory at each round's head, for a state 's' that goes down. -/
theorem G.loop {σ : Type} (Kf : σ → Env) (Γf : σ → List HP) (I : σ → Prop) (μ : σ → Nat) (s0 : σ) {c : Code} {Δ : List HP} (hK : tells K (Kf s0)) [t : Takes (Γf s0) Γ Δ] (hI : I s0)
    (h : ∀ s, I s → (∀ s', I s' → μ s' < μ s → G P f n Q (.inLoop c :: k) (Kf s') (Γf s')) → G P f n Q (.code c :: .inLoop c :: k) (Kf s) (Γf s)) :
    G P f n Q (.code (.loop c) :: k) K Γ := by
  have key : ∀ m s, μ s = m → I s → G P f n Q (.code c :: .inLoop c :: k) (Kf s) (Γf s) := by
    intro m
    induction m using Nat.strongRecOn with
    | _ m ih => exact fun s hm hs => h s hs fun s' hs' hlt => G.inLoop (ih (μ s') (hm ▸ hlt) s' rfl hs')
  exact G.weaken hK (G.enterLoop (key _ s0 rfl hI))
theorem G.region {id : Nat} {l : List Oper} (h : GR P f n Q l.toArray l k K Γ) : G P f n Q (.code (.region id l.toArray false) :: k) K Γ := by
  intro w0 F a w h1 h2 h3 b cs hb hk
  have := wp_region_lit (id := id) (h w0 F a w h1 h2 h3) b k cs
  obtain ⟨e, a', w', ⟨rfl, hr⟩, harr⟩ := this
  obtain ⟨e2, w2, fr, r, c, x⟩ := hr b cs hb hk
  exact ⟨e2, w2, fr, r, Comes.of_steps harr c, x⟩
/-- Parts taken apart, put together, forgotten: by a law on memory. -/
theorem G.conseq {Γ' : List HP} (hg : ∀ h, Sat Γ h → Sat Γ' h) (h : G P f n Q k K Γ') : G P f n Q k K Γ :=
  fun w0 F a w h1 h2 ⟨g, s, r⟩ => h w0 F a w h1 h2 ⟨g, hg g s, r⟩
theorem Sat.one {A : HP} {Γ Γ1 : List HP} [t : Take A Γ Γ1] {h : Heap} (s : Sat Γ h) : Sat (A :: Γ1) h := s.perm t.perm
theorem Sat.opened {A : HP} {Δ Γ Θ : List HP} [t : App Δ Γ Θ] {h : Heap} (hA : ∀ h, A h → Sat Δ h) (s : Sat (A :: Γ) h) : Sat Θ h := by
  obtain ⟨h1, h2, s1, ha, hr⟩ := s
  rw [t.eq]
  refine ((hA h1 ha).join hr s1.apart).mono fun b o e => ?_
  unfold Sl.join at e
  cases x : h1 b with
  | none => rw [x] at e; exact s1.right _ _ (by simpa using e)
  | some z => rw [x] at e; simp at e; exact s1.left _ _ (by rw [x, e])
/-- A part by its definition: 'A' is, for some 'x', the parts 'Δ x'. -/
theorem G.open {α : Sort _} {A : HP} {Γ1 : List HP} {Δ : α → List HP} (hA : ∀ h, A h → ∃ x, Sat (Δ x) h) [t : Take A Γ Γ1]
    (h : ∀ x, G P f n Q k K (Δ x ++ Γ1)) : G P f n Q k K Γ := by
  intro w0 F a w h1 h2 ⟨g, s, r⟩
  obtain ⟨h3, h4, s1, ha, hr⟩ := s.perm t.perm
  obtain ⟨x, hx⟩ := hA h3 ha
  refine h x w0 F a w h1 h2 ⟨g, (hx.join hr s1.apart).mono fun b o e => ?_, r⟩
  unfold Sl.join at e
  cases y : h3 b with
  | none => rw [y] at e; exact s1.right _ _ (by simpa using e)
  | some z => rw [y] at e; simp at e; exact s1.left _ _ (by rw [y, e])
theorem G.open1 {α : Sort _} {A : HP} {Γ1 : List HP} {Δ : α → List HP} (hA : ∀ h, A h → ∃ a, Sat (Δ a) h) [t : Take A Γ Γ1]
    (h : ∀ a, G P f n Q k K (Δ a ++ Γ1)) : G P f n Q k K Γ := G.open (α := α) (Δ := Δ) hA h
theorem G.open0 {A : HP} {Γ1 : List HP} {Δ : List HP} (hA : ∀ h, A h → Sat Δ h) [t : Take A Γ Γ1]
    (h : G P f n Q k K (Δ ++ Γ1)) : G P f n Q k K Γ := G.open (α := Unit) (Δ := fun _ => Δ) (fun x y => ⟨(), hA x y⟩) (fun _ => h)
theorem G.open2 {α β : Sort _} {A : HP} {Γ1 : List HP} {Δ : α → β → List HP} (hA : ∀ h, A h → ∃ a b, Sat (Δ a b) h) [t : Take A Γ Γ1]
    (h : ∀ a b, G P f n Q k K (Δ a b ++ Γ1)) : G P f n Q k K Γ := G.open (α := PSigma fun _ : α => β) (Δ := fun x => Δ x.1 x.2) (fun x y => let ⟨a, b, s⟩ := hA x y; ⟨⟨a, b⟩, s⟩) (fun x => h x.1 x.2)
theorem G.open3 {α β γ : Sort _} {A : HP} {Γ1 : List HP} {Δ : α → β → γ → List HP} (hA : ∀ h, A h → ∃ a b c, Sat (Δ a b c) h) [t : Take A Γ Γ1]
    (h : ∀ a b c, G P f n Q k K (Δ a b c ++ Γ1)) : G P f n Q k K Γ := G.open (α := PSigma fun _ : α => PSigma fun _ : β => γ) (Δ := fun x => Δ x.1 x.2.1 x.2.2) (fun x y => let ⟨a, b, c, s⟩ := hA x y; ⟨⟨a, b, c⟩, s⟩) (fun x => h x.1 x.2.1 x.2.2)
theorem G.open4 {α β γ δ : Sort _} {A : HP} {Γ1 : List HP} {Δ : α → β → γ → δ → List HP} (hA : ∀ h, A h → ∃ a b c d, Sat (Δ a b c d) h) [t : Take A Γ Γ1]
    (h : ∀ a b c d, G P f n Q k K (Δ a b c d ++ Γ1)) : G P f n Q k K Γ := G.open (α := PSigma fun _ : α => PSigma fun _ : β => PSigma fun _ : γ => δ) (Δ := fun x => Δ x.1 x.2.1 x.2.2.1 x.2.2.2) (fun x y => let ⟨a, b, c, d, s⟩ := hA x y; ⟨⟨a, b, c, d⟩, s⟩) (fun x => h x.1 x.2.1 x.2.2.1 x.2.2.2)
theorem G.open5 {α β γ δ ε : Sort _} {A : HP} {Γ1 : List HP} {Δ : α → β → γ → δ → ε → List HP} (hA : ∀ h, A h → ∃ a b c d e, Sat (Δ a b c d e) h) [t : Take A Γ Γ1]
    (h : ∀ a b c d e, G P f n Q k K (Δ a b c d e ++ Γ1)) : G P f n Q k K Γ := G.open (α := PSigma fun _ : α => PSigma fun _ : β => PSigma fun _ : γ => PSigma fun _ : δ => ε) (Δ := fun x => Δ x.1 x.2.1 x.2.2.1 x.2.2.2.1 x.2.2.2.2) (fun x y => let ⟨a, b, c, d, e, s⟩ := hA x y; ⟨⟨a, b, c, d, e⟩, s⟩) (fun x => h x.1 x.2.1 x.2.2.1 x.2.2.2.1 x.2.2.2.2)
theorem Sat.front {X : HP} {Δ Γ1 : List HP} {h : Heap} (hX : ∀ h, Sat Δ h → X h) (s : Sat (Δ ++ Γ1) h) : Sat (X :: Γ1) h := by
  obtain ⟨h1, h2, sp, s1, s2⟩ := Sat.append s
  exact ⟨h1, h2, sp, hX h1 s1, s2⟩
/-- The first parts as one. -/
theorem G.fold1 {X A : HP} {Γ1 : List HP} (hX : ∀ h, Sat [A] h → X h) (h : G P f n Q k K (X :: Γ1)) : G P f n Q k K (A :: Γ1) := G.conseq (fun _ s => Sat.front (Δ := [A]) hX s) h
theorem G.fold2 {X A B : HP} {Γ1 : List HP} (hX : ∀ h, Sat [A, B] h → X h) (h : G P f n Q k K (X :: Γ1)) : G P f n Q k K (A :: B :: Γ1) := G.conseq (fun _ s => Sat.front (Δ := [A, B]) hX s) h
theorem G.fold3 {X A B C : HP} {Γ1 : List HP} (hX : ∀ h, Sat [A, B, C] h → X h) (h : G P f n Q k K (X :: Γ1)) : G P f n Q k K (A :: B :: C :: Γ1) := G.conseq (fun _ s => Sat.front (Δ := [A, B, C]) hX s) h
theorem G.fold4 {X A B C D : HP} {Γ1 : List HP} (hX : ∀ h, Sat [A, B, C, D] h → X h) (h : G P f n Q k K (X :: Γ1)) : G P f n Q k K (A :: B :: C :: D :: Γ1) := G.conseq (fun _ s => Sat.front (Δ := [A, B, C, D]) hX s) h
theorem G.fold5 {X A B C D E : HP} {Γ1 : List HP} (hX : ∀ h, Sat [A, B, C, D, E] h → X h) (h : G P f n Q k K (X :: Γ1)) : G P f n Q k K (A :: B :: C :: D :: E :: Γ1) := G.conseq (fun _ s => Sat.front (Δ := [A, B, C, D, E]) hX s) h
/-- One part to the front. -/
theorem G.bring (A : HP) {Γ1 : List HP} [t : Take A Γ Γ1] (h : G P f n Q k K (A :: Γ1)) : G P f n Q k K Γ := G.conseq (fun _ s => s.perm t.perm) h
/-- Parts named are kept, the others forgotten. -/
theorem G.keep (Δ : List HP) {Γ1 : List HP} [t : Takes Δ Γ Γ1] (h : G P f n Q k K Δ) : G P f n Q k K Γ := G.conseq (fun _ s => by
  obtain ⟨h1, h2, sp, s1, _⟩ := Sat.append (s.perm t.perm)
  exact s1.mono sp.left) h
/-- Parts as one part, by its definition. -/
theorem G.fold {X : HP} {Δ Γ1 : List HP} (hA : ∀ h, Sat Δ h → X h) [t : Takes Δ Γ Γ1] (h : G P f n Q k K (X :: Γ1)) : G P f n Q k K Γ := by
  intro w0 F a w h1 h2 ⟨g, s, r⟩
  obtain ⟨h3, h4, s1, ha, hr⟩ := Sat.append (s.perm t.perm)
  exact h w0 F a w h1 h2 ⟨g, ⟨h3, h4, s1, hA h3 ha, hr⟩, r⟩
theorem G.fact {p : Prop} {Γ1 : List HP} [t : Take (fact p) Γ Γ1] (h : p → G P f n Q k K Γ1) : G P f n Q k K Γ := by
  intro w0 F a w h1 h2 h3
  have h3 := h3.perm t.perm
  obtain ⟨h4, hp, _⟩ := h3.head
  exact h hp.1 w0 F a w h1 h2 h3.tail
end control
end Go.Sl
