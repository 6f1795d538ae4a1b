/- Maps, slices that grow, copies, texts and bytes. -/
import Derived.Test.YtgilhenjoinhhaaSlMem
namespace Go.Sl

/-! ### maps, as lists of keys with values -/
class Key (P : Program) (t : TypeId) {α : Type} [DecidableEq α] (κ : α → Value) : Prop where
  ex : ∃ d, P.underlying t = some d ∧ (∀ a b, Instr.sameNow d (κ a) (κ b) = some (decide (a = b)))
  chk : ∀ e a w, (Instr.checkKey e 10000 t (κ a)).run P w = .ok () w
  bits : ∀ a, Instr.sameBits 10000 (κ a) (κ a) = true
theorem bytes_beq (a b : List UInt8) : ((⟨⟨a⟩⟩ : ByteArray) == ⟨⟨b⟩⟩) = decide (a = b) := by
  show ((⟨a⟩ : Array UInt8) == ⟨b⟩) = _
  rw [Bool.eq_iff_iff]; simp
theorem run_checkKey_int {P : Program} {t : TypeId} {k : IntKind} (h : P.underlying t = some (.int k)) (e : Bool) (m : Nat) (v : Value) (w : World) : (Instr.checkKey e (m + 1) t v).run P w = .ok () w := by
  simp [Instr.checkKey, run_underlying' h]
theorem run_checkKey_str {P : Program} {t : TypeId} (h : P.underlying t = some .string) (e : Bool) (m : Nat) (v : Value) (w : World) : (Instr.checkKey e (m + 1) t v).run P w = .ok () w := by
  simp [Instr.checkKey, run_underlying' h]
instance keyInt {P : Program} {t : TypeId} {k : IntKind} [u : Und P t (.int k)] : Key P t (fun n : Int => Value.int k n) where
  ex := ⟨_, u.eq, fun a b => by simp [Instr.sameNow]; rfl⟩
  chk e a w := run_checkKey_int u.eq e 9999 _ w
  bits a := by simp [Instr.sameBits]
instance keyStr {P : Program} {t : TypeId} [u : Und P t .string] : Key P t (fun l : List UInt8 => str l) where
  ex := ⟨_, u.eq, fun a b => by simp [Instr.sameNow, bytes_beq]⟩
  chk e a w := run_checkKey_str u.eq e 9999 _ w
  bits a := by simp [Instr.sameBits, bytes_beq]

def mput {α β : Type} [DecidableEq α] (L : List (α × β)) (a : α) (v : β) : List (α × β) :=
  match L with
  | [] => [(a, v)]
  | (b, u) :: r => if a = b then (a, v) :: r else (b, u) :: mput r a v
def mdel {α β : Type} [DecidableEq α] (L : List (α × β)) (a : α) : List (α × β) :=
  match L with
  | [] => []
  | (b, u) :: r => if a = b then r else (b, u) :: mdel r a
def mget {α β : Type} [DecidableEq α] (L : List (α × β)) (a : α) : Option β :=
  match L with
  | [] => none
  | (b, u) :: r => if a = b then some u else mget r a

/-- Block 'r' is a map that holds these keys, in the order in which they came. -/
def mapAt {α : Type} (κ : α → Value) (r : Nat) (L : List (α × Value)) : HP := fun h => ∃ (es : Array MapEntry) (clock : Nat), pt r (.map es clock) h ∧
  es.toList.map (fun e => (e.key, e.val)) = L.map (fun p => (κ p.1, p.2)) ∧ (es.toList.map (·.born)).Pairwise (· < ·) ∧ ∀ e ∈ es.toList, e.born < clock

theorem findNow_ok {α : Type} [DecidableEq α] {κ : α → Value} {d : TypeDesc} (hs : ∀ a b, Instr.sameNow d (κ a) (κ b) = some (decide (a = b))) (a : α) : ∀ (es : List MapEntry) (L : List (α × Value)) (i : Nat),
    es.map (fun e => (e.key, e.val)) = L.map (fun p => (κ p.1, p.2)) → ∃ r, Instr.findNow d (κ a) es i = some r ∧ (r.map (·.2)) = mget L a ∧ (∀ j v, r = some (j, v) → i ≤ j ∧ (es[j - i]?).map (fun e => (e.key, e.val)) = some (κ a, v) ∧ (L.map Prod.fst)[j - i]? = some a ∧ ∀ m, m < j - i → (L.map Prod.fst)[m]? ≠ some a) := by
  intro es
  induction es with
  | nil =>
    intro L i h
    cases L with
    | nil => exact ⟨none, rfl, rfl, fun j v e => by cases e⟩
    | cons p L => simp at h
  | cons e es ih =>
    intro L i h
    cases L with
    | nil => simp at h
    | cons p L =>
      obtain ⟨b, u⟩ := p
      simp only [List.map_cons, List.cons.injEq, Prod.mk.injEq] at h
      obtain ⟨⟨h1, h2⟩, h3⟩ := h
      by_cases hab : a = b
      · subst hab
        refine ⟨some (i, e.val), ?_, ?_, ?_⟩
        · simp [Instr.findNow, h1, hs]
        · simp [mget, h2]
        · rintro j v e'
          simp only [Option.some.injEq, Prod.mk.injEq] at e'
          obtain ⟨rfl, rfl⟩ := e'
          refine ⟨Nat.le_refl _, ?_, ?_, ?_⟩
          · simp [h1]
          · simp
          · intro m hm; omega
      · obtain ⟨r, q1, q2, q3⟩ := ih L (i + 1) h3
        refine ⟨r, ?_, ?_, ?_⟩
        · simp [Instr.findNow, h1, hs, hab, q1]
        · simp [mget, hab, q2]
        · intro j v e'
          obtain ⟨y1, y2, y3, y4⟩ := q3 j v e'
          rw [show j - i = (j - (i + 1)) + 1 from by omega]
          refine ⟨by omega, by simpa using y2, by simpa using y3, ?_⟩
          intro m hm
          cases m with
          | zero => simp; exact fun e => hab e.symm
          | succ m => simpa using y4 m (by omega)
theorem mget_idx {α β : Type} [DecidableEq α] : ∀ (L : List (α × β)) (a : α) (j : Nat), (L.map Prod.fst)[j]? = some a → (∀ m, m < j → (L.map Prod.fst)[m]? ≠ some a) → ∀ v, mput L a v = L.set j (a, v) ∧ mdel L a = L.eraseIdx j := by
  intro L
  induction L with
  | nil => intro a j h; simp at h
  | cons p L ih =>
    intro a j h hm v
    obtain ⟨b, u⟩ := p
    cases j with
    | zero => simp at h; subst h; simp [mput, mdel]
    | succ j =>
      have hne : a ≠ b := fun e => hm 0 (by omega) (by simp [e])
      obtain ⟨h1, h2⟩ := ih a j (by simpa using h) (fun m hm' => by simpa using hm (m + 1) (by omega)) v
      simp [mput, mdel, hne, h1, h2]
theorem mget_none {α β : Type} [DecidableEq α] : ∀ (L : List (α × β)) (a : α), mget L a = none → ∀ v, mput L a v = L ++ [(a, v)] ∧ mdel L a = L := by
  intro L
  induction L with
  | nil => intro a _ v; simp [mput, mdel]
  | cons p L ih =>
    intro a h v
    obtain ⟨b, u⟩ := p
    by_cases hab : a = b
    · simp [mget, hab] at h
    · simp only [mget, hab, if_false] at h
      obtain ⟨h1, h2⟩ := ih a h v
      simp [mput, mdel, hab, h1, h2]

section massoc
variable {α β γ : Type} [DecidableEq α]
theorem mput_map (f : β → γ) (L : List (α × β)) (a : α) (v : β) : mput (L.map fun p => (p.1, f p.2)) a (f v) = (mput L a v).map fun p => (p.1, f p.2) := by
  induction L with
  | nil => rfl
  | cons p L ih =>
    obtain ⟨b, u⟩ := p
    by_cases h : a = b
    · simp [mput, h]
    · simp [mput, h, ih]
theorem mdel_map (f : β → γ) (L : List (α × β)) (a : α) : mdel (L.map fun p => (p.1, f p.2)) a = (mdel L a).map fun p => (p.1, f p.2) := by
  induction L with
  | nil => rfl
  | cons p L ih =>
    obtain ⟨b, u⟩ := p
    by_cases h : a = b
    · simp [mdel, h]
    · simp [mdel, h, ih]
theorem mget_map (f : β → γ) (L : List (α × β)) (a : α) : mget (L.map fun p => (p.1, f p.2)) a = (mget L a).map f := by
  induction L with
  | nil => rfl
  | cons p L ih =>
    obtain ⟨b, u⟩ := p
    by_cases h : a = b
    · simp [mget, h]
    · simp [mget, h, ih]
theorem mget_mem {L : List (α × β)} {a : α} {v : β} (h : mget L a = some v) : (a, v) ∈ L := by
  induction L with
  | nil => simp [mget] at h
  | cons p L ih =>
    obtain ⟨b, u⟩ := p
    by_cases hab : a = b
    · simp [mget, hab] at h; simp [hab, h]
    · simp only [mget, hab, if_false] at h; exact List.mem_cons_of_mem _ (ih h)
theorem mget_of_mem {L : List (α × β)} (hn : (L.map Prod.fst).Nodup) {a : α} {v : β} (h : (a, v) ∈ L) : mget L a = some v := by
  induction L with
  | nil => simp at h
  | cons p L ih =>
    obtain ⟨b, u⟩ := p
    simp only [List.map_cons, List.nodup_cons] at hn
    rcases List.mem_cons.1 h with h' | h'
    · cases h'; simp [mget]
    · by_cases hab : a = b
      · have := List.mem_map_of_mem (f := Prod.fst) h'
        rw [← hab] at hn; exact (hn.1 this).elim
      · simp only [mget, hab, if_false]; exact ih hn.2 h'
theorem mget_none_iff {L : List (α × β)} {a : α} : mget L a = none ↔ a ∉ L.map Prod.fst := by
  induction L with
  | nil => simp [mget]
  | cons p L ih =>
    obtain ⟨b, u⟩ := p
    by_cases hab : a = b
    · simp [mget, hab]
    · simp [mget, hab, ih]
theorem mget_perm {L M : List (α × β)} (hn : (L.map Prod.fst).Nodup) (h : L.Perm M) (a : α) : mget L a = mget M a := by
  have hn' : (M.map Prod.fst).Nodup := (h.map Prod.fst).nodup_iff.1 hn
  cases e : mget L a with
  | some v => exact (mget_of_mem hn' (h.mem_iff.1 (mget_mem e))).symm
  | none =>
    refine (mget_none_iff.2 fun hm => ?_).symm
    exact mget_none_iff.1 e ((h.map Prod.fst).mem_iff.2 hm)
theorem mget_append_right {L M : List (α × β)} {a : α} (h : a ∉ L.map Prod.fst) : mget (L ++ M) a = mget M a := by
  induction L with
  | nil => rfl
  | cons p L ih =>
    obtain ⟨b, u⟩ := p
    simp only [List.map_cons, List.mem_cons, not_or] at h
    simp [mget, h.1, ih h.2]
theorem mget_append_left {L M : List (α × β)} {a : α} (h : a ∉ M.map Prod.fst) : mget (L ++ M) a = mget L a := by
  induction L with
  | nil => exact mget_none_iff.2 h
  | cons p L ih =>
    obtain ⟨b, u⟩ := p
    by_cases hab : a = b
    · simp [mget, hab]
    · simp [mget, hab, ih]
theorem mput_keys (L : List (α × β)) (a : α) (v : β) : ∀ b, b ∈ (mput L a v).map Prod.fst ↔ b = a ∨ b ∈ L.map Prod.fst := by
  induction L with
  | nil => simp [mput]
  | cons p L ih =>
    obtain ⟨c, u⟩ := p
    intro b
    by_cases hab : a = c
    · subst hab; simp [mput]
    · simp only [mput, hab, if_false, List.map_cons, List.mem_cons, ih b]
      constructor
      · rintro (h | h | h)
        · exact .inr (.inl h)
        · exact .inl h
        · exact .inr (.inr h)
      · rintro (h | h | h)
        · exact .inr (.inl h)
        · exact .inl h
        · exact .inr (.inr h)
theorem mput_nodup {L : List (α × β)} (h : (L.map Prod.fst).Nodup) (a : α) (v : β) : ((mput L a v).map Prod.fst).Nodup := by
  induction L with
  | nil => simp [mput]
  | cons p L ih =>
    obtain ⟨b, u⟩ := p
    simp only [List.map_cons, List.nodup_cons] at h
    by_cases hab : a = b
    · subst hab; simp only [mput, if_true, List.map_cons, List.nodup_cons]; exact h
    · simp only [mput, hab, if_false, List.map_cons, List.nodup_cons]
      refine ⟨fun hb => ?_, ih h.2⟩
      rcases (mput_keys _ _ _ _).1 hb with e | e
      · exact hab e.symm
      · exact h.1 e
theorem mdel_sub (L : List (α × β)) (a : α) : (mdel L a).Sublist L := by
  induction L with
  | nil => exact .slnil
  | cons p L ih =>
    obtain ⟨b, u⟩ := p
    by_cases hab : a = b
    · simp [mdel, hab]
    · simp only [mdel, hab, if_false]; exact ih.cons_cons _
theorem mput_mem_ne {L : List (α × β)} {a b : α} {v u : β} (h : b ≠ a) : (b, u) ∈ mput L a v ↔ (b, u) ∈ L := by
  induction L with
  | nil => simp [mput, h]
  | cons p L ih =>
    obtain ⟨c, w⟩ := p
    by_cases hab : a = c
    · subst hab; simp [mput, h]
    · simp [mput, hab, ih]
theorem mget_put (L : List (α × β)) (a b : α) (v : β) : mget (mput L a v) b = if b = a then some v else mget L b := by
  induction L with
  | nil => by_cases h : b = a <;> simp [mput, mget, h]
  | cons p L ih =>
    obtain ⟨c, w⟩ := p
    by_cases hab : a = c
    · subst hab
      by_cases h : b = a <;> simp [mput, mget, h]
    · by_cases h : b = a
      · subst h; simp [mput, mget, hab, ih]
      · by_cases h2 : b = c
        · simp [mput, mget, hab, h2, Ne.symm hab]
        · simp [mput, mget, hab, h2, h, ih]
theorem mget_del {L : List (α × β)} (hn : (L.map Prod.fst).Nodup) (a b : α) : mget (mdel L a) b = if b = a then none else mget L b := by
  induction L with
  | nil => simp [mdel, mget]
  | cons p L ih =>
    obtain ⟨c, w⟩ := p
    simp only [List.map_cons, List.nodup_cons] at hn
    by_cases hab : a = c
    · subst hab
      by_cases h : b = a
      · subst h; simp only [mdel, if_true]; exact mget_none_iff.2 hn.1
      · simp [mdel, mget, h]
    · by_cases h : b = a
      · subst h; simp [mdel, mget, hab, ih hn.2]
      · by_cases h2 : b = c
        · simp [mdel, mget, hab, h2, Ne.symm hab]
        · simp [mdel, mget, hab, h2, h, ih hn.2]
theorem perm_of_mget {L M : List (α × β)} (hL : (L.map Prod.fst).Nodup) (hM : (M.map Prod.fst).Nodup) (h : ∀ a, mget L a = mget M a) : L.Perm M := by
  have nd : ∀ {X : List (α × β)}, (X.map Prod.fst).Nodup → X.Nodup := fun {X} hx => (List.pairwise_map.1 hx).imp fun h e => h (by rw [e])
  refine (List.perm_ext_iff_of_nodup (nd hL) (nd hM)).2 fun ⟨a, v⟩ => ⟨fun hm => ?_, fun hm => ?_⟩
  · exact mget_mem ((h a).symm.trans (mget_of_mem hL hm))
  · exact mget_mem ((h a).trans (mget_of_mem hM hm))
end massoc
theorem map_eraseIdx' {α β : Type} (f : α → β) : ∀ (l : List α) (j : Nat), (l.eraseIdx j).map f = (l.map f).eraseIdx j
  | [], _ => rfl
  | _ :: _, 0 => rfl
  | a :: l, j + 1 => by simp [map_eraseIdx' f l j]
class FindM {α : Type} (κ : α → Value) (Γ : List HP) (r : Nat) (L : outParam (List (α × Value))) : Prop where
  ex : ∃ Γ', Γ.Perm (mapAt κ r L :: Γ')
instance (priority := high) FindM.here {α : Type} {κ : α → Value} {r : Nat} {L : List (α × Value)} {Γ : List HP} : FindM κ (mapAt κ r L :: Γ) r L := ⟨Γ, .refl _⟩
instance FindM.there {α : Type} {κ : α → Value} {r : Nat} {L : List (α × Value)} {A : HP} {Γ : List HP} [t : FindM κ Γ r L] : FindM κ (A :: Γ) r L :=
  ⟨t.ex.elim fun Γ' p => ⟨A :: Γ', (p.cons A).trans (.swap _ _ _)⟩⟩
instance FindM.app {α : Type} {κ : α → Value} {r : Nat} {L : List (α × Value)} {A : HP} {Γ Δ : List HP} [t : FindM κ (A :: (Γ ++ Δ)) r L] : FindM κ ((A :: Γ) ++ Δ) r L := t
instance FindM.app0 {α : Type} {κ : α → Value} {r : Nat} {L : List (α × Value)} {Δ : List HP} [t : FindM κ Δ r L] : FindM κ ([] ++ Δ) r L := t
class UpdM {α : Type} (κ : α → Value) (Γ : List HP) (r : Nat) (L : outParam (List (α × Value))) (L' : List (α × Value)) (Γ' : outParam (List HP)) : Prop where
  ex : ∃ Δ, Γ.Perm (mapAt κ r L :: Δ) ∧ Γ'.Perm (mapAt κ r L' :: Δ)
instance (priority := high) UpdM.here {α : Type} {κ : α → Value} {r : Nat} {L L' : List (α × Value)} {Γ : List HP} : UpdM κ (mapAt κ r L :: Γ) r L L' (mapAt κ r L' :: Γ) := ⟨Γ, .refl _, .refl _⟩
instance UpdM.there {α : Type} {κ : α → Value} {r : Nat} {L L' : List (α × Value)} {A : HP} {Γ Γ' : List HP} [t : UpdM κ Γ r L L' Γ'] : UpdM κ (A :: Γ) r L L' (A :: Γ') :=
  ⟨t.ex.elim fun Δ p => ⟨A :: Δ, (p.1.cons A).trans (.swap _ _ _), (p.2.cons A).trans (.swap _ _ _)⟩⟩
instance UpdM.app {α : Type} {κ : α → Value} {r : Nat} {L L' : List (α × Value)} {A : HP} {Γ Δ Γ' : List HP} [t : UpdM κ (A :: (Γ ++ Δ)) r L L' Γ'] : UpdM κ ((A :: Γ) ++ Δ) r L L' Γ' := t
instance UpdM.app0 {α : Type} {κ : α → Value} {r : Nat} {L L' : List (α × Value)} {Δ Γ' : List HP} [t : UpdM κ Δ r L L' Γ'] : UpdM κ ([] ++ Δ) r L L' Γ' := t

section maps
variable {P : Program} {n : Nat} {K : Env} {Γ : List HP} {α : Type} {κ : α → Value}

theorem Holds.map {r : Nat} {L : List (α × Value)} {F : Heap} {w : World} (h : Holds (mapAt κ r L :: Γ) F w) : ∃ es clock, w.heap[r]? = some (.map es clock) ∧ es.toList.map (fun e => (e.key, e.val)) = L.map (fun p => (κ p.1, p.2)) ∧ (es.toList.map (·.born)).Pairwise (· < ·) ∧ (∀ e ∈ es.toList, e.born < clock) ∧ Holds (pt r (.map es clock) :: Γ) F w := by
  obtain ⟨h, ⟨h1, h2, s, ⟨es, clock, hp, x⟩, hr⟩, y⟩ := h
  exact ⟨es, clock, y.1 _ _ (s.left _ _ hp.1), x.1, x.2.1, x.2.2, h, ⟨h1, h2, s, hp, hr⟩, y⟩
theorem Holds.remap {r : Nat} {L : List (α × Value)} {es : Array MapEntry} {clock : Nat} {F : Heap} {w : World} (h : Holds (pt r (.map es clock) :: Γ) F w) (h1 : es.toList.map (fun e => (e.key, e.val)) = L.map (fun p => (κ p.1, p.2)))
    (h2 : (es.toList.map (·.born)).Pairwise (· < ·)) (h3 : ∀ e ∈ es.toList, e.born < clock) : Holds (mapAt κ r L :: Γ) F w := by
  obtain ⟨h, ⟨g1, g2, s, hp, hr⟩, y⟩ := h
  exact ⟨h, ⟨g1, g2, s, ⟨es, clock, hp, h1, h2, h3⟩, hr⟩, y⟩
variable [DecidableEq α]
theorem run_findKey {t : TypeId} [kk : Key P t κ] {es : Array MapEntry} {L : List (α × Value)} (h : es.toList.map (fun e => (e.key, e.val)) = L.map (fun p => (κ p.1, p.2))) (a : α) (w : World) :
    ∃ r, (Instr.findKey t (κ a) es.toList).run P w = .ok r w ∧ r.map (·.2) = mget L a ∧ (∀ j v, r = some (j, v) → (es[j]?).map (fun e => (e.key, e.val)) = some (κ a, v) ∧ (L.map Prod.fst)[j]? = some a ∧ ∀ m, m < j → (L.map Prod.fst)[m]? ≠ some a) := by
  obtain ⟨d, hd, hs⟩ := kk.ex
  obtain ⟨r, h1, h2, h3⟩ := findNow_ok hs a es.toList L 0 h
  refine ⟨r, ?_, h2, fun j v e => ?_⟩
  · simp [Instr.findKey, run_underlying' hd, h1]
  · obtain ⟨_, y2, y3, y4⟩ := h3 j v e
    simp only [Nat.sub_zero] at y2 y3 y4
    exact ⟨by simpa using y2, y3, y4⟩

/-- 'v, ok := m[k]'. -/
theorem q_look2 {t kt et : TypeId} {x i : Operand} {r : Nat} {a : α} {L : List (α × Value)} {z : Value} {zl : List Value} [u : Und P t (.map kt et)] [kk : Key P kt κ] [zz : Zer P et z zl] (hx : ev K x = some (.map (some r))) (hi : ev K i = some (κ a))
    [fm : FindM κ Γ r L] : QOp P n K Γ (.lookup t x i true) (.tuple #[(mget L a).getD z, .bool (decide (mget L a ≠ none))]) := fun F a' w ty ha hh => by
  obtain ⟨Γ', p⟩ := fm.ex
  obtain ⟨es, clock, hb, hL, _⟩ := (hh.perm p).map
  obtain ⟨rr, h1, h2, _⟩ := run_findKey (P := P) (t := kt) hL a w
  have hg : (getObj r).run P w = .ok (.map es clock) w := by simp [getObj, Sem.run, hb]
  simp only [execOp, ha.ev hx, ha.ev hi, Instr.lookup, Sem.run_bind, run_underlying' u.eq, Result.andThen_ok, hg, Sem.run_pure, kk.chk, h1]
  cases rr with
  | none => simp at h2; simp [← h2, zz.eq]
  | some q => obtain ⟨j, v⟩ := q; simp at h2; simp [← h2]
theorem q_look2S {t kt et : TypeId} {x i : Operand} {r : Nat} {a : α} {v : Value} {L : List (α × Value)} {z : Value} {zl : List Value} [u : Und P t (.map kt et)] [kk : Key P kt κ] [zz : Zer P et z zl] (hx : ev K x = some (.map (some r))) (hi : ev K i = some (κ a))
    [fm : FindM κ Γ r L] (hm : mget L a = some v) : QOp P n K Γ (.lookup t x i true) (.tuple #[v, .bool true]) := by
  have := q_look2 (P := P) (n := n) (Γ := Γ) (t := t) (kt := kt) (et := et) (κ := κ) hx hi
  simpa [hm] using this
theorem q_look2N {t kt et : TypeId} {x i : Operand} {r : Nat} {a : α} {L : List (α × Value)} {z : Value} {zl : List Value} [u : Und P t (.map kt et)] [kk : Key P kt κ] [zz : Zer P et z zl] (hx : ev K x = some (.map (some r))) (hi : ev K i = some (κ a))
    [fm : FindM κ Γ r L] (hm : mget L a = none) : QOp P n K Γ (.lookup t x i true) (.tuple #[z, .bool false]) := by
  have := q_look2 (P := P) (n := n) (Γ := Γ) (t := t) (kt := kt) (et := et) (κ := κ) hx hi
  simpa [hm] using this
/-- 'm[k]'. -/
theorem q_look1 {t kt et : TypeId} {x i : Operand} {r : Nat} {a : α} {L : List (α × Value)} {z : Value} {zl : List Value} [u : Und P t (.map kt et)] [kk : Key P kt κ] [zz : Zer P et z zl] (hx : ev K x = some (.map (some r))) (hi : ev K i = some (κ a))
    [fm : FindM κ Γ r L] : QOp P n K Γ (.lookup t x i false) ((mget L a).getD z) := fun F a' w ty ha hh => by
  obtain ⟨Γ', p⟩ := fm.ex
  obtain ⟨es, clock, hb, hL, _⟩ := (hh.perm p).map
  obtain ⟨rr, h1, h2, _⟩ := run_findKey (P := P) (t := kt) hL a w
  have hg : (getObj r).run P w = .ok (.map es clock) w := by simp [getObj, Sem.run, hb]
  simp only [execOp, ha.ev hx, ha.ev hi, Instr.lookup, Sem.run_bind, run_underlying' u.eq, Result.andThen_ok, hg, Sem.run_pure, kk.chk, h1]
  cases rr with
  | none => simp at h2; simp [← h2, zz.eq]
  | some q => obtain ⟨j, v⟩ := q; simp at h2; simp [← h2]
theorem q_look1S {t kt et : TypeId} {x i : Operand} {r : Nat} {a : α} {v : Value} {L : List (α × Value)} {z : Value} {zl : List Value} [u : Und P t (.map kt et)] [kk : Key P kt κ] [zz : Zer P et z zl] (hx : ev K x = some (.map (some r))) (hi : ev K i = some (κ a))
    [fm : FindM κ Γ r L] (hm : mget L a = some v) : QOp P n K Γ (.lookup t x i false) v := by
  have := q_look1 (P := P) (n := n) (Γ := Γ) (t := t) (kt := kt) (et := et) (κ := κ) hx hi
  simpa [hm] using this
omit [DecidableEq α] in
theorem q_lenM {t kt et : TypeId} {x : Operand} {r : Nat} {L : List (α × Value)} [u : Und P t (.map kt et)] (hx : ev K x = some (.map (some r))) [fm : FindM κ Γ r L] :
    QOp P n K Γ (.call ⟨.builtin .len, #[x], #[t]⟩) (.int .i64 (L.length : Int)) := fun F a' w ty ha hh => by
  obtain ⟨Γ', p⟩ := fm.ex
  obtain ⟨es, clock, hb, hL, _⟩ := (hh.perm p).map
  have hg : (getObj r).run P w = .ok (.map es clock) w := by simp [getObj, Sem.run, hb]
  have hl : es.size = L.length := by have := congrArg List.length hL; simpa using this
  simp [execOp, resolve, invoke, builtin, Builtin.len_, ha.ev hx, run_underlying' u.eq, goInt, hg, hl]
theorem run_setObj (w : World) (r : Nat) (es : Array MapEntry) (c : Nat) (o : Obj) (h : w.heap[r]? = some (.map es c)) : (setObj r o).run P w = .ok () { w with heap := w.heap.setIfInBounds r o } := by
  simp [setObj, Sem.run, h]
omit [DecidableEq α] in
theorem setObj_put {Γ Γ' : List HP} {r : Nat} {L L' : List (α × Value)} {es es' : Array MapEntry} {c c' : Nat} {F : Heap} {w : World} (u : UpdM κ Γ r L L' Γ') (hh : Holds Γ F w) (hb : w.heap[r]? = some (.map es c))
    (h1 : es'.toList.map (fun e => (e.key, e.val)) = L'.map (fun p => (κ p.1, p.2))) (h2 : (es'.toList.map (·.born)).Pairwise (· < ·)) (h3 : ∀ e ∈ es'.toList, e.born < c') :
    Holds Γ' F { w with heap := w.heap.setIfInBounds r (.map es' c') } := by
  obtain ⟨Δ, p1, p2⟩ := u.ex
  obtain ⟨es0, c0, hb0, _, _, _, hp⟩ := (hh.perm p1).map
  rw [hb] at hb0
  injection hb0 with hb0
  injection hb0 with e1 e2
  subst e1 e2
  have hlt : r < w.heap.size := (Array.getElem?_eq_some_iff.1 hb).1
  refine ((hp.write (o' := .map es' c') ?_ ?_).remap h1 h2 h3).perm p2.symm
  · simp [hlt]
  · intro c hc; simp [Array.getElem?_setIfInBounds_ne (Ne.symm hc)]
theorem l_mapu {t kt et : TypeId} {x i y : Operand} {r : Nat} {a : α} {v : Value} {L : List (α × Value)} {Γ' : List HP} [u : Und P t (.map kt et)] [kk : Key P kt κ] (hx : ev K x = some (.map (some r))) (hi : ev K i = some (κ a)) (hy : ev K y = some v)
    [fm : FindM κ Γ r L] [um : UpdM κ Γ r L (mput L a v) Γ'] : LOp P n K Γ (.mapUpdate t x i y) (Is undef Γ') :=
  .of_skip fun F a' w ty ha hh => by
    obtain ⟨Γ1, p⟩ := fm.ex
    obtain ⟨es, clock, hb, hL, hbn, hcl, _⟩ := (hh.perm p).map
    obtain ⟨rr, h1, h2, h3⟩ := run_findKey (P := P) (t := kt) hL a w
    have hg : (getObj r).run P w = .ok (.map es clock) w := by simp [getObj, Sem.run, hb]
    have hk := kk.bits a
    simp only [execOp, ha.ev hx, ha.ev hi, ha.ev hy, Instr.mapUpdate, Sem.run_bind, run_underlying' u.eq, Result.andThen_ok, hg, kk.chk, h1]
    cases rr with
    | none =>
      simp only [Option.map_none] at h2
      obtain ⟨e1, _⟩ := mget_none L a h2.symm v
      simp only [run_setObj w r es clock _ hb, Result.andThen_ok, Sem.run_pure]
      refine ⟨_, Γ', rfl, ⟨rfl, rfl⟩, setObj_put um hh hb ?_ ?_ ?_, ⟨rfl, rfl, by simp⟩⟩
      · rw [e1]; simp [hL]
      · simp only [Array.toList_push, List.map_append, List.map_cons, List.map_nil]
        refine List.pairwise_append.2 ⟨hbn, by simp, ?_⟩
        simp only [List.mem_map, List.mem_singleton]
        rintro b ⟨e, he, rfl⟩ c rfl
        exact hcl e he
      · intro e he
        simp only [Array.toList_push, List.mem_append, List.mem_singleton] at he
        rcases he with he | rfl
        · exact Nat.lt_succ_of_lt (hcl e he)
        · exact Nat.lt_succ_self _
    | some q =>
      obtain ⟨j, v0⟩ := q
      obtain ⟨y2, y3, y4⟩ := h3 j v0 rfl
      obtain ⟨e1, _⟩ := mget_idx L a j y3 y4 v
      obtain ⟨e0, he0, hk0⟩ := Option.map_eq_some_iff.1 y2
      simp only [Prod.mk.injEq] at hk0
      have hks : (Instr.keyThatStays (((es[j]?).map (·.key)).getD (κ a)) (κ a)).run P w = .ok (κ a) w := by
        simp [Instr.keyThatStays, he0, hk0.1, hk]
      simp only [Sem.run_bind, hks, Result.andThen_ok, run_setObj w r es clock _ hb, Sem.run_pure]
      have hmod : (es.modify j fun e => { e with key := κ a, val := v }).toList = es.toList.set j { e0 with key := κ a, val := v } := by
        have hj : j < es.size := (Array.getElem?_eq_some_iff.1 he0).1
        have hj2 : es[j] = e0 := (Array.getElem?_eq_some_iff.1 he0).2
        apply List.ext_getElem?
        intro m
        by_cases hm : j = m
        · subst hm; simp [hj, hj2]
        · simp [hm]
      refine ⟨_, Γ', rfl, ⟨rfl, rfl⟩, setObj_put um hh hb ?_ ?_ ?_, ⟨rfl, rfl, by simp⟩⟩
      · rw [hmod, e1, List.map_set, List.map_set, hL]
      · rw [hmod, List.map_set]
        have : (es.toList.map (·.born)).set j e0.born = es.toList.map (·.born) := by
          apply List.ext_getElem?
          intro m
          by_cases hm : j = m
          · subst hm
            have hj : j < es.size := (Array.getElem?_eq_some_iff.1 he0).1
            have hj2 : es[j] = e0 := (Array.getElem?_eq_some_iff.1 he0).2
            simp [hj, hj2]
          · simp [hm]
        rw [this]; exact hbn
      · rw [hmod]
        intro e he
        rcases List.mem_or_eq_of_mem_set he with h | rfl
        · exact hcl e h
        · have := hcl e0 (Array.mem_toList_iff.2 (Array.mem_of_getElem? he0))
          simpa using this
theorem l_mapd {t kt et t2 : TypeId} {x i : Operand} {r : Nat} {a : α} {L : List (α × Value)} {Γ' : List HP} [u : Und P t (.map kt et)] [kk : Key P kt κ] (hx : ev K x = some (.map (some r))) (hi : ev K i = some (κ a))
    [fm : FindM κ Γ r L] [um : UpdM κ Γ r L (mdel L a) Γ'] : LOp P n K Γ (.call ⟨.builtin .delete, #[x, i], #[t, t2]⟩) (Is (.tuple #[]) Γ') :=
  .of_value fun F a' w ty ha hh => by
    obtain ⟨Γ1, p⟩ := fm.ex
    obtain ⟨es, clock, hb, hL, hbn, hcl, _⟩ := (hh.perm p).map
    obtain ⟨rr, h1, h2, h3⟩ := run_findKey (P := P) (t := kt) hL a w
    have hg : (getObj r).run P w = .ok (.map es clock) w := by simp [getObj, Sem.run, hb]
    obtain ⟨cs, hres⟩ : ∃ cs, (resolve a'.eval ⟨.builtin .delete, #[x, i], #[t, t2]⟩ ty) = Pure.pure { target := .builtin .delete #[t, t2] ty cs, args := #[.map (some r), κ a] } :=
      ⟨_, by simp only [resolve, List.map_toArray, List.map_cons, List.map_nil, ha.ev hx, ha.ev hi]; rfl⟩
    simp only [execOp, hres, invoke, builtin, Builtin.delete_, Sem.run_bind, Sem.run_pure, Result.andThen_ok, run_underlying' u.eq, hg, kk.chk, h1, List.getElem?_toArray, List.getElem?_cons_zero, List.getElem?_cons_succ]
    cases rr with
    | none =>
      simp only [Option.map_none] at h2
      obtain ⟨_, e1⟩ := mget_none L a h2.symm undef
      simp only [Sem.run_bind, run_setObj w r es clock _ hb, Result.andThen_ok, Sem.run_pure]
      exact ⟨_, _, Γ', rfl, ⟨rfl, rfl⟩, setObj_put um hh hb (by rw [e1]; exact hL) hbn hcl, ⟨rfl, rfl, by simp⟩⟩
    | some q =>
      obtain ⟨j, v0⟩ := q
      obtain ⟨y2, y3, y4⟩ := h3 j v0 rfl
      obtain ⟨_, e1⟩ := mget_idx L a j y3 y4 undef
      simp only [Sem.run_bind, run_setObj w r es clock _ hb, Result.andThen_ok, Sem.run_pure]
      refine ⟨_, _, Γ', rfl, ⟨rfl, rfl⟩, setObj_put um hh hb ?_ ?_ ?_, ⟨rfl, rfl, by simp⟩⟩
      · rw [e1]; simp only [Array.toList_eraseIdxIfInBounds, map_eraseIdx', hL]
      · simp only [Array.toList_eraseIdxIfInBounds, map_eraseIdx']
        exact hbn.sublist (List.eraseIdx_sublist _ _)
      · intro e he
        exact hcl e ((List.eraseIdx_sublist _ _).subset (by simpa using he))
omit [DecidableEq α] in
theorem l_mapc {t kt et : TypeId} {x : Operand} {r : Nat} {L : List (α × Value)} {Γ' : List HP} [u : Und P t (.map kt et)] (hx : ev K x = some (.map (some r)))
    [fm : FindM κ Γ r L] [um : UpdM κ Γ r L [] Γ'] : LOp P n K Γ (.call ⟨.builtin .clear, #[x], #[t]⟩) (Is (.tuple #[]) Γ') :=
  .of_value fun F a' w ty ha hh => by
    obtain ⟨Γ1, p⟩ := fm.ex
    obtain ⟨es, clock, hb, hL, hbn, hcl, _⟩ := (hh.perm p).map
    have hg : (getObj r).run P w = .ok (.map es clock) w := by simp [getObj, Sem.run, hb]
    obtain ⟨cs, hres⟩ : ∃ cs, (resolve a'.eval ⟨.builtin .clear, #[x], #[t]⟩ ty) = Pure.pure { target := .builtin .clear #[t] ty cs, args := #[.map (some r)] } :=
      ⟨_, by simp only [resolve, List.map_toArray, List.map_cons, List.map_nil, ha.ev hx]; rfl⟩
    simp only [execOp, hres, invoke, builtin, Builtin.clear_, Sem.run_bind, Sem.run_pure, Result.andThen_ok, run_underlying' u.eq, hg, List.getElem?_toArray, List.getElem?_cons_zero]
    simp only [run_setObj w r es clock _ hb, Result.andThen_ok]
    exact ⟨_, _, Γ', rfl, ⟨rfl, rfl⟩, setObj_put um hh hb (by simp) (by simp) (by simp), ⟨rfl, rfl, by simp⟩⟩
end maps
end Go.Sl
