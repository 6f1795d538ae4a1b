/- Slices that grow, copies, make, texts and bytes, slicing. -/
import Derived.Test.YtgilhenjoinhhaaSlVec
namespace Go.Sl

/-- 'v' is a slice of its own: its elements' cells are 'xs'; what stands behind them in its memory is its own, too. -/
def vec (s : Nat) (v : Value) (xs : List Value) : HP := fun h => (v = .slice none 0 0 ∧ xs = [] ∧ ∀ b, h b = none) ∨
  ∃ (b : Nat) (pre spare : List Value) (len cap : Nat), v = .slice (some ⟨b, pre.length, none⟩) len cap ∧ xs.length = len * s ∧ (cap - len) * s ≤ spare.length ∧ len ≤ cap ∧ blk b (pre ++ xs ++ spare) h
theorem vec.nil (s : Nat) (Γ : List HP) : ∀ h, Sat Γ h → Sat (vec s (.slice none 0 0) [] :: Γ) h :=
  fun h hs => ⟨fun _ => none, h, fun _ => .inr ⟨rfl, rfl⟩, .inl ⟨rfl, rfl, fun _ => rfl⟩, hs⟩
theorem vec.ofBlk {s b len cap : Nat} {xs spare : List Value} (h1 : xs.length = len * s) (h2 : (cap - len) * s ≤ spare.length) (h3 : len ≤ cap) : ∀ h, blk b (xs ++ spare) h → vec s (.slice (some ⟨b, 0, none⟩) len cap) xs h :=
  fun _ hb => .inr ⟨b, [], spare, len, cap, rfl, h1, h2, h3, by simpa using hb⟩

theorem growBy_le (need : Nat) : ∀ (r c : Nat), c ≤ 2 * need → 256 ≤ c → Builtin.growBy need r c ≤ 2 * need := by
  intro r
  induction r with
  | zero => intro c h _; simpa [Builtin.growBy] using h
  | succ r ih =>
    intro c h hc
    simp only [Builtin.growBy]
    split
    · exact h
    · exact ih _ (by omega) (by omega)
theorem nextslicecap_le (need cap : Nat) (h : cap < need) : Builtin.nextslicecap need cap ≤ 2 * need := by
  unfold Builtin.nextslicecap
  split
  · omega
  · split
    · omega
    · exact growBy_le _ _ _ (by omega) (by omega)

/-- A new value, whatever it is. -/
def New' (Γ : Value → List HP) : Value → List HP → Prop := fun v' Γ' => ∃ x, v' = x ∧ Γ' = Γ x
/-- .. of one cell. -/
def New1 (Γ : Value → List HP) : Value → List HP → Prop := fun v' Γ' => ∃ x, One x ∧ v' = x ∧ Γ' = Γ x
theorem vec.one {s : Nat} {v : Value} {xs : List Value} {h : Heap} (hv : vec s v xs h) : One v := by
  rcases hv with ⟨rfl, _⟩ | ⟨b, pre, spare, len, cap, rfl, _⟩ <;> exact inferInstance
section vecs
variable {P : Program} {n : Nat} {K : Env} {Γ : List HP}

/-- In this memory, 'u' is a slice or a text of 'm' elements with these cells. -/
def Src (P : Program) (Γ : List HP) (s : Nat) (u : Value) (m : Nat) (ys : List Value) : Prop :=
  ys.length = m * s ∧ (∀ v ∈ ys, v.oneCell' = true) ∧ ∀ F w, Holds Γ F w → (Builtin.lenOf u).run P w = .ok m w ∧ ∀ j, j ≤ m → (Builtin.firstCells s j u).run P w = .ok (ys.take (j * s)).toArray w
theorem src_blk {s b o m c : Nat} {l ys : List Value} [fd : FindB Γ b l] (hle : o + m * s ≤ l.length) (hl : (l.drop o).take (m * s) = ys) (h1 : ∀ v ∈ ys, v.oneCell' = true) : Src P Γ s (.slice (some ⟨b, o, none⟩) m c) m ys := by
  have hlen : ys.length = m * s := by rw [← hl]; simp; omega
  refine ⟨hlen, h1, fun F w hh => ?_⟩
  obtain ⟨fr, T, _, hb⟩ := fd.get hh
  refine ⟨rfl, fun j hj => ?_⟩
  have hjs : j * s ≤ m * s := Nat.mul_le_mul_right s hj
  have := run_loadCells_list (P := P) (w := w) ⟨b, o, none⟩ (ys.take (j * s)) (fun i v e => by
    rw [add_none]
    simp only [World.cell?, hb]
    subst hl
    simp only [List.getElem?_take, List.getElem?_drop] at e
    split at e
    · split at e
      · simpa using e
      · cases e
    · cases e)
  rw [show (ys.take (j * s)).length = j * s from by rw [List.length_take, hlen]; omega] at this
  exact this
theorem src_nil {s : Nat} {c : Nat} : Src P Γ s (.slice none 0 c) 0 [] := by
  refine ⟨by simp, by simp, fun F w hh => ⟨rfl, fun j hj => ?_⟩⟩
  simp [Builtin.firstCells]
theorem src_vec {s : Nat} {u : Value} {ys : List Value} {Γ1 : List HP} [t : Take (vec s u ys) Γ Γ1] (h1 : ∀ v ∈ ys, v.oneCell' = true) (hs : 0 < s) : Src P Γ s u (ys.length / s) ys ∨ (∀ F w, ¬ Holds Γ F w) := by
  by_cases hx : ∀ F w, ¬ Holds Γ F w
  · exact .inr hx
  · left
    obtain ⟨F, w, hh⟩ : ∃ F w, Holds Γ F w := by
      rcases Classical.em (∃ F w, Holds Γ F w) with h | h
      · exact h
      · exact (hx fun F w hh => h ⟨F, w, hh⟩).elim
    have key : ∀ F w, Holds Γ F w → (u = .slice none 0 0 ∧ ys = []) ∨ ∃ (b : Nat) (pre spare : List Value) (len cap : Nat), u = .slice (some ⟨b, pre.length, none⟩) len cap ∧ ys.length = len * s ∧ Holds (blk b (pre ++ ys ++ spare) :: Γ1) F w := by
      intro F w hh
      obtain ⟨h, ⟨g1, g2, sp, hv, hr⟩, y⟩ := hh.perm t.perm
      rcases hv with ⟨e1, e2, _⟩ | ⟨b, pre, spare, len, cap, e1, e2, _, _, hb⟩
      · exact .inl ⟨e1, e2⟩
      · exact .inr ⟨b, pre, spare, len, cap, e1, e2, h, ⟨g1, g2, sp, hb, hr⟩, y⟩
    have hlen : ys.length = ys.length / s * s := by
      rcases key F w hh with ⟨_, e2⟩ | ⟨b, pre, spare, len, cap, _, e2, _⟩
      · simp [e2]
      · rw [e2, Nat.mul_div_cancel _ hs]
    refine ⟨hlen, h1, fun F w hh => ?_⟩
    rcases key F w hh with ⟨e1, e2⟩ | ⟨b, pre, spare, len, cap, e1, e2, hb⟩
    · subst e1 e2
      have := (src_nil (P := P) (Γ := Γ) (s := s) (c := 0)).2.2 F w hh
      simpa using this
    · subst e1
      have hl : ys.length / s = len := by rw [e2, Nat.mul_div_cancel _ hs]
      rw [hl]
      exact (src_blk (P := P) (Γ := blk b (pre ++ ys ++ spare) :: Γ1) (b := b) (c := cap) (by simp; omega) (by simp [← e2]) h1).2.2 F w hb
/-- Bytes, as cells. -/
abbrev byteV (b : UInt8) : Value := .int .u8 (b.toNat : Int)
theorem src_str {l : List UInt8} : Src P Γ 1 (str l) l.length (l.map byteV) := by
  refine ⟨by simp, by simp; intro a _; rfl, fun F w hh => ⟨rfl, fun j hj => ?_⟩⟩
  simp only [Builtin.firstCells, Sem.run_pure]
  congr 1
  simp [ByteArray.extract, ByteArray.copySlice, List.map_take]

/-- What may be appended: a slice's elements, a text's bytes. -/
def appB (d : TypeDesc) : Prop := (∃ e, d = .slice e) ∨ d = .string
theorem run_append {s sT xT m by_ : Nat} {e : TypeId} {d : TypeDesc} {ty : TypeId} {v u z : Value} {xs ys zl : List Value} {F : Heap} {w : World} [us : Und P sT (.slice e)] [ux : Und P xT d] [sz : Siz P e s] [bb : Byt P e by_] [zz : Zer P e z zl]
    (hd : appB d) (hzl : zl.length = s)
    (hh : Holds (vec s v xs :: Γ) F w) (hs : Src P Γ s u m ys) (hb : (xs.length + ys.length) * by_ ≤ 140737488355328 * s) (hs0 : 0 < s) (hb0 : 0 < by_) :
    ∃ v' w', (Builtin.append_ #[sT, xT] ty #[v, u]).run P w = .ok v' w' ∧ Holds (vec s v' (xs ++ ys) :: Γ) F w' ∧ Keep w w' := by
  obtain ⟨hylen, hone, hrun⟩ := hs
  obtain ⟨i, hi, hby⟩ := bb.eq
  obtain ⟨hlen, hfirst⟩ := hrun F w hh.tail
  -- what the slice is
  have hcase : ∃ base len cap, v = .slice base len cap ∧ xs.length = len * s := by
    obtain ⟨h, ⟨g1, g2, sp, hv, hr⟩, y⟩ := hh
    rcases hv with ⟨e1, e2, _⟩ | ⟨b, pre, spare, len, cap, e1, e2, _, _, hb⟩
    · exact ⟨none, 0, 0, e1, by simp [e2]⟩
    · exact ⟨_, len, cap, e1, e2⟩
  obtain ⟨base, len, cap, rfl, hxlen⟩ := hcase
  have hnew : ∀ w', (∀ F, Holds Γ F w' → True) → Holds Γ F w' → (Builtin.firstCells s m u).run P w' = .ok ys.toArray w' := by
    intro w' _ hw'
    have := (hrun F w' hw').2 m (Nat.le_refl _)
    rwa [← hylen, List.take_length] at this
  by_cases hfit : len + m ≤ cap
  · -- there is room
    have hroom : ∃ w', (match base with | some a => storeCells (a.add (len * s)) ys | none => Pure.pure () : Sem Unit).run P w = .ok () w' ∧ Holds (vec s (.slice base (len + m) cap) (xs ++ ys) :: Γ) F w' ∧ Keep w w' := by
      obtain ⟨h, ⟨g1, g2, sp, hv, hr⟩, y⟩ := hh
      rcases hv with ⟨e1, e2, en⟩ | ⟨b, pre, spare, len', cap', e1, e2, e3, e4, hb⟩
      · injection e1 with q1 q2 q3
        subst q1 q2 q3
        have hm : m = 0 := by omega
        subst hm
        have hy : ys = [] := by simpa using hylen
        subst hy
        exact ⟨w, rfl, ⟨h, ⟨g1, g2, sp, .inl ⟨rfl, by simp [e2], en⟩, hr⟩, y⟩, Keep.refl w⟩
      · injection e1 with q1 q2 q3
        subst q1 q2 q3
        have hblk : Holds (blk b (pre ++ xs ++ spare) :: Γ) F w := ⟨h, ⟨g1, g2, sp, hb, hr⟩, y⟩
        have hysp : ys.length ≤ spare.length := by
          refine Nat.le_trans ?_ e3
          rw [hylen]; exact Nat.mul_le_mul_right s (by omega)
        have hspl : splice (pre ++ xs ++ spare) (pre.length + len * s) ys = pre ++ (xs ++ ys) ++ spare.drop ys.length := by
          simp only [splice]
          rw [show pre.length + len * s = (pre ++ xs).length from by simp [hxlen]]
          rw [List.take_left, List.drop_append, List.drop_eq_nil_of_le (by omega)]
          simp
        have hu : UpdB (blk b (pre ++ xs ++ spare) :: Γ) b (pre ++ xs ++ spare) (splice (pre ++ xs ++ spare) (pre.length + len * s) ys) (blk b (pre ++ (xs ++ ys) ++ spare.drop ys.length) :: Γ) := by
          rw [hspl]; exact UpdB.here
        obtain ⟨w', hr', hh', kp⟩ := storeCells_put (P := P) hu hblk (by simp only [List.length_append]; omega) hone
        refine ⟨w', by simpa [add_none] using hr', ?_, kp⟩
        obtain ⟨h2, ⟨k1, k2, sp2, hb2, hr2⟩, y2⟩ := hh'
        refine ⟨h2, ⟨k1, k2, sp2, .inr ⟨b, pre, spare.drop ys.length, len + m, cap, rfl, by rw [List.length_append, hxlen, hylen, Nat.add_mul], ?_, hfit, hb2⟩, hr2⟩, y2⟩
        simp only [List.length_drop]
        have e5 : (cap - len) * s = (cap - (len + m)) * s + m * s := by rw [← Nat.add_mul]; congr 1; omega
        omega
    obtain ⟨w', hr', hh', kp⟩ := hroom
    refine ⟨_, w', ?_, hh', kp⟩
    have h1 := hnew w (fun _ _ => trivial) hh.tail
    rcases hd with ⟨e', rfl⟩ | rfl
    all_goals
      simp only [Builtin.append_, List.getElem?_toArray, List.getElem?_cons_zero, List.getElem?_cons_succ, Sem.run_bind, run_underlying' us.eq, run_underlying' ux.eq, Result.andThen_ok, sz.eq, Sem.run_pure, Bool.false_eq_true, if_false, hlen]
      rw [if_pos hfit]
      cases base with
      | none =>
        simp only [Sem.run_bind, Bool.not_false, if_true, h1, Result.andThen_ok, Sem.run_pure] at hr' ⊢
        injection hr' with _ e2
        rw [e2]
      | some a =>
        simp only [Sem.run_bind, Bool.not_false, if_true, h1, Result.andThen_ok, hr', Sem.run_pure]
  · -- a new array
    have hneed : xs.length + ys.length = (len + m) * s := by rw [hxlen, hylen, Nat.add_mul]
    have hbound : (len + m) * by_ ≤ 140737488355328 := by
      rw [hneed] at hb
      have : (len + m) * by_ * s ≤ 140737488355328 * s := by
        rw [Nat.mul_assoc, Nat.mul_comm by_ s, ← Nat.mul_assoc]; exact hb
      exact Nat.le_of_mul_le_mul_right this hs0
    have hcap : ¬ (Builtin.nextslicecap (len + m) cap * i.bytes > 2 ^ 48) := by
      have h1 := nextslicecap_le (len + m) cap (by omega)
      have h2 : Builtin.nextslicecap (len + m) cap * i.bytes ≤ 2 * (len + m) * i.bytes := Nat.mul_le_mul_right _ h1
      rw [hby] at h2 ⊢
      rw [Nat.mul_assoc] at h2
      omega
    have hold : ∀ w', Holds (vec s (.slice base len cap) xs :: Γ) F w' → (Builtin.firstCells s len (.slice base len cap)).run P w' = .ok xs.toArray w' := by
      intro w' hh
      obtain ⟨h, ⟨g1, g2, sp, hv, hr⟩, y⟩ := hh
      rcases hv with ⟨e1, e2, en⟩ | ⟨b, pre, spare, len', cap', e1, e2, e3, e4, hb'⟩
      · injection e1 with q1 q2 q3
        subst q1 q2 q3
        simp [Builtin.firstCells, e2]
      · injection e1 with q1 q2 q3
        subst q1 q2 q3
        have hblk : Holds (blk b (pre ++ xs ++ spare) :: Γ) F w' := ⟨h, ⟨g1, g2, sp, hb', hr⟩, y⟩
        obtain ⟨fr, T, _, hbb⟩ := hblk.ofBlk
        have := run_loadCells_list (P := P) (w := w') ⟨b, pre.length, none⟩ xs (fun j v e => by
          rw [add_none]
          simp only [World.cell?, hbb]
          have hj : j < xs.length := by
            rcases Nat.lt_or_ge j xs.length with q | q
            · exact q
            · simp [List.getElem?_eq_none q] at e
          simp [List.getElem?_append, hj]
          simpa [hj] using e)
        rw [hxlen] at this
        exact this
    let nc := (Question.appendCap (len + m) cap e).cut (w.tape w.drawn (.appendCap (len + m) cap e))
    have hcap0 : len + m ≤ nc := by simp only [nc, Question.cut]; omega
    let w1 : World := { w with drawn := w.drawn + 1 }
    have hh1 : Holds (vec s (.slice base len cap) xs :: Γ) F w1 := hh.same rfl
    let zs := (Builtin.zeroCells zl.toArray (nc - (len + m))).toList
    have hzs : zs.length = (nc - (len + m)) * s := by simp [zs, Builtin.zeroCells, hzl]
    have hN := Holds.newBlk (T := e) (l := xs ++ ys ++ zs) hh1.tail
    refine ⟨.slice (some ⟨w.heap.size, 0, none⟩) (len + m) nc, { w1 with heap := w1.heap.push (.cells (xs ++ ys ++ zs).toArray e (0, 0)) }, ?_, ?_, ⟨rfl, rfl, by simp [w1]⟩⟩
    · have h1 := hnew w1 (fun _ _ => trivial) hh1.tail
      have h2 := hold w1 hh1
      have hf : (Question.appendCap (len + m) cap e).forced = false := rfl
      rcases hd with ⟨e', rfl⟩ | rfl
      all_goals
        simp only [Builtin.append_, List.getElem?_toArray, List.getElem?_cons_zero, List.getElem?_cons_succ, Sem.run_bind, run_underlying' us.eq, run_underlying' ux.eq, Result.andThen_ok, sz.eq, Sem.run_pure, Bool.false_eq_true, if_false, hlen]
        rw [if_neg hfit]
        simp only [Sem.run_bind, run_typeInfo' hi, Result.andThen_ok]
        rw [if_neg (by rw [hby]; simp; omega)]
        simp only [Sem.run_bind, run_typeInfo' hi, Result.andThen_ok]
        rw [if_neg hcap]
        simp only [Sem.run_bind, Result.andThen_ok, run_typeInfo' hi, run_choose, hf, Bool.false_eq_true, if_false, run_askRoom, Bool.not_false, if_true, zz.eq, newRow, run_newObj, Sem.run_pure]
        rw [show (Sem.run P (Builtin.firstCells s len (.slice base len cap)) { w with drawn := w.drawn + 1 }) = .ok xs.toArray w1 from h2]
        simp only [Result.andThen_ok]
        rw [show (Sem.run P (Builtin.firstCells s m u) w1) = .ok ys.toArray w1 from h1]
        simp only [Result.andThen_ok, zz.cells]
        congr 4
        simp [zs, nc]
    · obtain ⟨h2, ⟨k1, k2, sp2, hb2, hr2⟩, y2⟩ := hN
      exact ⟨h2, ⟨k1, k2, sp2, vec.ofBlk (by rw [List.length_append, hneed]) (by rw [hzs]; exact Nat.le_refl _) hcap0 _ hb2, hr2⟩, y2⟩
/-- 'append(v, u...)': what 'u' is, by 'Src' of the other parts. -/
theorem l_app {s sT xT m by_ : Nat} {e : TypeId} {d : TypeDesc} {x y : Operand} {v u z : Value} {xs ys zl : List Value} {Γ1 : List HP} [us : Und P sT (.slice e)] [ux : Und P xT d] [sz : Siz P e s] [bb : Byt P e by_] [zz : Zer P e z zl]
    (hx : ev K x = some v) (hy : ev K y = some u) [t : Take (vec s v xs) Γ Γ1] (hs : Src P Γ1 s u m ys) (hd : appB d) (hzl : zl.length = s) (hb : (xs.length + ys.length) * by_ ≤ 140737488355328 * s) (hs0 : 0 < s) (hb0 : 0 < by_) :
    LOp P n K Γ (.call ⟨.builtin .append, #[x, y], #[sT, xT]⟩) (New1 fun v' => vec s v' (xs ++ ys) :: Γ1) :=
  .of_value fun F a w ty ha hh => by
    obtain ⟨v', w', hr, hh', kp⟩ := run_append (P := P) (sT := sT) (xT := xT) (ty := ty) hd hzl (hh.perm t.perm) hs hb hs0 hb0
    refine ⟨v', w', _, ?_, ⟨v', (let ⟨_, hv, _⟩ := hh'.head; vec.one hv), rfl, rfl⟩, hh', kp⟩
    obtain ⟨cs, hres⟩ : ∃ cs, (resolve a.eval ⟨.builtin .append, #[x, y], #[sT, xT]⟩ ty) = Pure.pure { target := .builtin .append #[sT, xT] ty cs, args := #[v, u] } :=
      ⟨_, by simp only [resolve, List.map_toArray, List.map_cons, List.map_nil, ha.ev hx, ha.ev hy]; rfl⟩
    simp only [execOp, hres, invoke, builtin, Sem.run_bind, Sem.run_pure, Result.andThen_ok, hr]
/-- 'copy(dst, u)' into a block. -/
theorem l_copy {s sT xT m b o dl dc k : Nat} {e : TypeId} {x y : Operand} {u : Value} {l ys : List Value} {Γ' : List HP} (l' : List Value) [us : Und P sT (.slice e)] [sz : Siz P e s]
    (hx : ev K x = some (.slice (some ⟨b, o, none⟩) dl dc)) (hy : ev K y = some u) (hs : Src P Γ s u m ys) [up : UpdB Γ b l l' Γ'] (hk : Nat.min m dl = k) (hle : o + k * s ≤ l.length) (hl : splice l o (ys.take (k * s)) = l') :
    LOp P n K Γ (.call ⟨.builtin .copy, #[x, y], #[sT, xT]⟩) (Is (.int .i64 (k : Int)) Γ') :=
  .of_value fun F a w ty ha hh => by
    obtain ⟨hylen, hone, hrun⟩ := hs
    obtain ⟨h1, h2⟩ := hrun F w hh
    have hkm : k ≤ m := by rw [← hk]; exact Nat.min_le_left _ _
    have hks : k * s ≤ m * s := Nat.mul_le_mul_right s hkm
    have htl : (ys.take (k * s)).length = k * s := by rw [List.length_take, hylen]; omega
    have hu : UpdB Γ b l (splice l o (ys.take (k * s))) Γ' := by rw [hl]; exact up
    obtain ⟨w', hr, hh', kp⟩ := storeCells_put (P := P) hu hh (by rw [htl]; exact hle) (fun v hv => hone v (List.mem_of_mem_take hv))
    refine ⟨_, w', _, ?_, ⟨rfl, rfl⟩, hh', kp⟩
    obtain ⟨cs, hres⟩ : ∃ cs, (resolve a.eval ⟨.builtin .copy, #[x, y], #[sT, xT]⟩ ty) = Pure.pure { target := .builtin .copy #[sT, xT] ty cs, args := #[.slice (some ⟨b, o, none⟩) dl dc, u] } :=
      ⟨_, by simp only [resolve, List.map_toArray, List.map_cons, List.map_nil, ha.ev hx, ha.ev hy]; rfl⟩
    simp only [execOp, hres, invoke, builtin, Sem.run_bind, Sem.run_pure, Result.andThen_ok, Builtin.copy_, List.getElem?_toArray, List.getElem?_cons_zero, List.getElem?_cons_succ, run_underlying' us.eq, h1, hk, sz.eq, h2 k hkm, hr, goInt]
/-- 'make([]T, m, c)'. -/
theorem l_mks {t e : TypeId} {x y : Operand} {m c s by_ : Nat} {k k' : IntKind} {z z0 : Value} {zl : List Value} [us : Und P t (.slice e)] [sz : Siz P e s] [bb : Byt P e by_] [zz : Zer P e z zl] (hx : ev K x = some (.int k (m : Int))) (hy : ev K y = some (.int k' (c : Int)))
    (hmc : m ≤ c) (hc : by_ * c ≤ 281474976710656) (hc2 : c ≤ 9223372036854775807) (hs : 0 < s) (hz : zl = List.replicate s z0) : LOp P n K Γ (.makeSlice t x y) (New (fun r => .slice (some ⟨r, 0, none⟩) m c) fun r => blk r (List.replicate (c * s) z0) :: Γ) :=
  .of_value fun F a w ty ha hh => by
    obtain ⟨i, hi, hby⟩ := bb.eq
    have hm1 : IntKind.i64.wrap (m : Int) = m := wrapI (by omega)
    have hc1 : IntKind.i64.wrap (c : Int) = c := wrapI (by omega)
    refine ⟨_, { w with heap := w.heap.push (.cells (List.replicate (c * s) z0).toArray e (0, 0)) }, _, ?_, ⟨w.heap.size, rfl, rfl⟩, Holds.newBlk (T := e) hh, Keep.alloc _ _⟩
    have hcond : ((decide ((c : Int) < 0) || decide ((i.bytes : Int) * (c : Int) > 2 ^ 48)) = true ∨ (m : Int) < 0) ∨ (m : Int) > c ↔ False := by
      constructor
      · rintro ((h | h) | h)
        · simp only [Bool.or_eq_true, decide_eq_true_eq] at h
          rcases h with h | h
          · omega
          · rw [hby] at h
            have h1 : (by_ : Int) * (c : Int) ≤ 281474976710656 := by
              rw [← Int.natCast_mul]; omega
            have h2 : ((2 : Int) ^ 48) = 281474976710656 := rfl
            rw [h2] at h; omega
        · omega
        · omega
      · exact False.elim
    have hcells : ((Array.range (c * s)).map fun i => (z.cells[i % z.cells.size]!)) = (List.replicate (c * s) z0).toArray := by
      rw [zz.cells, hz]
      apply Array.ext
      · simp
      · intro j h1 h2
        have : j % s < s := Nat.mod_lt _ hs
        simp [this]
    simp only [execOp, Instr.makeSlice, ha.ev hx, ha.ev hy, Sem.run_bind, run_underlying' us.eq, Result.andThen_ok, asInt, asIntOf, Sem.run_pure, run_typeInfo' hi, hm1, hc1]
    rw [if_neg (fun h => hcond.1 (by simpa only [Bool.or_eq_true, decide_eq_true_eq] using h))]
    simp only [Sem.run_bind, Result.andThen_ok, run_askRoom, sz.eq, Int.toNat_natCast]
    by_cases h0 : c * s = 0
    · have hc0 : c = 0 := by
        rcases Nat.mul_eq_zero.1 h0 with h | h
        · exact h
        · omega
      subst hc0
      simp only [Nat.zero_mul, if_true, Sem.run_pure, Sem.run_bind, Result.andThen_ok, newRow, run_newObj, List.replicate_zero]
      have e0 : ∀ f : Nat → Value, (Array.range 0).map f = #[] := fun f => by apply Array.ext <;> simp
      rw [e0]
    · rw [if_neg h0]
      simp only [Sem.run_bind, zz.eq, Result.andThen_ok, Sem.run_pure, hcells, newRow, run_newObj]
theorem run_bytes_loop (f : Value → ByteArray → Sem (ForInStep ByteArray)) (hf : ∀ b s, f (byteV b) s = Pure.pure (.yield (s.push (UInt8.ofNat (b.toNat : Int).toNat)))) (bs acc : List UInt8) (w : World) :
    (forIn (m := Sem) (bs.map byteV).toArray (⟨⟨acc⟩⟩ : ByteArray) f).run P w = .ok ⟨⟨acc ++ bs⟩⟩ w := by
  rw [List.forIn_toArray]
  induction bs generalizing acc with
  | nil => simp
  | cons b bs ih =>
    simp only [List.map_cons, List.forIn_cons, hf, Sem.run_bind, Sem.run_pure, Result.andThen_ok]
    have e : ((⟨⟨acc⟩⟩ : ByteArray).push (UInt8.ofNat (b.toNat : Int).toNat)) = ⟨⟨acc ++ [b]⟩⟩ := by
      simp [ByteArray.push]
    rw [e, ih (acc ++ [b])]
    simp
/-- 'string(b)'. -/
theorem q_b2s {sT dT e : TypeId} {x : Operand} {m : Nat} {bs : List UInt8} {u : Value} [us : Und P sT (.slice e)] [ue : Und P e (.int .u8)] [ud : Und P dT .string] (hx : ev K x = some u) (hs : Src P Γ 1 u m (bs.map byteV)) (hu : (∃ c, u = .slice none 0 c) ∨ ∃ b o l c, u = .slice (some ⟨b, o, none⟩) l c) :
    QOp P n K Γ (.convert sT dT x) (str bs) := fun F a w ty ha hh => by
  obtain ⟨hylen, hone, hrun⟩ := hs
  obtain ⟨h1, h2⟩ := hrun F w hh
  have h3 := h2 m (Nat.le_refl _)
  rw [List.take_of_length_le (by rw [hylen]; exact Nat.le_refl _)] at h3
  simp only [execOp, ha.ev hx, convert, Sem.run_bind, run_underlying' us.eq, run_underlying' ud.eq, Result.andThen_ok]
  rcases hu with ⟨c, rfl⟩ | ⟨b, o, l, c, rfl⟩
  · have hm : m = 0 := by
      simp only [Builtin.lenOf, Sem.run_pure] at h1
      injection h1 with h1 _; exact h1.symm
    subst hm
    have hb : bs = [] := by simpa using hylen
    subst hb
    simp only [Sem.run_bind, run_underlying' ue.eq, Result.andThen_ok, Conv.bytesToString, Sem.run_pure]
    rfl
  · have hl : l = m := by
      simp only [Builtin.lenOf, Sem.run_pure] at h1
      injection h1
    subst hl
    simp only [Builtin.firstCells, Nat.mul_one] at h3
    simp only [Sem.run_bind, run_underlying' ue.eq, Result.andThen_ok, Conv.bytesToString, h3, Sem.run_pure]
    rw [show (ByteArray.empty) = (⟨⟨[]⟩⟩ : ByteArray) from rfl, run_bytes_loop _ (fun _ _ => rfl)]
    simp
/-- '[]byte(s)'. -/
theorem l_s2b {sT dT e : TypeId} {x : Operand} {bs : List UInt8} [us : Und P sT .string] [ud : Und P dT (.slice e)] [ue : Und P e (.int .u8)] (hx : ev K x = some (str bs)) :
    LOp P n K Γ (.convert sT dT x) (New1 fun v' => vec 1 v' (bs.map byteV) :: Γ) :=
  .of_value fun F a w ty ha hh => by
    let nc := (Question.appendCap bs.length 0 e).cut (w.tape w.drawn (.appendCap bs.length 0 e))
    have hcap0 : bs.length ≤ nc := by simp only [nc, Question.cut]; omega
    let w1 : World := { w with drawn := w.drawn + 1 }
    let cells := bs.map byteV ++ List.replicate (nc - bs.length) (Value.int .u8 0)
    let w2 : World := { w1 with heap := w1.heap.push (.cells cells.toArray e (0, 0)) }
    let w3 : World := w2.freeze ⟨w.heap.size, cells.length, none⟩ 1
    have hshape : w2.shape? w.heap.size = some (e, cells.length) := by simp [World.shape?, w2, w1]
    have hh1 : Holds (pt w.heap.size (.cells cells.toArray e (0, 0)) :: Γ) F w2 := (hh.same (w' := w1) rfl).new _
    have hh3 : Holds (pt w.heap.size (.cells cells.toArray e (cells.length, cells.length + 1)) :: Γ) F w3 := by
      refine hh1.write ?_ ?_
      · simp [w3, w2, w1, World.freeze, Array.getElem_modify]
      · intro c hc
        simp [w3, World.freeze, Array.getElem?_modify, Ne.symm hc]
    have hh4 : Holds (blk w.heap.size cells :: Γ) F w3 := hh3.reblk (fun o ho => by simp; omega)
    refine ⟨.slice (some ⟨w.heap.size, 0, none⟩) bs.length nc, w3, _, ?_, ⟨_, inferInstance, rfl, rfl⟩, ?_, ⟨rfl, rfl, by simp [w3, w2, w1, World.freeze]⟩⟩
    · have hf : (Question.appendCap bs.length 0 e).forced = false := rfl
      simp only [execOp, ha.ev hx, convert, Sem.run_bind, run_underlying' us.eq, run_underlying' ud.eq, run_underlying' ue.eq, Result.andThen_ok, Conv.stringToBytes, run_choose, str_size, hf, Bool.false_eq_true, if_false, newRow, run_newObj, markStringish, run_shape, Sem.run_pure]
      have ec : (Array.map (fun b => Value.int .u8 (b.toNat : Int)) (⟨bs⟩ : Array UInt8) ++ Array.replicate (nc - bs.length) (Value.int .u8 0)) = cells.toArray := by
        simp [cells]
      have e2 : ({ heap := w.heap.push (.cells (Array.map (fun b => Value.int .u8 (b.toNat : Int)) (⟨bs⟩ : Array UInt8) ++ Array.replicate (nc - bs.length) (Value.int .u8 0)) e (0, 0)), tape := w.tape, drawn := w.drawn + 1, os := w.os, output := w.output } : World) = w2 := by rw [ec]
      rw [e2, hshape]
      simp only [run_freeze, Result.andThen_ok]
      rfl
    · obtain ⟨h2, ⟨k1, k2, sp2, hb2, hr2⟩, y2⟩ := hh4
      exact ⟨h2, ⟨k1, k2, sp2, vec.ofBlk (by simp) (by simp) hcap0 _ hb2, hr2⟩, y2⟩

/-! #### slicing -/
/-- 's[lo:hi]' of a text. -/
theorem q_slS {t : TypeId} {x y u : Operand} {l : List UInt8} {lo hi : Nat} {k k' : IntKind} [us : Und P t .string] (hx : ev K x = some (str l)) (hlo : ev K y = some (.int k (lo : Int))) (hhi : ev K u = some (.int k' (hi : Int))) (h1 : lo ≤ hi) (h2 : hi ≤ l.length) :
    QOp P n K Γ (.slice t x (some y) (some u) none) (str ((l.drop lo).take (hi - lo))) := fun F a w ty ha hh => by
  have e : (⟨⟨l⟩⟩ : ByteArray).extract lo hi = ⟨⟨(l.drop lo).take (hi - lo)⟩⟩ := by
    apply ByteArray.ext; simp
  simp [execOp, ha.ev hx, ha.ev hlo, ha.ev hhi, Instr.sliceAt, Instr.slice, run_underlying' us.eq, Instr.sliceBounds, Instr.sliceBound, asIntOf, str_size, h1, h2, e]
theorem q_slS1 {t : TypeId} {x y : Operand} {l : List UInt8} {lo : Nat} {k : IntKind} [us : Und P t .string] (hx : ev K x = some (str l)) (hlo : ev K y = some (.int k (lo : Int))) (h2 : lo ≤ l.length) :
    QOp P n K Γ (.slice t x (some y) none none) (str (l.drop lo)) := fun F a w ty ha hh => by
  have e : (⟨⟨l⟩⟩ : ByteArray).extract lo l.length = ⟨⟨l.drop lo⟩⟩ := by
    apply ByteArray.ext; simp [← List.length_drop]
  simp [execOp, ha.ev hx, ha.ev hlo, Instr.sliceAt, Instr.slice, run_underlying' us.eq, Instr.sliceBounds, Instr.sliceBound, asIntOf, str_size, h2, e]
theorem q_slS2 {t : TypeId} {x u : Operand} {l : List UInt8} {hi : Nat} {k' : IntKind} [us : Und P t .string] (hx : ev K x = some (str l)) (hhi : ev K u = some (.int k' (hi : Int))) (h2 : hi ≤ l.length) :
    QOp P n K Γ (.slice t x none (some u) none) (str (l.take hi)) := fun F a w ty ha hh => by
  have e : (⟨⟨l⟩⟩ : ByteArray).extract 0 hi = ⟨⟨l.take hi⟩⟩ := by
    apply ByteArray.ext; simp
  simp [execOp, ha.ev hx, ha.ev hhi, Instr.sliceAt, Instr.slice, run_underlying' us.eq, Instr.sliceBounds, Instr.sliceBound, asIntOf, str_size, h2, e]
/-- 'a[:]', 'a[lo:]' of an array that a pointer leads to (lo below its length). -/
theorem q_slA {t e : TypeId} {x : Operand} {b o N s : Nat} [us : Und P t (.array N e)] [sz : Siz P e s] (hx : ev K x = some (.pointer (some ⟨b, o, none⟩))) :
    QOp P n K Γ (.slice t x none none none) (.slice (some ⟨b, o, none⟩) N N) := fun F a w ty ha hh => by
  simp [execOp, ha.ev hx, Instr.sliceAt, Instr.sureAddr, run_underlying' us.eq, Instr.sliceBounds, sz.eq]
  intro h; simp [add_none]
theorem q_slA1 {t e : TypeId} {x y : Operand} {b o N s lo : Nat} {k : IntKind} [us : Und P t (.array N e)] [sz : Siz P e s] (hx : ev K x = some (.pointer (some ⟨b, o, none⟩))) (hlo : ev K y = some (.int k (lo : Int))) (h : lo < N) :
    QOp P n K Γ (.slice t x (some y) none none) (.slice (some ⟨b, o + lo * s, none⟩) (N - lo) (N - lo)) := fun F a w ty ha hh => by
  have h1 : lo ≤ N := by omega
  have h2 : ¬ N = lo := by omega
  simp [execOp, ha.ev hx, ha.ev hlo, Instr.sliceAt, Instr.sureAddr, run_underlying' us.eq, Instr.sliceBounds, Instr.sliceBound, asIntOf, sz.eq, h1, h2, add_none]
/-- 'v[lo:hi]' of a slice, lo below the capacity. -/
theorem q_sl {t e : TypeId} {x y u : Operand} {b o len cap s lo hi : Nat} {k k' : IntKind} [us : Und P t (.slice e)] [sz : Siz P e s] (hx : ev K x = some (.slice (some ⟨b, o, none⟩) len cap)) (hlo : ev K y = some (.int k (lo : Int))) (hhi : ev K u = some (.int k' (hi : Int))) (h1 : lo ≤ hi) (h2 : hi ≤ cap) (h : lo < cap) :
    QOp P n K Γ (.slice t x (some y) (some u) none) (.slice (some ⟨b, o + lo * s, none⟩) (hi - lo) (cap - lo)) := fun F a w ty ha hh => by
  have h3 : ¬ cap = lo := by omega
  simp [execOp, ha.ev hx, ha.ev hlo, ha.ev hhi, Instr.sliceAt, Instr.slice, run_underlying' us.eq, Instr.sliceBounds, Instr.sliceBound, asIntOf, sz.eq, h1, h2, h3, add_none]
theorem q_sl1 {t e : TypeId} {x y : Operand} {b o len cap s lo : Nat} {k : IntKind} [us : Und P t (.slice e)] [sz : Siz P e s] (hx : ev K x = some (.slice (some ⟨b, o, none⟩) len cap)) (hlo : ev K y = some (.int k (lo : Int))) (h1 : lo ≤ len) (h : lo < cap) :
    QOp P n K Γ (.slice t x (some y) none none) (.slice (some ⟨b, o + lo * s, none⟩) (len - lo) (cap - lo)) := fun F a w ty ha hh => by
  have h3 : ¬ cap = lo := by omega
  simp [execOp, ha.ev hx, ha.ev hlo, Instr.sliceAt, Instr.slice, run_underlying' us.eq, Instr.sliceBounds, Instr.sliceBound, asIntOf, sz.eq, h1, h3, add_none]
theorem q_sl2 {t e : TypeId} {x u : Operand} {p : Option Addr} {len cap s hi : Nat} {k' : IntKind} [us : Und P t (.slice e)] [sz : Siz P e s] (hx : ev K x = some (.slice p len cap)) (hhi : ev K u = some (.int k' (hi : Int))) (h2 : hi ≤ cap) (hp : ∀ a, p = some a → a.spot = none) :
    QOp P n K Γ (.slice t x none (some u) none) (.slice p hi cap) := fun F a w ty ha hh => by
  simp [execOp, ha.ev hx, ha.ev hhi, Instr.sliceAt, Instr.slice, run_underlying' us.eq, Instr.sliceBounds, Instr.sliceBound, asIntOf, sz.eq, h2]
  intro _
  cases p with
  | none => rfl
  | some q => simp [Addr.add]
end vecs
end Go.Sl
