/- The library's sort of texts, and the keys of a map collected, as contracts of the logic. -/
import Derived.Test.YtgilhenjoinhhaaVRv
import Derived.Test.YtgilhenjoinhhaaVKy
import Derived.Shelf.Sort.Plain
import Derived.Shelf.Slices.In.SortNone
import Derived.KernelRfl
set_option linter.unusedVariables false
set_option linter.unusedSimpArgs false
namespace Go.Sl
open Go.Proofs Go.Shelf
/-- Which numbers the sort's functions and types have here. -/
def sortRen : Ren where
  f := fun x => match x with | 190 => 61 | 125 => 66 | 258 => 65 | 128 => 76 | 129 => 77 | 302 => 67 | 303 => 68 | 304 => 69 | 305 => 70 | 306 => 71 | 307 => 72 | 308 => 73 | 309 => 74 | 310 => 75 | 333 => 78 | 329 => 79 | 330 => 80 | 334 => 81 | 335 => 82 | 336 => 83 | 344 => 84 | n => n
  t := fun x => match x with | 31 => 42 | 9 => 9 | 3 => 3 | 46 => 104 | 0 => 0 | 51 => 83 | 53 => 114 | 4 => 4 | 183 => 107 | 182 => 106 | 131 => 71 | 5 => 5 | 218 => 115 | 222 => 119 | 228 => 121 | 229 => 122 | n => n
  g := fun x => x
/-- The library's sort of texts lies in this program. -/
theorem sortLaid : Lays.n190 Try.prog sortRen :=
  { mixed := by kernel_rfl,
    f125 := Try.func66.trans (by kernel_rfl),
    f128 := Try.func76.trans (by kernel_rfl),
    f129 := Try.func77.trans (by kernel_rfl),
    f190 := Try.func61.trans (by kernel_rfl),
    f258 := Try.func65.trans (by kernel_rfl),
    f302 := Try.func67.trans (by kernel_rfl),
    f303 := Try.func68.trans (by kernel_rfl),
    f304 := Try.func69.trans (by kernel_rfl),
    f305 := Try.func70.trans (by kernel_rfl),
    f306 := Try.func71.trans (by kernel_rfl),
    f307 := Try.func72.trans (by kernel_rfl),
    f308 := Try.func73.trans (by kernel_rfl),
    f309 := Try.func74.trans (by kernel_rfl),
    f310 := Try.func75.trans (by kernel_rfl),
    f329 := Try.func79.trans (by kernel_rfl),
    f330 := Try.func80.trans (by kernel_rfl),
    f333 := Try.func78.trans (by kernel_rfl),
    f334 := Try.func81.trans (by kernel_rfl),
    f335 := Try.func82.trans (by kernel_rfl),
    f336 := Try.func83.trans (by kernel_rfl),
    f344 := Try.func84.trans (by kernel_rfl),
    t0 := Try.underlying0,
    a0 := Try.isAgg0,
    z0 := Try.sizeOf0,
    v0 := Try.zeroValue0,
    t3 := Try.underlying3,
    a3 := Try.isAgg3,
    z3 := Try.sizeOf3,
    v3 := Try.zeroValue3,
    t4 := Try.underlying4,
    a4 := Try.isAgg4,
    z4 := Try.sizeOf4,
    v4 := Try.zeroValue4,
    t5 := Try.underlying5,
    a5 := Try.isAgg5,
    z5 := Try.sizeOf5,
    v5 := Try.zeroValue5,
    t9 := Try.underlying9,
    a9 := Try.isAgg9,
    z9 := Try.sizeOf9,
    v9 := Try.zeroValue9,
    t31 := Try.underlying42,
    a31 := Try.isAgg42,
    z31 := Try.sizeOf42,
    v31 := Try.zeroValue42,
    t46 := Try.underlying104,
    a46 := Try.isAgg104,
    z46 := Try.sizeOf104,
    v46 := Try.zeroValue104,
    t51 := Try.underlying83,
    a51 := Try.isAgg83,
    z51 := Try.sizeOf83,
    v51 := Try.zeroValue83,
    t53 := Try.underlying114,
    a53 := Try.isAgg114,
    z53 := Try.sizeOf114,
    v53 := Try.zeroValue114,
    t131 := Try.underlying71,
    a131 := Try.isAgg71,
    z131 := Try.sizeOf71,
    v131 := Try.zeroValue71,
    t182 := Try.underlying106,
    a182 := Try.isAgg106,
    z182 := Try.sizeOf106,
    v182 := Try.zeroValue106,
    t183 := Try.underlying107,
    a183 := Try.isAgg107,
    z183 := Try.sizeOf107,
    v183 := Try.zeroValue107,
    t218 := Try.underlying115,
    a218 := Try.isAgg115,
    z218 := Try.sizeOf115,
    v218 := Try.zeroValue115,
    t222 := Try.underlying119,
    a222 := Try.isAgg119,
    z222 := Try.sizeOf119,
    v222 := Try.zeroValue119,
    t228 := Try.underlying121,
    a228 := Try.isAgg121,
    z228 := Try.sizeOf121,
    v228 := Try.zeroValue121,
    t229 := Try.underlying122,
    a229 := Try.isAgg122,
    z229 := Try.sizeOf122,
    v229 := Try.zeroValue122 }
end Go.Sl
namespace Go.Sl
open Go.Proofs

/-- Old blocks as they were. -/
theorem Holds.older {Γ : List HP} {F : Heap} {w w' : World} (h : Holds Γ F w) (hb : ∀ k, k < w.heap.size → w'.heap[k]? = w.heap[k]?) : Holds Γ F w' := by
  obtain ⟨g, s, r, f, a⟩ := h
  have hs : sub (hp w) (hp w') := fun b o e => by
    simp only [hp] at e ⊢
    rw [hb b (Array.getElem?_eq_some_iff.1 e).1]; exact e
  exact ⟨g, s, r.trans hs, f.trans hs, a⟩
/-- .. and one more. -/
theorem Holds.add {Γ : List HP} {F : Heap} {w w' : World} {g : Nat} {o : Obj} (h : Holds Γ F w) (hb : ∀ k, k < w.heap.size → w'.heap[k]? = w.heap[k]?) (hg : w.heap.size ≤ g) (ho : w'.heap[g]? = some o) : Holds (Sl.pt g o :: Γ) F w' := by
  obtain ⟨h, s, r, f, a⟩ := h
  have hs : sub (hp w) (hp w') := fun b o e => by
    simp only [hp] at e ⊢
    rw [hb b (Array.getElem?_eq_some_iff.1 e).1]; exact e
  have hn : ∀ k : Heap, sub k (hp w) → k g = none := fun k hk => by
    cases e : k g with
    | none => rfl
    | some x =>
      have := hk _ _ e
      simp only [hp] at this
      have := (Array.getElem?_eq_some_iff.1 this).1
      omega
  refine ⟨fun c => if c = g then some o else h c, ⟨fun c => if c = g then some o else none, h, ?_, ⟨by simp, fun c hc => by simp [hc]⟩, s⟩, ?_, f.trans hs, ?_⟩
  · intro c
    by_cases hc : c = g
    · left; subst hc; simp [hn h r]
    · right; simp [hc]
  · intro c x hx
    by_cases hc : c = g
    · subst hc; simp at hx; subst hx; exact ho
    · simp [hc] at hx; exact hs _ _ (r _ _ hx)
  · intro c
    by_cases hc : c = g
    · subst hc; exact .inr (hn F f)
    · rcases a c with x | x
      · left; simp [hc, x]
      · exact .inr x
abbrev leB : B → B → Bool := fun x y => decide (x ≤ y)
theorem putRow_block {w : World} {blk off : Nat} {cur : List Value} {T : TypeId} {fr : Nat × Nat} (h : w.heap[blk]? = some (.cells cur.toArray T fr)) (pre xs spare : List Value) (d : List B) (hc : cur = pre ++ xs ++ spare) (ho : off = pre.length) (hd : d.length = xs.length) :
    (Go.Sort.putRow Go.Proofs.encStr w blk off d.toArray).heap[blk]? = some (.cells (pre ++ strs d ++ spare).toArray T fr) := by
  subst hc ho
  simp only [Go.Sort.putRow, Go.Sort.mapBlock, Array.getElem?_modify, if_true, h, Option.map_some]
  simp only [Go.Sort.onCells]
  congr 2
  apply Array.ext'
  simp only [Go.Sort.putCells, List.mapIdx_toArray]
  refine List.ext_getElem (by simp [hd]) fun i h1 h2 => ?_
  simp only [List.getElem_mapIdx, List.size_toArray]
  by_cases hi1 : pre.length ≤ i
  · by_cases hi2 : i < pre.length + d.length
    · rw [if_pos ⟨hi1, hi2⟩]
      rw [List.getElem_append_left (by simp; omega), List.getElem_append_right hi1]
      simp [strs, getElem!_pos, show i - pre.length < d.length from by omega, Go.Proofs.encStr]
    · rw [if_neg (fun h => hi2 h.2)]
      rw [List.getElem_append_right (by simp; omega), List.getElem_append_right (by simp; omega)]
      simp [hd]
  · rw [if_neg (fun h => hi1 h.1)]
    rw [List.getElem_append_left (by simp; omega), List.getElem_append_left (by omega), List.getElem_append_left (by simp; omega), List.getElem_append_left (by omega)]
theorem sort_spec (x : Value) (ss : List B) (hl : ss.length < 4611686018427387904) : Spec Try.prog 61 [x] [vec 1 x (strs ss)] (Is (.tuple #[]) [vec 1 x (strs (ss.mergeSort leB))]) := by
  intro F w hh
  obtain ⟨h, ⟨g1, g2, sp, hv, _⟩, r, f, a⟩ := hh
  have hlen : (ss.mergeSort leB).length = ss.length := List.length_mergeSort ss
  rcases hv with ⟨rfl, e2, he⟩ | ⟨b, pre, spare, len, cap, rfl, e2, e3, e4, fr, T, ht, hb, hn⟩
  · have hss : ss = [] := by simpa [strs] using e2
    subst hss
    refine (Any.slices_Sort_string_none sortLaid none 0 w).mono ?_
    rintro e w' ⟨rfl, rfl⟩
    exact ⟨_, _, ⟨rfl, rfl⟩, rfl, ⟨h, ⟨g1, g2, sp, .inl ⟨rfl, by simp [strs], he⟩, trivial⟩, r, f, a⟩, Keep.refl _⟩
  · have hw : w.heap[b]? = some (.cells (pre ++ strs ss ++ spare).toArray T fr) := r _ _ (sp.left _ _ hb)
    have hlt : b < w.heap.size := (Array.getElem?_eq_some_iff.1 hw).1
    have hsl : (strs ss).length = ss.length := by simp [strs]
    have hlen2 : len = ss.length := by rw [← hsl, e2, Nat.mul_one]
    subst hlen2
    have hH : Go.Sort.Holds Go.Proofs.encStr w b pre.length ss.toArray := by
      intro j hj
      have hj' : j < ss.length := by simpa using hj
      constructor
      · simp only [World.cell?, hw]
        simp [List.getElem?_append_left, List.getElem?_append_right, hj', strs, Go.Proofs.encStr, getElem!_pos]
      · have := ht (pre.length + j) (by simp [strs]; omega)
        simp only [World.frozen?, hw]
        simpa using this
    refine (Any.slices_Sort_string sortLaid b pre.length cap ss w hH hlt hl).mono ?_
    rintro e w' ⟨rfl, n, os, rfl⟩
    refine ⟨_, _, ⟨rfl, rfl⟩, rfl, ?_, ?_⟩
    · have h0 : Holds [Sl.pt b (.cells (pre ++ strs ss ++ spare).toArray T fr)] F w := ⟨h, ⟨g1, g2, sp, ⟨hb, hn⟩, trivial⟩, r, f, a⟩
      have h1 : Holds [Sl.pt b (.cells (pre ++ strs (ss.mergeSort leB) ++ spare).toArray T fr)] F (Go.Sort.putRow Go.Proofs.encStr (Go.Sort.ahead w n) b pre.length (ss.mergeSort leB).toArray) := by
        refine h0.write ?_ ?_
        · exact putRow_block (w := Go.Sort.ahead w n) hw pre (strs ss) spare _ rfl rfl (by rw [hlen, hsl])
        · intro c hc
          simp [Go.Sort.putRow, Go.Sort.mapBlock, Array.getElem?_modify, Ne.symm hc, Go.Sort.ahead]
      have h2 : Holds [Sl.pt b (.cells (pre ++ strs (ss.mergeSort leB) ++ spare).toArray T fr)] F (Go.Sort.grow (Go.Sort.putRow Go.Proofs.encStr (Go.Sort.ahead w n) b pre.length (ss.mergeSort leB).toArray) os) := by
        refine h1.older fun k hk => ?_
        simp only [Go.Sort.grow]
        rw [Array.getElem?_append_left hk]
      obtain ⟨h3, ⟨k1, k2, sp3, hp3, _⟩, y3⟩ := h2
      refine ⟨h3, ⟨k1, k2, sp3, .inr ⟨b, pre, spare, ss.length, cap, rfl, by simp [strs, hlen], e3, e4, fr, T, ?_, hp3⟩, trivial⟩, y3⟩
      have : (pre ++ strs (ss.mergeSort leB) ++ spare).length = (pre ++ strs ss ++ spare).length := by simp [strs, hlen]
      rw [this]; exact ht
    · refine ⟨rfl, rfl, ?_⟩
      simp [Go.Sort.grow, Go.Sort.putRow, Go.Sort.mapBlock, Go.Sort.ahead]

abbrev kS : B → Value := fun l => str l
abbrev anyR : Value → Option (DataW Unit × List MemPlace) := fun _ => some (.lit (.bool true), [])
theorem keyOf_str_eq (k : B) (hk : k.length ≤ 140737488355328) : keyOf Try.prog 9 (str k) = some (.string k) := by
  simp only [keyOf, Try.underlying9, mapKey]
  rw [if_pos (show (⟨⟨k⟩⟩ : ByteArray).size ≤ maxLen from Nat.le_trans hk (by decide))]
theorem owns_of {w : World} {m : Nat} {es : Array MapEntry} {clock : Nat} {M : List (B × Value)} (hb : w.heap[m]? = some (.map es clock)) (hL : es.toList.map (fun e => (e.key, e.val)) = M.map (fun p => (kS p.1, p.2)))
    (hbn : (es.toList.map (·.born)).Pairwise (· < ·)) (hcl : ∀ e ∈ es.toList, e.born < clock) (hn : (M.map Prod.fst).Nodup) (hsz : M.length ≤ 1000000) (hk : ∀ a ∈ M.map Prod.fst, a.length ≤ 140737488355328) :
    ∃ D : DataW Unit, w.ownsMap Try.prog 9 anyR m M.length D ∧ (strKeys D).Perm (M.map Prod.fst) ∧ Maps.size D ≤ 1000000 := by
  have hlen : es.size = M.length := by have := congrArg List.length hL; simpa using this
  have hkeys : es.toList.map (fun e => e.key) = M.map (fun p => kS p.1) := by
    have := congrArg (List.map Prod.fst) hL
    simpa [List.map_map, Function.comp_def] using this
  have hread : ∀ x ∈ es.toList, ∃ a, a ∈ M.map Prod.fst ∧ x.key = str a := by
    intro x hx
    have : x.key ∈ es.toList.map (fun e => e.key) := List.mem_map_of_mem hx
    rw [hkeys] at this
    obtain ⟨p, hp, e⟩ := List.mem_map.1 this
    exact ⟨p.1, List.mem_map_of_mem hp, e.symm⟩
  have hrd : ∀ x ∈ es.toList, ∀ a, x.key = str a → a.length ≤ 140737488355328 → WideElems.rd Try.prog 9 anyR x = some (.string a, .lit (.bool true)) := by
    intro x hx a ha hal
    simp [WideElems.rd, ha, keyOf_str_eq a hal, anyR]
  refine ⟨_, ⟨es, clock, hb, ⟨?_, ?_, ?_⟩, by omega, rfl⟩, ?_, ?_⟩
  · rw [hlen]; exact Nat.le_trans hsz (by decide)
  · refine (MapKept.stamped_iff es clock).2 ⟨hcl, hbn.imp fun h => Nat.ne_of_lt h, ?_⟩
    have : (es.toList.map (fun e => e.key)).Nodup := by
      rw [hkeys]
      refine List.pairwise_map.2 ((List.pairwise_map.1 hn).imp fun h e => h ?_)
      simpa using e
    exact List.pairwise_map.1 this
  · intro x hx
    obtain ⟨a, ha, e⟩ := hread x hx
    exact ⟨_, hrd x hx a e (hk a ha)⟩
  · show ((((es.toList.map (WideElems.rg Try.prog 9 anyR)).foldr DataW.insert [])).map fun p => strOf p.1).Perm _
    refine ((WideShapes.sorted_perm _).map _).trans ?_
    rw [List.map_map]
    have : es.toList.map ((fun p : Lit × DataW Unit => strOf p.1) ∘ WideElems.rg Try.prog 9 anyR) = M.map Prod.fst := by
      have h2 : (es.toList.map ((fun p : Lit × DataW Unit => strOf p.1) ∘ WideElems.rg Try.prog 9 anyR)).map kS = (M.map Prod.fst).map kS := by
        rw [List.map_map, List.map_map]
        refine Eq.trans (List.map_congr_left fun x hx => ?_) hkeys
        obtain ⟨a, ha, e⟩ := hread x hx
        simp [WideElems.rg, hrd x hx a e (hk a ha), strOf, e]
      have inj : ∀ (l l' : List B), l.map kS = l'.map kS → l = l' := by
        intro l
        induction l with
        | nil => intro l' h; cases l' with
          | nil => rfl
          | cons a l' => simp at h
        | cons a l ih => intro l' h; cases l' with
          | nil => simp at h
          | cons b l' =>
            simp only [List.map_cons, List.cons.injEq] at h
            rw [ih l' h.2]
            have := h.1
            simp at this
            rw [this]
      exact inj _ _ h2
    rw [this]
  · show (((es.toList.map (WideElems.rg Try.prog 9 anyR)).foldr DataW.insert [])).length ≤ _
    rw [(WideShapes.sorted_perm _).length_eq]; simpa [hlen] using hsz
theorem collect_spec (m r : Nat) (M : List (B × Value)) (hn : (M.map Prod.fst).Nodup) (hsz : M.length ≤ 1000000) (hk : ∀ a ∈ M.map Prod.fst, a.length ≤ 140737488355328) :
    Spec Try.prog 60 [.func (.func 62) #[] #[pB r]] [blk r [.map (some m)], mapAt kS m M]
      (fun v Γ' => ∃ ss : List B, One v ∧ ss.Perm (M.map Prod.fst) ∧ Γ' = [vec 1 v (strs ss), mapAt kS m M]) := by
  intro F w hh
  obtain ⟨fr, T, _, hbr⟩ := hh.ofBlk
  obtain ⟨es, clock, hb, hL, hbn, hcl, _⟩ := hh.tail.map
  obtain ⟨D, hown, hperm, hDs⟩ := owns_of hb hL hbn hcl hn hsz hk
  have hrl : r < w.heap.size := (Array.getElem?_eq_some_iff.1 hbr).1
  have hseq := Ky.keys_gives (H := Unit) Fence.wide 3 trivial rfl (by omega) r m M.length D w hrl (by simp [World.cell?, hbr]) hown
  have hc := callsIn_wide.1 (Ky.collect_in Fence.wide 5 trivial trivial rfl (by omega) 62 #[pB r] trivial (enters_of Try.func62 (by kernel_rfl) rfl) _ (Maps.size D) (Nat.le_trans hDs (by decide)) (by omega) w hseq)
  refine hc.mono ?_
  rintro e w' ⟨v, ss, rfl, hS, hrow, hnil, hB⟩
  have hk2 : Keep w w' := ⟨hB.os, hB.output, hB.size⟩
  have h1 : Holds [mapAt kS m M] F w := hh.tail
  refine ⟨v, _, ⟨ss, ?_, hS.trans hperm, rfl⟩, rfl, ?_, hk2⟩
  · rcases hrow.2 with ⟨rfl, _⟩ | ⟨g, cap, cur, rfl, _⟩ <;> exact inferInstance
  · rcases hrow.2 with ⟨rfl, hz⟩ | ⟨g, cap, cur, rfl, hbase, hg, c1, c2, c3, c4⟩
    · obtain rfl : ss = [] := List.eq_nil_of_length_eq_zero hz
      obtain ⟨h, s, y⟩ := h1.older hB.block
      exact ⟨h, by simpa [strs] using vec.nil 1 _ h s, y⟩
    · have h2 := h1.add hB.block hbase hg
      have c3' : cur.toList.length = cap := by rw [Array.length_toList, c3, Nat.mul_one]
      obtain ⟨h, ⟨k1, k2, sp, hp, hr⟩, y⟩ := h2
      refine ⟨h, ⟨k1, k2, sp, vec.ofBlk (xs := strs ss) (spare := cur.toList.drop ss.length) (by simp [strs]) (by rw [List.length_drop, c3', Nat.mul_one]; exact Nat.le_refl _) c1 k1 ⟨(0, 0), 9, thaw_zero _, ?_⟩, hr⟩, y⟩
      have : strs ss ++ cur.toList.drop ss.length = cur.toList := by
        rw [Nat.mul_one] at c4
        have e : strs ss = cur.toList.take ss.length := by rw [c4]
        rw [e, List.take_append_drop]
      rw [this]; simpa using hp
end Go.Sl
