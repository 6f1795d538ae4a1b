/- ViewPlays: for every script of calls the views of one space in memory answer as the document's do; the script reads as it read. -/
import Derived.Test.YtgilhenjoinhhaaVPl
import Derived.Test.YtgilhenjoinhhaaRows
import Derived.ProofKit
import Derived.Deep.Slices
import Derived.Carry
import Derived.OpenShut
import Derived.SizedLaws
set_option linter.unusedVariables false
set_option linter.unusedSimpArgs false
namespace Go.Sl
open Go.Proofs

/-- The cells of a reading, in one block. -/
theorem cellsAt {w : World} {a : Addr} {n : Nat} {cs : List Value} (h : w.cells? 0 a n = some cs) : cs.length = n ∧ ∀ i, i < n → w.cell? (a.add i) = cs[i]? := by
  obtain ⟨_, h2, h3⟩ := World.cells?_some h
  exact ⟨h2, h3⟩
section
variable {H : Type} {enc : TypeId × Value → H} {W : World}
theorem one_field {cs : List Value} {i : Nat} {v : Value} (h : (cs.drop i).take 1 = [v]) : cs[i]? = some v := by
  have := congrArg (fun l => l[0]?) h
  simpa [List.getElem?_take, List.getElem?_drop] using this
theorem op_of {spare : Nat → Bool} {n : Nat} {cs : List Value} {x : DataW H × List MemPlace} (h : DataW.trod enc Try.prog W 0 spare true n 34 cs = some x) : ∃ o : VOp, cs = opC o ∧ o.key.length ∈ x.1.weights Try.prog 34 ∧ o.val.length ∈ x.1.weights Try.prog 34 := by
  obtain ⟨xs, m, _, hxx, hl, hxl, hf⟩ := DataW.trod_struct Try.underlying34 h
  have c5 : Try.prog.cellsOf 34 = 5 := by kernel_rfl
  have c3 : Try.prog.cellsOf 3 = 1 := by kernel_rfl
  have c9 : Try.prog.cellsOf 9 = 1 := by kernel_rfl
  rw [c5] at hl
  have g : ∀ i, i < 5 → ∃ y, xs[i]? = some y := fun i hi => ⟨xs[i]'(by rw [hxl]; exact hi), List.getElem?_eq_getElem _⟩
  have int : ∀ (i : Nat) (f : Field), i < 5 → (#[(⟨ "Do", 3, 0, false, "", "", 0⟩ : Field), ⟨ "At", 3, 1, false, "", "", 8⟩, ⟨ "N", 3, 2, false, "", "", 16⟩, ⟨ "Key", 9, 3, false, "", "", 24⟩, ⟨ "Value", 9, 4, false, "", "", 40⟩])[i]? = some f → f.type = 3 → f.offset = i → ∃ z, cs[i]? = some (i64 z) := by
    intro i f hil hi ht ho
    have hfi := hf i f hi
    obtain ⟨y, hy⟩ := g i hil
    rw [hy, ht, ho, c3] at hfi
    obtain ⟨z, hz, _⟩ := DataW.trod_int Try.underlying3 hfi
    exact ⟨z, one_field hz⟩
  have str' : ∀ (i : Nat) (f : Field), i < 5 → (#[(⟨ "Do", 3, 0, false, "", "", 0⟩ : Field), ⟨ "At", 3, 1, false, "", "", 8⟩, ⟨ "N", 3, 2, false, "", "", 16⟩, ⟨ "Key", 9, 3, false, "", "", 24⟩, ⟨ "Value", 9, 4, false, "", "", 40⟩])[i]? = some f → f.type = 9 → f.offset = i → ∃ z : B, cs[i]? = some (str z) ∧ z.length ∈ x.1.weights Try.prog 34 := by
    intro i f hil hi ht ho
    have hfi := hf i f hi
    obtain ⟨y, hy⟩ := g i hil
    rw [hy, ht, ho, c9] at hfi
    obtain ⟨s, hs, hy2, hm⟩ := DataW.trod_string Try.underlying9 hfi
    refine ⟨s.data.toList, one_field hs, ?_⟩
    rw [hxx]
    simp only [DataW.weights, Try.underlying34]
    refine DataW.weights_mem_each (ts := [3, 3, 3, 9, 9]) (j := i) (t := 9) (d := .lit (.string s.data.toList)) ?_ ?_ _ (by simp [DataW.weights])
    · match i, hil with
      | 0, _ => cases hi; cases ht
      | 1, _ => cases hi; cases ht
      | 2, _ => cases hi; cases ht
      | 3, _ => rfl
      | 4, _ => rfl
    · rw [List.getElem?_map, hy, hy2]; rfl
  obtain ⟨d, hd⟩ := int 0 _ (by omega) rfl rfl rfl
  obtain ⟨a, ha⟩ := int 1 _ (by omega) rfl rfl rfl
  obtain ⟨n', hn⟩ := int 2 _ (by omega) rfl rfl rfl
  obtain ⟨k, hk, hk2⟩ := str' 3 _ (by omega) rfl rfl rfl
  obtain ⟨v, hv, hv2⟩ := str' 4 _ (by omega) rfl rfl rfl
  refine ⟨⟨d, a, n', k, v⟩, ?_, hk2, hv2⟩
  refine List.ext_getElem? fun i => ?_
  match i with
  | 0 => rw [hd]; rfl
  | 1 => rw [ha]; rfl
  | 2 => rw [hn]; rfl
  | 3 => rw [hk]; rfl
  | 4 => rw [hv]; rfl
  | i + 5 => rw [List.getElem?_eq_none (by omega)]; rfl
instance : Inhabited VOp := ⟨⟨0, 0, 0, [], []⟩⟩
theorem add_at (b o k : Nat) : (⟨b, o, none⟩ : Addr).add k = ⟨b, o + k, none⟩ := add_none b o k
theorem weightsAll_mem {P : Program} {e : TypeId} {d : DataW H} {n : Nat} : ∀ {l : List (DataW H)}, d ∈ l → n ∈ d.weights P e → n ∈ DataW.weightsAll P e l
  | x :: l, hd, hn => by
    simp only [DataW.weightsAll, List.mem_append]
    rcases List.mem_cons.1 hd with rfl | hd
    · exact .inl hn
    · exact .inr (weightsAll_mem hd hn)
/-- The script that an argument reads as. -/
theorem ops_of {v : Value} {n : Nat} {x : DataW H × List MemPlace} (hv : ∃ a len cap, v = .slice a len cap) (h : DataW.trod enc Try.prog W 0 (fun _ => true) true n 22 v.cells.toList = some x) :
    ∃ O : List VOp, rdH (hp W) 5 v (opsC O) ∧ (∀ o ∈ O, o.key.length ∈ x.1.weights Try.prog 22 ∧ o.val.length ∈ x.1.weights Try.prog 22) ∧ O.length ≤ maxLen := by
  have c5 : Try.prog.cellsOf 34 = 5 := by kernel_rfl
  obtain ⟨p, len, cap, rfl⟩ := hv
  rcases Deep.open_slice Try.underlying22 h with ⟨hcs, _⟩ | ⟨a, len', cap', m, n', D, Pl, hcs, _, hle, hcm, hm, hxx, hel⟩
  · simp [Value.cells] at hcs
    obtain ⟨rfl, rfl, rfl⟩ := hcs
    exact ⟨[], .inl ⟨none, 0, rfl, rfl⟩, by simp, by simp⟩
  · simp [Value.cells] at hcs
    obtain ⟨rfl, rfl, rfl⟩ := hcs
    simp only [if_true] at hm
    subst hm
    rw [c5] at hel
    have hO : ∀ i, i < len → ∃ o : VOp, W.cells? 0 (a.add (i * 5)) 5 = some (opC o) ∧ o.key.length ∈ x.1.weights Try.prog 22 ∧ o.val.length ∈ x.1.weights Try.prog 22 := by
      intro i hi
      obtain ⟨cs', h1, h2⟩ := hel i (by omega)
      obtain ⟨o, rfl, h3⟩ := op_of h2
      have up : ∀ n, n ∈ (D i).weights Try.prog 34 → n ∈ x.1.weights Try.prog 22 := fun n hn => by
        rw [hxx]
        simp only [DataW.weights, Try.underlying22, List.mem_cons, List.mem_append]
        exact .inr (.inl (weightsAll_mem (List.mem_map.2 ⟨i, List.mem_range.2 hi, rfl⟩) hn))
      exact ⟨o, h1, up _ h3.1, up _ h3.2⟩
    obtain ⟨g, hg⟩ := Deep.choose_lt hO
    let O : List VOp := (List.range len).map g
    have hOl : O.length = len := by simp [O]
    have hOi : ∀ (i : Nat) (h : i < O.length), O[i] = g i := fun i h => by simp [O]
    have hmem : ∀ o ∈ O, o.key.length ∈ x.1.weights Try.prog 22 ∧ o.val.length ∈ x.1.weights Try.prog 22 := by
      intro o ho
      obtain ⟨i, hi, rfl⟩ := List.mem_map.1 ho
      exact (hg i (List.mem_range.1 hi)).2
    refine ⟨O, ?_, hmem, by omega⟩
    rcases Nat.eq_zero_or_pos len with h0 | hpos
    · left; exact ⟨some a, m, by rw [h0], by simp [O, h0]⟩
    · have hcell : ∀ i j, i < len → j < 5 → W.cell? ((a.add (i * 5)).add j) = (opC (g i))[j]? := fun i j hi hj => (cellsAt (hg i hi).1).2 j hj
      have hsome : ∀ (o : VOp) (j : Nat), j < 5 → ∃ v, (opC o)[j]? = some v := fun o j hj => ⟨(opC o)[j]'(by simpa [opC] using hj), List.getElem?_eq_getElem _⟩
      obtain ⟨v0, hv0⟩ := hsome (g 0) 0 (by omega)
      have h00 := hcell 0 0 hpos (by omega)
      rw [hv0, Nat.zero_mul] at h00
      have hsp : a.spot = none := by simpa [Addr.add] using World.cell?_spot h00
      obtain ⟨b, o, sp⟩ := a
      simp only at hsp
      subst hsp
      have hblk : ∃ c T fr, W.heap[b]? = some (.cells c T fr) := by
        rw [add_at, add_at] at h00
        simp only [World.cell?] at h00
        split at h00
        · rename_i c T fr hb; exact ⟨c, T, fr, hb⟩
        · cases h00
      obtain ⟨c, T, fr, hb⟩ := hblk
      have hc : ∀ i j, i < len → j < 5 → c.toList[o + (i * 5 + j)]? = (opC (g i))[j]? := by
        intro i j hi hj
        have := hcell i j hi hj
        rw [add_at, add_at] at this
        simp only [World.cell?, hb] at this
        rw [← this]; simp [Nat.add_assoc]
      have hlen5 := opsC_len O
      right
      refine ⟨b, o, len, m, c.toList, T, fr, rfl, by rw [hlen5, hOl], hle, ?_, ?_, by simpa [hp] using hb⟩
      · obtain ⟨v1, hv1⟩ := hsome (g (len - 1)) 4 (by omega)
        have := hc (len - 1) 4 (by omega) (by omega)
        rw [hv1] at this
        have := (List.getElem?_eq_some_iff.1 this).1
        omega
      · refine List.ext_getElem? fun k => ?_
        rcases Nat.lt_or_ge k (len * 5) with hk | hk
        · have hi : k / 5 < len := by omega
          have hk5 : k = k / 5 * 5 + k % 5 := by omega
          rw [List.getElem?_take, if_pos hk, List.getElem?_drop]
          have h1 := opsC_get O (k / 5) (by omega)
          rw [hOi] at h1
          have h2 := congrArg (fun l => l[k % 5]?) h1
          rw [List.getElem?_take, if_pos (by omega), List.getElem?_drop, ← hk5] at h2
          rw [h2]
          have h3 := hc (k / 5) (k % 5) hi (by omega)
          rw [← hk5] at h3
          exact h3
        · rw [List.getElem?_eq_none (Nat.le_trans (List.length_take_le _ _) hk), List.getElem?_eq_none (by rw [hlen5]; omega)]
end
/-- From a contract over the heap as it was to what a row asks: the call answers, and no old block has turned. -/
theorem calls_of {P : Program} {f : FuncId} {args : List Value} {W : World} {v : Value} (h : Spec P f args [ini (hp W)] (Is v [ini (hp W)])) :
    Calls P f args.toArray W fun e w' => e = .returned v ∧ w'.os = W.os ∧ w'.output = W.output ∧ W.heap.size ≤ w'.heap.size ∧ ∀ k, k < W.heap.size → w'.heap[k]? = W.heap[k]? := by
  have h0 : Holds [ini (hp W)] (fun _ => none) W := ⟨hp W, ⟨hp W, fun _ => none, fun b => .inl ⟨rfl, rfl⟩, rfl, trivial⟩, sub.refl _, fun b o e => (by cases e), fun b => .inr rfl⟩
  refine (h _ W h0).mono fun e w' ⟨u, Γ', ⟨hu, hΓ⟩, he, hh, kp⟩ => ?_
  subst hu hΓ
  obtain ⟨g, hg, hs⟩ := hh.head
  cases hg
  exact ⟨he, kp.1, kp.2.1, kp.2.2, fun k hk => by
    have := hs k W.heap[k] (by simp [hp, hk])
    simp only [hp] at this
    rw [this, Array.getElem?_eq_getElem hk]⟩
theorem sameAt_of {W W' : World} (hb : ∀ k, k < W.heap.size → W'.heap[k]? = W.heap[k]?) {p : MemPlace} (hp : p.block < W.heap.size) : W.sameAt W' p := by
  cases p with
  | cell b o => exact World.cell?_of_block (w := W) (hb b hp)
  | map b => exact hb b hp
theorem kept_of {W W' : World} (h1 : W'.os = W.os) (h2 : W'.output = W.output) (hb : ∀ k, k < W.heap.size → W'.heap[k]? = W.heap[k]?) (may : MemPlace → Prop) : W.keptBut W' may := by
  refine ⟨h1, h2, fun i hi => ?_⟩
  rw [hb i hi]
  split <;> simp_all
end Go.Sl
namespace Go.Proofs.Ytgilhenjoinhhaa.viewPlays
open Go.ChangeShapes Go.WideShapes Go.ChangeAt Go.RowKit Go.Sl

theorem own : ownKnob Try.prog.godebug = none := by kernel_rfl
theorem laidOut : laidOutB Try.prog = true := by kernel_rfl
set_option maxRecDepth 100000 in
theorem contract (H : Type) (enc : TypeId × Value → H) (W : World) (base : Nat) (args : Array Value) (ds gs : List (DataW H)) (before : List MemPlace)
    (hval : ∀ (j : Nat) t v, Try.f3.params[j]? = some t → args[j]? = some v → Value.okWide Try.prog W .any base t v)
    (hW : DataW.Whole enc Try.prog Try.f3.params.toList Rows.viewPlaysSpec.vars false W args.toList ds gs before)
    (hsz0 : (DataW.weightsEach Try.prog (Try.f3.params.toList ++ Rows.viewPlaysSpec.plain.varTypes Try.prog) (ds ++ gs)).all (· ≤ reachBytes) = true) :
    Calls Try.prog 3 args W fun e W' => ∃ v, e = .returned v ∧ Rows.viewPlaysSpec.post enc Try.prog Try.f3 false true false false W args v W' := by
  have hW' := hW
  obtain ⟨p, q, hA0, hV, rfl, hfz, hnd⟩ := hW
  have hA : DataW.TrodAll enc Try.prog W 0 (fun _ => true) true Try.f3.params.toList args.toList ds p := hA0
  rw [Try.params3] at hA hval
  obtain ⟨v0, vs0, d0, ds0, p0, q0, hargs, rfl, rfl, h0, r0⟩ := trodAll_cons hA
  obtain ⟨rfl, rfl, rfl⟩ := trodAll_nil r0
  obtain rfl : args = #[v0] := by cases args; simp_all
  obtain ⟨rfl, rfl⟩ := trodVars_none hV
  have h0k := h0
  obtain ⟨fuel, hf⟩ := h0
  clear hA0
  simp only [List.append_nil] at hW'
  have hlt : ∀ x ∈ p0, x.block < W.heap.size := fun x hx => by simpa using hW'.lt x hx
  obtain ⟨O, hrd, hO, hOl⟩ := ops_of (okWide_slice Try.underlying22 (hval 0 22 v0 rfl rfl)) hf
  have hle : ∀ n, n ∈ d0.weights Try.prog 22 → n ≤ 140737488355328 := fun n hn => by
    have h1 := DataW.weights_mem_each (ts := Try.f3.params.toList ++ Rows.viewPlaysSpec.plain.varTypes Try.prog) (ds := [d0] ++ [] ++ []) (j := 0) (t := 22) (d := d0) rfl rfl n hn
    have h2 := List.all_eq_true.1 hsz0 n h1
    have h3 : n ≤ reachBytes := by simpa using h2
    exact Nat.le_trans h3 (by decide)
  have hs := plays_spec (hp W) v0 O ⟨hrd⟩ (fun o ho => ⟨hle _ (hO o ho).1, hle _ (hO o ho).2⟩)
  refine (calls_of hs).mono fun e W' ⟨he, h1, h2, h3, h4⟩ => ?_
  subst he
  have hread : DataW.Trod enc Try.prog W' 0 (fun b => decide (b < W.heap.size)) true 22 v0 d0 p0 :=
    WideElems.Trod_stays laidOut (by kernel_rfl) (of_decide_eq_true (by kernel_rfl)) h0k (fun x hx => sameAt_of h4 (hlt x hx)) (fun x hx => by simpa using hlt x hx)
  exact ⟨_, rfl, _, _, _, [], p0, [], hW', trodAll_cons_mk (shut_bool Try.underlying4 _) trodAll_mk0, trodAll_mk1 hread, rfl, kept_of h1 h2 h4 _, fun h => by cases h⟩
set_option maxRecDepth 100000 in
theorem lifted (os : Os) (started : os.Started) (H : Type) (enc : TypeId × Value → H) :
    ReturnsInHanded {} Try.checked os 3 .any (Rows.viewPlaysSpec.pre6 enc Try.prog Try.f3 Rows.viewPlaysRow.domain false) (Rows.viewPlaysSpec.post enc Try.prog Try.f3 false true false false) := by
  refine returnsInHanded_of_change_sized (C := Try.checked) own started (by kernel_rfl) Try.func3
    (ChangeSpec.witness6 (enc := enc) (C := Try.checked) false ⟨#[], #[.slice none 0 0], []⟩ 8 (by kernel_rfl) (by kernel_rfl) (by kernel_rfl) (by kernel_rfl)) ?_
  intro W base args ds gs before hval hW _ hsz _
  exact contract H enc W base args ds gs before hval hW hsz
theorem proved : Rows.ViewPlaysSaid :=
  OpenClaim.holds_of_wide 3 Try.f3 rfl rfl rfl rfl rfl rfl rfl ⟨rfl, rfl, rfl, rfl, rfl⟩ rfl rfl rfl rfl rfl (by kernel_rfl) Try.func3 (by kernel_rfl)
    (of_decide_eq_true (by kernel_rfl)) (by unfold Func.isWrapper; first | (rw [if_pos (by decide +kernel)]; kernel_rfl) | (rw [if_neg (by decide +kernel)]; exact ⟨rfl, rfl⟩))
    (fun os started H enc _ => lifted os started H enc)
end Go.Proofs.Ytgilhenjoinhhaa.viewPlays
