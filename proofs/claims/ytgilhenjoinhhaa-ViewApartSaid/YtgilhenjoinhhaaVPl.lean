/- The statements' own functions: works, ViewPlays, ViewApart. -/
import Derived.Test.YtgilhenjoinhhaaVLw
set_option linter.unusedVariables false
set_option linter.unusedSimpArgs false
namespace Go.Sl
open Go.Proofs

theorem works_spec : Spec Try.prog 9 [] [] (Is (.bool true) []) := by
  refine Spec.enter Try.func9 rfl Try.ntmps9 rfl ?_
  refine .seq ?_
  refine .region ?_
  refine .q (q_as rfl) rfl ?_
  refine .done ?_
  refine .seq ?_
  refine .region ?_
  refine .l (l_call (vmem_spec) rfl) rfl ?_
  rintro _ _ ⟨_, ⟨a, x, rfl, rfl⟩, rfl⟩
  refine .q (q_as rfl) rfl ?_
  refine .done ?_
  have s1 := (vsub_spec x a [] [97, 47] (by simp) (by simp)).mono (Q' := fun v Γ' => ∃ d, v = .tuple #[pB d, i64 0] ∧ Γ' = [vw x d [97, 47], vw x a []]) (fun v Γ' h => (h.resolve_right (fun e => e.1 (by simp))).2)
  refine .seq ?_
  refine .region ?_
  refine .q (q_mv rfl) rfl ?_
  refine .l (l_call (s1) rfl) rfl ?_
  rintro _ _ ⟨_, ⟨d, rfl, rfl⟩, rfl⟩
  refine .q (q_mv rfl) rfl ?_
  refine .q (q_ex rfl rfl) rfl ?_
  refine .q (q_ex rfl rfl) rfl ?_
  refine .q (q_as rfl) rfl ?_
  refine .q (q_as rfl) rfl ?_
  refine .done ?_
  refine .seq ?_
  refine .seq ?_
  refine .region ?_
  refine .q (q_mv rfl) rfl ?_
  refine .q (q_ne rfl rfl) rfl ?_
  refine .q (q_mv rfl) rfl ?_
  refine GR.setF (t := 17) rfl ((by simp)) ?_
  refine .yes rfl rfl rfl ?_
  refine .q (q_mv rfl) rfl ?_
  refine .yes rfl rfl rfl ?_
  refine .q (q_pnil rfl rfl) rfl ?_
  refine .q (q_pickF rfl rfl) rfl ?_
  refine .q (q_mv rfl) rfl ?_
  refine GR.setF (t := 21) rfl ((by simp)) ?_
  have s2 := vput_spec x d [] (by simp) [97, 47] [98] [49] (by simp) (by simp) (by simp)
  rw [if_pos (by decide), if_pos (by decide), if_pos (by decide)] at s2
  refine .yes rfl rfl rfl ?_
  refine .q (q_mv rfl) rfl ?_
  refine .yes rfl rfl rfl ?_
  refine .l (l_call (s2) rfl) rfl ?_
  rintro _ _ ⟨_, ⟨rfl, rfl⟩, rfl⟩
  refine .yes rfl rfl rfl ?_
  refine .q (q_ne rfl rfl) rfl ?_
  refine .q (q_pickF rfl rfl) rfl ?_
  refine .q (q_mv rfl) rfl ?_
  refine GR.setF (t := 26) rfl ((by simp)) ?_
  have s3 := vput_spec x a (mput [] ([97, 47] ++ [98]) [49]) (by decide) [] [99] [50] (by simp) (by simp) (by simp)
  rw [if_pos (by decide), if_pos (by decide), if_pos (by decide)] at s3
  refine .yes rfl rfl rfl ?_
  refine .q (q_mv rfl) rfl ?_
  refine .yes rfl rfl rfl ?_
  refine .l (l_call (s3) rfl) rfl ?_
  rintro _ _ ⟨_, ⟨rfl, rfl⟩, rfl⟩
  refine .yes rfl rfl rfl ?_
  refine .q (q_ne rfl rfl) rfl ?_
  refine .q (q_pickF rfl rfl) rfl ?_
  refine .done ?_
  refine .condDF rfl ((by simp)) ?_
  have s4 := vget_spec x a (mput (mput [] ([97, 47] ++ [98]) [49]) ([] ++ [99]) [50]) [] [97, 47, 98] (by simp) (by simp)
  rw [if_pos (by decide)] at s4
  refine .skip ?_
  refine .seq ?_
  refine .region ?_
  refine .q (q_mv rfl) rfl ?_
  refine .l (l_call (s4) rfl) rfl ?_
  rintro _ _ ⟨_, ⟨rfl, rfl⟩, rfl⟩
  refine .q (q_mv rfl) rfl ?_
  refine .q (q_ex rfl rfl) rfl ?_
  refine .q (q_ex rfl rfl) rfl ?_
  refine .q (q_ex rfl rfl) rfl ?_
  refine .q (q_as rfl) rfl ?_
  refine .q (q_as rfl) rfl ?_
  refine .q (q_as rfl) rfl ?_
  refine .done ?_
  have s5 := vlist_spec x d (mput (mput [] ([97, 47] ++ [98]) [49]) ([] ++ [99]) [50]) (by decide) (by decide) (by decide) [97, 47] [] [] (by simp) (by simp) (by simp) 9 (by omega)
  have hL : lsk ((kys (mput (mput [] ([97, 47] ++ [98]) [49]) ([] ++ [99]) [50])).mergeSort leB) [97, 47] [] [] (9 : Int).toNat = [[98]] := by
    rw [List.mergeSort_of_pairwise (by decide)]
    decide
  rw [hL] at s5
  refine .seq ?_
  refine .region ?_
  refine .q (q_mv rfl) rfl ?_
  refine .l (l_call (s5) rfl) rfl ?_
  rintro _ _ ⟨_, ⟨y, iy, rfl, rfl⟩, rfl⟩
  refine .q (q_mv rfl) rfl ?_
  refine .q (q_ex rfl rfl) rfl ?_
  refine .q (q_ex rfl rfl) rfl ?_
  refine .q (q_as rfl) rfl ?_
  refine .q (q_as rfl) rfl ?_
  refine .done ?_
  refine .seq ?_
  refine .region ?_
  refine .q (q_mv rfl) rfl ?_
  refine .q (q_seq rfl rfl) rfl ?_
  refine .q (q_mv rfl) rfl ?_
  refine GR.setT (t := 44) rfl ((by decide)) ?_
  refine .yes rfl rfl rfl ?_
  refine .q (q_mv rfl) rfl ?_
  refine .q (q_pickT rfl rfl) rfl ?_
  refine .q (q_mv rfl) rfl ?_
  refine GR.setBT (t := 47) rfl (rfl) ?_
  refine .yes rfl rfl rfl ?_
  refine .q (q_mv rfl) rfl ?_
  refine .yes rfl rfl rfl ?_
  refine .q (q_eq rfl rfl) rfl ?_
  refine .q (q_pickT rfl rfl) rfl ?_
  refine .q (q_mv rfl) rfl ?_
  refine GR.setT (t := 51) rfl ((by simp)) ?_
  refine .yes rfl rfl rfl ?_
  refine .q (q_mv rfl) rfl ?_
  refine .yes rfl rfl rfl ?_
  refine .q (q_eq rfl rfl) rfl ?_
  refine .q (q_pickT rfl rfl) rfl ?_
  refine .q (q_mv rfl) rfl ?_
  refine GR.setT (t := 55) rfl ((by simp)) ?_
  refine .yes rfl rfl rfl ?_
  refine .q (q_mv rfl) rfl ?_
  refine .yes rfl rfl rfl ?_
  refine .q (q_lenVm rfl) rfl ?_
  refine .yes rfl rfl rfl ?_
  refine .q (q_eq rfl rfl) rfl ?_
  refine .q (q_pickT rfl rfl) rfl ?_
  refine .q (q_mv rfl) rfl ?_
  refine GR.setT (t := 60) rfl ((by simp)) ?_
  refine .yes rfl rfl rfl ?_
  refine .q (q_mv rfl) rfl ?_
  refine .yes rfl rfl rfl ?_
  refine .q (q_iaVm (j := 0) rfl rfl rfl (by decide)) rfl ?_
  refine .yes rfl rfl rfl ?_
  refine .q (q_ldVm rfl (by decide)) rfl ?_
  refine .yes rfl rfl rfl ?_
  refine .q (q_seq rfl rfl) rfl ?_
  refine .q (q_pickT rfl rfl) rfl ?_
  refine .q (q_as rfl) rfl ?_
  refine .done ?_
  exact G.retN (ts := [0]) Try.func9 Try.results9 rfl (⟨rfl, rfl⟩)

structure VOp where
  d : Int
  a : Int
  n : Int
  key : B
  val : B
abbrev opC (o : VOp) : List Value := [i64 o.d, i64 o.a, i64 o.n, str o.key, str o.val]
abbrev opsC (O : List VOp) : List Value := O.flatMap opC
theorem opsC_len (O : List VOp) : (opsC O).length = O.length * 5 := by
  induction O with
  | nil => rfl
  | cons o O ih => simp only [opsC, List.flatMap_cons, List.length_append, List.length_cons, List.length_nil] at ih ⊢; omega
theorem opsC_get (O : List VOp) (i : Nat) (h : i < O.length) : ((opsC O).drop (i * 5)).take 5 = opC O[i] := by
  induction O generalizing i with
  | nil => simp at h
  | cons o O ih =>
    cases i with
    | zero => simp [opsC]
    | succ i =>
      have := ih i (by simpa using h)
      rw [show (i + 1) * 5 = 5 + i * 5 from by omega]
      simp only [opsC, List.flatMap_cons] at this ⊢
      rw [List.drop_append, List.drop_eq_nil_of_le (by simp), List.nil_append]
      rw [show 5 + i * 5 - (opC o).length = i * 5 from by simp [opC]]
      simpa using this
structure WS where
  V : Vs
  bk : Bk
  M : Bk
theorem Cond.start (base pre : B) (a c : Nat) (hp : pre.length ≤ 100) (hb : base <+: pre) (M : Bk) (N : Nat) (h1 : (kys M).Nodup) (h2 : ∀ k ∈ kys M, k.length ≤ 198) (h3 : M.length ≤ N) (h4 : ∀ k ∈ kys M, ¬ base <+: k) : Cond base [(a, c, pre)] [] M M N :=
  ⟨by simp, by simp, by simp; exact ⟨hp, hb⟩, List.Pairwise.nil, h1, by simp, h2, h3, by simp, h4⟩
theorem G.vecOf {P : Program} {f : FuncId} {n : Nat} {Q : Value → List HP → Prop} {k : List Item} {K : Env} {Γ Γ1 : List HP} (s r len : Nat) (xs : List Value) (hl : xs.length = len * s) [t : Take (blk r xs) Γ Γ1] (h : G P f n Q k K (vec s (.slice (some ⟨r, 0, none⟩) len len) xs :: Γ1)) : G P f n Q k K Γ :=
  G.conseq (fun g hs => by
    obtain ⟨h1, h2, sp, hb, hr⟩ := hs.perm t.perm
    exact ⟨h1, h2, sp, vec.ofBlk (spare := []) hl (by simp) (Nat.le_refl _) _ (by simpa using hb), hr⟩) h
theorem plays_spec (H : Heap) (v : Value) (O : List VOp) (hrd : RdI H 5 v (opsC O)) (hO : ∀ o ∈ O, o.key.length ≤ 140737488355328 ∧ o.val.length ≤ 140737488355328) :
    Spec Try.prog 3 [v] [ini H] (Is (.bool true) [ini H]) := by
  have hlen := opsC_len O
  refine Spec.enter Try.func3 rfl Try.ntmps3 rfl ?_
  refine .seq ?_
  refine .region ?_
  refine .q (q_as rfl) rfl ?_
  refine .done ?_
  refine .seq ?_
  refine .region ?_
  refine .l (l_call (vmem_spec) rfl) rfl ?_
  rintro _ _ ⟨_, ⟨a, x, rfl, rfl⟩, rfl⟩
  refine .a (l_bs rfl rfl (by decide) (by simp [Value.cells])) rfl fun r6 => ?_
  refine .l (l_call (rmem_spec) rfl) rfl ?_
  rintro _ _ ⟨_, ⟨c, p, rfl, rfl⟩, rfl⟩
  refine .a (l_bs rfl rfl (by decide) (by simp [Value.cells])) rfl fun r8 => ?_
  refine .q (q_bst rfl) rfl ?_
  refine .a (l_box rfl) rfl fun r10 => ?_
  refine .q (q_as rfl) rfl ?_
  refine .done ?_
  refine .seq ?_
  refine .seq ?_
  refine G.vecOf 1 r6 1 [pB a] rfl (G.vecOf 1 r8 1 [pB c] rfl ?_)
  refine G.conseq (Γ' := [vec 1 (.slice (some ⟨r8, 0, none⟩) 1 1) [pB c], vec 1 (.slice (some ⟨r6, 0, none⟩) 1 1) [pB a], blk r10 [.slice (some ⟨r6, 0, none⟩) 1 1, .slice (some ⟨r8, 0, none⟩) 1 1], rv p c [], bookAt p [], vw x a [], memAt x [], ini H]) (fun h s => s.as _) ?_
  refine G.conseq (Γ' := [vec 1 (.slice (some ⟨r8, 0, none⟩) 1 1) (ls2 [(a, c, [])]), vec 1 (.slice (some ⟨r6, 0, none⟩) 1 1) (ls1 [(a, c, [])]), blk r10 [.slice (some ⟨r6, 0, none⟩) 1 1, .slice (some ⟨r8, 0, none⟩) 1 1], rv p c [], bookAt p [], vw x a [], memAt x [], ini H]) (fun h s => s) ?_
  refine .region ?_
  refine .q (q_mv rfl) rfl ?_
  refine .q (q_nil rfl) rfl ?_
  refine .q (q_fa0 rfl) rfl ?_
  refine .q (q_ld rfl rfl) rfl ?_
  refine .q (q_iaVm (j := 0) rfl rfl rfl (by simp)) rfl ?_
  refine .q (q_ldVm rfl (by simp)) rfl ?_
  refine .q (q_pnil rfl rfl) rfl ?_
  refine .done ?_
  refine .condDF rfl ((by simp)) ?_
  refine G.conseq (Γ' := [worldAt r10 x p [(a, c, [])] [], memAt x [], ini H]) (fun h s => by
    have s1 := Sat.into (A := [vw x a []]) (X := rows (fv x) [(a, c, [])]) (fun h q => q) s
    have s2 := Sat.into (A := [rv p c []]) (X := rows (fr p) [(a, c, [])]) (fun h q => q) s1
    exact (Sat.into (A := [blk r10 [.slice (some ⟨r6, 0, none⟩) 1 1, .slice (some ⟨r8, 0, none⟩) 1 1], vec 1 (.slice (some ⟨r6, 0, none⟩) 1 1) (ls1 [(a, c, [])]), vec 1 (.slice (some ⟨r8, 0, none⟩) 1 1) (ls2 [(a, c, [])]), rows (fv x) [(a, c, [])], rows (fr p) [(a, c, [])], bookAt p []]) (worldAt.mk _ _) s2).as _) ?_
  refine .skip ?_
  refine .seq ?_
  refine .seq ?_
  refine .region ?_
  refine .q (q_as rfl) rfl ?_
  refine .done ?_
  refine .block ?_
  refine G.loop2 (fun (i : Nat) (s : WS) => [(0, v), (3, pB r10), (4, i64 (i : Int))]) (fun i s => [worldAt r10 x p s.V s.bk, memAt x s.M, ini H]) (fun i s => i ≤ O.length ∧ i ≤ 100 ∧ Cond [] s.V s.bk s.M [] i) (fun i s => O.length - i) 0 ⟨[(a, c, [])], [], []⟩ ⟨rfl, rfl, rfl, trivial⟩ ⟨by omega, by omega, Cond.start [] [] a c (by simp) (List.nil_prefix) [] 0 (by simp) (by simp) (by simp) (by simp)⟩ ?_
  rintro i s ⟨hi, hi1, hC⟩ IH
  refine .seq ?_
  refine .seq ?_
  refine .region ?_
  refine .q (q_mv rfl) rfl ?_
  refine .q (q_mv rfl) rfl ?_
  refine .q (q_lenV (m := O.length) rfl hlen (by omega)) rfl ?_
  refine .q (q_lt rfl rfl) rfl ?_
  refine .q (q_mv rfl) rfl ?_
  refine GR.casesD (t := 22) rfl (fun h22 => ?_) (fun h22 => ?_)
  · refine .yes rfl rfl rfl ?_
    refine .q (q_mv rfl) rfl ?_
    refine .yes rfl rfl rfl ?_
    refine .q (q_lt rfl rfl) rfl ?_
    refine .q (q_pickT rfl rfl) rfl ?_
    refine .done ?_
    refine .condD rfl (fun h25 => ?_) (fun h25 => ?_)
    · have hil : i < O.length := by omega
      have hkv := hO O[i] (List.getElem_mem _)
      refine .skip ?_
      refine .seq ?_
      refine .block ?_
      refine .seq ?_
      refine .region ?_
      refine .q (q_mv rfl) rfl ?_
      refine .q (q_mv rfl) rfl ?_
      refine .q (q_mv rfl) rfl ?_
      refine .q (q_iaV (m := O.length) rfl rfl rfl hlen (by omega) hil) rfl ?_
      refine .q (q_ldaV (l' := opC O[i]) rfl (by rw [hlen]; omega) (by omega) (opsC_get O i hil)) rfl ?_
      refine .l (l_call (does_spec [] [] r10 x p s.V s.bk s.M i (by omega) hC O[i].d O[i].a O[i].n O[i].key O[i].val hkv.1 hkv.2) rfl) rfl ?_
      rintro _ _ ⟨_, ⟨V', bk', M', rfl, rfl, hC', _⟩, rfl⟩
      refine .q (q_notT rfl) rfl ?_
      refine .done ?_
      refine .condF rfl ?_
      refine .skip ?_
      refine .inBlock ?_
      refine .region ?_
      refine .q (q_mv rfl) rfl ?_
      refine .q (q_add rfl rfl (by omega)) rfl ?_
      refine .q (q_as rfl) rfl ?_
      refine .done ?_
      exact G.again (IH (i + 1) ⟨V', bk', M'⟩ ⟨by omega, by omega, hC'⟩ (by omega)) ⟨rfl, rfl, rfl, trivial⟩
    · refine .exit rfl ?_
      refine .seq ?_
      refine .region ?_
      refine .q (q_mv rfl) rfl ?_
      refine .l (l_call (holds_spec [] [] r10 x p s.V s.bk s.M i (by omega) hC) rfl) rfl ?_
      rintro _ _ ⟨_, ⟨rfl, rfl⟩, rfl⟩
      refine .q (q_mv rfl) rfl ?_
      refine .yes rfl rfl rfl ?_
      refine .l (l_call (works_spec) rfl) rfl ?_
      rintro _ _ ⟨_, ⟨rfl, rfl⟩, rfl⟩
      refine .q (q_pickT rfl rfl) rfl ?_
      refine .q (q_as rfl) rfl ?_
      refine .done ?_
      exact G.retN (ts := [2]) Try.func3 Try.results3 rfl (⟨rfl, rfl⟩)
  · refine .no rfl rfl rfl rfl rfl ?_
    refine .no rfl rfl rfl rfl rfl ?_
    refine .q (q_pickF rfl rfl) rfl ?_
    refine .done ?_
    refine .condF rfl ?_
    refine .exit rfl ?_
    refine .seq ?_
    refine .region ?_
    refine .q (q_mv rfl) rfl ?_
    refine .l (l_call (holds_spec [] [] r10 x p s.V s.bk s.M i (by omega) hC) rfl) rfl ?_
    rintro _ _ ⟨_, ⟨rfl, rfl⟩, rfl⟩
    refine .q (q_mv rfl) rfl ?_
    refine .yes rfl rfl rfl ?_
    refine .l (l_call (works_spec) rfl) rfl ?_
    rintro _ _ ⟨_, ⟨rfl, rfl⟩, rfl⟩
    refine .q (q_pickT rfl rfl) rfl ?_
    refine .q (q_as rfl) rfl ?_
    refine .done ?_
    exact G.retN (ts := [2]) Try.func3 Try.results3 rfl (⟨rfl, rfl⟩)
end Go.Sl
