/- ViewApart: two views of which neither's prefix begins with the other's: the walk. -/
import Derived.Test.YtgilhenjoinhhaaVPl
set_option linter.unusedVariables false
set_option linter.unusedSimpArgs false
namespace Go.Sl
open Go.Proofs

theorem Cond.flip {base base2 : B} {V V2 : Vs} {bk M rest : Bk} {N : Nat} (h : Cond base V bk M rest N) (hV : V2 ≠ []) (hV2 : V2.length ≤ 12) (hp : ∀ q ∈ V2, q.2.2.length ≤ 100 ∧ base2 <+: q.2.2) (ho : rest.Ok) (hm : ∀ k ∈ kys rest, base2 <+: k)
    (h1 : ¬ base <+: base2) (h2 : ¬ base2 <+: base) : Cond base2 V2 rest M bk N :=
  ⟨hV, hV2, hp, ho, h.nd, h.perm.trans List.perm_append_comm, h.len, h.size, hm, fun k hk hb => by
    have h3 := h.mine k hk
    rcases Nat.le_total base.length base2.length with hl | hl
    · exact h1 (List.prefix_of_prefix_length_le h3 hb hl)
    · exact h2 (List.prefix_of_prefix_length_le hb h3 hl)⟩
theorem world1 (wd x p d c r1 r2 : Nat) (pre : B) : ∀ h, Sat [blk wd [.slice (some ⟨r1, 0, none⟩) 1 1, .slice (some ⟨r2, 0, none⟩) 1 1], vec 1 (.slice (some ⟨r1, 0, none⟩) 1 1) [pB d], vec 1 (.slice (some ⟨r2, 0, none⟩) 1 1) [pB c], vec 1 (.slice none 0 0) [], vec 1 (.slice none 0 0) [], blk p [.slice none 0 0, .slice none 0 0], vw x d pre, rv p c pre] h → worldAt wd x p [(d, c, pre)] [] h := fun h s => by
  have s0 : Sat [blk wd [.slice (some ⟨r1, 0, none⟩) 1 1, .slice (some ⟨r2, 0, none⟩) 1 1], vec 1 (.slice (some ⟨r1, 0, none⟩) 1 1) (ls1 [(d, c, pre)]), vec 1 (.slice (some ⟨r2, 0, none⟩) 1 1) (ls2 [(d, c, pre)]), vec 1 (.slice none 0 0) (ks []), vec 1 (.slice none 0 0) (vs []), blk p [.slice none 0 0, .slice none 0 0], vw x d pre, rv p c pre] h := s
  have s1 := Sat.into (A := [blk p [.slice none 0 0, .slice none 0 0], vec 1 (.slice none 0 0) (ks []), vec 1 (.slice none 0 0) (vs [])]) (X := bookAt p []) (bookAt.mk []) s0
  have s2 := Sat.into (A := [vw x d pre]) (X := rows (fv x) [(d, c, pre)]) (fun h q => q) s1
  have s3 := Sat.into (A := [rv p c pre]) (X := rows (fr p) [(d, c, pre)]) (fun h q => q) s2
  exact worldAt.mk (.slice (some ⟨r1, 0, none⟩) 1 1) (.slice (some ⟨r2, 0, none⟩) 1 1) h (s3.as _)
structure AS where
  b1 : Bk
  b2 : Bk
  M : Bk
theorem apart_spec (H : Heap) (one two : B) (v : Value) (O : List VOp) (hrd : RdI H 5 v (opsC O)) (hO : ∀ o ∈ O, o.key.length ≤ 140737488355328 ∧ o.val.length ≤ 140737488355328) (h1l : one.length ≤ 140737488355328) (h2l : two.length ≤ 140737488355328) :
    Spec Try.prog 4 [str one, str two, v] [ini H] (Is (.bool true) [ini H]) := by
  have hlen := opsC_len O
  refine Spec.enter Try.func4 rfl Try.ntmps4 rfl ?_
  refine .seq ?_
  refine .region ?_
  refine .q (q_as rfl) rfl ?_
  refine .done ?_
  refine .seq ?_
  refine .seq ?_
  refine .region ?_
  refine .q (q_mv rfl) rfl ?_
  refine .q (q_lenS rfl) rfl ?_
  refine .q (q_gt rfl rfl) rfl ?_
  refine .q (q_mv rfl) rfl ?_
  refine GR.casesD (t := 20) rfl (fun h20 => ?_) (fun h20 => ?_)
  · refine .no rfl rfl rfl rfl rfl ?_
    refine .no rfl rfl rfl rfl rfl ?_
    refine .no rfl rfl rfl rfl rfl ?_
    refine .q (q_pickT rfl rfl) rfl ?_
    refine .q (q_mv rfl) rfl ?_
    refine .no rfl rfl rfl rfl rfl ?_
    refine .no rfl rfl rfl rfl rfl ?_
    refine .no rfl rfl rfl rfl rfl ?_
    refine .q (q_pickT rfl rfl) rfl ?_
    refine .q (q_mv rfl) rfl ?_
    refine .no rfl rfl rfl rfl rfl ?_
    refine .no rfl rfl rfl rfl rfl ?_
    refine .no rfl rfl rfl rfl rfl ?_
    refine .q (q_pickT rfl rfl) rfl ?_
    refine .done ?_
    refine .condT rfl ?_
    refine .seq ?_
    refine .region ?_
    refine .l (l_call (works_spec) rfl) rfl ?_
    rintro _ _ ⟨_, ⟨rfl, rfl⟩, rfl⟩
    refine .q (q_as rfl) rfl ?_
    refine .done ?_
    exact G.retN (ts := [6]) Try.func4 Try.results4 rfl (⟨rfl, rfl⟩)
  · refine .yes rfl rfl rfl ?_
    refine .q (q_mv rfl) rfl ?_
    refine .yes rfl rfl rfl ?_
    refine .q (q_lenS rfl) rfl ?_
    refine .yes rfl rfl rfl ?_
    refine .q (q_gt rfl rfl) rfl ?_
    refine .q (q_pickF rfl rfl) rfl ?_
    refine .q (q_mv rfl) rfl ?_
    refine GR.casesD (t := 25) rfl (fun h25 => ?_) (fun h25 => ?_)
    · refine .no rfl rfl rfl rfl rfl ?_
      refine .no rfl rfl rfl rfl rfl ?_
      refine .no rfl rfl rfl rfl rfl ?_
      refine .q (q_pickT rfl rfl) rfl ?_
      refine .q (q_mv rfl) rfl ?_
      refine .no rfl rfl rfl rfl rfl ?_
      refine .no rfl rfl rfl rfl rfl ?_
      refine .no rfl rfl rfl rfl rfl ?_
      refine .q (q_pickT rfl rfl) rfl ?_
      refine .done ?_
      refine .condT rfl ?_
      refine .seq ?_
      refine .region ?_
      refine .l (l_call (works_spec) rfl) rfl ?_
      rintro _ _ ⟨_, ⟨rfl, rfl⟩, rfl⟩
      refine .q (q_as rfl) rfl ?_
      refine .done ?_
      exact G.retN (ts := [6]) Try.func4 Try.results4 rfl (⟨rfl, rfl⟩)
    · refine .yes rfl rfl rfl ?_
      refine .q (q_mv rfl) rfl ?_
      refine .yes rfl rfl rfl ?_
      refine .q (q_mv rfl) rfl ?_
      refine .yes rfl rfl rfl ?_
      refine .l (l_call (begins_spec one two) rfl) rfl ?_
      rintro _ _ ⟨_, ⟨rfl, rfl⟩, rfl⟩
      refine .q (q_pickF rfl rfl) rfl ?_
      refine .q (q_mv rfl) rfl ?_
      refine GR.casesD (t := 30) rfl (fun h30 => ?_) (fun h30 => ?_)
      · refine .no rfl rfl rfl rfl rfl ?_
        refine .no rfl rfl rfl rfl rfl ?_
        refine .no rfl rfl rfl rfl rfl ?_
        refine .q (q_pickT rfl rfl) rfl ?_
        refine .done ?_
        refine .condT rfl ?_
        refine .seq ?_
        refine .region ?_
        refine .l (l_call (works_spec) rfl) rfl ?_
        rintro _ _ ⟨_, ⟨rfl, rfl⟩, rfl⟩
        refine .q (q_as rfl) rfl ?_
        refine .done ?_
        exact G.retN (ts := [6]) Try.func4 Try.results4 rfl (⟨rfl, rfl⟩)
      · refine .yes rfl rfl rfl ?_
        refine .q (q_mv rfl) rfl ?_
        refine .yes rfl rfl rfl ?_
        refine .q (q_mv rfl) rfl ?_
        refine .yes rfl rfl rfl ?_
        refine .l (l_call (begins_spec two one) rfl) rfl ?_
        rintro _ _ ⟨_, ⟨rfl, rfl⟩, rfl⟩
        refine .q (q_pickF rfl rfl) rfl ?_
        refine .done ?_
        refine .condD rfl (fun h34 => ?_) (fun h34 => ?_)
        · refine .seq ?_
          refine .region ?_
          refine .l (l_call (works_spec) rfl) rfl ?_
          rintro _ _ ⟨_, ⟨rfl, rfl⟩, rfl⟩
          refine .q (q_as rfl) rfl ?_
          refine .done ?_
          exact G.retN (ts := [6]) Try.func4 Try.results4 rfl (⟨rfl, rfl⟩)
        · have n21 : ¬ two <+: one := by assumption
          have n12 : ¬ one <+: two := by assumption
          have l1 : one.length ≤ 50 := by omega
          have l2 : two.length ≤ 50 := by omega
          refine .skip ?_
          refine .seq ?_
          refine .region ?_
          refine .l (l_call (vmem_spec) rfl) rfl ?_
          rintro _ _ ⟨_, ⟨a, x, rfl, rfl⟩, rfl⟩
          refine .q (q_as rfl) rfl ?_
          refine .done ?_
          have s1 := (vsub_spec x a [] one (by simp) h1l).mono (Q' := fun v Γ' => ∃ d, v = .tuple #[pB d, i64 0] ∧ Γ' = [vw x d one, vw x a []]) (fun v Γ' h => (h.resolve_right (fun e => e.1 (by simp; omega))).2)
          refine .seq ?_
          refine .region ?_
          refine .q (q_mv rfl) rfl ?_
          refine .q (q_mv rfl) rfl ?_
          refine .l (l_call (s1) rfl) rfl ?_
          rintro _ _ ⟨_, ⟨d, rfl, rfl⟩, rfl⟩
          refine .q (q_mv rfl) rfl ?_
          refine .q (q_ex rfl rfl) rfl ?_
          refine .q (q_ex rfl rfl) rfl ?_
          refine .q (q_as rfl) rfl ?_
          refine .q (q_as rfl) rfl ?_
          refine .done ?_
          have s2 := (vsub_spec x a [] two (by simp) h2l).mono (Q' := fun v Γ' => ∃ d, v = .tuple #[pB d, i64 0] ∧ Γ' = [vw x d two, vw x a []]) (fun v Γ' h => (h.resolve_right (fun e => e.1 (by simp; omega))).2)
          refine .seq ?_
          refine .region ?_
          refine .q (q_mv rfl) rfl ?_
          refine .q (q_mv rfl) rfl ?_
          refine .l (l_call (s2) rfl) rfl ?_
          rintro _ _ ⟨_, ⟨e, rfl, rfl⟩, rfl⟩
          refine .q (q_mv rfl) rfl ?_
          refine .q (q_ex rfl rfl) rfl ?_
          refine .q (q_ex rfl rfl) rfl ?_
          refine .q (q_as rfl) rfl ?_
          refine .q (q_as rfl) rfl ?_
          refine .done ?_
          refine .seq ?_
          refine .seq ?_
          refine .region ?_
          refine .q (q_mv rfl) rfl ?_
          refine .q (q_ne rfl rfl) rfl ?_
          refine .q (q_mv rfl) rfl ?_
          refine GR.setF (t := 51) rfl ((by simp)) ?_
          refine .yes rfl rfl rfl ?_
          refine .q (q_mv rfl) rfl ?_
          refine .yes rfl rfl rfl ?_
          refine .q (q_ne rfl rfl) rfl ?_
          refine .q (q_pickF rfl rfl) rfl ?_
          refine .q (q_mv rfl) rfl ?_
          refine GR.setF (t := 55) rfl ((by simp)) ?_
          refine .yes rfl rfl rfl ?_
          refine .q (q_mv rfl) rfl ?_
          refine .yes rfl rfl rfl ?_
          refine .q (q_pnil rfl rfl) rfl ?_
          refine .q (q_pickF rfl rfl) rfl ?_
          refine .q (q_mv rfl) rfl ?_
          refine GR.setF (t := 59) rfl ((by simp)) ?_
          refine .yes rfl rfl rfl ?_
          refine .q (q_mv rfl) rfl ?_
          refine .yes rfl rfl rfl ?_
          refine .q (q_pnil rfl rfl) rfl ?_
          refine .q (q_pickF rfl rfl) rfl ?_
          refine .done ?_
          refine .condDF rfl ((by simp)) ?_
          refine .skip ?_
          refine .seq ?_
          refine .region ?_
          refine .q (q_mv rfl) rfl ?_
          refine .a (l_bs rfl rfl (by decide) (by simp [Value.cells])) rfl fun r64 => ?_
          refine .q (q_bst rfl) rfl ?_
          refine .a (l_box rfl) rfl fun r66 => ?_
          refine .q (q_mv rfl) rfl ?_
          refine .q (q_bst rfl) rfl ?_
          refine .a (l_box rfl) rfl fun r69 => ?_
          refine .a (l_bs rfl rfl (by decide) (by simp [Value.cells])) rfl fun r70 => ?_
          refine .q (q_bst rfl) rfl ?_
          refine .a (l_box rfl) rfl fun r72 => ?_
          refine .q (q_as rfl) rfl ?_
          refine .done ?_
          refine .seq ?_
          refine .region ?_
          refine .q (q_mv rfl) rfl ?_
          refine .a (l_bs rfl rfl (by decide) (by simp [Value.cells])) rfl fun r74 => ?_
          refine .q (q_bst rfl) rfl ?_
          refine .a (l_box rfl) rfl fun r76 => ?_
          refine .q (q_mv rfl) rfl ?_
          refine .q (q_bst rfl) rfl ?_
          refine .a (l_box rfl) rfl fun r79 => ?_
          refine .a (l_bs rfl rfl (by decide) (by simp [Value.cells])) rfl fun r80 => ?_
          refine .q (q_bst rfl) rfl ?_
          refine .a (l_box rfl) rfl fun r82 => ?_
          refine .q (q_as rfl) rfl ?_
          refine .done ?_
          refine .seq ?_
          refine .seq ?_
          refine G.vecOf 1 r64 1 [pB d] rfl (G.vecOf 1 r70 1 [pB r69] rfl (G.vecOf 1 r74 1 [pB e] rfl (G.vecOf 1 r80 1 [pB r79] rfl (G.vecNil 1 (G.vecNil 1 (G.vecNil 1 (G.vecNil 1 ?_)))))))
          refine G.conseq (Γ' := [worldAt r72 x r66 [(d, r69, one)] [], worldAt r82 x r76 [(e, r79, two)] [], memAt x [], ini H]) (fun h s => by
            have t1 := Sat.into (world1 r72 x r66 d r69 r64 r70 one) s
            have t2 := Sat.into (world1 r82 x r76 e r79 r74 r80 two) t1
            exact t2.as _) ?_
          refine .region ?_
          refine .q (q_as rfl) rfl ?_
          refine .done ?_
          refine .block ?_
          refine G.loop2 (fun (i : Nat) (s : AS) => [(0, str one), (1, str two), (2, v), (12, pB r72), (13, pB r82), (14, i64 (i : Int))]) (fun i s => [worldAt r72 x r66 [(d, r69, one)] s.b1, worldAt r82 x r76 [(e, r79, two)] s.b2, memAt x s.M, ini H]) (fun i s => i ≤ O.length ∧ i ≤ 100 ∧ Cond one [(d, r69, one)] s.b1 s.M s.b2 i ∧ s.b2.Ok ∧ (∀ k ∈ kys s.b2, two <+: k)) (fun i s => O.length - i) 0 ⟨[], [], []⟩ ⟨rfl, rfl, rfl, rfl, rfl, rfl, trivial⟩ ⟨by omega, by omega, Cond.start one one d r69 (by omega) (List.prefix_refl _) [] 0 (by simp) (by simp) (by simp) (by simp), List.Pairwise.nil, by simp⟩ ?_
          rintro i s ⟨hi, hi1, hC, ho2, hm2⟩ IH
          have hC2 : Cond two [(e, r79, two)] s.b2 s.M s.b1 i := hC.flip (by simp) (by simp) (by simp; omega) ho2 hm2 n12 n21
          refine .seq ?_
          refine .seq ?_
          refine .region ?_
          refine .q (q_mv rfl) rfl ?_
          refine .q (q_mv rfl) rfl ?_
          refine .q (q_lenV (m := O.length) rfl hlen (by omega)) rfl ?_
          refine .q (q_lt rfl rfl) rfl ?_
          refine .q (q_mv rfl) rfl ?_
          refine GR.casesD (t := 87) rfl (fun h87 => ?_) (fun h87 => ?_)
          · refine .yes rfl rfl rfl ?_
            refine .q (q_mv rfl) rfl ?_
            refine .yes rfl rfl rfl ?_
            refine .q (q_lt rfl rfl) rfl ?_
            refine .q (q_pickT rfl rfl) rfl ?_
            refine .done ?_
            refine .condD rfl (fun h90 => ?_) (fun h90 => ?_)
            · have hil : i < O.length := by omega
              have hkv := hO O[i] (List.getElem_mem _)
              refine .skip ?_
              refine .seq ?_
              refine .block ?_
              refine .seq ?_
              refine .region ?_
              refine .q (q_mv rfl) rfl ?_
              refine .q (q_mv rfl) rfl ?_
              refine .q (q_iaV (m := O.length) rfl rfl rfl hlen (by omega) hil) rfl ?_
              refine .q (q_ldaV (l' := opC O[i]) rfl (by rw [hlen]; omega) (by omega) (opsC_get O i hil)) rfl ?_
              refine .a (l_alloc) rfl fun r15 => ?_
              refine .s0 (l_stw rfl rfl) ?_
              refine .done ?_
              refine .seq ?_
              refine .seq ?_
              refine .region ?_
              refine .q (q_fa0 rfl) rfl ?_
              refine .q (q_ld rfl rfl) rfl ?_
              refine .q (q_eq rfl rfl) rfl ?_
              refine .done ?_
              refine .condD rfl (fun h99 => ?_) (fun h99 => ?_)
              · refine .exit rfl ?_
                refine .region ?_
                refine .q (q_mv rfl) rfl ?_
                refine .q (q_add rfl rfl (by omega)) rfl ?_
                refine .q (q_as rfl) rfl ?_
                refine .done ?_
                exact G.again (IH (i + 1) s ⟨by omega, by omega, hC.more (by omega), ho2, hm2⟩ (by omega)) ⟨rfl, rfl, rfl, rfl, rfl, rfl, trivial⟩
              · refine .skip ?_
                refine .seq ?_
                refine .region ?_
                refine .q (q_as rfl) rfl ?_
                refine .done ?_
                refine .seq ?_
                refine .seq ?_
                refine .region ?_
                refine .q (q_mv rfl) rfl ?_
                refine .q (q_rem rfl rfl (by omega) (by omega)) rfl ?_
                refine .q (q_eq rfl rfl) rfl ?_
                refine .done ?_
                refine .condD rfl (fun h102 => ?_) (fun h102 => ?_)
                · refine .region ?_
                  refine .q (q_mv rfl) rfl ?_
                  refine .q (q_ldw rfl) rfl ?_
                  refine .l (l_call (does_spec one s.b2 r72 x r66 [(d, r69, one)] s.b1 s.M i (by omega) hC O[i].d O[i].a O[i].n O[i].key O[i].val hkv.1 hkv.2) rfl) rfl ?_
                  rintro _ _ ⟨_, ⟨V', bk', M', rfl, rfl, hC', hV, _⟩, rfl⟩
                  rw [hV (by assumption)] at hC'
                  rw [hV (by assumption)]
                  refine .q (q_as rfl) rfl ?_
                  refine .done ?_
                  refine .seq ?_
                  refine .region ?_
                  refine .q (q_mv rfl) rfl ?_
                  refine .q (q_notT rfl) rfl ?_
                  refine .done ?_
                  refine .condF rfl ?_
                  refine .skip ?_
                  refine .inBlock ?_
                  refine .region ?_
                  refine .q (q_mv rfl) rfl ?_
                  refine .q (q_add rfl rfl (by omega)) rfl ?_
                  refine .q (q_as rfl) rfl ?_
                  refine .done ?_
                  exact G.again (IH (i + 1) ⟨bk', s.b2, M'⟩ ⟨by omega, by omega, hC', ho2, hm2⟩ (by omega)) ⟨rfl, rfl, rfl, rfl, rfl, rfl, trivial⟩
                · refine .region ?_
                  refine .q (q_mv rfl) rfl ?_
                  refine .q (q_ldw rfl) rfl ?_
                  refine .l (l_call (does_spec two s.b1 r82 x r76 [(e, r79, two)] s.b2 s.M i (by omega) hC2 O[i].d O[i].a O[i].n O[i].key O[i].val hkv.1 hkv.2) rfl) rfl ?_
                  rintro _ _ ⟨_, ⟨V', bk', M', rfl, rfl, hC', hV, _⟩, rfl⟩
                  rw [hV (by assumption)] at hC'
                  rw [hV (by assumption)]
                  refine .q (q_as rfl) rfl ?_
                  refine .done ?_
                  refine .seq ?_
                  refine .region ?_
                  refine .q (q_mv rfl) rfl ?_
                  refine .q (q_notT rfl) rfl ?_
                  refine .done ?_
                  refine .condF rfl ?_
                  refine .skip ?_
                  refine .inBlock ?_
                  refine .region ?_
                  refine .q (q_mv rfl) rfl ?_
                  refine .q (q_add rfl rfl (by omega)) rfl ?_
                  refine .q (q_as rfl) rfl ?_
                  refine .done ?_
                  exact G.again (IH (i + 1) ⟨s.b1, bk', M'⟩ ⟨by omega, by omega, hC'.flip (by simp) (by simp) (by simp; omega) hC.ok hC.mine n21 n12, hC'.ok, hC'.mine⟩ (by omega)) ⟨rfl, rfl, rfl, rfl, rfl, rfl, trivial⟩
            · refine .exit rfl ?_
              refine .seq ?_
              refine .region ?_
              refine .q (q_mv rfl) rfl ?_
              refine .l (l_call (holds_spec one s.b2 r72 x r66 [(d, r69, one)] s.b1 s.M i (by omega) hC) rfl) rfl ?_
              rintro _ _ ⟨_, ⟨rfl, rfl⟩, rfl⟩
              refine .q (q_mv rfl) rfl ?_
              refine .yes rfl rfl rfl ?_
              refine .q (q_mv rfl) rfl ?_
              refine .yes rfl rfl rfl ?_
              refine .l (l_call (holds_spec two s.b1 r82 x r76 [(e, r79, two)] s.b2 s.M i (by omega) hC2) rfl) rfl ?_
              rintro _ _ ⟨_, ⟨rfl, rfl⟩, rfl⟩
              refine .q (q_pickT rfl rfl) rfl ?_
              refine .q (q_mv rfl) rfl ?_
              refine .yes rfl rfl rfl ?_
              refine .l (l_call (works_spec) rfl) rfl ?_
              rintro _ _ ⟨_, ⟨rfl, rfl⟩, rfl⟩
              refine .q (q_pickT rfl rfl) rfl ?_
              refine .q (q_as rfl) rfl ?_
              refine .done ?_
              exact G.retN (ts := [6]) Try.func4 Try.results4 rfl (⟨rfl, rfl⟩)
          · refine .no rfl rfl rfl rfl rfl ?_
            refine .no rfl rfl rfl rfl rfl ?_
            refine .q (q_pickF rfl rfl) rfl ?_
            refine .done ?_
            refine .condF rfl ?_
            refine .exit rfl ?_
            refine .seq ?_
            refine .region ?_
            refine .q (q_mv rfl) rfl ?_
            refine .l (l_call (holds_spec one s.b2 r72 x r66 [(d, r69, one)] s.b1 s.M i (by omega) hC) rfl) rfl ?_
            rintro _ _ ⟨_, ⟨rfl, rfl⟩, rfl⟩
            refine .q (q_mv rfl) rfl ?_
            refine .yes rfl rfl rfl ?_
            refine .q (q_mv rfl) rfl ?_
            refine .yes rfl rfl rfl ?_
            refine .l (l_call (holds_spec two s.b1 r82 x r76 [(e, r79, two)] s.b2 s.M i (by omega) hC2) rfl) rfl ?_
            rintro _ _ ⟨_, ⟨rfl, rfl⟩, rfl⟩
            refine .q (q_pickT rfl rfl) rfl ?_
            refine .q (q_mv rfl) rfl ?_
            refine .yes rfl rfl rfl ?_
            refine .l (l_call (works_spec) rfl) rfl ?_
            rintro _ _ ⟨_, ⟨rfl, rfl⟩, rfl⟩
            refine .q (q_pickT rfl rfl) rfl ?_
            refine .q (q_as rfl) rfl ?_
            refine .done ?_
            exact G.retN (ts := [6]) Try.func4 Try.results4 rfl (⟨rfl, rfl⟩)
end Go.Sl
