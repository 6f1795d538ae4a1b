/- The statement's own world of views and their twins: one call of it. -/
import Derived.Test.YtgilhenjoinhhaaVLa
set_option linter.unusedVariables false
set_option linter.unusedSimpArgs false
namespace Go.Sl
open Go.Proofs

abbrev Vs := List (Nat × Nat × B)
abbrev fv (x : Nat) (q : Nat × Nat × B) : HP := vw x q.1 q.2.2
abbrev fr (p : Nat) (q : Nat × Nat × B) : HP := rv p q.2.1 q.2.2
abbrev ls1 (V : Vs) : List Value := V.map fun q => pB q.1
abbrev ls2 (V : Vs) : List Value := V.map fun q => pB q.2.1
def worldAt (wd x p : Nat) (V : Vs) (bk : Bk) : HP := fun h => ∃ l m, Sat [blk wd [l, m], vec 1 l (ls1 V), vec 1 m (ls2 V), rows (fv x) V, rows (fr p) V, bookAt p bk] h
theorem worldAt.out (wd x p : Nat) (V : Vs) (bk : Bk) : ∀ h, worldAt wd x p V bk h → ∃ l m, Sat [blk wd [l, m], vec 1 l (ls1 V), vec 1 m (ls2 V), rows (fv x) V, rows (fr p) V, bookAt p bk] h := fun _ s => s
theorem worldAt.mk {wd x p : Nat} {V : Vs} {bk : Bk} (l m : Value) : ∀ h, Sat [blk wd [l, m], vec 1 l (ls1 V), vec 1 m (ls2 V), rows (fv x) V, rows (fr p) V, bookAt p bk] h → worldAt wd x p V bk h := fun _ s => ⟨l, m, s⟩
theorem worldAt.shut {wd x p : Nat} {V : Vs} {bk : Bk} (l m : Value) (j : Nat) (hj : j < V.length) : ∀ h, Sat [blk wd [l, m], vec 1 l (ls1 V), vec 1 m (ls2 V), fv x V[j], rows (fv x) (V.eraseIdx j), fr p V[j], rows (fr p) (V.eraseIdx j), bookAt p bk] h → worldAt wd x p V bk h := fun h s => by
  have s1 := Sat.into (A := [fv x V[j], rows (fv x) (V.eraseIdx j)]) (rows.into j hj) s
  have s2 := Sat.into (A := [fr p V[j], rows (fr p) (V.eraseIdx j)]) (rows.into j hj) s1
  exact worldAt.mk l m h (s2.as _)
theorem worldAt.push {wd x p : Nat} {V : Vs} {bk : Bk} (l m : Value) (j : Nat) (hj : j < V.length) (d e : Nat) (pre : B) : ∀ h, Sat [blk wd [l, m], vec 1 l (ls1 V ++ [pB d]), vec 1 m (ls2 V ++ [pB e]), fv x V[j], rows (fv x) (V.eraseIdx j), fr p V[j], rows (fr p) (V.eraseIdx j), vw x d pre, rv p e pre, bookAt p bk] h → worldAt wd x p (V ++ [(d, e, pre)]) bk h := fun h s => by
  have s1 := Sat.into (A := [fv x V[j], rows (fv x) (V.eraseIdx j)]) (rows.into j hj) s
  have s2 := Sat.into (A := [fr p V[j], rows (fr p) (V.eraseIdx j)]) (rows.into j hj) s1
  have s3 := Sat.into (A := [vw x d pre, rows (fv x) V]) (rows.push (f := fv x) (l := V) (d, e, pre)) s2
  have s4 := Sat.into (A := [rv p e pre, rows (fr p) V]) (rows.push (f := fr p) (l := V) (d, e, pre)) s3
  have e1 : ls1 (V ++ [(d, e, pre)]) = ls1 V ++ [pB d] := by simp
  have e2 : ls2 (V ++ [(d, e, pre)]) = ls2 V ++ [pB e] := by simp
  refine worldAt.mk l m h ?_
  rw [e1, e2]
  exact s4.as _
theorem idx_ok (a : Int) (n : Nat) (hn : 0 < n) : ∃ j : Nat, j < n ∧ ((a.tmod n + n) % n = (j : Int)) ∧ 0 ≤ a.tmod n + n ∧ a.tmod n + n < 2 * n := by
  have h1 : -(n : Int) < a.tmod n := Int.lt_tmod_of_pos a (by omega)
  have h2 : a.tmod n < n := Int.tmod_lt_of_pos a (by omega)
  refine ⟨((a.tmod n + n) % n).toNat, ?_, ?_, by omega, by omega⟩
  · have := Int.emod_lt_of_pos (a.tmod n + n) (show (0 : Int) < n by omega)
    have := Int.emod_nonneg (a.tmod n + n) (show (n : Int) ≠ 0 by omega)
    omega
  · have := Int.emod_nonneg (a.tmod n + n) (show (n : Int) ≠ 0 by omega)
    omega

theorem vlist_neg (x a : Nat) (M : Bk) (pre pfx after : B) (most : Int) (hm : most < 0) : Spec Try.prog 18 [pB a, str pfx, str after, i64 most] [vw x a pre, memAt x M] (Is (.tuple #[.slice none 0 0, i64 2]) [vw x a pre, memAt x M]) := by
  refine Spec.enter Try.func18 rfl Try.ntmps18 rfl ?_
  refine .seq ?_
  refine .region ?_
  refine .q (q_as rfl) rfl ?_
  refine .q (q_as rfl) rfl ?_
  refine .done ?_
  refine .seq ?_
  refine .block ?_
  refine .seq ?_
  refine .region ?_
  refine .q (q_mv rfl) rfl ?_
  refine .q (q_pnil rfl rfl) rfl ?_
  refine .q (q_as rfl) rfl ?_
  refine .done ?_
  refine .condDF rfl ((by simp)) ?_
  refine .seq ?_
  refine .region ?_
  refine .q (q_mv rfl) rfl ?_
  refine .q (q_lt rfl rfl) rfl ?_
  refine .q (q_as rfl) rfl ?_
  refine .done ?_
  refine .condDT rfl ((by omega)) ?_
  refine .seq ?_
  refine .region ?_
  refine .q (q_as rfl) rfl ?_
  refine .q (q_as rfl) rfl ?_
  refine .done ?_
  exact G.retN (ts := [8, 9]) Try.func18 Try.results18 rfl (⟨rfl, rfl⟩)
theorem rlist_neg (p c : Nat) (b : Bk) (pre pfx after : B) (most : Int) (hm : most < 0) : Spec Try.prog 19 [pB c, str pfx, str after, i64 most] [rv p c pre, bookAt p b] (Is (.tuple #[.slice none 0 0, i64 2]) [rv p c pre, bookAt p b]) := by
  refine Spec.enter Try.func19 rfl Try.ntmps19 rfl ?_
  refine .seq ?_
  refine .region ?_
  refine .q (q_as rfl) rfl ?_
  refine .q (q_as rfl) rfl ?_
  refine .done ?_
  refine .seq ?_
  refine .seq ?_
  refine .region ?_
  refine .q (q_mv rfl) rfl ?_
  refine .q (q_lt rfl rfl) rfl ?_
  refine .done ?_
  refine .condDT rfl ((by omega)) ?_
  refine .seq ?_
  refine .region ?_
  refine .q (q_as rfl) rfl ?_
  refine .q (q_as rfl) rfl ?_
  refine .done ?_
  exact G.retN (ts := [8, 9]) Try.func19 Try.results19 rfl (⟨rfl, rfl⟩)
/-- What a call of the world leaves. -/
def Does (base : B) (rest : Bk) (wd x p : Nat) (V : Vs) (bk M : Bk) (N : Nat) (d : Int) : Value → List HP → Prop := fun v Γ' => ∃ V' bk' M', v = .bool true ∧ Γ' = [worldAt wd x p V' bk', memAt x M'] ∧ Cond base V' bk' M' rest (N + 1) ∧ (d ≠ 6 → V' = V) ∧ (d = 1 → bk' = bk ∧ M' = M)
theorem does_spec (base : B) (rest : Bk) (wd x p : Nat) (V : Vs) (bk M : Bk) (N : Nat) (hN : N ≤ 999999) (hC : Cond base V bk M rest N) (d at_ n : Int) (key val : B) (hk : key.length ≤ 140737488355328) (hv : val.length ≤ 140737488355328) :
    Spec Try.prog 7 [pB wd, .agg [i64 d, i64 at_, i64 n, str key, str val].toArray] [worldAt wd x p V bk, memAt x M] (Does base rest wd x p V bk M N d) := by
  have hVl : 0 < V.length := List.length_pos_iff.2 hC.ne
  have hV12 := hC.few
  obtain ⟨j, hj, hjz, hj0, hj1⟩ := idx_ok at_ V.length hVl
  obtain ⟨hpl, hbp⟩ := hC.pre V[j] (List.getElem_mem _)
  have hbl := hC.bklen
  have hsz := hC.size
  have hgk : base <+: (V[j].2.2 ++ key) := hbp.trans (List.prefix_append _ _)
  refine Spec.enter Try.func7 rfl Try.ntmps7 rfl ?_
  refine G.open2 (worldAt.out wd x p V bk) ?_
  intro l m
  refine .seq ?_
  refine .region ?_
  refine .a (l_box rfl) rfl fun r3 => ?_
  refine .q (q_as rfl) rfl ?_
  refine .done ?_
  refine .seq ?_
  refine .region ?_
  refine .q (q_mv rfl) rfl ?_
  refine .q (q_nil rfl) rfl ?_
  refine .q (q_fa0 rfl) rfl ?_
  refine .q (q_ld rfl rfl) rfl ?_
  refine .q (q_lenVm rfl) rfl ?_
  refine .q (q_as rfl) rfl ?_
  refine .done ?_
  refine .seq ?_
  refine .region ?_
  refine .q (q_fa0 rfl) rfl ?_
  refine .q (q_ld rfl rfl) rfl ?_
  refine .q (q_mv rfl) rfl ?_
  refine .q (q_remT rfl rfl (by omega)) rfl ?_
  refine .q (q_mv rfl) rfl ?_
  refine .q (q_add rfl rfl (by omega)) rfl ?_
  refine .q (q_mv rfl) rfl ?_
  refine .q (q_rem rfl rfl hj0 (by omega)) rfl ?_
  refine .q (q_as rfl) rfl ?_
  refine .done ?_
  refine .seq ?_
  refine G.regionD [] ?_
  refine .q 0 rfl (by kernel_rfl) (q_mv rfl) rfl ?_
  refine .q 1 rfl (by kernel_rfl) (q_nil rfl) rfl ?_
  refine .q 2 rfl (by kernel_rfl) (q_fa0 rfl) rfl ?_
  refine .q 3 rfl (by kernel_rfl) (q_ld rfl rfl) rfl ?_
  refine .q 4 rfl (by kernel_rfl) (q_mv rfl) rfl ?_
  refine .q 5 rfl (by kernel_rfl) (q_iaVm rfl rfl hjz hj) rfl ?_
  refine .q 6 rfl (by kernel_rfl) (q_ldVm rfl (by omega)) rfl ?_
  refine .q 7 rfl (by kernel_rfl) (q_mv rfl) rfl ?_
  refine .q 8 rfl (by kernel_rfl) (q_nil rfl) rfl ?_
  refine .q 9 rfl (by kernel_rfl) (q_fa0 rfl) rfl ?_
  refine .q 10 rfl (by kernel_rfl) (q_ld rfl rfl) rfl ?_
  refine .q 11 rfl (by kernel_rfl) (q_mv rfl) rfl ?_
  refine .q 12 rfl (by kernel_rfl) (q_iaVm rfl rfl hjz hj) rfl ?_
  refine .q 13 rfl (by kernel_rfl) (q_ldVm rfl (by omega)) rfl ?_
  refine .q 14 rfl (by kernel_rfl) (q_as rfl) rfl ?_
  refine .q 15 rfl (by kernel_rfl) (q_as rfl) rfl ?_
  refine .done (by kernel_rfl) ?_
  refine .seq ?_
  refine .seq ?_
  refine G.open0 (rows.out (f := fv x) j hj) ?_
  refine G.open0 (rows.out (f := fr p) j hj) ?_
  refine .region ?_
  refine .q (q_fa0 rfl) rfl ?_
  refine .q (q_ld rfl rfl) rfl ?_
  refine .done ?_
  refine .block ?_
  refine .seq ?_
  refine .region ?_
  refine .q (q_eq rfl rfl) rfl ?_
  refine .q (q_as rfl) rfl ?_
  refine .done ?_
  refine .condD rfl (fun h59 => ?_) (fun h59 => ?_)
  · by_cases hok : okk V[j].2.2 key
    · have s1 := vget_spec x V[j].1 M V[j].2.2 key hpl hk
      have s2 := rget_spec p V[j].2.1 bk hC.ok (by omega) V[j].2.2 key hpl hk
      rw [if_pos hok, hC.get hgk] at s1
      rw [if_pos hok] at s2
      refine .seq ?_
      refine .region ?_
      refine .q (q_mv rfl) rfl ?_
      refine .q (q_fa0 rfl) rfl ?_
      refine .q (q_ld rfl rfl) rfl ?_
      refine .l (l_call (s1) rfl) rfl ?_
      rintro _ _ ⟨_, ⟨rfl, rfl⟩, rfl⟩
      refine .q (q_mv rfl) rfl ?_
      refine .q (q_ex rfl rfl) rfl ?_
      refine .q (q_ex rfl rfl) rfl ?_
      refine .q (q_ex rfl rfl) rfl ?_
      refine .q (q_as rfl) rfl ?_
      refine .q (q_as rfl) rfl ?_
      refine .q (q_as rfl) rfl ?_
      refine .done ?_
      refine .seq ?_
      refine .region ?_
      refine .q (q_mv rfl) rfl ?_
      refine .q (q_fa0 rfl) rfl ?_
      refine .q (q_ld rfl rfl) rfl ?_
      refine .l (l_call (s2) rfl) rfl ?_
      rintro _ _ ⟨_, ⟨rfl, rfl⟩, rfl⟩
      refine .q (q_mv rfl) rfl ?_
      refine .q (q_ex rfl rfl) rfl ?_
      refine .q (q_ex rfl rfl) rfl ?_
      refine .q (q_ex rfl rfl) rfl ?_
      refine .q (q_as rfl) rfl ?_
      refine .q (q_as rfl) rfl ?_
      refine .q (q_as rfl) rfl ?_
      refine .done ?_
      refine .seq ?_
      refine .region ?_
      refine .q (q_mv rfl) rfl ?_
      refine .q (q_mv rfl) rfl ?_
      refine .q (q_seq rfl rfl) rfl ?_
      refine .q (q_mv rfl) rfl ?_
      refine GR.setT (t := 80) rfl (rfl) ?_
      refine .yes rfl rfl rfl ?_
      refine .q (q_mv rfl) rfl ?_
      refine .yes rfl rfl rfl ?_
      refine .q (q_mv rfl) rfl ?_
      refine .yes rfl rfl rfl ?_
      refine .q (q_beq rfl rfl) rfl ?_
      refine .q (q_pickT rfl rfl) rfl ?_
      refine .q (q_mv rfl) rfl ?_
      refine GR.setT (t := 85) rfl (rfl) ?_
      refine .yes rfl rfl rfl ?_
      refine .q (q_mv rfl) rfl ?_
      refine .yes rfl rfl rfl ?_
      refine .q (q_mv rfl) rfl ?_
      refine .yes rfl rfl rfl ?_
      refine .q (q_eq rfl rfl) rfl ?_
      refine .q (q_pickT rfl rfl) rfl ?_
      refine .q (q_as rfl) rfl ?_
      refine .done ?_
      refine G.fold (worldAt.shut (wd := wd) (x := x) (p := p) (V := V) (bk := bk) l m j hj) ?_
      exact G.retN (ts := [4]) Try.func7 Try.results7 rfl (⟨V, bk, M, by simp [tupV], rfl, hC.more (by omega), fun _ => rfl, fun _ => ⟨rfl, rfl⟩⟩)
    · have s1 := vget_spec x V[j].1 M V[j].2.2 key hpl hk
      have s2 := rget_spec p V[j].2.1 bk hC.ok (by omega) V[j].2.2 key hpl hk
      rw [if_neg hok] at s1
      rw [if_neg hok] at s2
      refine .seq ?_
      refine .region ?_
      refine .q (q_mv rfl) rfl ?_
      refine .q (q_fa0 rfl) rfl ?_
      refine .q (q_ld rfl rfl) rfl ?_
      refine .l (l_call (s1) rfl) rfl ?_
      rintro _ _ ⟨_, ⟨rfl, rfl⟩, rfl⟩
      refine .q (q_mv rfl) rfl ?_
      refine .q (q_ex rfl rfl) rfl ?_
      refine .q (q_ex rfl rfl) rfl ?_
      refine .q (q_ex rfl rfl) rfl ?_
      refine .q (q_as rfl) rfl ?_
      refine .q (q_as rfl) rfl ?_
      refine .q (q_as rfl) rfl ?_
      refine .done ?_
      refine .seq ?_
      refine .region ?_
      refine .q (q_mv rfl) rfl ?_
      refine .q (q_fa0 rfl) rfl ?_
      refine .q (q_ld rfl rfl) rfl ?_
      refine .l (l_call (s2) rfl) rfl ?_
      rintro _ _ ⟨_, ⟨rfl, rfl⟩, rfl⟩
      refine .q (q_mv rfl) rfl ?_
      refine .q (q_ex rfl rfl) rfl ?_
      refine .q (q_ex rfl rfl) rfl ?_
      refine .q (q_ex rfl rfl) rfl ?_
      refine .q (q_as rfl) rfl ?_
      refine .q (q_as rfl) rfl ?_
      refine .q (q_as rfl) rfl ?_
      refine .done ?_
      refine .seq ?_
      refine .region ?_
      refine .q (q_mv rfl) rfl ?_
      refine .q (q_mv rfl) rfl ?_
      refine .q (q_seq rfl rfl) rfl ?_
      refine .q (q_mv rfl) rfl ?_
      refine GR.setT (t := 80) rfl (rfl) ?_
      refine .yes rfl rfl rfl ?_
      refine .q (q_mv rfl) rfl ?_
      refine .yes rfl rfl rfl ?_
      refine .q (q_mv rfl) rfl ?_
      refine .yes rfl rfl rfl ?_
      refine .q (q_beq rfl rfl) rfl ?_
      refine .q (q_pickT rfl rfl) rfl ?_
      refine .q (q_mv rfl) rfl ?_
      refine GR.setT (t := 85) rfl (rfl) ?_
      refine .yes rfl rfl rfl ?_
      refine .q (q_mv rfl) rfl ?_
      refine .yes rfl rfl rfl ?_
      refine .q (q_mv rfl) rfl ?_
      refine .yes rfl rfl rfl ?_
      refine .q (q_eq rfl rfl) rfl ?_
      refine .q (q_pickT rfl rfl) rfl ?_
      refine .q (q_as rfl) rfl ?_
      refine .done ?_
      refine G.fold (worldAt.shut (wd := wd) (x := x) (p := p) (V := V) (bk := bk) l m j hj) ?_
      exact G.retN (ts := [4]) Try.func7 Try.results7 rfl (⟨V, bk, M, by simp [tupV], rfl, hC.more (by omega), fun _ => rfl, fun _ => ⟨rfl, rfl⟩⟩)
  · refine .seq ?_
    refine .region ?_
    refine .q (q_eq rfl rfl) rfl ?_
    refine .q (q_as rfl) rfl ?_
    refine .done ?_
    refine .condD rfl (fun h90 => ?_) (fun h90 => ?_)
    · have hput : Cond base V (if okk V[j].2.2 key ∧ val.length ≤ 3968 then bk.set (V[j].2.2 ++ key) val else bk) (if okk V[j].2.2 key ∧ val.length ≤ 3968 then mput M (V[j].2.2 ++ key) val else M) rest (N + 1) := by
        split
        · rename_i h; exact hC.put hgk (by rw [List.length_append]; exact h.1.2)
        · exact hC.more (by omega)
      refine .seq ?_
      refine .region ?_
      refine .q (q_mv rfl) rfl ?_
      refine .q (q_fa0 rfl) rfl ?_
      refine .q (q_ld rfl rfl) rfl ?_
      refine .q (q_fa0 rfl) rfl ?_
      refine .q (q_ld rfl rfl) rfl ?_
      refine .l (l_call (vput_spec x V[j].1 M (by omega) V[j].2.2 key val hpl hk hv) rfl) rfl ?_
      rintro _ _ ⟨_, ⟨rfl, rfl⟩, rfl⟩
      refine .q (q_as rfl) rfl ?_
      refine .done ?_
      refine .seq ?_
      refine .region ?_
      refine .q (q_mv rfl) rfl ?_
      refine .q (q_mv rfl) rfl ?_
      refine .q (q_fa0 rfl) rfl ?_
      refine .q (q_ld rfl rfl) rfl ?_
      refine .q (q_fa0 rfl) rfl ?_
      refine .q (q_ld rfl rfl) rfl ?_
      refine .l (l_call (rput_spec p V[j].2.1 bk hC.ok (by omega) V[j].2.2 key val hpl hk hv) rfl) rfl ?_
      rintro _ _ ⟨_, ⟨rfl, rfl⟩, rfl⟩
      refine .q (q_eq rfl rfl) rfl ?_
      refine .q (q_as rfl) rfl ?_
      refine .done ?_
      refine G.fold (worldAt.shut (wd := wd) (x := x) (p := p) (V := V) (bk := if okk V[j].2.2 key ∧ val.length ≤ 3968 then bk.set (V[j].2.2 ++ key) val else bk) l m j hj) ?_
      exact G.retN (ts := [4]) Try.func7 Try.results7 rfl (⟨V, _, _, by simp [tupV], rfl, hput, fun _ => rfl, fun h => absurd h h59⟩)
    · refine .seq ?_
      refine .region ?_
      refine .q (q_eq rfl rfl) rfl ?_
      refine .q (q_as rfl) rfl ?_
      refine .done ?_
      refine .condD rfl (fun h106 => ?_) (fun h106 => ?_)
      · by_cases hok : okk V[j].2.2 key
        · have s1 := vdel_spec x V[j].1 M V[j].2.2 key hpl hk
          have s2 := rdel_spec p V[j].2.1 bk hC.ok (by omega) V[j].2.2 key hpl hk
          rw [if_pos hok, if_pos hok, hC.get hgk] at s1
          rw [if_pos hok, if_pos hok] at s2
          refine .seq ?_
          refine .region ?_
          refine .q (q_mv rfl) rfl ?_
          refine .q (q_fa0 rfl) rfl ?_
          refine .q (q_ld rfl rfl) rfl ?_
          refine .l (l_call (s1) rfl) rfl ?_
          rintro _ _ ⟨_, ⟨rfl, rfl⟩, rfl⟩
          refine .q (q_mv rfl) rfl ?_
          refine .q (q_ex rfl rfl) rfl ?_
          refine .q (q_ex rfl rfl) rfl ?_
          refine .q (q_as rfl) rfl ?_
          refine .q (q_as rfl) rfl ?_
          refine .done ?_
          refine .seq ?_
          refine .region ?_
          refine .q (q_mv rfl) rfl ?_
          refine .q (q_fa0 rfl) rfl ?_
          refine .q (q_ld rfl rfl) rfl ?_
          refine .l (l_call (s2) rfl) rfl ?_
          rintro _ _ ⟨_, ⟨rfl, rfl⟩, rfl⟩
          refine .q (q_mv rfl) rfl ?_
          refine .q (q_ex rfl rfl) rfl ?_
          refine .q (q_ex rfl rfl) rfl ?_
          refine .q (q_as rfl) rfl ?_
          refine .q (q_as rfl) rfl ?_
          refine .done ?_
          refine .seq ?_
          refine .region ?_
          refine .q (q_mv rfl) rfl ?_
          refine .q (q_mv rfl) rfl ?_
          refine .q (q_beq rfl rfl) rfl ?_
          refine .q (q_mv rfl) rfl ?_
          refine GR.setT (t := 125) rfl (rfl) ?_
          refine .yes rfl rfl rfl ?_
          refine .q (q_mv rfl) rfl ?_
          refine .yes rfl rfl rfl ?_
          refine .q (q_mv rfl) rfl ?_
          refine .yes rfl rfl rfl ?_
          refine .q (q_eq rfl rfl) rfl ?_
          refine .q (q_pickT rfl rfl) rfl ?_
          refine .q (q_as rfl) rfl ?_
          refine .done ?_
          refine G.fold (worldAt.shut (wd := wd) (x := x) (p := p) (V := V) (bk := mdel bk (V[j].2.2 ++ key)) l m j hj) ?_
          exact G.retN (ts := [4]) Try.func7 Try.results7 rfl (⟨V, _, _, by simp [tupV], rfl, (hC.del hgk).more (by omega), fun _ => rfl, fun h => absurd h h59⟩)
        · have s1 := vdel_spec x V[j].1 M V[j].2.2 key hpl hk
          have s2 := rdel_spec p V[j].2.1 bk hC.ok (by omega) V[j].2.2 key hpl hk
          rw [if_neg hok, if_neg hok] at s1
          rw [if_neg hok, if_neg hok] at s2
          refine .seq ?_
          refine .region ?_
          refine .q (q_mv rfl) rfl ?_
          refine .q (q_fa0 rfl) rfl ?_
          refine .q (q_ld rfl rfl) rfl ?_
          refine .l (l_call (s1) rfl) rfl ?_
          rintro _ _ ⟨_, ⟨rfl, rfl⟩, rfl⟩
          refine .q (q_mv rfl) rfl ?_
          refine .q (q_ex rfl rfl) rfl ?_
          refine .q (q_ex rfl rfl) rfl ?_
          refine .q (q_as rfl) rfl ?_
          refine .q (q_as rfl) rfl ?_
          refine .done ?_
          refine .seq ?_
          refine .region ?_
          refine .q (q_mv rfl) rfl ?_
          refine .q (q_fa0 rfl) rfl ?_
          refine .q (q_ld rfl rfl) rfl ?_
          refine .l (l_call (s2) rfl) rfl ?_
          rintro _ _ ⟨_, ⟨rfl, rfl⟩, rfl⟩
          refine .q (q_mv rfl) rfl ?_
          refine .q (q_ex rfl rfl) rfl ?_
          refine .q (q_ex rfl rfl) rfl ?_
          refine .q (q_as rfl) rfl ?_
          refine .q (q_as rfl) rfl ?_
          refine .done ?_
          refine .seq ?_
          refine .region ?_
          refine .q (q_mv rfl) rfl ?_
          refine .q (q_mv rfl) rfl ?_
          refine .q (q_beq rfl rfl) rfl ?_
          refine .q (q_mv rfl) rfl ?_
          refine GR.setT (t := 125) rfl (rfl) ?_
          refine .yes rfl rfl rfl ?_
          refine .q (q_mv rfl) rfl ?_
          refine .yes rfl rfl rfl ?_
          refine .q (q_mv rfl) rfl ?_
          refine .yes rfl rfl rfl ?_
          refine .q (q_eq rfl rfl) rfl ?_
          refine .q (q_pickT rfl rfl) rfl ?_
          refine .q (q_as rfl) rfl ?_
          refine .done ?_
          refine G.fold (worldAt.shut (wd := wd) (x := x) (p := p) (V := V) (bk := bk) l m j hj) ?_
          exact G.retN (ts := [4]) Try.func7 Try.results7 rfl (⟨V, _, _, by simp [tupV], rfl, hC.more (by omega), fun _ => rfl, fun h => absurd h h59⟩)
      · refine .seq ?_
        refine .region ?_
        refine .q (q_eq rfl rfl) rfl ?_
        refine .q (q_as rfl) rfl ?_
        refine .done ?_
        refine .condD rfl (fun h130 => ?_) (fun h130 => ?_)
        · by_cases hn0 : n < 0
          · refine .seq ?_
            refine .region ?_
            refine .q (q_mv rfl) rfl ?_
            refine .q (q_fa0 rfl) rfl ?_
            refine .q (q_ld rfl rfl) rfl ?_
            refine .q (q_fa0 rfl) rfl ?_
            refine .q (q_ld rfl rfl) rfl ?_
            refine .q (q_fa0 rfl) rfl ?_
            refine .q (q_ld rfl rfl) rfl ?_
            refine .l (l_call (vlist_neg x V[j].1 M V[j].2.2 key val n hn0) rfl) rfl ?_
            rintro _ _ ⟨_, ⟨rfl, rfl⟩, rfl⟩
            refine .q (q_mv rfl) rfl ?_
            refine .q (q_ex rfl rfl) rfl ?_
            refine .q (q_ex rfl rfl) rfl ?_
            refine .q (q_as rfl) rfl ?_
            refine .q (q_as rfl) rfl ?_
            refine .done ?_
            refine .seq ?_
            refine .region ?_
            refine .q (q_mv rfl) rfl ?_
            refine .q (q_fa0 rfl) rfl ?_
            refine .q (q_ld rfl rfl) rfl ?_
            refine .q (q_fa0 rfl) rfl ?_
            refine .q (q_ld rfl rfl) rfl ?_
            refine .q (q_fa0 rfl) rfl ?_
            refine .q (q_ld rfl rfl) rfl ?_
            refine .l (l_call (rlist_neg p V[j].2.1 bk V[j].2.2 key val n hn0) rfl) rfl ?_
            rintro _ _ ⟨_, ⟨rfl, rfl⟩, rfl⟩
            refine .q (q_mv rfl) rfl ?_
            refine .q (q_ex rfl rfl) rfl ?_
            refine .q (q_ex rfl rfl) rfl ?_
            refine .q (q_as rfl) rfl ?_
            refine .q (q_as rfl) rfl ?_
            refine .done ?_
            refine G.vecNil' 1 (xs := strs []) rfl ?_
            refine .seq ?_
            refine .region ?_
            refine .q (q_mv rfl) rfl ?_
            refine .q (q_mv rfl) rfl ?_
            refine .l (l_call (eqt_spec [vec 1 (.slice none 0 0) (strs [])] (.slice none 0 0) (.slice none 0 0) [] inferInstance inferInstance (by simp)) rfl) rfl ?_
            rintro _ _ ⟨_, ⟨rfl, rfl⟩, rfl⟩
            refine .q (q_mv rfl) rfl ?_
            refine GR.setBT (t := 157) rfl (rfl) ?_
            refine .yes rfl rfl rfl ?_
            refine .q (q_mv rfl) rfl ?_
            refine .yes rfl rfl rfl ?_
            refine .q (q_mv rfl) rfl ?_
            refine .yes rfl rfl rfl ?_
            refine .q (q_eq rfl rfl) rfl ?_
            refine .q (q_pickT rfl rfl) rfl ?_
            refine .q (q_as rfl) rfl ?_
            refine .done ?_
            refine G.fold (worldAt.shut (wd := wd) (x := x) (p := p) (V := V) (bk := bk) l m j hj) ?_
            exact G.retN (ts := [4]) Try.func7 Try.results7 rfl (⟨V, _, _, by simp [tupV], rfl, hC.more (by omega), fun _ => rfl, fun h => absurd h h59⟩)
          · have s1 := vlist_spec x V[j].1 M hC.nd (by omega) hC.len V[j].2.2 key val hpl hk hv n (by omega)
            have s2 := rlist_spec p V[j].2.1 bk (by omega) V[j].2.2 key val n (by omega) hpl hk
            rw [hC.lsk hbp] at s1
            have hLl := lsk_len (kys bk) V[j].2.2 key val n.toNat
            rw [List.length_map] at hLl
            refine .seq ?_
            refine .region ?_
            refine .q (q_mv rfl) rfl ?_
            refine .q (q_fa0 rfl) rfl ?_
            refine .q (q_ld rfl rfl) rfl ?_
            refine .q (q_fa0 rfl) rfl ?_
            refine .q (q_ld rfl rfl) rfl ?_
            refine .q (q_fa0 rfl) rfl ?_
            refine .q (q_ld rfl rfl) rfl ?_
            refine .l (l_call (s1) rfl) rfl ?_
            rintro _ _ ⟨_, ⟨y1, iy1, rfl, rfl⟩, rfl⟩
            refine .q (q_mv rfl) rfl ?_
            refine .q (q_ex rfl rfl) rfl ?_
            refine .q (q_ex rfl rfl) rfl ?_
            refine .q (q_as rfl) rfl ?_
            refine .q (q_as rfl) rfl ?_
            refine .done ?_
            refine .seq ?_
            refine .region ?_
            refine .q (q_mv rfl) rfl ?_
            refine .q (q_fa0 rfl) rfl ?_
            refine .q (q_ld rfl rfl) rfl ?_
            refine .q (q_fa0 rfl) rfl ?_
            refine .q (q_ld rfl rfl) rfl ?_
            refine .q (q_fa0 rfl) rfl ?_
            refine .q (q_ld rfl rfl) rfl ?_
            refine .l (l_call (s2) rfl) rfl ?_
            rintro _ _ ⟨_, ⟨y2, iy2, rfl, rfl⟩, rfl⟩
            refine .q (q_mv rfl) rfl ?_
            refine .q (q_ex rfl rfl) rfl ?_
            refine .q (q_ex rfl rfl) rfl ?_
            refine .q (q_as rfl) rfl ?_
            refine .q (q_as rfl) rfl ?_
            refine .done ?_
            refine .seq ?_
            refine .region ?_
            refine .q (q_mv rfl) rfl ?_
            refine .q (q_mv rfl) rfl ?_
            refine .l (l_call (eqt_spec [vec 1 y1 (strs (lsk (kys bk) V[j].2.2 key val n.toNat)), vec 1 y2 (strs (lsk (kys bk) V[j].2.2 key val n.toNat))] y1 y2 (lsk (kys bk) V[j].2.2 key val n.toNat) inferInstance inferInstance (by omega)) rfl) rfl ?_
            rintro _ _ ⟨_, ⟨rfl, rfl⟩, rfl⟩
            refine .q (q_mv rfl) rfl ?_
            refine GR.setBT (t := 157) rfl (rfl) ?_
            refine .yes rfl rfl rfl ?_
            refine .q (q_mv rfl) rfl ?_
            refine .yes rfl rfl rfl ?_
            refine .q (q_mv rfl) rfl ?_
            refine .yes rfl rfl rfl ?_
            refine .q (q_eq rfl rfl) rfl ?_
            refine .q (q_pickT rfl rfl) rfl ?_
            refine .q (q_as rfl) rfl ?_
            refine .done ?_
            refine G.fold (worldAt.shut (wd := wd) (x := x) (p := p) (V := V) (bk := bk) l m j hj) ?_
            exact G.retN (ts := [4]) Try.func7 Try.results7 rfl (⟨V, _, _, by simp [tupV], rfl, hC.more (by omega), fun _ => rfl, fun h => absurd h h59⟩)
        · refine .seq ?_
          refine .region ?_
          refine .q (q_eq rfl rfl) rfl ?_
          refine .q (q_as rfl) rfl ?_
          refine .done ?_
          refine .condD rfl (fun h162 => ?_) (fun h162 => ?_)
          · have s1 := vclear_spec x V[j].1 M hC.nd (by omega) hC.len V[j].2.2 key hpl hk
            have s2 := rclear_spec p V[j].2.1 bk hC.ok (by omega) hC.bkkeys V[j].2.2 key hpl hk
            have hbig : lsk (kys bk) V[j].2.2 key [] 2147483648 = lsk (kys bk) V[j].2.2 key [] (bk.length + 1) := lsk_big (by rw [List.length_map]; omega) (by rw [List.length_map]; omega)
            rw [hC.lsk hbp, hbig] at s1
            refine .seq ?_
            refine .region ?_
            refine .q (q_mv rfl) rfl ?_
            refine .q (q_fa0 rfl) rfl ?_
            refine .q (q_ld rfl rfl) rfl ?_
            refine .l (l_call (s1) rfl) rfl ?_
            rintro _ _ ⟨_, ⟨rfl, rfl⟩, rfl⟩
            refine .q (q_mv rfl) rfl ?_
            refine .q (q_ex rfl rfl) rfl ?_
            refine .q (q_ex rfl rfl) rfl ?_
            refine .q (q_as rfl) rfl ?_
            refine .q (q_as rfl) rfl ?_
            refine .done ?_
            refine .seq ?_
            refine .region ?_
            refine .q (q_mv rfl) rfl ?_
            refine .q (q_mv rfl) rfl ?_
            refine .q (q_fa0 rfl) rfl ?_
            refine .q (q_ld rfl rfl) rfl ?_
            refine .l (l_call (s2) rfl) rfl ?_
            rintro _ _ ⟨_, ⟨rfl, rfl⟩, rfl⟩
            refine .q (q_eq rfl rfl) rfl ?_
            refine .q (q_mv rfl) rfl ?_
            refine GR.setT (t := 177) rfl (rfl) ?_
            refine .yes rfl rfl rfl ?_
            refine .q (q_mv rfl) rfl ?_
            refine .yes rfl rfl rfl ?_
            refine .q (q_eq rfl rfl) rfl ?_
            refine .q (q_pickT rfl rfl) rfl ?_
            refine .q (q_as rfl) rfl ?_
            refine .done ?_
            refine G.fold (worldAt.shut (wd := wd) (x := x) (p := p) (V := V) (bk := clr bk V[j].2.2 (lsk (kys bk) V[j].2.2 key [] (bk.length + 1))) l m j hj) ?_
            exact G.retN (ts := [4]) Try.func7 Try.results7 rfl (⟨V, _, _, by simp [tupV], rfl, (hC.clr hbp (lsk (kys bk) V[j].2.2 key [] (bk.length + 1))).more (by omega), fun _ => rfl, fun h => absurd h h59⟩)
          · refine .seq ?_
            refine .region ?_
            refine .q (q_eq rfl rfl) rfl ?_
            refine .q (q_as rfl) rfl ?_
            refine .done ?_
            refine .condD rfl (fun h181 => ?_) (fun h181 => ?_)
            · by_cases hle : V[j].2.2.length + key.length ≤ 100
              · have s1 := (vsub_spec x V[j].1 V[j].2.2 key hpl hk).mono (Q' := fun v Γ' => ∃ d, v = .tuple #[pB d, i64 0] ∧ Γ' = [vw x d (V[j].2.2 ++ key), vw x V[j].1 V[j].2.2]) (fun v Γ' h => (h.resolve_right (fun e => e.1 hle)).2)
                have s2 := (rsub_spec p V[j].2.1 V[j].2.2 key hpl hk).mono (Q' := fun v Γ' => ∃ d, v = .tuple #[pB d, i64 0] ∧ Γ' = [rv p d (V[j].2.2 ++ key), rv p V[j].2.1 V[j].2.2]) (fun v Γ' h => (h.resolve_right (fun e => e.1 hle)).2)
                refine .seq ?_
                refine .region ?_
                refine .q (q_mv rfl) rfl ?_
                refine .q (q_fa0 rfl) rfl ?_
                refine .q (q_ld rfl rfl) rfl ?_
                refine .l (l_call (s1) rfl) rfl ?_
                rintro _ _ ⟨_, ⟨dn, rfl, rfl⟩, rfl⟩
                refine .q (q_mv rfl) rfl ?_
                refine .q (q_ex rfl rfl) rfl ?_
                refine .q (q_ex rfl rfl) rfl ?_
                refine .q (q_as rfl) rfl ?_
                refine .q (q_as rfl) rfl ?_
                refine .done ?_
                refine .seq ?_
                refine .region ?_
                refine .q (q_mv rfl) rfl ?_
                refine .q (q_fa0 rfl) rfl ?_
                refine .q (q_ld rfl rfl) rfl ?_
                refine .l (l_call (s2) rfl) rfl ?_
                rintro _ _ ⟨_, ⟨en, rfl, rfl⟩, rfl⟩
                refine .q (q_mv rfl) rfl ?_
                refine .q (q_ex rfl rfl) rfl ?_
                refine .q (q_ex rfl rfl) rfl ?_
                refine .q (q_as rfl) rfl ?_
                refine .q (q_as rfl) rfl ?_
                refine .done ?_
                refine .seq ?_
                refine .seq ?_
                refine .region ?_
                refine .q (q_mv rfl) rfl ?_
                refine .q (q_mv rfl) rfl ?_
                refine .q (q_ne rfl rfl) rfl ?_
                refine .q (q_mv rfl) rfl ?_
                refine GR.setF (t := 200) rfl ((by simp)) ?_
                refine .yes rfl rfl rfl ?_
                refine .q (q_mv rfl) rfl ?_
                refine .yes rfl rfl rfl ?_
                refine .q (q_pnil rfl rfl) rfl ?_
                refine .yes rfl rfl rfl ?_
                refine .q (q_mv rfl) rfl ?_
                refine .yes rfl rfl rfl ?_
                refine .q (q_pnil rfl rfl) rfl ?_
                refine .yes rfl rfl rfl ?_
                refine .q (q_bne rfl rfl) rfl ?_
                refine .q (q_pickF rfl rfl) rfl ?_
                refine .done ?_
                refine .condDF rfl ((by simp)) ?_
                refine .skip ?_
                refine .seq ?_
                refine .region ?_
                refine .q (q_mv rfl) rfl ?_
                refine .q (q_pnnil rfl rfl) rfl ?_
                refine .q (q_mv rfl) rfl ?_
                refine GR.setT (t := 209) rfl ((by simp)) ?_
                refine .yes rfl rfl rfl ?_
                refine .q (q_mv rfl) rfl ?_
                refine .yes rfl rfl rfl ?_
                refine .q (q_lt rfl rfl) rfl ?_
                refine .q (q_pickT rfl rfl) rfl ?_
                refine .done ?_
                refine .condD rfl (fun h212 => ?_) (fun h212 => ?_)
                · refine .seq ?_
                  refine .region ?_
                  refine .q (q_mv rfl) rfl ?_
                  refine .q (q_mv rfl) rfl ?_
                  refine .q (q_nil rfl) rfl ?_
                  refine .q (q_fa0 rfl) rfl ?_
                  refine .q (q_ld rfl rfl) rfl ?_
                  refine .q (q_mv rfl) rfl ?_
                  refine .a (l_bs rfl rfl (by decide) (by simp [Value.cells])) rfl fun r219 => ?_
                  refine .l (l_ap1 rfl rfl rfl (by (try simp only [List.length_map, List.length_append, List.length_nil, List.length_cons, List.length_take, List.length_drop]); omega) (by decide)) rfl ?_
                  rintro v220 _ ⟨_, i220, rfl, rfl⟩
                  refine .q (q_nil rfl) rfl ?_
                  refine .q (q_fa0 rfl) rfl ?_
                  refine .s0 (l_st rfl rfl) ?_
                  refine .done ?_
                  refine .region ?_
                  refine .q (q_mv rfl) rfl ?_
                  refine .q (q_mv rfl) rfl ?_
                  refine .q (q_nil rfl) rfl ?_
                  refine .q (q_fa0 rfl) rfl ?_
                  refine .q (q_ld rfl rfl) rfl ?_
                  refine .q (q_mv rfl) rfl ?_
                  refine .a (l_bs rfl rfl (by decide) (by simp [Value.cells])) rfl fun r229 => ?_
                  refine .l (l_ap1 rfl rfl rfl (by (try simp only [List.length_map, List.length_append, List.length_nil, List.length_cons, List.length_take, List.length_drop]); omega) (by decide)) rfl ?_
                  rintro v230 _ ⟨_, i230, rfl, rfl⟩
                  refine .q (q_nil rfl) rfl ?_
                  refine .q (q_fa0 rfl) rfl ?_
                  refine .s0 (l_st rfl rfl) ?_
                  refine .done ?_
                  refine .inBlock ?_
                  refine .seq ?_
                  refine .region ?_
                  refine .q (q_as rfl) rfl ?_
                  refine .done ?_
                  refine G.fold (worldAt.push (wd := wd) (x := x) (p := p) (V := V) (bk := bk) v220 v230 j hj dn en (V[j].2.2 ++ key)) ?_
                  exact G.retN (ts := [4]) Try.func7 Try.results7 rfl (⟨V ++ [(dn, en, V[j].2.2 ++ key)], _, _, by simp [tupV], rfl, (hC.sub (by omega) dn en hbp hle).more (by omega), fun h => absurd h181 h, fun h => absurd h h59⟩)
                · refine .skip ?_
                  refine .inBlock ?_
                  refine .seq ?_
                  refine .region ?_
                  refine .q (q_as rfl) rfl ?_
                  refine .done ?_
                  refine G.fold (worldAt.shut (wd := wd) (x := x) (p := p) (V := V) (bk := bk) l m j hj) ?_
                  exact G.retN (ts := [4]) Try.func7 Try.results7 rfl (⟨V, _, _, by simp [tupV], rfl, hC.more (by omega), fun _ => rfl, fun h => absurd h h59⟩)
              · have s1 := (vsub_spec x V[j].1 V[j].2.2 key hpl hk).mono (Q' := Is (.tuple #[.pointer none, i64 2]) [vw x V[j].1 V[j].2.2]) (fun v Γ' h => (h.resolve_left (fun e => hle e.1)).2)
                have s2 := (rsub_spec p V[j].2.1 V[j].2.2 key hpl hk).mono (Q' := Is (.tuple #[.pointer none, i64 2]) [rv p V[j].2.1 V[j].2.2]) (fun v Γ' h => (h.resolve_left (fun e => hle e.1)).2)
                refine .seq ?_
                refine .region ?_
                refine .q (q_mv rfl) rfl ?_
                refine .q (q_fa0 rfl) rfl ?_
                refine .q (q_ld rfl rfl) rfl ?_
                refine .l (l_call (s1) rfl) rfl ?_
                rintro _ _ ⟨_, ⟨rfl, rfl⟩, rfl⟩
                refine .q (q_mv rfl) rfl ?_
                refine .q (q_ex rfl rfl) rfl ?_
                refine .q (q_ex rfl rfl) rfl ?_
                refine .q (q_as rfl) rfl ?_
                refine .q (q_as rfl) rfl ?_
                refine .done ?_
                refine .seq ?_
                refine .region ?_
                refine .q (q_mv rfl) rfl ?_
                refine .q (q_fa0 rfl) rfl ?_
                refine .q (q_ld rfl rfl) rfl ?_
                refine .l (l_call (s2) rfl) rfl ?_
                rintro _ _ ⟨_, ⟨rfl, rfl⟩, rfl⟩
                refine .q (q_mv rfl) rfl ?_
                refine .q (q_ex rfl rfl) rfl ?_
                refine .q (q_ex rfl rfl) rfl ?_
                refine .q (q_as rfl) rfl ?_
                refine .q (q_as rfl) rfl ?_
                refine .done ?_
                refine .seq ?_
                refine .seq ?_
                refine .region ?_
                refine .q (q_mv rfl) rfl ?_
                refine .q (q_mv rfl) rfl ?_
                refine .q (q_ne rfl rfl) rfl ?_
                refine .q (q_mv rfl) rfl ?_
                refine GR.setF (t := 200) rfl ((by simp)) ?_
                refine .yes rfl rfl rfl ?_
                refine .q (q_mv rfl) rfl ?_
                refine .yes rfl rfl rfl ?_
                refine .q (q_pnil rfl rfl) rfl ?_
                refine .yes rfl rfl rfl ?_
                refine .q (q_mv rfl) rfl ?_
                refine .yes rfl rfl rfl ?_
                refine .q (q_pnil rfl rfl) rfl ?_
                refine .yes rfl rfl rfl ?_
                refine .q (q_bne rfl rfl) rfl ?_
                refine .q (q_pickF rfl rfl) rfl ?_
                refine .done ?_
                refine .condDF rfl ((by simp)) ?_
                refine .skip ?_
                refine .seq ?_
                refine .region ?_
                refine .q (q_mv rfl) rfl ?_
                refine .q (q_pnnil rfl rfl) rfl ?_
                refine .q (q_mv rfl) rfl ?_
                refine GR.setF (t := 209) rfl ((by simp)) ?_
                refine .no rfl rfl rfl rfl rfl ?_
                refine .no rfl rfl rfl rfl rfl ?_
                refine .q (q_pickF rfl rfl) rfl ?_
                refine .done ?_
                refine .condF rfl ?_
                refine .skip ?_
                refine .inBlock ?_
                refine .seq ?_
                refine .region ?_
                refine .q (q_as rfl) rfl ?_
                refine .done ?_
                refine G.fold (worldAt.shut (wd := wd) (x := x) (p := p) (V := V) (bk := bk) l m j hj) ?_
                exact G.retN (ts := [4]) Try.func7 Try.results7 rfl (⟨V, _, _, by simp [tupV], rfl, hC.more (by omega), fun _ => rfl, fun h => absurd h h59⟩)
            · refine .skip ?_
              refine .inBlock ?_
              refine .seq ?_
              refine .region ?_
              refine .q (q_as rfl) rfl ?_
              refine .done ?_
              refine G.fold (worldAt.shut (wd := wd) (x := x) (p := p) (V := V) (bk := bk) l m j hj) ?_
              exact G.retN (ts := [4]) Try.func7 Try.results7 rfl (⟨V, _, _, by simp [tupV], rfl, hC.more (by omega), fun _ => rfl, fun h => absurd h h59⟩)

theorem does_get (base : B) (rest : Bk) (wd x p : Nat) (V : Vs) (bk M : Bk) (N : Nat) (hN : N ≤ 999999) (hC : Cond base V bk M rest N) (at_ : Int) (key : B) (hk : key.length ≤ 140737488355328) :
    Spec Try.prog 7 [pB wd, .agg [i64 1, i64 at_, i64 0, str key, str []].toArray] [worldAt wd x p V bk, memAt x M] (Is (.bool true) [worldAt wd x p V bk, memAt x M]) :=
  (does_spec base rest wd x p V bk M N hN hC 1 at_ 0 key [] hk (by simp)).mono fun v Γ' ⟨V', bk', M', h1, h2, _, h4, h5⟩ => by
    obtain ⟨rfl, rfl⟩ := h5 rfl
    rw [h4 (by omega)] at h2
    exact ⟨h1, h2⟩
theorem holds_spec (base : B) (rest : Bk) (wd x p : Nat) (V : Vs) (bk M : Bk) (N : Nat) (hN : N ≤ 999999) (hC : Cond base V bk M rest N) :
    Spec Try.prog 8 [pB wd] [worldAt wd x p V bk, memAt x M] (Is (.bool true) [worldAt wd x p V bk, memAt x M]) := by
  have hV12 := hC.few
  have hbl := hC.bklen
  have hsz := hC.size
  refine Spec.enter Try.func8 rfl Try.ntmps8 rfl ?_
  refine .seq ?_
  refine .region ?_
  refine .q (q_as rfl) rfl ?_
  refine .done ?_
  refine .seq ?_
  refine .seq ?_
  refine .region ?_
  refine .q (q_as rfl) rfl ?_
  refine .done ?_
  refine .block ?_
  refine G.loop (σ := Nat) (fun i => [(0, pB wd), (3, i64 (i : Int))]) (fun i => [worldAt wd x p V bk, memAt x M]) (fun i => i ≤ V.length) (fun i => V.length - i) (0) ⟨rfl, rfl, trivial⟩ (by omega) ?_
  rintro i hi IH
  refine G.open2 (worldAt.out wd x p V bk) ?_
  intro l m
  refine .seq ?_
  refine .seq ?_
  refine .region ?_
  refine .q (q_mv rfl) rfl ?_
  refine .q (q_mv rfl) rfl ?_
  refine .q (q_nil rfl) rfl ?_
  refine .q (q_fa0 rfl) rfl ?_
  refine .q (q_ld rfl rfl) rfl ?_
  refine .q (q_lenVm rfl) rfl ?_
  refine .q (q_lt rfl rfl) rfl ?_
  refine .done ?_
  refine .condD rfl (fun h15 => ?_) (fun h15 => ?_)
  · have hj : i < V.length := by omega
    obtain ⟨hpl, hbp⟩ := hC.pre V[i] (List.getElem_mem _)
    refine G.open0 (rows.out (f := fv x) i hj) ?_
    refine G.open0 (rows.out (f := fr p) i hj) ?_
    have s1 := vlist_spec x V[i].1 M hC.nd (by omega) hC.len V[i].2.2 [] [] hpl (by simp) (by simp) 1048576 (by omega)
    have s2 := rlist_spec p V[i].2.1 bk (by omega) V[i].2.2 [] [] 1048576 (by omega) hpl (by simp)
    rw [hC.lsk hbp] at s1
    obtain ⟨L, hL⟩ : ∃ L, lsk (kys bk) V[i].2.2 [] [] (1048576 : Int).toNat = L := ⟨_, rfl⟩
    have hLl := lsk_len (kys bk) V[i].2.2 [] [] (1048576 : Int).toNat
    have hLk : ∀ k ∈ L, k.length ≤ 198 := fun k hk => by rw [← hL] at hk; have := (lsk_okk (K := kys bk) hC.bkkeys hk).2; omega
    rw [List.length_map, hL] at hLl
    rw [hL] at s1
    rw [hL] at s2
    refine .skip ?_
    refine .seq ?_
    refine .block ?_
    refine .seq ?_
    refine .region ?_
    refine .q (q_mv rfl) rfl ?_
    refine .q (q_nil rfl) rfl ?_
    refine .q (q_fa0 rfl) rfl ?_
    refine .q (q_ld rfl rfl) rfl ?_
    refine .q (q_mv rfl) rfl ?_
    refine .q (q_iaVm rfl rfl rfl (by omega)) rfl ?_
    refine .q (q_ldVm rfl (by omega)) rfl ?_
    refine .l (l_call (s1) rfl) rfl ?_
    rintro _ _ ⟨_, ⟨y1, iy1, rfl, rfl⟩, rfl⟩
    refine .q (q_mv rfl) rfl ?_
    refine .q (q_ex rfl rfl) rfl ?_
    refine .q (q_ex rfl rfl) rfl ?_
    refine .q (q_as rfl) rfl ?_
    refine .q (q_as rfl) rfl ?_
    refine .done ?_
    refine .seq ?_
    refine .region ?_
    refine .q (q_mv rfl) rfl ?_
    refine .q (q_nil rfl) rfl ?_
    refine .q (q_fa0 rfl) rfl ?_
    refine .q (q_ld rfl rfl) rfl ?_
    refine .q (q_mv rfl) rfl ?_
    refine .q (q_iaVm rfl rfl rfl (by omega)) rfl ?_
    refine .q (q_ldVm rfl (by omega)) rfl ?_
    refine .l (l_call (s2) rfl) rfl ?_
    rintro _ _ ⟨_, ⟨y2, iy2, rfl, rfl⟩, rfl⟩
    refine .q (q_mv rfl) rfl ?_
    refine .q (q_ex rfl rfl) rfl ?_
    refine .q (q_ex rfl rfl) rfl ?_
    refine .q (q_as rfl) rfl ?_
    refine .q (q_as rfl) rfl ?_
    refine .done ?_
    refine .seq ?_
    refine .seq ?_
    refine .region ?_
    refine .q (q_mv rfl) rfl ?_
    refine .q (q_ne rfl rfl) rfl ?_
    refine .q (q_mv rfl) rfl ?_
    refine GR.setF (t := 42) rfl ((by simp)) ?_
    refine .yes rfl rfl rfl ?_
    refine .q (q_mv rfl) rfl ?_
    refine .yes rfl rfl rfl ?_
    refine .q (q_mv rfl) rfl ?_
    refine .yes rfl rfl rfl ?_
    refine .l (l_call (eqt_spec [vec 1 y1 (strs L), vec 1 y2 (strs L)] y1 y2 L inferInstance inferInstance (by omega)) rfl) rfl ?_
    rintro _ _ ⟨_, ⟨rfl, rfl⟩, rfl⟩
    refine .yes rfl rfl rfl ?_
    refine .q (q_notT rfl) rfl ?_
    refine .q (q_pickF rfl rfl) rfl ?_
    refine .done ?_
    refine .condF rfl ?_
    refine .skip ?_
    refine .seq ?_
    refine .region ?_
    refine .q (q_as rfl) rfl ?_
    refine .done ?_
    refine .block ?_
    refine G.fold (worldAt.shut (wd := wd) (x := x) (p := p) (V := V) (bk := bk) l m i hj) ?_
    refine G.loop (σ := Nat) (fun k => [(0, pB wd), (3, i64 (i : Int)), (4, y1), (8, i64 (k : Int))]) (fun k => [worldAt wd x p V bk, memAt x M, vec 1 y1 (strs L)]) (fun k => k ≤ L.length) (fun k => L.length - k) (0) ⟨rfl, rfl, rfl, rfl, trivial⟩ (by omega) ?_
    rintro k hk IHk
    refine .seq ?_
    refine .seq ?_
    refine .region ?_
    refine .q (q_mv rfl) rfl ?_
    refine .q (q_mv rfl) rfl ?_
    refine .q (q_lenVm rfl) rfl ?_
    refine .q (q_lt rfl rfl) rfl ?_
    refine .done ?_
    refine .condD rfl (fun h51 => ?_) (fun h51 => ?_)
    · have hkl : k < L.length := by omega
      have := hLk L[k] (List.getElem_mem _)
      refine .skip ?_
      refine .seq ?_
      refine .block ?_
      refine .seq ?_
      refine .region ?_
      refine .q (q_mv rfl) rfl ?_
      refine .q (q_mv rfl) rfl ?_
      refine .q (q_mv rfl) rfl ?_
      refine .q (q_mv rfl) rfl ?_
      refine .q (q_iaVm rfl rfl rfl (by omega)) rfl ?_
      refine .q (q_ldVm rfl (by omega)) rfl ?_
      refine .q (q_bst rfl) rfl ?_
      refine .l (l_call (does_get base rest wd x p V bk M N hN hC (i : Int) L[k] (by omega)) rfl) rfl ?_
      rintro _ _ ⟨_, ⟨rfl, rfl⟩, rfl⟩
      refine .q (q_notT rfl) rfl ?_
      refine .done ?_
      refine .condF rfl ?_
      refine .skip ?_
      refine .inBlock ?_
      refine .region ?_
      refine .q (q_mv rfl) rfl ?_
      refine .q (q_add rfl rfl (by omega)) rfl ?_
      refine .q (q_as rfl) rfl ?_
      refine .done ?_
      exact G.again (IHk (k + 1) (by omega) (by omega)) ⟨rfl, rfl, rfl, rfl, trivial⟩
    · refine .exit rfl ?_
      refine .inBlock ?_
      refine .region ?_
      refine .q (q_mv rfl) rfl ?_
      refine .q (q_add rfl rfl (by omega)) rfl ?_
      refine .q (q_as rfl) rfl ?_
      refine .done ?_
      exact G.again (IH (i + 1) (by omega) (by omega)) ⟨rfl, rfl, trivial⟩
  · refine .exit rfl ?_
    refine .seq ?_
    refine .region ?_
    refine .q (q_as rfl) rfl ?_
    refine .done ?_
    refine G.fold (worldAt.mk (wd := wd) (x := x) (p := p) (V := V) (bk := bk) l m) ?_
    exact G.retN (ts := [2]) Try.func8 Try.results8 rfl (⟨rfl, rfl⟩)
end Go.Sl
