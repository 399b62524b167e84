/- The abstract layer, part 11: each operation that is read off the code is sound. -/
import Derived.Test.YtchmfamkpfaieaaAbA
set_option linter.unusedVariables false
set_option linter.unusedSimpArgs false
namespace Go.Ab
open Go

section
variable {P : Program} {C : Cx} {σ : List O} {env : Nat → V} {a : Act}

theorem builtin_run {o : Oper} {c : Call} {b : Builtin} (ho : o.op = .call c) (hc : c.callee = .builtin b) (w : World) :
    ∃ cs, (execOp a.eval o).run P w = (builtin b c.argTypes o.type cs (c.args.map a.eval)).run P w :=
  ⟨_, by simp only [execOp, ho, resolve, hc, Sem.run_bind, Sem.run_pure, Result.andThen_ok, invoke]; rfl⟩

theorem arr1 {α : Type} {a : Array α} {x : α} (h : a.toList = [x]) : a = #[x] := by
  rw [show a = a.toList.toArray by simp, h]
theorem arr2 {α : Type} {a : Array α} {x y : α} (h : a.toList = [x, y]) : a = #[x, y] := by
  rw [show a = a.toList.toArray by simp, h]
theorem ts1 {ts : Array TypeId} {t : TypeId} (h : ts[0]? = some t) (hs : ts.size = 1) : ts = #[t] := by
  match ts, hs with
  | ⟨[x]⟩, _ => simp at h; rw [h]
theorem ts2 {ts : Array TypeId} {t : TypeId} (h : ts[0]? = some t) (hs : ts.size = 2) : ∃ t', ts = #[t, t'] := by
  match ts, hs with
  | ⟨[x, y]⟩, _ => simp at h; rw [h]; exact ⟨y, rfl⟩

theorem max2_eq (k : IntKind) (x : Int) (k' : IntKind) (y : Int) : Builtin.max2 (.int k x) (.int k' y) = pure (.int k (max x y)) := by
  simp only [Builtin.max2]
  congr 2
  rw [Int.max_def]; split <;> split <;> omega
theorem min2_eq (k : IntKind) (x : Int) (k' : IntKind) (y : Int) : Builtin.min2 (.int k x) (.int k' y) = pure (.int k (min x y)) := by
  simp only [Builtin.min2]
  congr 2
  rw [Int.min_def]; split <;> split <;> omega

theorem builtin_sound (h : R C σ) (he : ∀ t, VR C (env t) (a.tmps.getD t undef)) {o : Oper} {c : Call} {b : Builtin} (ho : o.op = .call c) (hc : c.callee = .builtin b) {io : IOp}
    (htr : trBuiltin P b c.args.toList c.argTypes = some io) {K : V → List O → Prop} (hk : evK (Od.ev env) σ K io) : NextOK C K ((execOp a.eval o).run P C.w) := by
  obtain ⟨consts, hrun⟩ := builtin_run (P := P) (a := a) ho hc C.w
  rw [hrun]
  clear hrun
  unfold trBuiltin at htr
  split at htr
  · -- len
    rename_i x hargs
    have hA : c.args.map a.eval = #[a.eval x] := by rw [arr1 hargs]; simp
    split at htr
    · rename_i t y ht0 hy
      split at htr
      · rename_i e ht
        obtain ⟨hs, rfl⟩ := gd_some htr
        have hts := ts1 ht0 (by simpa using hs)
        rw [hts, hA]
        exact NextOK.of_done (Done.eqσ (K := K) (len_sound h (trX_sound hy he) ht hk))
      · rename_i k e ht
        obtain ⟨hs, rfl⟩ := gd_some htr
        have hts := ts1 ht0 (by simpa using hs)
        rw [hts, hA]
        exact NextOK.of_done (Done.eqσ (K := K) (lenm_sound h (trX_sound hy he) ht hk))
      · rename_i ht
        obtain ⟨hs, rfl⟩ := gd_some htr
        have hts := ts1 ht0 (by simpa using hs)
        rw [hts, hA]
        exact NextOK.of_done (Done.eqσ (K := K) (lens_sound h (trX_sound hy he) ht hk))
      · rename_i n e ht
        obtain ⟨hs, rfl⟩ := gd_some htr
        have hts := ts1 ht0 (by simpa using hs)
        rw [hts, hA]
        refine NextOK.of_done ?_
        have : (Builtin.len_ #[t] o.type #[a.eval x]).run P C.w = .ok (.int .i64 n) C.w := by simp [Builtin.len_, run_underlying ht, goInt]
        rw [this]
        exact Done.same h (.i _ _) hk
      · cases htr
    · cases htr
  · -- append
    rename_i x y hargs
    have hA : c.args.map a.eval = #[a.eval x, a.eval y] := by rw [arr2 hargs]; simp
    split at htr
    · rename_i t t' va vb ht0 ht1 hx hy
      split at htr
      · rename_i e ht
        split at htr
        · rename_i i zs hi hz
          obtain ⟨hs, rfl⟩ := gd_some htr
          simp only [Bool.and_eq_true, beq_iff_eq, decide_eq_true_eq] at hs
          obtain ⟨⟨⟨rfl, h2⟩, h3⟩, h4⟩ := hs
          obtain ⟨t'', hts⟩ := ts2 ht0 h2
          have : t'' = t := by rw [hts] at ht1; simpa using ht1
          subst this
          rw [hts, hA]
          exact NextOK.of_done (app_sound h (trX_sound hx he) (trX_sound hy he) ht hi hz h3 h4 hk)
        · cases htr
      · cases htr
    · cases htr
  · -- clear
    rename_i x hargs
    have hA : c.args.map a.eval = #[a.eval x] := by rw [arr1 hargs]; simp
    split at htr
    · rename_i t y ht0 hy
      split at htr
      · rename_i e ht
        split at htr
        · rename_i s zs hs hz
          obtain ⟨hs', rfl⟩ := gd_some htr
          simp only [Bool.and_eq_true, beq_iff_eq] at hs'
          have hts := ts1 ht0 hs'.1
          rw [hts, hA]
          exact NextOK.of_done (clr_sound h (trX_sound hy he) ht hs hz hs'.2 hk)
        · cases htr
      · cases htr
    · cases htr
  · -- copy
    rename_i x y hargs
    have hA : c.args.map a.eval = #[a.eval x, a.eval y] := by rw [arr2 hargs]; simp
    split at htr
    · rename_i t va vb ht0 hx hy
      split at htr
      · rename_i e ht
        split at htr
        · rename_i s hs
          obtain ⟨hs', rfl⟩ := gd_some htr
          obtain ⟨t'', hts⟩ := ts2 ht0 (by simpa using hs')
          rw [hts, hA]
          exact NextOK.of_done (cpy_sound h (trX_sound hx he) (trX_sound hy he) ht hs hk)
        · cases htr
      · cases htr
    · cases htr
  · -- delete
    rename_i x y hargs
    have hA : c.args.map a.eval = #[a.eval x, a.eval y] := by rw [arr2 hargs]; simp
    split at htr
    · rename_i t va vb ht0 hx hy
      split at htr
      · rename_i k e ht
        split at htr
        · rename_i q n hkey
          obtain ⟨hs', rfl⟩ := gd_some htr
          obtain ⟨t'', hts⟩ := ts2 ht0 (by simpa using hs')
          rw [hts, hA]
          exact NextOK.of_done (mdel_sound h (trX_sound hx he) (trX_sound hy he) ht hkey hk)
        · cases htr
      · cases htr
    · cases htr
  · -- max
    simp only [Option.map_eq_some_iff] at htr
    obtain ⟨ys, hys, rfl⟩ := htr
    refine NextOK.of_done (Done.eqσ (K := K) (mx_sound h (trXs_sound he hys) (fun k x k' y => max2_eq k x k' y) hk _ (fun d ds hd => ?_)))
    simp only [Builtin.max_]
    rw [show (c.args.map a.eval).toList = d :: ds by simpa using hd]
  · -- min
    simp only [Option.map_eq_some_iff] at htr
    obtain ⟨ys, hys, rfl⟩ := htr
    refine NextOK.of_done (Done.eqσ (K := K) (mx_sound h (trXs_sound he hys) (fun k x k' y => min2_eq k x k' y) hk _ (fun d ds hd => ?_)))
    simp only [Builtin.min_]
    rw [show (c.args.map a.eval).toList = d :: ds by simpa using hd]
  · cases htr

end
end Go.Ab
