/- Contracts of scale: rules, yards' parts. -/
import Derived.Test.YtchmfamkpfaieaaU1
set_option linter.unusedVariables false
set_option linter.unusedSimpArgs false
set_option maxHeartbeats 4000000
namespace Go.Ab
open Go Go.Proofs

/-- A rule. -/
structure Ru where
  least : Int
  most : Int
  step : Int
  trim : Int
  off : Int
  div : Int
  thin : Int

def Ru.cells (r : Ru) : List V := [.i .i64 r.least, .i .i64 r.most, .i .i64 r.step, .i .i64 r.trim, .i .i64 r.off, .i .i64 r.div, .i .i64 r.thin]

def Ru.ok (r : Ru) : Bool := fit 1 r.most r.least && decide (r.most ≤ 60) && fit 1 10 r.step && fit 0 5 r.trim && fit 0 20 r.off && fit 1 100 r.div && fit 0 60 r.thin
def Ru.check (r : Ru) : Int := if r.ok then 0 else 3

theorem checkRule_ok {r : Ru} : FSpec Try.prog 22 [.agg r.cells] [] (.i .i64 r.check) [] := by
  refine fn22.spec0 mixed noIt_ok ?_
  rw [ic22]
  refine ab_seq_k fun K1 h1 => ?_
  simp [Ru.cells]
  refine h1 _ _ _ ?_
  clear h1 K1
  refine ab_seq_k fun K1 h1 => ?_
  refine ab_block_k fun K2 h2 => ?_
  have bad : ∀ {env σ K E}, r.ok = false → ab Try.prog noY noIt 0 ((IC.reg [IS.op (some 2) none (IOp.mov (Od.c (V.i IntKind.i64 3)))] (some [2])).seq IC.ret) K E (finK rs22 [] (V.i IntKind.i64 r.check) []) (some 0) env σ := by
    intro env σ K E hr
    refine ab_seq_k fun K1 h1 => ?_
    simp
    refine h1 _ _ _ ?_
    simp
    exact fin_of 1 (by simp [rs22, Ru.check, hr])
  refine ab_seq_k fun K3 h3 => ?_
  simp
  refine callK_of within0 ?_
  simp
  cases e1 : fit 1 r.most r.least with
  | false =>
    simp
    refine h3 _ _ _ (ab_cond_of rfl (fun _ => bad (by simp [Ru.ok, e1])) (fun h => by cases h))
  | true =>
    simp
    refine h3 _ _ _ (ab_cond_of rfl (fun h => bad (by simp at h; simp [Ru.ok, show ¬ r.most ≤ 60 by omega])) (fun h => ?_))
    simp at h
    have e2 : r.most ≤ 60 := by omega
    clear h h3 K3
    refine ab_seq_k fun K3 h3 => ?_
    simp
    refine callK_of within0 ?_
    cases e3 : fit 1 10 r.step with
    | false =>
      simp
      refine h3 _ _ _ (ab_cond_of rfl (fun _ => bad (by simp [Ru.ok, e3])) (fun h => by cases h))
    | true =>
      simp
      refine callK_of within0 ?_
      simp
      refine h3 _ _ _ (ab_cond_of rfl (fun h => bad (by simp at h; simp [Ru.ok, h])) (fun h => ?_))
      have e4 : fit 0 5 r.trim = true := by simpa using h
      clear h h3 K3
      refine ab_seq_k fun K3 h3 => ?_
      simp
      refine callK_of within0 ?_
      cases e5 : fit 0 20 r.off with
      | false =>
        simp
        refine h3 _ _ _ (ab_cond_of rfl (fun _ => bad (by simp [Ru.ok, e5])) (fun h => by cases h))
      | true =>
        simp
        refine callK_of within0 ?_
        cases e6 : fit 1 100 r.div with
        | false =>
          simp
          refine h3 _ _ _ (ab_cond_of rfl (fun _ => bad (by simp [Ru.ok, e6])) (fun h => by cases h))
        | true =>
          simp
          refine callK_of within0 ?_
          simp
          refine h3 _ _ _ (ab_cond_of rfl (fun h => bad (by simp at h; simp [Ru.ok, h])) (fun h => ?_))
          have e7 : fit 0 60 r.thin = true := by simpa using h
          simp
          refine h2 _ _ _ (h1 _ _ _ ?_)
          refine ab_seq_k fun K4 h4 => ?_
          simp
          refine h4 _ _ _ ?_
          simp
          exact fin_of 1 (by simp [rs22, Ru.check, Ru.ok, e1, e2, e3, e4, e5, e6, e7])

/-! ### Yards -/
def spotV (k : Int × Int) : V := .agg [.i .i64 k.1, .i .i64 k.2]
def entV (e : (Int × Int) × Int) : V × V := (spotV e.1, .i .i64 e.2)
def knownV (kn : List ((Int × Int) × Int)) : V := .sm (kn.map entV)
/-- A yard that is built. -/
def yardV (t : List Int) (ft : Bool) (b : List Int) (fb : Bool) (kn : List ((Int × Int) × Int)) : V := .sp [sl t ft, sl b fb, knownV kn] 0

@[simp] theorem pure_known {kn : List ((Int × Int) × Int)} : (knownV kn).pure = true := by
  simp only [knownV, V.pure]
  rw [pureM_all]
  intro e he
  obtain ⟨x, -, rfl⟩ := List.mem_map.1 he
  simp [entV, spotV]
@[simp] theorem pure_yard {t ft b fb kn} : (yardV t ft b fb kn).pure = true := by simp [yardV]

theorem long_ok {cells : List V} {off : Nat} {t : List V} {n : Nat} {full : Bool} (h : cells[off]? = some (.ss t n full)) (hn : (n : Int) < 1000000000) :
    FSpec Try.prog 66 [.sp cells off] [] (.i .i64 ((n : Int) - 1)) [] := by
  refine fn66.spec0 mixed noIt_ok ?_
  rw [ic66]
  refine ab_seq_k fun K1 h1 => ?_
  simp
  refine h1 _ _ _ ?_
  refine ab_seq_k fun K2 h2 => ?_
  simp [h, wrap64 (x := (n : Int) - 1) (by omega) (by omega)]
  refine h2 _ _ _ ?_
  simp
  exact fin_of 1 (by simp [rs66])

/-- What a log is said to scale. -/
def look (kn : List ((Int × Int) × Int)) (k : Int × Int) : Int := ((kn.find? fun e => e.1 == k).map (·.2)).getD 0

theorem key_spot {k : Int × Int} : keyOf .i64 2 (spotV k) = some [k.1, k.2] := by simp [keyOf, spotV]

theorem keysOK_known {kn : List ((Int × Int) × Int)} : keysOK .i64 2 (kn.map entV) := by
  intro e he
  obtain ⟨x, -, rfl⟩ := List.mem_map.1 he
  exact ⟨_, key_spot⟩

theorem findM_known {kn : List ((Int × Int) × Int)} {k : Int × Int} : findM .i64 2 [k.1, k.2] (kn.map entV) = (kn.find? fun e => e.1 == k).map (fun e => V.i .i64 e.2) := by
  induction kn with
  | nil => rfl
  | cons e kn ih =>
    obtain ⟨q, v⟩ := e
    simp only [List.map_cons, entV, findM, key_spot, List.find?_cons]
    by_cases h : q = k
    · subst h; simp
    · have h' : ¬ ([q.1, q.2] = [k.1, k.2]) := by
        intro hE; simp at hE; exact h (Prod.ext hE.1 hE.2)
      have h'' : (q == k) = false := by simpa using h
      simp only [Option.some.injEq, h', if_false, h'']
      exact ih

theorem lkpC_known {kn : List ((Int × Int) × Int)} {x y : Int} {σ : List O} {C : Ct} (h : C (.i .i64 (look kn (x, y))) σ) : lkpC .i64 2 (.i .i64 0) false (knownV kn) (.agg [.i .i64 x, .i .i64 y]) σ C := by
  have hk : keyOf .i64 2 (.agg [.i .i64 x, .i .i64 y]) = some [x, y] := key_spot (k := (x, y))
  simp only [lkpC, lkpK, hk, knownV, lkpF]
  refine ⟨keysOK_known, ?_⟩
  have hf := findM_known (kn := kn) (k := (x, y))
  simp only at hf
  rw [hf]
  simp only [look] at h
  cases hq : kn.find? fun e => e.1 == (x, y) with
  | none => rw [hq] at h; simpa using h
  | some e => rw [hq] at h; simpa using h

theorem scale_ok {t ft b fb kn} {x y : Int} : FSpec Try.prog 52 [yardV t ft b fb kn, .agg [.i .i64 x, .i .i64 y]] [] (.i .i64 (look kn (x, y))) [] := by
  refine fn52.spec0 mixed noIt_ok ?_
  rw [ic52]
  refine ab_seq_k fun K1 h1 => ?_
  simp
  refine h1 _ _ _ ?_
  refine ab_seq_k fun K2 h2 => ?_
  simp [yardV]
  refine lkpC_known ?_
  simp
  refine h2 _ _ _ ?_
  simp
  exact fin_of 1 (by simp [rs52])

/-- Whether a foot of a log is bad. -/
def hasBad (b : List Int) (x y : Int) : Bool := b.any fun f => decide (x ≤ f) && decide (f < y)

def inv86 (b : List Int) (fb : Bool) (x y : Int) (m : Nat) (env : Env) (σ : List O) : Prop :=
  ∃ i : Nat, i + m = b.length ∧ hasBad (b.take i) x y = false ∧ env = [(3, .p 0 0 0), (5, .b false), (12, sl b fb), (13, .i .i64 b.length), (14, .i .i64 i)] ∧ σ = [.row 0 [.i .i64 x, .i .i64 y]]

theorem bad_ok {cells : List V} {b : List Int} {fb : Bool} {x y : Int} (hc : cells[1]? = some (sl b fb)) (hb : (b.length : Int) < 1000000000) :
    FSpec Try.prog 86 [.sp cells 0, .agg [.i .i64 x, .i .i64 y]] [] (.b (hasBad b x y)) [] := by
  refine fn86.spec0 mixed noIt_ok ?_
  rw [ic86]
  refine ab_seq_k fun K1 h1 => ?_
  simp
  refine h1 _ _ _ ?_
  clear h1 K1
  refine ab_seq_k fun K1 h1 => ?_
  simp
  refine h1 _ _ _ ?_
  clear h1 K1
  refine ab_seq_k fun K1 h1 => ?_
  simp
  refine h1 _ _ _ ?_
  clear h1 K1
  refine ab_seq_k fun K1 h1 => ?_
  refine ab_seq_k fun K2 h2 => ?_
  simp [hc]
  refine h2 _ _ _ ?_
  clear h2 K2
  have done : ∀ {v σ env}, v = hasBad b x y → get env 5 = .b v → K1 (some 0) env σ := by
    intro v σ env hv he
    refine h1 _ _ _ ?_
    refine ab_seq_k fun K2 h2 => ?_
    simp [he]
    refine h2 _ _ _ ?_
    simp
    exact fin_of 1 (by simp [rs86, hv])
  clear h1
  refine ab_block_k fun K2 h2 => ?_
  refine ab_loop_k (inv86 b fb x y) b.length ⟨0, by simp, rfl, by simp, rfl⟩ ?_
  rintro m env σ ⟨i, hi, hprev, rfl, rfl⟩ K3 h3
  rw [ic86_0]
  refine ab_seq_k fun K4 h4 => ?_
  simp
  refine h4 _ _ _ ?_
  clear h4 K4
  refine ab_seq_k fun K4 h4 => ?_
  by_cases hlt : i < b.length
  · have h5 : (i : Int) < b.length := by omega
    have g1 : b[i]? = some b[i] := List.getElem?_eq_getElem hlt
    have htake : b.take (i + 1) = b.take i ++ [b[i]] := by rw [List.take_add_one, g1]; rfl
    have hmem : b[i] ∈ b := List.getElem_mem hlt
    generalize b[i] = f at g1 htake hmem
    refine ab_cond_of rfl (fun _ => ?_) (fun h => by simp at h; omega)
    simp
    refine h4 _ _ _ ?_
    clear h4 K4
    refine ab_seq_k fun K4 h4 => ?_
    refine ab_block_k fun K5 h5' => ?_
    refine ab_seq_k fun K6 h6 => ?_
    simp [h5, g1]
    refine h6 _ _ _ ?_
    clear h6 K6
    refine ab_seq_k fun K6 h6 => ?_
    simp
    have fin : ∀ v, v = (decide (x ≤ f) && decide (f < y)) → K6 (some 0) [(3, .p 0 0 0), (5, .b false), (12, sl b fb), (13, .i .i64 b.length), (14, .i .i64 i), (27, .b v)] [.row 0 [.i .i64 x, .i .i64 y]] := by
      intro v hv
      refine h6 _ _ _ (ab_cond_of rfl (fun hE => ?_) (fun hE => ?_))
      · refine ab_seq_k fun K7 h7 => ?_
        simp
        refine h7 _ _ _ ?_
        simp
        refine h2 _ _ _ (done (v := true) ?_ (by simp))
        symm
        rw [hasBad, List.any_eq_true]
        exact ⟨f, hmem, by rw [← hv]; exact hE⟩
      · simp
        refine h5' _ _ _ (h4 _ _ _ ?_)
        simp [wrap64 (x := (i : Int) + 1) (by omega) (by omega)]
        refine h3 _ _ _ (again (m - 1) (by omega) ⟨i + 1, by omega, ?_, by simp, rfl⟩)
        rw [htake]
        simp only [hasBad, List.any_append, List.any_cons, List.any_nil, Bool.or_false, Bool.or_eq_false_iff]
        exact ⟨hprev, by rw [← hv]; exact hE⟩
    by_cases c1 : x ≤ f
    · simp [c1]
      exact fin _ (by simp [c1])
    · simp [c1]
      exact fin _ (by simp [c1])
  · have h5 : ¬ (i : Int) < b.length := by omega
    refine ab_cond_of rfl (fun h => by simp at h; omega) (fun _ => ?_)
    simp
    refine h2 _ _ _ (done (v := false) ?_ (by simp))
    rw [List.take_of_length_le (by omega)] at hprev
    exact hprev.symm

end Go.Ab
