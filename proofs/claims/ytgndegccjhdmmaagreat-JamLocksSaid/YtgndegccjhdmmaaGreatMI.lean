/- Equal lists of lists. -/
import Derived.Test.YtgndegccjhdmmaaGreatMA
import Derived.Test.YtgndegccjhdmmaaGreatJT
set_option linter.unusedVariables false
set_option linter.unusedSimpArgs false
set_option maxHeartbeats 4000000
set_option maxRecDepth 100000
namespace Go.Ab
open Go Go.Proofs

theorem ints25F {a b : List Int} {fa fb : Bool} {σ : List O} (ha : (a.length : Int) < 1000000000) : FSpec Tryz.prog 25 [sl a fa, sl b fb] σ (.b (decide (a = b))) σ := FSpec.frame (σ := σ) (ints25 ha) (by simp) rfl
theorem lists35 {L : List Nat} {f f2 : Bool} {σ : List O} (hl : L.length ≤ 60000) : FSpec Tryz.prog 35 [.ss (lv L) L.length f, .ss (lv L) L.length f2] σ (.b true) σ := by
  refine FSpec.frame (σ := σ) ?_ (by simp) rfl
  refine fn35.spec0 mixed noIt_ok ?_
  rw [ic35]
  refine ab_seq_k fun K1 h1 => ?_
  simp
  refine h1 _ _ _ ?_
  clear h1 K1
  refine ab_seq_k fun K2 h2 => ?_
  refine ab_seq_k fun K3 h3 => ?_
  simp
  refine h3 _ _ _ ?_
  clear h3 K3
  refine ab_cond_of rfl (fun h => by cases h) (fun _ => ?_)
  simp
  refine h2 _ _ _ ?_
  clear h2 K2
  refine ab_seq_k fun K4 h4 => ?_
  refine ab_seq_k fun K5 h5 => ?_
  simp
  refine h5 _ _ _ ?_
  clear h5 K5
  refine ab_block_k fun K6 h6 => ?_
  refine ab_loop_k (fun m env σ => ∃ i : Nat, i + m = L.length ∧ env = [(0, .ss (lv L) L.length f), (1, .ss (lv L) L.length f2), (5, .i .i64 i)] ∧ σ = []) L.length ⟨0, by omega, by simp, rfl⟩ ?_
  rintro m env σ ⟨i, hi, rfl, rfl⟩ K7 h7
  rw [ic35_0]
  refine ab_seq_k fun K8 h8 => ?_
  refine ab_seq_k fun K9 h9 => ?_
  simp
  refine h9 _ _ _ ?_
  clear h9 K9
  refine ab_cond_of rfl (fun hc => ?_) (fun hc => ?_)
  · have hil : i < L.length := by simpa using hc
    have hx : L[i]? = some L[i] := List.getElem?_eq_getElem hil
    generalize L[i] = x at *
    have hlx := lv_get hx
    obtain ⟨hlx1, hlx'⟩ := List.getElem?_eq_some_iff.1 hlx
    have hbl := bl_len (s := x) (k := 12)
    simp
    refine h8 _ _ _ ?_
    clear h8 K8
    refine ab_seq_k fun K10 h10 => ?_
    refine ab_block_k fun K11 h11 => ?_
    refine ab_seq_k fun K12 h12 => ?_
    simp [abDs_consU, drU, recheck_cons, recheck_nil, rcK, IS.dst, hil, hlx, hlx']
    refine callK_of (ints25F (by omega)) ?_
    simp [abDs_consU, drU, recheck_cons, recheck_nil, rcK, IS.dst]
    refine h12 _ _ _ ?_
    refine ab_cond_of rfl (fun h => by cases h) (fun _ => ?_)
    simp
    refine h11 _ _ _ (h10 _ _ _ ?_)
    simp [wrap64 (x := (i : Int) + 1) (by omega) (by omega)]
    exact h7 _ _ _ (again (m - 1) (by omega) ⟨i + 1, by omega, by simp, rfl⟩)
  · have hil : L.length ≤ i := by simp at hc; omega
    simp
    refine h6 _ _ _ (h4 _ _ _ ?_)
    refine ab_seq_k fun K20 h20 => ?_
    simp
    refine h20 _ _ _ ?_
    clear h20 K20
    simp
    exact fin_of 1 (by simp [rs35])
end Go.Ab
