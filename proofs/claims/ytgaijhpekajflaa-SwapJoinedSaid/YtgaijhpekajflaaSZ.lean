/- Groups, the law SwapGroups. -/
import Derived.Test.YtgaijhpekajflaaSY
set_option linter.unusedVariables false
set_option linter.unusedSimpArgs false
set_option maxHeartbeats 4000000
set_option maxRecDepth 100000
namespace Go.Ab
open Go Go.Proofs

theorem groups31_no {n : Int} {D : List Db} {f : Bool} (hl : (D.length : Int) < 9223372036854775808) (hc : checkBook n D ≠ 0) : FSpec Try.prog 31 [bookV n D f] [] (.tup [.ss [] 0 true, .i .i64 (checkBook n D)]) [] := by
  refine fn31.spec0 mixed noIt_ok ?_
  rw [ic31]
  have hO := fun σ => FSpec.frame (σ := σ) (open61 (n := n) (D := D) (f := f) hl) (by simp) openV_pure
  have e : openV n D f = .tup [.np, .i .i64 (checkBook n D)] := by simp [openV, hc]
  rw [e] at hO
  refine ab_seq_k fun K1 h1 => ?_
  simp
  refine h1 _ _ _ ?_
  clear h1 K1
  refine ab_seq_k fun K2 h2 => ?_
  simp [take_bookC]
  refine callK_of (hO _) ?_
  simp [take_bookC]
  refine h2 _ _ _ ?_
  clear h2 K2
  refine ab_seq_k fun K3 h3 => ?_
  refine ab_seq_k fun K4 h4 => ?_
  simp
  refine h4 _ _ _ ?_
  clear h4 K4
  refine ab_cond_of rfl (fun _ => ?_) (fun h => by simp [hc] at h)
  refine ab_seq_k fun K5 h5 => ?_
  simp
  refine h5 _ _ _ ?_
  clear h5 K5
  simp
  exact fin_of 1 (by simp [rs31])
def grpL (o : List Nat) : List Int := sortB ltI (ofN o)
theorem grpL_len {o} : (grpL o).length = o.length := by rw [grpL, sortB_len, ofN_len]
theorem groups31 {N : Nat} {D : List Db} (hl : (D.length : Int) < 9223372036854775808) (hc : checkBook N D = 0) (hN1 : 1 ≤ N) (hN : N ≤ 10) (hD : DbOK N 1000000 D) :
    ∃ o : List Nat, Chain (balF D) N o 0 0 ∧ (∀ f, FSpec Try.prog 64 [ledT N D f] [] (sl (grpL o) false) []) ∧ ∀ f, FSpec Try.prog 31 [bookV N D f] [] (.tup [sl (grpL o) false, .i .i64 0]) [] := by
  obtain ⟨o, hch, hG⟩ := groups64 hN1 hN hD
  refine ⟨o, hch, hG, fun f => ?_⟩
  refine fn31.spec0 mixed noIt_ok ?_
  rw [ic31]
  have hO := fun σ => FSpec.frame (σ := σ) (open61 (n := N) (D := D) (f := f) hl) (by simp) openV_pure
  have e : openV N D f = .tup [ledT N D f, .i .i64 0] := by simp [openV, hc]
  rw [e] at hO
  have hGf := fun σ => FSpec.frame (σ := σ) (hG f) (by simp) (by simp)
  have hpt : (ledT N D f).pure = true := pure_ledT
  clear e hG
  generalize ledT N D f = lt at *
  refine ab_seq_k fun K1 h1 => ?_
  simp
  refine h1 _ _ _ ?_
  clear h1 K1
  refine ab_seq_k fun K2 h2 => ?_
  simp [take_bookC]
  refine callK_of (hO _) ?_
  simp [take_bookC]
  refine h2 _ _ _ ?_
  clear h2 K2
  refine ab_seq_k fun K3 h3 => ?_
  refine ab_seq_k fun K4 h4 => ?_
  simp
  refine h4 _ _ _ ?_
  clear h4 K4
  refine ab_cond_of rfl (fun h => by cases h) (fun _ => ?_)
  simp
  refine h3 _ _ _ ?_
  refine ab_seq_k fun K5 h5 => ?_
  simp
  refine callK_of (hGf _) ?_
  simp
  refine h5 _ _ _ ?_
  clear h5 K5
  simp
  exact fin_of 1 (by simp [rs31, grpL])
theorem chain_top {N : Nat} {D : List Db} {o : List Nat} (h : Chain (balF D) N o 0 0) : (o.length : Int) = topP N D := by
  have := h.cnt
  rw [prP_zero] at this
  unfold topP
  omega
theorem nats_ofN {o : List Nat} : nats (ofN o) = o := by
  unfold nats ofN
  rw [List.map_map]
  exact List.map_id'' (fun x => rfl) o
theorem chkG_own {N : Nat} {D : List Db} {o : List Nat} (hc : checkBook N D = 0) (h : Chain (balF D) N o 0 0) : chkG N D (grpL o) = (topP N D, 0) := by
  have hmem : ∀ x ∈ grpL o, ∃ g ∈ o, x = (g : Int) := fun x hx => by
    unfold grpL at hx
    rw [sortB_mem] at hx
    obtain ⟨g, hg, e⟩ := List.mem_map.1 hx
    exact ⟨g, hg, e.symm⟩
  have h0 : ¬ (N : Int) < (grpL o).length := by rw [grpL_len]; have := h.len; omega
  have h1 : ((grpL o).any fun x => !fit 1 (((2 ^ N : Nat) : Int) - 1) x) = false := by
    rw [List.any_eq_false]
    intro x hx
    obtain ⟨g, hg, rfl⟩ := hmem x hx
    have := h.og g hg
    have e : fit 1 (((2 ^ N : Nat) : Int) - 1) (g : Int) = true := by
      unfold fit
      rw [Bool.and_eq_true, decide_eq_true_eq, decide_eq_true_eq]
      omega
    rw [e]
    simp
  have h2 : oneB N (nats (grpL o)) = true := oneB_iff.2 fun m hm => by
    have hp : (nats (grpL o)).Perm o := by
      have := (sortB_perm (lt := ltI) (l := ofN o)).map Int.toNat
      have e : (ofN o).map Int.toNat = o := nats_ofN
      rw [e] at this
      exact this
    unfold cntB
    rw [hp.countP_eq]
    have := h.one m hm
    simpa [cntB] using this
  have h3 : ((grpL o).any fun x => !decide (sumF (balF D) x.toNat N = 0)) = false := by
    rw [List.any_eq_false]
    intro x hx
    obtain ⟨g, hg, rfl⟩ := hmem x hx
    have := (h.og g hg).2.2
    simp [this]
  have h4 := chain_top h
  unfold chkG
  rw [if_neg (by simp [hc]), if_neg h0, Int.toNat_natCast, if_neg (by rw [h1]; simp), if_neg (by rw [h2]; simp), if_neg (by rw [h3]; simp), grpL_len, h4]
theorem grpL_sorted {o : List Nat} {i : Nat} {x y : Int} (hx : (grpL o)[i]? = some x) (hy : (grpL o)[i + 1]? = some y) : x ≤ y := by
  obtain ⟨h1, rfl⟩ := List.getElem?_eq_some_iff.1 hx
  obtain ⟨h2, rfl⟩ := List.getElem?_eq_some_iff.1 hy
  exact List.pairwise_iff_getElem.1 (sortB_sorted (l := ofN o)) i (i + 1) h1 h2 (by omega)
end Go.Ab
