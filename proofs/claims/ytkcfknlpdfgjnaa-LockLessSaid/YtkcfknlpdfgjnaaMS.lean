/- The tow with another raft. -/
import Derived.Test.YtkcfknlpdfgjnaaMO
import Derived.Test.YtkcfknlpdfgjnaaLW
set_option linter.unusedVariables false
set_option linter.unusedSimpArgs false
set_option maxHeartbeats 4000000
set_option maxRecDepth 100000
namespace Go.Ab
open Go Go.Proofs

theorem lsV_set' {T : Tw} {i : Nat} {p : Int × Int} (h : i < T.length) : splice (lsV T) (i * 2) [V.i IntKind.i64 p.1, V.i IntKind.i64 p.2] = lsV (T.set i p) := by
  unfold splice
  induction T generalizing i with
  | nil => simp at h
  | cons q T ih =>
    cases i with
    | zero => simp [lsV]
    | succ i =>
      have ih := ih (i := i) (by simpa using h)
      have e1 : (i + 1) * 2 = i * 2 + 1 + 1 := by omega
      have e2 : (i + 1) * 2 + [V.i IntKind.i64 p.1, V.i IntKind.i64 p.2].length = (i * 2 + [V.i IntKind.i64 p.1, V.i IntKind.i64 p.2].length) + 1 + 1 := by simp; omega
      rw [e2, e1, List.set_cons_succ]
      simp only [lsV, List.take_succ_cons, List.drop_succ_cons, List.cons_append]
      rw [ih]
theorem with47 {T : Tw} {ft : Bool} {room : Int} {i : Nat} {r : Int × Int} (hn7 : T.length ≤ 7) (hi : i < T.length) : FSpec Try.prog 47 [towV T ft room, .i .i64 i, .agg [.i .i64 r.1, .i .i64 r.2]] [] (towV (T.set i r) false room) [] := by
  refine fn47.spec0 mixed noIt_ok ?_
  rw [ic47]
  refine ab_seq_k fun K1 h1 => ?_
  simp
  refine h1 _ _ _ ?_
  clear h1 K1
  refine ab_seq_k fun K2 h2 => ?_
  have hne : T ≠ [] := by rintro rfl; simp at hi
  have hnl : T.length ≠ 0 := by omega
  have hK2 : ∀ (b c : Nat) (U : List O), U[1]? = some (.row 0 [.i .i64 r.1, .i .i64 r.2]) → U[2]? = some (.row 0 [.ss [] 0 true, .i .i64 0]) → U[c]? = some (.row 0 (lsV T)) → U[b]? = some (.row 0 [.s c 0 0 T.length 2, .i .i64 room]) → 3 ≤ c → 3 ≤ b → b ≠ c → K2 (some 0) [(1, .i .i64 i), (5, .p 1 0 0), (6, .p 2 0 0), (7, .p b 0 0)] U := by
    intro b c U u1 u2 uc ub hc hb hbc
    obtain ⟨hu1, u1'⟩ := List.getElem?_eq_some_iff.1 u1
    obtain ⟨huc, uc'⟩ := List.getElem?_eq_some_iff.1 uc
    obtain ⟨hub, ub'⟩ := List.getElem?_eq_some_iff.1 ub
    refine h2 _ _ _ ?_
    clear h2 K2
    have hle : i * 2 + 2 ≤ T.length * 2 := by omega
    refine ab_seq_k fun K3 h3 => ?_
    simp [u1, u1', uc, uc', ub, ub', hi, hle]
    refine h3 _ _ _ ?_
    clear h3 K3
    have e : List.take (i * 2) (lsV T) ++ V.i IntKind.i64 r.fst :: V.i IntKind.i64 r.snd :: List.drop (i * 2 + 2) (lsV T) = lsV (T.set i r) := by
      have h := lsV_set' (p := r) hi
      unfold splice at h
      rw [List.append_assoc] at h
      exact h
    rw [e]
    have w2 : (U.set c (O.row 0 (lsV (T.set i r))))[2]? = some (.row 0 [.ss [] 0 true, .i .i64 0]) := by rw [List.getElem?_set_ne (by omega)]; exact u2
    have wb : (U.set c (O.row 0 (lsV (T.set i r))))[b]? = some (.row 0 [.s c 0 0 T.length 2, .i .i64 room]) := by rw [List.getElem?_set_ne (fun h => hbc h.symm)]; exact ub
    have wc : (U.set c (O.row 0 (lsV (T.set i r))))[c]? = some (.row 0 (lsV (T.set i r))) := List.getElem?_set_self huc
    generalize U.set c (O.row 0 (lsV (T.set i r))) = W at *
    obtain ⟨hw2, w2'⟩ := List.getElem?_eq_some_iff.1 w2
    obtain ⟨hwb, wb'⟩ := List.getElem?_eq_some_iff.1 wb
    refine ab_seq_k fun K4 h4 => ?_
    simp [w2, w2', wb, wb']
    refine h4 _ _ _ ?_
    clear h4 K4
    simp [hw2]
    refine fin_of 3 ?_
    have wc2 : (W.set 2 (O.row 0 [.s c 0 0 T.length 2, .i .i64 room]))[c]? = some (.row 0 (lsV (T.set i r))) := by rw [List.getElem?_set_ne (by omega)]; exact wc
    have hf := frz_row (k := 0) (n := 0) (m := T.length) (es := 2) wc2 (Nat.zero_le _) (by simp) (pure_lsV (l := T.set i r))
    have w3 : (W.set 2 (O.row 0 [.s c 0 0 T.length 2, .i .i64 room]))[2]? = some (.row 0 [.s c 0 0 T.length 2, .i .i64 room]) := List.getElem?_set_self hw2
    generalize W.set 2 (O.row 0 [.s c 0 0 T.length 2, .i .i64 room]) = X at *
    obtain ⟨hw3, w3'⟩ := List.getElem?_eq_some_iff.1 w3
    simp [rs47, w3, w3', hw3]
    have := frz_agg2 hf (b := .i .i64 room) (b' := .i .i64 room) (by simp)
    simpa [towC, slL] using this
  simp only [ab_alt_two, ab_alt_one]
  refine ⟨?_, ?_⟩
  · simp [abDs_consU, drU, recheck_cons, recheck_nil, rcK, IS.dst, get0_towC, get1_towC, hnl]
    exact ⟨by omega, hK2 4 3 _ rfl rfl rfl rfl (by omega) (by omega) (by omega)⟩
  · simp [abDs_consU, drU, recheck_cons, recheck_nil, rcK, IS.dst, get0_towC, get1_towC, hnl]
    exact ⟨by omega, hK2 3 4 _ rfl rfl rfl rfl (by omega) (by omega) (by omega)⟩
end Go.Ab
