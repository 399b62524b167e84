/- The reference's Orders, walked. -/
import Derived.Test.YtkcfknlpdfgjnaaLJ
set_option linter.unusedVariables false
set_option linter.unusedSimpArgs false
set_option maxHeartbeats 4000000
namespace Go.Ab
open Go Go.Proofs

def lvV (n i : Nat) : V := .ss ((levels n i).map fun p => sl p (i == 0)) (levels n i).length (i == 0)

theorem pureL_sl {f : Bool} : ∀ {L : List (List Int)}, pureL (L.map fun p => sl p f) = true
  | [] => rfl
  | p :: L => by have := pureL_sl (f := f) (L := L); simp [this]

theorem orders60 {n : Nat} (hn1 : 1 ≤ n) (hn : n ≤ 7) : FSpec Try.prog 60 [.i .i64 n] [] (.ss ((ordersL n).map fun p => sl p false) (ordersL n).length false) [] := by
  refine fn60.spec0 mixed noIt_ok ?_
  rw [ic60]
  refine ab_seq_k fun K1 h1 => ?_
  simp
  refine h1 _ _ _ ?_
  clear h1 K1
  refine ab_seq_k fun K2 h2 => ?_
  simp
  refine h2 _ _ _ ?_
  clear h2 K2
  refine ab_seq_k fun K3 h3 => ?_
  refine ab_seq_k fun K4 h4 => ?_
  simp
  refine h4 _ _ _ ?_
  clear h4 K4
  refine ab_block_k fun K5 h5 => ?_
  refine ab_loop_f (fun m env σ => ∃ i : Nat, i + m = n ∧ env = [(0, .i .i64 n), (3, lvV n i), (4, .i .i64 i)] ∧ σ = []) n 3 0 (Nat.le_refl _) (by simp) ⟨0, by omega, ?_, by simp⟩ ?_
  · simp [lvV, levels, ints]
  rintro m env σ ⟨i, hi, rfl, rfl⟩ K6 h6
  rw [ic60_2]
  refine ab_seq_k fun K7 h7 => ?_
  refine ab_seq_k fun K8 h8 => ?_
  simp
  refine h8 _ _ _ ?_
  clear h8 K8
  refine ab_cond_of rfl (fun hc => ?_) (fun hc => ?_)
  · have hin : i < n := by simpa using hc
    simp
    refine h7 _ _ _ ?_
    clear h7 K7
    have hlv := levels_len hn (j := i)
    have hpw : 7 ^ i ≤ 7 ^ 6 := Nat.pow_le_pow_right (by omega) (by omega)
    have hpw7 : 7 ^ (i + 1) ≤ 7 ^ 7 := Nat.pow_le_pow_right (by omega) (by omega)
    have hlv2 := levels_len hn (j := i + 1)
    refine ab_seq_k fun K9 h9 => ?_
    refine ab_block_k fun K10 h10 => ?_
    refine ab_seq_k fun K11 h11 => ?_
    simp
    refine h11 _ _ _ ?_
    clear h11 K11
    refine ab_seq_k fun K12 h12 => ?_
    refine ab_seq_k fun K13 h13 => ?_
    simp
    refine h13 _ _ _ ?_
    clear h13 K13
    refine ab_block_k fun K14 h14 => ?_
    refine ab_loop_k (fun m env σ => ∃ (k : Nat) (v : V) (cs : List V), k + m = (levels n i).length ∧ env = [(0, .i .i64 n), (3, lvV n i), (4, .i .i64 i), (5, v), (6, .i .i64 k)] ∧ Gr 0 1 σ v (lvTo n i k).length cs ∧ Inner σ v cs (lvTo n i k)) (levels n i).length ⟨0, .ss [] 0 true, [], by omega, by simp, by simp [lvTo]; exact Gr.nil, by simp [lvTo]; exact Inner.nil⟩ ?_
    rintro m1 env σ ⟨k, v, cs, hk, rfl, hv, hin2⟩ K15 h15
    rw [ic60_1]
    refine ab_seq_k fun K16 h16 => ?_
    refine ab_seq_k fun K17 h17 => ?_
    simp [lvV]
    rw [← lvV]
    refine h17 _ _ _ ?_
    clear h17 K17
    refine ab_cond_of rfl (fun hc1 => ?_) (fun hc1 => ?_)
    · have hkl : k < (levels n i).length := by simpa using hc1
      have hgk : (levels n i)[k]? = some (levels n i)[k] := List.getElem?_eq_getElem hkl
      generalize hbk : (levels n i)[k] = b at hgk
      have hbl := levels_mem (List.mem_of_getElem? hgk)
      have hto := lvTo_succ hgk
      simp
      refine h16 _ _ _ ?_
      clear h16 K16
      refine ab_seq_k fun K18 h18 => ?_
      refine ab_block_k fun K19 h19 => ?_
      refine ab_seq_k fun K20 h20 => ?_
      simp
      refine h20 _ _ _ ?_
      clear h20 K20
      refine ab_block_k fun K21 h21 => ?_
      refine ab_loop_k (fun m env σ => ∃ (r : Nat) (v : V) (cs : List V), r + m = n ∧ env = [(0, .i .i64 n), (3, lvV n i), (4, .i .i64 i), (5, v), (6, .i .i64 k), (7, .i .i64 r)] ∧ Gr 0 1 σ v (lvTo n i k ++ ext n b r).length cs ∧ Inner σ v cs (lvTo n i k ++ ext n b r)) n ⟨0, v, cs, by omega, by simp, by simp [ext]; exact hv, by simp [ext]; exact hin2⟩ ?_
      clear hv hin2 v cs
      rintro m2 env σ ⟨r, v, cs, hr, rfl, hv, hin2⟩ K22 h22
      rw [ic60_0]
      refine ab_seq_k fun K23 h23 => ?_
      refine ab_seq_k fun K24 h24 => ?_
      simp
      refine h24 _ _ _ ?_
      clear h24 K24
      refine ab_cond_of rfl (fun hc2 => ?_) (fun hc2 => ?_)
      · have hrn : r < n := by simpa using hc2
        simp
        refine h23 _ _ _ ?_
        clear h23 K23
        refine ab_seq_k fun K25 h25 => ?_
        refine ab_block_k fun K26 h26 => ?_
        have hext := ext_succ (n := n) (b := b) (r := r)
        have hnext : ∀ env σ' v' cs', get env 0 = .i .i64 n → get env 3 = lvV n i → get env 4 = .i .i64 i → get env 5 = v' → get env 6 = .i .i64 k → get env 7 = .i .i64 r → Gr 0 1 σ' v' (lvTo n i k ++ ext n b (r + 1)).length cs' → Inner σ' v' cs' (lvTo n i k ++ ext n b (r + 1)) → K26 (some 0) env σ' := by
          intro env σ' v' cs' w0 w3 w4 w5 w6 w7 a1 a2
          refine h26 _ _ _ ?_
          refine h25 _ _ _ ?_
          simp [w0, w3, w4, w5, w6, w7, wrap64 (x := (r : Int) + 1) (by omega) (by omega)]
          exact h22 _ _ _ (again (m2 - 1) (by omega) ⟨r + 1, v', cs', by omega, by simp, a1, a2⟩)
        refine ab_seq_k fun K27 h27 => ?_
        simp [lvV, hgk, hkl, hbk]
        refine callK_of (FSpec.frame (has61 (l := b) (f := i == 0) (x := (r : Int)) (by omega)) (by simp) rfl) ?_
        simp
        refine h27 _ _ _ ?_
        clear h27 K27
        refine ab_cond_of rfl (fun hc3 => ?_) (fun hc3 => ?_)
        · have hrb : ¬ (r : Int) ∈ b := by simpa using hc3
          rw [if_neg hrb] at hext
          simp [hgk, hkl, hbk]
          refine ⟨by omega, ?_⟩
          have hfin : ∀ ver K, (∀ v' σ' cs', Gr 0 1 σ' v' (lvTo n i k ++ ext n b (r + 1)).length cs' → Inner σ' v' cs' (lvTo n i k ++ ext n b (r + 1)) → K v' σ') → appTo 1 24 v (σ ++ [O.row ver (ints (b ++ [(r : Int)]))]) K [.s σ.length ver 0 (b.length + 1) 1] 1 := by
            intro ver K hK
            have hlen : (lvTo n i k).length ≤ (levels n i).length * 7 := by
              have h1 := flat_len (n := n) (L := (levels n i).take k)
              have h2 : ((levels n i).take k).length * n ≤ (levels n i).length * 7 := Nat.mul_le_mul (by rw [List.length_take]; omega) hn
              exact Nat.le_trans h1 h2
            have hel := ext_len (n := n) (b := b) (r := r)
            refine appG (k := 0) (es := 1) (hv.app (g := [O.row ver (ints (b ++ [(r : Int)]))])) (Nat.zero_le _) (by simp only [List.length_append]; omega) (by simp) rfl ?_
            intro v' σ' hg1 hg2
            have hc : InnerIs σ' v' (.s σ.length ver 0 (b.length + 1) 1) (b ++ [(r : Int)]) := by
              refine ⟨σ.length, ver, by simp, ?_, ?_⟩
              · exact hg2.get (fun e => by have := (hv.id_ge e).2; omega) (by simp)
              · intro e
                rcases hg2.id with e1 | ⟨e1, e2⟩
                · rw [e1] at e; have := (hv.id_ge e).2; omega
                · rw [e2] at e; simp at e
            have hkp := (hin2.keep (σ' := σ') (v' := v') (fun id h1 h2 => ⟨?_, ?_⟩)).snoc hc
            · refine hK v' σ' (cs ++ [.s σ.length ver 0 (b.length + 1) 1]) ?_ ?_
              · rw [hext, ← List.append_assoc, List.length_append]; exact hg1
              · rw [hext, ← List.append_assoc]; exact hkp
            · rw [hg2.keep id (by simp; omega) h2, List.getElem?_append_left h1]
            · intro e
              rcases hg2.id with e1 | ⟨e1, e2⟩
              · rw [e1] at e; exact h2 e
              · rw [e2] at e; simp at e; omega
          by_cases hb0 : b = []
          · rw [if_pos hb0]
            subst hb0
            refine hfin 0 _ ?_
            intro v' σ' cs' a1 a2
            simp
            exact hnext _ _ _ _ rfl rfl rfl rfl rfl rfl a1 a2
          · rw [if_neg hb0]
            have hrow : ints b ++ [V.i IntKind.i64 (r : Int)] = ints (b ++ [(r : Int)]) := by simp [ints]
            rw [hrow]
            refine ⟨by omega, hfin 1 _ ?_⟩
            intro v' σ' cs' a1 a2
            simp
            exact hnext _ _ _ _ rfl rfl rfl rfl rfl rfl a1 a2
        · have hrb : (r : Int) ∈ b := by simpa using hc3
          rw [if_pos hrb, List.append_nil] at hext
          simp
          exact hnext _ _ _ _ rfl rfl rfl rfl rfl rfl (by rw [hext]; exact hv) (by rw [hext]; exact hin2)
      · have hrn : r = n := by simp at hc2; omega
        subst hrn
        simp
        refine h21 _ _ _ ?_
        refine h19 _ _ _ ?_
        refine h18 _ _ _ ?_
        simp [wrap64 (x := (k : Int) + 1) (by omega) (by omega)]
        refine h15 _ _ _ (again (m1 - 1) (by omega) ⟨k + 1, v, cs, by omega, by simp, ?_, ?_⟩)
        · rw [hto]; exact hv
        · rw [hto]; exact hin2
    · have hkl : k = (levels n i).length := by simp at hc1; omega
      subst hkl
      rw [lvTo_all] at hv hin2
      simp
      refine h14 _ _ _ ?_
      refine h12 _ _ _ ?_
      simp
      refine h10 _ _ _ ?_
      refine h9 _ _ _ ?_
      simp [wrap64 (x := (i : Int) + 1) (by omega) (by omega)]
      have hne := levels_ne (n := n) (j := i + 1) (by omega)
      have hi0 : (i + 1 == 0) = false := by simp
      refine h6 _ _ _ (againF (m - 1) 3 0 (by omega) (Nat.le_refl _) (Nat.zero_le _) ⟨i + 1, by omega, ?_, by simp⟩)
      simp only [frzE, List.map_cons, List.map_nil, frz_nest hv hin2 hne, lvV, hi0]
      simp
  · have hin : i = n := by simp at hc; omega
    subst hin
    simp
    refine h5 _ _ _ ?_
    refine h3 _ _ _ ?_
    simp [lvV]
    have hi0 : (i == 0) = false := by simp; omega
    rw [hi0, levels_orders]
    refine ab_seq_k fun K50 h50 => ?_
    simp
    refine h50 _ _ _ ?_
    clear h50 K50
    simp
    refine fin_of 1 ?_
    simp [rs60, pureL_sl]
end Go.Ab
