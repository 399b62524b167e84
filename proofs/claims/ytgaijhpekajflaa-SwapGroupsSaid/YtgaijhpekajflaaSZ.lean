/- Groups, the law SwapGroups. -/
import Derived.Test.YtgaijhpekajflaaSY
set_option linter.unusedVariables false
set_option linter.unusedSimpArgs false
set_option maxHeartbeats 4000000
set_option maxRecDepth 100000
namespace Go.Ab
open Go Go.Proofs

theorem groups31_no {n : Int} {D : List Db} {f : Bool} (hl : (D.length : Int) < 9223372036854775808) (hc : checkBook n D ≠ 0) : FSpec Try.prog 31 [bookV n D f] [] (.tup [.ss [] 0 true, .i .i64 (checkBook n D)]) [] := by
  refine fn31.spec0 mixed noIt_ok ?_
  rw [ic31]
  have hO := fun σ => FSpec.frame (σ := σ) (open61 (n := n) (D := D) (f := f) hl) (by simp) openV_pure
  have e : openV n D f = .tup [.np, .i .i64 (checkBook n D)] := by simp [openV, hc]
  rw [e] at hO
  refine ab_seq_k fun K1 h1 => ?_
  simp
  refine h1 _ _ _ ?_
  clear h1 K1
  refine ab_seq_k fun K2 h2 => ?_
  simp [take_bookC]
  refine callK_of (hO _) ?_
  simp [take_bookC]
  refine h2 _ _ _ ?_
  clear h2 K2
  refine ab_seq_k fun K3 h3 => ?_
  refine ab_seq_k fun K4 h4 => ?_
  simp
  refine h4 _ _ _ ?_
  clear h4 K4
  refine ab_cond_of rfl (fun _ => ?_) (fun h => by simp [hc] at h)
  refine ab_seq_k fun K5 h5 => ?_
  simp
  refine h5 _ _ _ ?_
  clear h5 K5
  simp
  exact fin_of 1 (by simp [rs31])
def grpL (o : List Nat) : List Int := sortB ltI (ofN o)
theorem grpL_len {o} : (grpL o).length = o.length := by rw [grpL, sortB_len, ofN_len]
theorem groups31 {N : Nat} {D : List Db} (hl : (D.length : Int) < 9223372036854775808) (hc : checkBook N D = 0) (hN1 : 1 ≤ N) (hN : N ≤ 10) (hD : DbOK N 1000000 D) :
    ∃ o : List Nat, Chain (balF D) N o 0 0 ∧ (∀ f, FSpec Try.prog 64 [ledT N D f] [] (sl (grpL o) false) []) ∧ ∀ f, FSpec Try.prog 31 [bookV N D f] [] (.tup [sl (grpL o) false, .i .i64 0]) [] := by
  obtain ⟨o, hch, hG⟩ := groups64 hN1 hN hD
  refine ⟨o, hch, hG, fun f => ?_⟩
  refine fn31.spec0 mixed noIt_ok ?_
  rw [ic31]
  have hO := fun σ => FSpec.frame (σ := σ) (open61 (n := N) (D := D) (f := f) hl) (by simp) openV_pure
  have e : openV N D f = .tup [ledT N D f, .i .i64 0] := by simp [openV, hc]
  rw [e] at hO
  have hGf := fun σ => FSpec.frame (σ := σ) (hG f) (by simp) (by simp)
  have hpt : (ledT N D f).pure = true := pure_ledT
  clear e hG
  generalize ledT N D f = lt at *
  refine ab_seq_k fun K1 h1 => ?_
  simp
  refine h1 _ _ _ ?_
  clear h1 K1
  refine ab_seq_k fun K2 h2 => ?_
  simp [take_bookC]
  refine callK_of (hO _) ?_
  simp [take_bookC]
  refine h2 _ _ _ ?_
  clear h2 K2
  refine ab_seq_k fun K3 h3 => ?_
  refine ab_seq_k fun K4 h4 => ?_
  simp
  refine h4 _ _ _ ?_
  clear h4 K4
  refine ab_cond_of rfl (fun h => by cases h) (fun _ => ?_)
  simp
  refine h3 _ _ _ ?_
  refine ab_seq_k fun K5 h5 => ?_
  simp
  refine callK_of (hGf _) ?_
  simp
  refine h5 _ _ _ ?_
  clear h5 K5
  simp
  exact fin_of 1 (by simp [rs31, grpL])
theorem chain_top {N : Nat} {D : List Db} {o : List Nat} (h : Chain (balF D) N o 0 0) : (o.length : Int) = topP N D := by
  have := h.cnt
  rw [prP_zero] at this
  unfold topP
  omega
theorem nats_ofN {o : List Nat} : nats (ofN o) = o := by
  unfold nats ofN
  rw [List.map_map]
  exact List.map_id'' (fun x => rfl) o
theorem chkG_own {N : Nat} {D : List Db} {o : List Nat} (hc : checkBook N D = 0) (h : Chain (balF D) N o 0 0) : chkG N D (grpL o) = (topP N D, 0) := by
  have hmem : ∀ x ∈ grpL o, ∃ g ∈ o, x = (g : Int) := fun x hx => by
    unfold grpL at hx
    rw [sortB_mem] at hx
    obtain ⟨g, hg, e⟩ := List.mem_map.1 hx
    exact ⟨g, hg, e.symm⟩
  have h0 : ¬ (N : Int) < (grpL o).length := by rw [grpL_len]; have := h.len; omega
  have h1 : ((grpL o).any fun x => !fit 1 (((2 ^ N : Nat) : Int) - 1) x) = false := by
    rw [List.any_eq_false]
    intro x hx
    obtain ⟨g, hg, rfl⟩ := hmem x hx
    have := h.og g hg
    have e : fit 1 (((2 ^ N : Nat) : Int) - 1) (g : Int) = true := by
      unfold fit
      rw [Bool.and_eq_true, decide_eq_true_eq, decide_eq_true_eq]
      omega
    rw [e]
    simp
  have h2 : oneB N (nats (grpL o)) = true := oneB_iff.2 fun m hm => by
    have hp : (nats (grpL o)).Perm o := by
      have := (sortB_perm (lt := ltI) (l := ofN o)).map Int.toNat
      have e : (ofN o).map Int.toNat = o := nats_ofN
      rw [e] at this
      exact this
    unfold cntB
    rw [hp.countP_eq]
    have := h.one m hm
    simpa [cntB] using this
  have h3 : ((grpL o).any fun x => !decide (sumF (balF D) x.toNat N = 0)) = false := by
    rw [List.any_eq_false]
    intro x hx
    obtain ⟨g, hg, rfl⟩ := hmem x hx
    have := (h.og g hg).2.2
    simp [this]
  have h4 := chain_top h
  unfold chkG
  rw [if_neg (by simp [hc]), if_neg h0, Int.toNat_natCast, if_neg (by rw [h1]; simp), if_neg (by rw [h2]; simp), if_neg (by rw [h3]; simp), grpL_len, h4]
theorem grpL_sorted {o : List Nat} {i : Nat} {x y : Int} (hx : (grpL o)[i]? = some x) (hy : (grpL o)[i + 1]? = some y) : x ≤ y := by
  obtain ⟨h1, rfl⟩ := List.getElem?_eq_some_iff.1 hx
  obtain ⟨h2, rfl⟩ := List.getElem?_eq_some_iff.1 hy
  exact List.pairwise_iff_getElem.1 (sortB_sorted (l := ofN o)) i (i + 1) h1 h2 (by omega)
theorem swapGroups {n : Int} {D : List Db} {P : List Int} {f fp : Bool} (hl : (D.length : Int) < 9223372036854775808) (hP : (P.length : Int) < 9223372036854775808) :
    FSpec Try.prog 5 [bookV n D f, sl P fp] [] (.b true) [] := by
  refine fn5.spec0 mixed noIt_ok ?_
  rw [ic5]
  have G1 := fun σ => FSpec.frame (σ := σ) (great17 (n := n) (D := D) (f := f)) (by simp) rfl
  have G2 := fun σ => FSpec.frame (σ := σ) (checkG29 (n := n) (D := D) (P := P) (f := f) (fp := fp) hl hP) (by simp) rfl
  have G3 := fun σ => FSpec.frame (σ := σ) (checkG30 (n := n) (D := D) (P := P) (f := f) (fp := fp) hl hP) (by simp) rfl
  have G5 := fun σ => FSpec.frame (σ := σ) (refBook (n := n) (D := D) (f := f) hl) (by simp) rfl
  refine ab_seq_k fun K1 h1 => ?_
  simp
  refine h1 _ _ _ ?_
  clear h1 K1
  refine ab_seq_k fun K2 h2 => ?_
  refine ab_seq_k fun K3 h3 => ?_
  simp [take_bookC]
  refine callK_of (G1 _) ?_
  have hret : ∀ env σ, get env 21 = .b true → K3 (some 0) env σ := by
    intro env σ w
    refine h3 _ _ _ ?_
    refine ab_cond_of w (fun _ => ?_) (fun h => by cases h)
    refine ab_seq_k fun K4 h4 => ?_
    simp
    refine callK_of (wk _) ?_
    simp
    refine h4 _ _ _ ?_
    clear h4 K4
    simp
    exact fin_of 1 (by simp [rs5])
  by_cases g1 : (50 : Int) < D.length
  · simp [g1]
    exact hret _ _ rfl
  by_cases g2 : (20 : Int) < P.length
  · simp [g1, g2]
    exact hret _ _ rfl
  simp [g1, g2]
  refine h3 _ _ _ ?_
  clear h3 hret K3
  refine ab_cond_of rfl (fun h => by cases h) (fun _ => ?_)
  simp
  refine h2 _ _ _ ?_
  clear h2 K2
  obtain ⟨a, e, he⟩ : ∃ a e, chkG n D P = (a, e) := ⟨_, _, rfl⟩
  rw [he] at G2 G3
  simp only [pairV] at G2 G3
  refine ab_seq_k fun K5 h5 => ?_
  simp [take_bookC]
  refine callK_of (G2 _) ?_
  simp [take_bookC]
  refine h5 _ _ _ ?_
  clear h5 K5
  refine ab_seq_k fun K6 h6 => ?_
  simp [take_bookC]
  refine callK_of (G3 _) ?_
  simp [take_bookC]
  refine h6 _ _ _ ?_
  clear h6 K6
  by_cases hc : checkBook n D = 0
  case neg =>
    have G4 := fun σ => FSpec.frame (σ := σ) (groups31_no (n := n) (D := D) (f := f) hl hc) (by simp) rfl
    refine ab_seq_k fun K7 h7 => ?_
    simp [take_bookC]
    refine callK_of (G4 _) ?_
    simp [take_bookC]
    refine h7 _ _ _ ?_
    clear h7 K7
    refine ab_seq_k fun K8 h8 => ?_
    simp [take_bookC]
    refine callK_of (G5 _) ?_
    simp [take_bookC]
    refine h8 _ _ _ ?_
    clear h8 K8
    refine ab_seq_k fun K9 h9 => ?_
    refine ab_seq_k fun K10 h10 => ?_
    simp
    refine h10 _ _ _ ?_
    clear h10 K10
    refine ab_cond_of rfl (fun h => by simp at h) (fun _ => ?_)
    simp
    refine h9 _ _ _ ?_
    refine ab_seq_k fun K11 h11 => ?_
    refine ab_seq_k fun K12 h12 => ?_
    simp
    refine h12 _ _ _ ?_
    clear h12 K12
    refine ab_cond_of rfl (fun _ => ?_) (fun h => by simp [hc] at h)
    refine ab_seq_k fun K13 h13 => ?_
    simp
    refine callK_of (wk _) ?_
    simp
    refine h13 _ _ _ ?_
    clear h13 K13
    simp
    exact fin_of 1 (by simp [rs5])
  obtain ⟨N, rfl, hN1, hN, hlen, hD⟩ := book_nat hc
  have hp := pow_small hN
  obtain ⟨o, hch, -, hG31⟩ := groups31 hl hc hN1 hN hD
  have G4 := fun σ => FSpec.frame (σ := σ) (hG31 f) (by simp) (by simp)
  have hol := hch.len
  have G6 := fun σ => FSpec.frame (σ := σ) (checkG30 (n := N) (D := D) (P := grpL o) (f := f) (fp := false) hl (by rw [grpL_len]; omega)) (by simp) rfl
  rw [chkG_own hc hch] at G6
  simp only [pairV] at G6
  have hsrt := fun i x y => grpL_sorted (o := o) (i := i) (x := x) (y := y)
  have hgl := grpL_len (o := o)
  obtain ⟨L, hL, hLb, hM0⟩ := most32 (f := f) hN rfl hD hlen
  have hM := fun σ => FSpec.frame (σ := σ) hM0 (by simp) (by simp)
  have hA := fun σ => FSpec.frame (σ := σ) (all33 (D := D) (f := f) hN rfl) (by simp) rfl
  have hT := topP_most rfl hN hD rfl hL
  have hLl := hL.len
  clear hM0 hG31
  generalize hW : 2 ^ N = W at *
  have hg := o_some (o := L) (j := W - 1) (by omega)
  have hgl2 : L.getD (W - 1) 0 = topP N D := hT
  rw [hgl2] at hg
  obtain ⟨hg1, hg'⟩ := List.getElem?_eq_some_iff.1 hg
  have hw : (((W : Int) - 1).toNat) = W - 1 := by omega
  generalize topP N D = T at *
  generalize grpL o = Q at *
  refine ab_seq_k fun K7 h7 => ?_
  simp [take_bookC]
  refine callK_of (G4 _) ?_
  simp [take_bookC]
  refine h7 _ _ _ ?_
  clear h7 K7
  refine ab_seq_k fun K8 h8 => ?_
  simp [take_bookC]
  refine callK_of (G5 _) ?_
  simp [take_bookC]
  refine h8 _ _ _ ?_
  clear h8 K8
  refine ab_seq_k fun K9 h9 => ?_
  refine ab_seq_k fun K10 h10 => ?_
  simp
  refine h10 _ _ _ ?_
  clear h10 K10
  refine ab_cond_of rfl (fun h => by simp [hc] at h) (fun _ => ?_)
  simp
  refine h9 _ _ _ ?_
  clear h9 K9
  refine ab_seq_k fun K11 h11 => ?_
  refine ab_seq_k fun K12 h12 => ?_
  simp
  refine h12 _ _ _ ?_
  clear h12 K12
  refine ab_cond_of rfl (fun h => by simp [hc] at h) (fun _ => ?_)
  simp
  refine h11 _ _ _ ?_
  clear h11 K11
  refine ab_seq_k fun K13 h13 => ?_
  refine ab_seq_k fun K14 h14 => ?_
  simp
  refine h14 _ _ _ ?_
  clear h14 K14
  refine ab_block_k fun K15 h15 => ?_
  refine ab_loop_k (fun m env σ => ∃ i : Nat, i + m = Q.length + 1 ∧ 1 ≤ i ∧ env = [(2, .p 0 0 0), (9, sl Q false), (12, .i .i64 i)] ∧ σ = [O.row 0 (bookC N D f)]) Q.length ⟨1, by omega, by omega, by simp, rfl⟩ ?_
  rintro m env σ ⟨i, hi, hi1, rfl, rfl⟩ K16 h16
  rw [ic5_0]
  refine ab_seq_k fun K17 h17 => ?_
  refine ab_seq_k fun K18 h18 => ?_
  simp
  refine h18 _ _ _ ?_
  clear h18 K18
  refine ab_cond_of rfl (fun hc2 => ?_) (fun hc2 => ?_)
  · have hil : i < Q.length := by simpa using hc2
    obtain ⟨i, rfl⟩ : ∃ i', i = i' + 1 := ⟨i - 1, by omega⟩
    obtain ⟨x, hx⟩ : ∃ x, Q[i]? = some x := ⟨_, List.getElem?_eq_getElem (by omega)⟩
    obtain ⟨y, hy⟩ : ∃ y, Q[i + 1]? = some y := ⟨_, List.getElem?_eq_getElem hil⟩
    obtain ⟨hxl, hx'⟩ := List.getElem?_eq_some_iff.1 hx
    obtain ⟨hyl, hy'⟩ := List.getElem?_eq_some_iff.1 hy
    have hxy := hsrt i x y hx hy
    have h0 : (0 : Int) ≤ (i : Int) + 1 := by omega
    have hiz : (i : Int) < Q.length := by omega
    have hiz1 : (i : Int) + 1 < Q.length := by omega
    simp
    refine h17 _ _ _ ?_
    clear h17 K17
    refine ab_seq_k fun K19 h19 => ?_
    refine ab_block_k fun K20 h20 => ?_
    refine ab_seq_k fun K21 h21 => ?_
    simp [abDs_consU, drU, recheck_cons, recheck_nil, rcK, IS.dst, h0, hiz, hiz1, hx, hx', hy, hy', wrap64 (x := (i : Int)) (by omega) (by omega)]
    refine h21 _ _ _ ?_
    clear h21 K21
    refine ab_cond_of rfl (fun h => by simp at h; omega) (fun _ => ?_)
    simp
    refine h20 _ _ _ ?_
    refine h19 _ _ _ ?_
    simp [wrap64 (x := (i : Int) + 1 + 1) (by omega) (by omega)]
    exact h16 _ _ _ (again (m - 1) (by omega) ⟨i + 2, by omega, by omega, by simp; omega, rfl⟩)
  simp
  refine h15 _ _ _ ?_
  refine h13 _ _ _ ?_
  clear h13 h15 h16 h17 K13 K15 K16 K17 hc2
  refine ab_seq_k fun K22 h22 => ?_
  simp [take_bookC]
  refine callK_of (G6 _) ?_
  simp [take_bookC]
  refine h22 _ _ _ ?_
  clear h22 K22
  refine ab_seq_k fun K23 h23 => ?_
  simp [abDs_consU, drU, recheck_cons, recheck_nil, rcK, IS.dst, take_bookC]
  refine callK_of (hM _) ?_
  simp [abDs_consU, drU, recheck_cons, recheck_nil, rcK, IS.dst, take_bookC]
  refine callK_of (hA _) ?_
  simp [abDs_consU, drU, recheck_cons, recheck_nil, rcK, IS.dst, take_bookC, hw, hg, hg']
  refine ⟨by omega, by omega, ?_⟩
  refine callK_of (wk _) ?_
  simp [abDs_consU, drU, recheck_cons, recheck_nil, rcK, IS.dst, take_bookC]
  refine h23 _ _ _ ?_
  simp
  exact fin_of 1 (by simp [rs5])
end Go.Ab
