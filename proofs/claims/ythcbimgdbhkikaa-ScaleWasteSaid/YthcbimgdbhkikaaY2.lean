/- fine; a cutting by numbers: the walk. -/
import Derived.Test.YthcbimgdbhkikaaY1
import Derived.Test.YthcbimgdbhkikaaG1
set_option linter.unusedVariables false
set_option linter.unusedSimpArgs false
set_option maxHeartbeats 4000000
namespace Go.Ab
open Go Go.Proofs

def fineP (t b : List Int) (r : Ru) : Bool := !(decide (70 < t.length) || decide (70 < b.length)) && decide (openE t b [r] = 0)
theorem fineP_ok {t b : List Int} {r : Ru} (h : fineP t b r = true) (hbb : ∀ x ∈ b, -9223372036854775808 ≤ x ∧ x < 9223372036854775808) : Sz t b ∧ openE t b [r] = 0 := by
  simp only [fineP, Bool.and_eq_true, Bool.not_eq_true', Bool.or_eq_false_iff, decide_eq_false_iff_not, decide_eq_true_eq] at h
  exact ⟨⟨by omega, by omega, hbb⟩, h.2⟩

theorem fine_ok {t b : List Int} {ft fb : Bool} {r : Ru} (ht : (t.length : Int) < 9223372036854775808) (hb : (b.length : Int) < 9223372036854775808) (hbb : ∀ x ∈ b, -9223372036854775808 ≤ x ∧ x < 9223372036854775808) :
    FSpec Try.prog 40 [.agg [sl t ft, sl b fb], .agg r.cells] [] (.b (fineP t b r)) [] := by
  refine fn40.spec0 mixed noIt_ok ?_
  rw [ic40]
  have h7 : List.take 7 r.cells = r.cells := rfl
  have l7 : r.cells.length = 7 := rfl
  refine ab_seq_k fun K1 h1 => ?_
  simp
  refine h1 _ _ _ ?_
  clear h1 K1
  refine ab_seq_k fun K2 h2 => ?_
  simp
  refine callK_of (FSpec.frame (great_ok (t := t) (b := b) (ft := ft) (fb := fb) ht hb) (by simp) rfl) ?_
  by_cases hg : (decide (70 < t.length) || decide (70 < b.length)) = true
  · simp [hg]
    refine h2 _ _ _ ?_
    simp
    exact fin_of 1 (by simp [rs40, fineP, hg])
  · have hg' : (decide (70 < t.length) || decide (70 < b.length)) = false := by simpa using hg
    have hgn : ¬ 70 < t.length ∧ ¬ 70 < b.length := by simpa using hg'
    have hchk := refCheck (t := t) (b := b) (ft := ft) (fb := fb) (r := r) (by omega) (by omega) hbb
    rw [openE_one] at hchk
    simp [hg', h7, l7]
    refine callK_of (FSpec.frame hchk (by simp) rfl) ?_
    simp
    refine h2 _ _ _ ?_
    simp
    exact fin_of 1 (by simp [rs40, fineP, hgn.1, hgn.2])

def u8s (l : List Int) : List V := l.map (V.i .u8)
@[simp] theorem u8s_len {l : List Int} : (u8s l).length = l.length := by simp [u8s]
@[simp] theorem u8s_get {l : List Int} {i : Nat} : (u8s l)[i]? = l[i]?.map (V.i .u8) := by simp [u8s]
@[simp] theorem pure_u8s {l : List Int} : pureL (u8s l) = true := by
  induction l with
  | nil => rfl
  | cons a l ih => simp [u8s] at ih ⊢; exact ih
abbrev slB (l : List Int) (f : Bool) : V := .ss (u8s l) l.length f

theorem log46 {x y : Int} : FSpec Try.prog 46 [.i .i64 x, .i .i64 y] [] (.agg [.i .i64 x, .i .i64 y]) [] := by
  refine fn46.spec0 mixed noIt_ok ?_
  rw [ic46]
  refine ab_seq_k fun K1 h1 => ?_
  simp
  refine h1 _ _ _ ?_
  clear h1 K1
  refine ab_seq_k fun K2 h2 => ?_
  simp
  refine h2 _ _ _ ?_
  simp
  exact fin_of 1 (by simp [rs46])

structure HpF (σ : List O) (t b : List Int) (ft fb : Bool) (r : Ru) : Prop where
  h0 : σ[0]? = some (.row 0 [sl t ft, sl b fb])
  h1 : σ[1]? = some (.row 0 r.cells)

def cuttingP (t b : List Int) (r : Ru) (by_ : List Int) : List (Int × Int) := cutBy t b r by_ 0 []

theorem cutting_ok {t b : List Int} {ft fb fy : Bool} {r : Ru} {by_ : List Int} (ok : Ok t b r) (hy : ∀ x ∈ by_, 0 ≤ x ∧ x < 256) (hyl : (by_.length : Int) < 1000000000) :
    FSpec Try.prog 41 [.agg [sl t ft, sl b fb], .agg r.cells, slB by_ fy] [] (slL (cuttingP t b r by_) ((cuttingP t b r by_).length == 0)) [] := by
  refine fn41.spec0 mixed noIt_ok ?_
  rw [ic41]
  obtain ⟨n2, n61, tv, bl, hr⟩ := ok
  have h7 : List.take 7 r.cells = r.cells := rfl
  have l7 : r.cells.length = 7 := rfl
  have hlong : ∀ σ, FSpec Try.prog 43 [.agg [sl t ft, sl b fb]] σ (.i .i64 ((t.length : Int) - 1)) σ := fun σ =>
    FSpec.frame (refLong (ts := ints t) (n := t.length) (ft := ft) (x := sl b fb) (by omega)) (by simp) rfl
  have hscale : ∀ {x y : Int} σ, 0 ≤ x → x < y → y < t.length → FSpec Try.prog 45 [.agg [sl t ft, sl b fb], .agg r.cells, .i .i64 x, .i .i64 y] σ (.i .i64 (scaleP t b r x y)) σ := fun {x y} σ h1 h2 h3 =>
    FSpec.frame (refScale (t := t) (b := b) (ft := ft) (fb := fb) (r := r) (x := x) (y := y) n61 tv bl hr h1 h2 h3) (by simp) rfl
  have hlog : ∀ {x y : Int} σ, FSpec Try.prog 46 [.i .i64 x, .i .i64 y] σ (.agg [.i .i64 x, .i .i64 y]) σ := fun σ => FSpec.frame log46 rfl rfl
  refine ab_seq_k fun K1 h1 => ?_
  simp
  refine h1 _ _ _ ?_
  clear h1 K1
  refine ab_seq_k fun K2 h2 => ?_
  simp
  refine h2 _ _ _ ?_
  clear h2 K2
  refine ab_seq_k fun K3 h3 => ?_
  simp
  refine h3 _ _ _ ?_
  clear h3 K3
  refine ab_seq_k fun K4 h4 => ?_
  refine ab_seq_k fun K5 h5 => ?_
  simp
  refine h5 _ _ _ ?_
  clear h5 K5
  refine ab_block_k fun K6 h6 => ?_
  refine ab_loop_k (fun m env σ => ∃ (i : Nat) (a : Int) (out : List (Int × Int)) (v : V), i ≤ by_.length ∧ by_.length ≤ i + m ∧ 0 ≤ a ∧ a ≤ (t.length : Int) - 1 ∧ out.length ≤ 60 ∧ cutBy t b r (by_.drop i) a out = cuttingP t b r by_ ∧
    env = [(2, slB by_ fy), (3, .p 0 0 0), (4, .p 1 0 0), (7, v), (8, .i .i64 a), (9, .i .i64 i)] ∧ HpF σ t b ft fb r ∧ Gr 2 2 σ v out.length (lsV out)) by_.length
    ⟨0, 0, [], _, by omega, by omega, by omega, by omega, by simp, rfl, rfl, ⟨rfl, rfl⟩, Gr.nil⟩ ?_
  rintro m env σ ⟨i, a, out, v, hi1, hi2, ha1, ha2, ho, hcut, rfl, hp, hv⟩ K7 h7'
  rw [ic41_0]
  have p0 := hp.h0
  have p1 := hp.h1
  have hσ2 : 2 ≤ σ.length := by have := (List.getElem?_eq_some_iff.1 p1).1; omega
  refine ab_seq_k fun K8 h8 => ?_
  refine ab_seq_k fun K9 h9 => ?_
  have hexit : ∀ env σ2 v2, get env 20 = .b false → get env 7 = v2 → HpF σ2 t b ft fb r → Gr 2 2 σ2 v2 out.length (lsV out) → cutBy t b r (by_.drop i) a out = out → K9 (some 0) env σ2 := by
    intro env σ2 v2 w20 w7 hp2 hv2 hc
    refine h9 _ _ _ ?_
    refine ab_cond_of w20 (fun h => by cases h) (fun _ => ?_)
    rw [hc] at hcut
    simp
    refine h6 _ _ _ ?_
    refine h4 _ _ _ ?_
    refine ab_seq_k fun K h => ?_
    simp [w7]
    refine h _ _ _ ?_
    simp
    refine fin_of 2 ?_
    rw [← hcut]
    exact ⟨frz_G hv2 (by simp), .inr trivial⟩
  have b0 := fun x hx => (hy x hx)
  by_cases hc1 : (i : Int) + 1 < by_.length
  · obtain ⟨x, hx⟩ : ∃ x, by_[i]? = some x := ⟨_, List.getElem?_eq_getElem (by omega)⟩
    obtain ⟨y, hy1⟩ : ∃ y, by_[i + 1]? = some y := ⟨_, List.getElem?_eq_getElem (by omega)⟩
    have hdrop : by_.drop i = x :: y :: by_.drop (i + 2) := by
      rw [List.drop_eq_getElem_cons (by omega), List.drop_eq_getElem_cons (by omega)]
      rw [List.getElem?_eq_getElem (by omega)] at hx hy1
      simp only [Option.some.injEq] at hx hy1
      rw [hx, hy1]
    have hxb := hy x (List.mem_of_getElem? hx)
    have hyb := hy y (List.mem_of_getElem? hy1)
    obtain ⟨hx1, hx2⟩ := List.getElem?_eq_some_iff.1 hx
    obtain ⟨hy2, hy3⟩ := List.getElem?_eq_some_iff.1 hy1
    simp [hc1, wrap64 (x := (i : Int) + 1) (by omega) (by omega)]
    refine lenG hv ?_
    simp
    by_cases hc2 : (out.length : Int) < 60
    · have m1 := Int.emod_nonneg x (show (4 : Int) ≠ 0 by omega)
      have m1' := Int.emod_lt_of_pos x (show (0 : Int) < 4 by omega)
      have m2 := Int.emod_nonneg y (show (8 : Int) ≠ 0 by omega)
      have m2' := Int.emod_lt_of_pos y (show (0 : Int) < 8 by omega)
      have tx : Int.tmod x 4 = x % 4 := Int.tmod_eq_emod_of_nonneg hxb.1
      have ty : Int.tmod y 8 = y % 8 := Int.tmod_eq_emod_of_nonneg hyb.1
      have hs1 := hr.s1
      have hs2 := hr.s2
      have ht1 := hr.t1
      have ht2 := hr.t2
      have hl1 := hr.l1
      have hl2 := hr.l2
      have hlm := hr.m
      have m3 : 0 ≤ y % 8 * r.step := Int.mul_nonneg m2 (by omega)
      have m3' : y % 8 * r.step ≤ 7 * 10 := Int.mul_le_mul (by omega) hs2 (by omega) (by omega)
      refine h9 _ _ _ ?_
      clear h9
      refine ab_cond_of rfl (fun hc3 => ?_) (fun hc3 => ?_)
      · simp
        refine h8 _ _ _ ?_
        clear h8 hexit K9 K8
        refine ab_seq_k fun K10 h10 => ?_
        refine ab_block_k fun K11 h11 => ?_
        have hnext : ∀ env σ2 v2 a2 out2, get env 2 = slB by_ fy → get env 3 = .p 0 0 0 → get env 4 = .p 1 0 0 → get env 7 = v2 → get env 8 = .i .i64 a2 → get env 9 = .i .i64 i → 0 ≤ a2 → a2 ≤ (t.length : Int) - 1 → out2.length ≤ 60 → cutBy t b r (by_.drop (i + 2)) a2 out2 = cuttingP t b r by_ →
            HpF σ2 t b ft fb r → Gr 2 2 σ2 v2 out2.length (lsV out2) → K11 (some 0) env σ2 := by
          intro env σ2 v2 a2 out2 w2 w3 w4 w7 w8 w9 q1 q2 q3 q4 q5 q6
          refine h11 _ _ _ ?_
          refine h10 _ _ _ ?_
          simp [w2, w3, w4, w7, w8, w9, wrap64 (x := (i : Int) + 2) (by omega) (by omega)]
          exact h7' _ _ _ (again (m - 2) (by omega) ⟨i + 2, a2, out2, v2, by omega, by omega, q1, q2, q3, q4, by simp, q5, q6⟩)
        clear h10 h11
        refine ab_seq_k fun K12 h12 => ?_
        have ei : (i : Int) < by_.length := by omega
        have ei2 : (0 : Int) ≤ (i : Int) + 1 := by omega
        have ei3 : ((i : Int) + 1).toNat = i + 1 := by omega
        simp [ei, hx, hx2, tx, wrap64 (x := x) (by omega) (by omega), wrap64 (x := a + x % 4) (by omega) (by omega)]
        refine h12 _ _ _ ?_
        clear h12 K12
        refine ab_seq_k fun K13 h13 => ?_
        have wy := wrap64 (x := y) (by omega) (by omega)
        have c0 : r.cells[0]? = some (.i .i64 r.least) := rfl
        have c2 : r.cells[2]? = some (.i .i64 r.step) := rfl
        have c3 : r.cells[3]? = some (.i .i64 r.trim) := rfl
        have w1 := wrap64 (x := a + x % 4 + r.trim) (by omega) (by omega)
        have w2 := wrap64 (x := a + x % 4 + r.trim + r.least) (by omega) (by omega)
        have w3 := wrap64 (x := y % 8 * r.step) (by omega) (by omega)
        have w4 := wrap64 (x := a + x % 4 + r.trim + r.least + y % 8 * r.step) (by omega) (by omega)
        have hcut0 : cutBy t b r (by_.drop i) a out = if out.length < 60 then
      (if (t.length : Int) - 1 < a + x % 4 + r.trim + r.least + y % 8 * r.step then out else
       if 0 < scaleP t b r (a + x % 4) (a + x % 4 + r.trim + r.least + y % 8 * r.step) then cutBy t b r (by_.drop (i + 2)) (a + x % 4 + r.trim + r.least + y % 8 * r.step) (out ++ [(a + x % 4, a + x % 4 + r.trim + r.least + y % 8 * r.step)])
       else cutBy t b r (by_.drop (i + 2)) (a + x % 4) out) else out := by rw [hdrop, cutBy]
        rw [if_pos (by omega)] at hcut0
        simp [p1, c0, c2, c3, ei2, ei3, hc1, hy1, hy3, ty, wy, w1, w2, w3, w4, wrap64 (x := (i : Int) + 1) (by omega) (by omega)]
        refine h13 _ _ _ ?_
        clear h13 K13
        have hto : a + x % 4 < a + x % 4 + r.trim + r.least + y % 8 * r.step := by omega
        generalize a + x % 4 + r.trim + r.least + y % 8 * r.step = to at *
        have hfr : 0 ≤ a + x % 4 := by omega
        generalize a + x % 4 = fr at *
        refine ab_seq_k fun K14 h14 => ?_
        refine ab_seq_k fun K15 h15 => ?_
        simp [p0]
        refine callK_of (hlong _) ?_
        simp
        refine h15 _ _ _ ?_
        clear h15 K15
        refine ab_cond_of rfl (fun hc4 => ?_) (fun hc4 => ?_)
        · have hgt : (t.length : Int) - 1 < to := by simpa using hc4
          rw [if_pos hgt] at hcut0
          rw [hcut0] at hcut
          refine ab_seq_k fun K16 h16 => ?_
          simp
          refine h16 _ _ _ ?_
          clear h16 K16
          simp
          refine fin_of 2 ?_
          rw [← hcut]
          exact ⟨frz_G hv (by simp), .inr trivial⟩
        · have hgt : ¬ (t.length : Int) - 1 < to := by simpa using hc4
          rw [if_neg hgt] at hcut0
          simp
          refine h14 _ _ _ ?_
          clear h14 K14
          refine ab_seq_k fun K17 h17 => ?_
          simp [p0, p1, h7, l7]
          refine callK_of (hscale _ hfr hto (by omega)) ?_
          simp
          refine h17 _ _ _ ?_
          clear h17 K17
          refine ab_cond_of rfl (fun hc5 => ?_) (fun hc5 => ?_)
          · have hpos : 0 < scaleP t b r fr to := by simpa using hc5
            rw [if_pos hpos] at hcut0
            refine ab_seq_k fun K18 h18 => ?_
            simp
            refine callK_of (hlog _) ?_
            simp
            refine appG hv hσ2 (by omega) (by simp) (by simp) ?_
            intro v' σ' hv' hg
            have q0 := (hg.lt hv (j := 0) (by omega) hσ2).trans p0
            have q1 := (hg.lt hv (j := 1) (by omega) hσ2).trans p1
            simp
            refine h18 _ _ _ ?_
            simp
            have hz : lsV (out ++ [(fr, to)]) = lsV out ++ [.i .i64 fr, .i .i64 to] := by rw [lsV_append]; rfl
            refine hnext _ _ _ to (out ++ [(fr, to)]) rfl rfl rfl rfl rfl rfl (by omega) (by omega) (by simp; omega) (by rw [← hcut0, hcut]) ⟨q0, q1⟩ ?_
            rw [hz, List.length_append]
            exact hv'
          · have hpos : ¬ 0 < scaleP t b r fr to := by simpa using hc5
            rw [if_neg hpos] at hcut0
            simp
            exact hnext _ _ _ fr out rfl rfl rfl rfl rfl rfl (by omega) (by omega) ho (by rw [← hcut0, hcut]) hp hv
      · simp [hc2] at hc3
    · have hcb : cutBy t b r (by_.drop i) a out = out := by rw [hdrop, cutBy, if_neg (by omega)]
      exact hexit _ _ v (by simp [hc2]) rfl hp hv hcb
  · have hcb : cutBy t b r (by_.drop i) a out = out := by
      have hlen : (by_.drop i).length ≤ 1 := by rw [List.length_drop]; omega
      match h : by_.drop i with
      | [] => rfl
      | [_] => rfl
      | _ :: _ :: _ => rw [h] at hlen; simp at hlen
    simp [hc1, wrap64 (x := (i : Int) + 1) (by omega) (by omega)]
    exact hexit _ _ v rfl rfl hp hv hcb
end Go.Ab
