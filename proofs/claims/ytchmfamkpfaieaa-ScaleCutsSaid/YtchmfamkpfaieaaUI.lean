/- The reference's CheckCut. -/
import Derived.Test.YtchmfamkpfaieaaUH
set_option linter.unusedVariables false
set_option linter.unusedSimpArgs false
set_option maxHeartbeats 4000000
namespace Go.Ab
open Go Go.Proofs

def hpB (t b : List Int) (ft fb : Bool) (r : Ru) : List O := [.row 0 [sl t ft, sl b fb], .row 0 r.cells]
theorem hpB_pure {t b ft fb r} : ∀ o ∈ hpB t b ft fb r, PureO o := by
  intro o ho
  simp only [hpB, List.mem_cons, List.not_mem_nil, or_false] at ho
  rcases ho with rfl | rfl
  · exact ⟨_, _, rfl, by simp⟩
  · exact ⟨_, _, rfl, by simp⟩

/-- Where the log before ends. -/
def endOf (l : List (Int × Int)) : Int := match l.getLast? with | some q => q.2 | none => 0

theorem refCut {t b : List Int} {ft fb : Bool} {r : Ru} {l : List (Int × Int)} {fl : Bool} (hsz : Sz t b) (hl : (l.length : Int) < 1000000000) :
    FSpec Try.prog 25 [.agg [sl t ft, sl b fb], .agg r.cells, slL l fl] [] (pairV (cutP t b r l)) [] := by
  refine fn25.spec0 mixed noIt_ok ?_
  rw [ic25]
  have hchk := refCheck (t := t) (b := b) (ft := ft) (fb := fb) (r := r) hsz.t1 hsz.b1 hsz.bb
  rw [openE_one] at hchk
  have h7 : List.take 7 r.cells = r.cells := rfl
  have quit : ∀ {c : Int} {env σ K E}, cutP t b r l = (0, c) → ab Try.prog noY noIt 0 ((IC.reg [IS.op (some 6) none (IOp.mov (Od.c (V.i IntKind.i64 0))), IS.op (some 7) none (IOp.mov (Od.c (V.i IntKind.i64 c)))] (some [6, 7])).seq IC.ret) K E (finK rs25 [] (pairV (cutP t b r l)) []) (some 0) env σ := by
    intro c env σ K E hn
    refine ab_seq_k fun K1 h1 => ?_
    simp
    refine h1 _ _ _ ?_
    simp
    exact fin_of 1 (by simp [rs25, hn, pairV])
  refine ab_seq_k fun K1 h1 => ?_
  simp
  refine h1 _ _ _ ?_
  clear h1 K1
  refine ab_seq_k fun K2 h2 => ?_
  refine ab_seq_k fun K3 h3 => ?_
  simp [h7]
  refine callK_of (FSpec.frame hchk (by simp) rfl) ?_
  simp
  refine h3 _ _ _ ?_
  clear h3 K3
  refine ab_cond_of rfl (fun hc => ?_) (fun hc => ?_)
  · simp at hc
    refine ab_seq_k fun K4 h4 => ?_
    simp [h7]
    refine callK_of (FSpec.frame hchk (by simp) rfl) ?_
    simp
    refine h4 _ _ _ ?_
    simp
    exact fin_of 1 (by simp [rs25, cutP, hc, pairV])
  simp at hc
  obtain ⟨ok, -⟩ := open_some (ft := ft) (fb := fb) hsz hc
  obtain ⟨n2, n61, tv, bl, hr⟩ := ok
  simp
  refine h2 _ _ _ ?_
  clear h2
  refine ab_seq_k fun K5 h5 => ?_
  refine ab_seq_k fun K6 h6 => ?_
  simp
  refine h6 _ _ _ ?_
  clear h6 K6
  refine ab_cond_of rfl (fun hc2 => quit ?_) (fun hc2 => ?_)
  · have : 60 < l.length := by simp at hc2; omega
    simp [cutP, hc, this]
  have hlen : ¬ 60 < l.length := by simp at hc2; omega
  simp
  refine h5 _ _ _ ?_
  clear h5
  refine ab_seq_k fun K7 h7' => ?_
  refine ab_seq_k fun K8 h8 => ?_
  simp
  refine h8 _ _ _ ?_
  clear h8 K8
  refine ab_block_k fun K9 h9 => ?_
  refine ab_loop_k (fun m env σ => ∃ i : Nat, i + m = l.length ∧ (l.take i).all (fun p => isLog t.length p.1 p.2) = true ∧ env = [(2, slL l fl), (3, .p 0 0 0), (4, .p 1 0 0), (8, .i .i64 i)] ∧ σ = hpB t b ft fb r) l.length ⟨0, by omega, by simp, by simp, rfl⟩ ?_
  rintro m env σ ⟨i, hi, hyes, rfl, rfl⟩ K10 h10
  rw [ic25_0]
  refine ab_seq_k fun K11 h11 => ?_
  refine ab_seq_k fun K12 h12 => ?_
  simp
  refine h12 _ _ _ ?_
  clear h12 K12
  refine ab_cond_of rfl (fun hc3 => ?_) (fun hc3 => ?_)
  · have hlt : i < l.length := by simp at hc3; omega
    have hget : l[i]? = some l[i] := List.getElem?_eq_getElem hlt
    obtain ⟨e1, -, -⟩ := lsV_get hget
    have htake : l.take (i + 1) = l.take i ++ [l[i]] := by rw [List.take_add_one, hget]; rfl
    have hmem : l[i] ∈ l := List.getElem_mem hlt
    generalize hx : l[i] = p at *
    have hle : i * 2 + 2 ≤ l.length * 2 := by omega
    simp
    refine h11 _ _ _ ?_
    refine ab_seq_k fun K13 h13 => ?_
    refine ab_block_k fun K14 h14 => ?_
    refine ab_seq_k fun K15 h15 => ?_
    simp [hpB, hlt, hle, e1]
    refine callK_of (FSpec.frame (refIsLog (t := t) (b := b) (ft := ft) (fb := fb) (x := p.1) (y := p.2) hsz.t1) (by simp) rfl) ?_
    simp
    refine h15 _ _ _ ?_
    clear h15 K15
    refine ab_cond_of rfl (fun hc4 => quit ?_) (fun hc4 => ?_)
    · have : l.all (fun p => isLog t.length p.1 p.2) = false := by rw [List.all_eq_false]; exact ⟨p, hmem, by simpa using hc4⟩
      simp only [cutP, hc, hlen, this, if_true, if_false, ne_eq, not_true_eq_false]
    · simp
      refine h14 _ _ _ ?_
      refine h13 _ _ _ ?_
      simp [wrap64 (x := (i : Int) + 1) (by omega) (by omega)]
      refine h10 _ _ _ (again (m - 1) (by omega) ⟨i + 1, by omega, ?_, by simp, rfl⟩)
      rw [htake, List.all_append, hyes]
      simpa using hc4
  have hlt : i = l.length := by simp at hc3; omega
  subst hlt
  have hall : (l.all fun p => isLog t.length p.1 p.2) = true := by simpa using hyes
  have hlogs : ∀ p ∈ l, isLog t.length p.1 p.2 = true := List.all_eq_true.1 hall
  simp
  refine h9 _ _ _ ?_
  refine h7' _ _ _ ?_
  clear h7' h9 h10 h11
  refine ab_seq_k fun K16 h16 => ?_
  refine ab_seq_k fun K17 h17 => ?_
  simp
  refine h17 _ _ _ ?_
  clear h17 K17
  refine ab_block_k fun K18 h18 => ?_
  refine ab_loop_k (fun m env σ => ∃ i : Nat, 1 ≤ i ∧ (i + m = l.length ∨ (m = 0 ∧ l.length ≤ i)) ∧ ordered 0 (l.take i) = true ∧ env = [(2, slL l fl), (3, .p 0 0 0), (4, .p 1 0 0), (9, .i .i64 i)] ∧ σ = hpB t b ft fb r) (l.length - 1) ⟨1, Nat.le_refl _, by omega, ?_, by simp, rfl⟩ ?_
  · cases l with
    | nil => rfl
    | cons p l =>
      obtain ⟨a1, -, -⟩ := isLog_iff.1 (hlogs p (List.mem_cons_self ..))
      simp [ordered, a1]
  rintro m env σ ⟨i, h1i, hi, hord, rfl, rfl⟩ K19 h19
  rw [ic25_1]
  refine ab_seq_k fun K20 h20 => ?_
  refine ab_seq_k fun K21 h21 => ?_
  simp
  refine h21 _ _ _ ?_
  clear h21 K21
  refine ab_cond_of rfl (fun hc3 => ?_) (fun hc3 => ?_)
  · have hlt : i < l.length := by simp at hc3; omega
    obtain ⟨j, rfl⟩ : ∃ j, i = j + 1 := ⟨i - 1, by omega⟩
    have hget : l[j + 1]? = some l[j + 1] := List.getElem?_eq_getElem hlt
    have hget2 : l[j]? = some l[j] := List.getElem?_eq_getElem (by omega)
    obtain ⟨-, e1, -⟩ := lsV_get hget
    obtain ⟨-, -, e2⟩ := lsV_get hget2
    have htake : l.take (j + 1 + 1) = l.take (j + 1) ++ [l[j + 1]] := by rw [List.take_add_one, hget]; rfl
    have htake2 : l.take (j + 1) = l.take j ++ [l[j]] := by rw [List.take_add_one, hget2]; rfl
    have hprefix : ordered 0 l = true → ordered 0 (l.take (j + 1 + 1)) = true := by
      intro h
      have key : ∀ (n : Nat) (next : Int) (l : List (Int × Int)), ordered next l = true → ordered next (l.take n) = true := by
        intro n
        induction n with
        | zero => intro next l _; rfl
        | succ n ih =>
          intro next l h
          cases l with
          | nil => rfl
          | cons p l =>
            simp only [List.take_succ_cons, ordered, Bool.and_eq_true] at h ⊢
            exact ⟨h.1, ih _ _ h.2⟩
      exact key _ _ _ h
    have hstep : ordered 0 (l.take (j + 1 + 1)) = decide (l[j].2 ≤ l[j + 1].1) := by
      have hlast : (l.take (j + 1)).getLast? = some l[j] := by rw [htake2, List.getLast?_append]; rfl
      rw [htake, ordered_append, hord, Bool.true_and, hlast]
    generalize hx : l[j + 1] = p at *
    generalize hy : l[j] = q at *
    have e3 : ((j : Int) + 1).toNat = j + 1 := by omega
    have e4 : (j : Int) + 1 < l.length := by omega
    have e5 : (0 : Int) ≤ (j : Int) + 1 := by omega
    have e6 : (j : Int) < l.length := by omega
    have e7 : (j : Int) + 1 - 1 = j := by omega
    have e8 : j < l.length := by omega
    obtain ⟨f1, k1⟩ := List.getElem?_eq_some_iff.1 e1
    obtain ⟨f2, k2⟩ := List.getElem?_eq_some_iff.1 e2
    simp
    refine h20 _ _ _ ?_
    refine ab_seq_k fun K22 h22 => ?_
    refine ab_block_k fun K23 h23 => ?_
    refine ab_seq_k fun K24 h24 => ?_
    simp [e3, e4, e5, e6, e7, e8, e1, e2, k1, k2, wrap64 (x := (j : Int)) (by omega) (by omega)]
    refine h24 _ _ _ ?_
    clear h24 K24
    refine ab_cond_of rfl (fun hc4 => quit ?_) (fun hc4 => ?_)
    · have : ordered 0 l = false := by
        cases h : ordered 0 l with
        | false => rfl
        | true =>
          have := hprefix h
          rw [hstep] at this
          simp at this hc4
          omega
      simp only [cutP, hc, hlen, hall, this, if_true, if_false, ne_eq, not_true_eq_false, Bool.true_eq_false]
    · simp
      refine h23 _ _ _ ?_
      refine h22 _ _ _ ?_
      simp [wrap64 (x := (j : Int) + 1 + 1) (by omega) (by omega)]
      refine h19 _ _ _ (again (m - 1) (by omega) ⟨j + 2, by omega, by omega, ?_, by simp; omega, rfl⟩)
      show ordered 0 (l.take (j + 1 + 1)) = true
      rw [hstep]
      simp at hc4 ⊢
      omega
  have hge : l.length ≤ i := by simp at hc3; omega
  rw [List.take_of_length_le hge] at hord
  simp
  refine h18 _ _ _ ?_
  refine h16 _ _ _ ?_
  clear h16 h18 h19 h20
  refine ab_seq_k fun K25 h25 => ?_
  simp
  refine h25 _ _ _ ?_
  clear h25 K25
  refine ab_seq_k fun K26 h26 => ?_
  refine ab_seq_k fun K27 h27 => ?_
  simp
  refine h27 _ _ _ ?_
  clear h27 K27
  refine ab_block_k fun K28 h28 => ?_
  refine ab_loop_k (fun m env σ => ∃ i : Nat, i + m = l.length ∧ (l.take i).any (fun p => decide (scaleP t b r p.1 p.2 = 0)) = false ∧ env = [(2, slL l fl), (3, .p 0 0 0), (4, .p 1 0 0), (10, .i .i64 (sumOf t b r (l.take i))), (11, .i .i64 i)] ∧ σ = hpB t b ft fb r) l.length
    ⟨0, by omega, by simp, by simp [sumOf], rfl⟩ ?_
  rintro m env σ ⟨i, hi, hno, rfl, rfl⟩ K29 h29
  rw [ic25_2]
  refine ab_seq_k fun K30 h30 => ?_
  refine ab_seq_k fun K31 h31 => ?_
  simp
  refine h31 _ _ _ ?_
  clear h31 K31
  refine ab_cond_of rfl (fun hc4 => ?_) (fun hc4 => ?_)
  · have hlt : i < l.length := by simp at hc4; omega
    have hget : l[i]? = some l[i] := List.getElem?_eq_getElem hlt
    obtain ⟨-, e1, e2⟩ := lsV_get hget
    have htake : l.take (i + 1) = l.take i ++ [l[i]] := by rw [List.take_add_one, hget]; rfl
    have hmem : l[i] ∈ l := List.getElem_mem hlt
    generalize hx : l[i] = p at *
    obtain ⟨a1, a2, a3⟩ := isLog_iff.1 (hlogs p hmem)
    have hs := sumOf_le (b := b) hr tv (l := l.take i) (fun q hq => hlogs q (List.mem_of_mem_take hq))
    have hs2 := sumOf_le (b := b) hr tv (l := [p]) (fun q hq => by simp at hq; subst hq; exact hlogs _ hmem)
    simp only [sumOf, List.length_singleton, List.length_take] at hs hs2
    have hmin : ((min i l.length : Nat) : Int) ≤ 60 := by omega
    have hnn := scaleP_nonneg (t := t) (b := b) (x := p.1) (y := p.2) hr
    obtain ⟨f1, k1⟩ := List.getElem?_eq_some_iff.1 e1
    obtain ⟨f2, k2⟩ := List.getElem?_eq_some_iff.1 e2
    simp
    refine h30 _ _ _ ?_
    refine ab_seq_k fun K32 h32 => ?_
    refine ab_block_k fun K33 h33 => ?_
    refine ab_seq_k fun K34 h34 => ?_
    simp [hpB, hlt, e1, e2, k1, k2, h7]
    refine callK_of (FSpec.frame (refScale (t := t) (b := b) (ft := ft) (fb := fb) (r := r) (x := p.1) (y := p.2) n61 tv bl hr a1 a2 a3) (by simp) rfl) ?_
    simp
    refine h34 _ _ _ ?_
    clear h34 K34
    refine ab_seq_k fun K35 h35 => ?_
    refine ab_seq_k fun K36 h36 => ?_
    simp
    refine h36 _ _ _ ?_
    clear h36 K36
    refine ab_cond_of rfl (fun hc5 => quit ?_) (fun hc5 => ?_)
    · have hz : scaleP t b r p.1 p.2 = 0 := by simp at hc5; omega
      have : l.any (fun p => decide (scaleP t b r p.1 p.2 = 0)) = true := by rw [List.any_eq_true]; exact ⟨p, hmem, by simp [hz]⟩
      simp only [cutP, hc, hlen, hall, hord, this, if_true, if_false, ne_eq, not_true_eq_false, Bool.true_eq_false]
    · have hz : ¬ scaleP t b r p.1 p.2 = 0 := by simp at hc5; omega
      simp
      refine h35 _ _ _ ?_
      simp [wrap64 (x := sumOf t b r (l.take i) + scaleP t b r p.1 p.2) (by omega) (by omega)]
      refine h33 _ _ _ ?_
      refine h32 _ _ _ ?_
      simp [wrap64 (x := (i : Int) + 1) (by omega) (by omega)]
      refine h29 _ _ _ (again (m - 1) (by omega) ⟨i + 1, by omega, ?_, ?_, rfl⟩)
      · rw [htake, List.any_append, hno]; simp [hz]
      · rw [htake, sumOf_append]
        simp [sumOf]
  have hlt : i = l.length := by simp at hc4; omega
  subst hlt
  rw [List.take_length] at hno
  simp
  refine h28 _ _ _ ?_
  refine h26 _ _ _ ?_
  refine ab_seq_k fun K37 h37 => ?_
  simp
  refine h37 _ _ _ ?_
  simp
  have : cutP t b r l = (sumOf t b r l, 0) := by
    simp only [cutP, hc, hlen, hall, hord, hno, if_true, if_false, ne_eq, not_true_eq_false, Bool.true_eq_false, Bool.false_eq_true]
  exact fin_of 1 (by simp [rs25, this, pairV])
end Go.Ab
