/- CheckCut: the walks. -/
import Derived.Test.YtchmfamkpfaieaaUG
set_option linter.unusedVariables false
set_option linter.unusedSimpArgs false
set_option maxHeartbeats 4000000
namespace Go.Ab
open Go Go.Proofs

def PureO (o : O) : Prop := ∃ ver cells, o = .row ver cells ∧ pureL cells = true
theorem frzS_pureL {k : Nat} {base g : List O} (h : ∀ o ∈ base, PureO o) : frzS (k + 1) base.length (base ++ g) = base := by
  rw [frzS, List.take_left]
  have : base.map (frzO (k + 1) base.length (base ++ g)) = base.map id := List.map_congr_left (fun o ho => by
    obtain ⟨ver, cells, rfl, hp⟩ := h o ho
    exact frzO_pure hp)
  rw [this, List.map_id]

def hpC (t b : List Int) (ft fb : Bool) (r : Ru) (y : V) : List O := [.row 0 [sl t ft, sl b fb], .row 0 r.cells, .row 0 [y]]
theorem hpC_pure {t b ft fb r y} (hy : V.pure y = true) : ∀ o ∈ hpC t b ft fb r y, PureO o := by
  intro o ho
  simp only [hpC, List.mem_cons, List.not_mem_nil, or_false] at ho
  rcases ho with rfl | rfl | rfl
  · exact ⟨_, _, rfl, by simp⟩
  · exact ⟨_, _, rfl, by simp⟩
  · exact ⟨_, _, rfl, by simp [hy]⟩

theorem checkCut_ok {t b : List Int} {ft fb : Bool} {r : Ru} {l : List (Int × Int)} {fl : Bool} (hsz : Sz t b) (hl : (l.length : Int) < 1000000000) :
    FSpec Try.prog 24 [.agg [sl t ft, sl b fb], .agg r.cells, slL l fl] [] (pairV (cutP t b r l)) [] := by
  refine fn24.spec0 mixed noIt_ok ?_
  rw [ic24]
  have h7 : List.take 7 r.cells = r.cells := rfl
  have quit : ∀ {c : Int} {env σ K E}, cutP t b r l = (0, c) → ab Try.prog noY noIt 0 ((IC.reg [IS.op (some 6) none (IOp.mov (Od.c (V.i IntKind.i64 0))), IS.op (some 7) none (IOp.mov (Od.c (V.i IntKind.i64 c)))] (some [6, 7])).seq IC.ret) K E (finK rs24 [] (pairV (cutP t b r l)) []) (some 0) env σ := by
    intro c env σ K E hn
    refine ab_seq_k fun K1 h1 => ?_
    simp
    refine h1 _ _ _ ?_
    simp
    exact fin_of 1 (by simp [rs24, hn, pairV])
  refine ab_seq_k fun K1 h1 => ?_
  simp
  refine h1 _ _ _ ?_
  clear h1 K1
  refine ab_seq_k fun K2 h2 => ?_
  have hcell : cellsOf (openV t ft b fb [r]) = some [openV t ft b fb [r]] := by unfold openV; split <;> rfl
  simp [h7]
  refine callK_of (open1 hsz) ?_
  simp [hcell]
  refine h2 _ _ _ ?_
  clear h2 K2
  refine ab_seq_k fun K3 h3 => ?_
  refine ab_block_k fun K4 h4 => ?_
  refine ab_seq_k fun K5 h5 => ?_
  simp
  refine h5 _ _ _ ?_
  clear h5 K5
  refine ab_cond_of rfl (fun hc => ?_) (fun hc => ?_)
  · simp at hc
    refine ab_seq_k fun K6 h6 => ?_
    simp
    refine h6 _ _ _ ?_
    simp
    exact fin_of 1 (by simp [rs24, cutP, hc, pairV])
  simp at hc
  obtain ⟨ok, hov⟩ := open_some (ft := ft) (fb := fb) hsz hc
  obtain ⟨n2, n61, tv, bl, hr⟩ := ok
  rw [hov]
  refine ab_seq_k fun K7 h7' => ?_
  simp
  refine h7' _ _ _ ?_
  clear h7' K7
  refine ab_cond_of rfl (fun hc2 => quit ?_) (fun hc2 => ?_)
  · simp at hc2
    have : 60 < l.length := by omega
    simp [cutP, hc, this]
  have hlen : ¬ 60 < l.length := by simp at hc2; omega
  refine ab_seq_k fun K8 h8 => ?_
  simp
  have hcont : FSpec Try.prog 60 [slL l fl, .f (.func 61) [] [.p 2 0 0]] (hpC t b ft fb r (yardV t ft b fb (knownK t b r))) (.b (l.any fun p => !isLog t.length p.1 p.2)) (hpC t b ft fb r (yardV t ft b fb (knownK t b r))) := by
    refine FSpec.frozen 3 (v := .b (l.any fun p => !isLog t.length p.1 p.2)) ?_ rfl
    have := containsFuncL (l := l) (full := fl) (g := 61) (first := []) (cap := [.sp [yardV t ft b fb (knownK t b r)] 0]) (p := fun p => !isLog t.length p.1 p.2) (fun x => by simpa using notLog_ok (by omega)) hl
    simpa [hpC] using this
  refine callK_of hcont ?_
  simp
  refine h8 _ _ _ ?_
  clear h8 K8 hcont
  have hany : (l.any fun p => !isLog t.length p.1 p.2) = !(l.all fun p => isLog t.length p.1 p.2) := by
    rw [List.all_eq_not_any_not]; simp
  refine ab_cond_of rfl (fun hc3 => quit ?_) (fun hc3 => ?_)
  · rw [hany] at hc3
    have : (l.all fun p => isLog t.length p.1 p.2) = false := by simpa using hc3
    simp only [cutP, hc, hlen, this, if_true, if_false, ne_eq, not_true_eq_false]
  rw [hany] at hc3
  have hall : (l.all fun p => isLog t.length p.1 p.2) = true := by simpa using hc3
  have hlogs : ∀ p ∈ l, isLog t.length p.1 p.2 = true := List.all_eq_true.1 hall
  simp
  refine h4 _ _ _ ?_
  refine h3 _ _ _ ?_
  clear h3 h4
  generalize hy : yardV t ft b fb (knownK t b r) = y at *
  have hyp : y.pure = true := by rw [← hy]; simp
  refine ab_seq_k fun K9 h9 => ?_
  simp
  refine h9 _ _ _ ?_
  clear h9 K9
  refine ab_seq_k fun K10 h10 => ?_
  refine ab_seq_k fun K11 h11 => ?_
  simp
  refine h11 _ _ _ ?_
  clear h11 K11
  refine ab_block_k fun K12 h12 => ?_
  refine ab_loop_k (fun m env σ => ∃ (i : Nat) (next : Int), i + m = l.length ∧ ordered 0 l = ordered next (l.drop i) ∧ env = [(2, slL l fl), (8, .p 2 0 0), (10, .i .i64 next), (36, slL l fl), (37, .i .i64 l.length), (38, .i .i64 i)] ∧ σ = hpC t b ft fb r y) l.length
    ⟨0, 0, by omega, by simp, by simp, rfl⟩ ?_
  rintro m env σ ⟨i, next, hi, hord, rfl, rfl⟩ K13 h13
  rw [ic24_0]
  refine ab_seq_k fun K14 h14 => ?_
  simp
  refine h14 _ _ _ ?_
  clear h14 K14
  refine ab_seq_k fun K15 h15 => ?_
  refine ab_cond_of rfl (fun hc4 => ?_) (fun hc4 => ?_)
  · have hlt : i < l.length := by simp at hc4; omega
    have hget : l[i]? = some l[i] := List.getElem?_eq_getElem hlt
    obtain ⟨e1, -, -⟩ := lsV_get hget
    have hd : l.drop i = l[i] :: l.drop (i + 1) := List.drop_eq_getElem_cons hlt
    generalize hx : l[i] = p at *
    have hle : i * 2 + 2 ≤ l.length * 2 := by omega
    rw [hd, ordered] at hord
    simp
    refine h15 _ _ _ ?_
    refine ab_seq_k fun K16 h16 => ?_
    refine ab_block_k fun K17 h17 => ?_
    refine ab_seq_k fun K18 h18 => ?_
    simp [hpC, hlt, hle, e1]
    refine h18 _ _ _ ?_
    clear h18 K18
    refine ab_seq_k fun K19 h19 => ?_
    refine ab_seq_k fun K20 h20 => ?_
    simp
    refine h20 _ _ _ ?_
    clear h20 K20
    refine ab_cond_of rfl (fun hc5 => quit ?_) (fun hc5 => ?_)
    · have hn : decide (next ≤ p.1) = false := by simp at hc5 ⊢; omega
      have : ordered 0 l = false := by rw [hord, hn]; rfl
      simp only [cutP, hc, hlen, hall, this, if_true, if_false, ne_eq, not_true_eq_false, Bool.true_eq_false]
    · have hn : decide (next ≤ p.1) = true := by simp at hc5 ⊢; omega
      rw [hn, Bool.true_and] at hord
      simp
      refine h19 _ _ _ ?_
      simp
      refine h17 _ _ _ ?_
      refine h16 _ _ _ ?_
      simp [wrap64 (x := (i : Int) + 1) (by omega) (by omega)]
      refine h13 _ _ _ (againF (m - 1) 3 3 (by omega) (by omega) (by simp) ⟨i + 1, p.2, by omega, hord, ?_, ?_⟩)
      · rw [keepO_some, keep_frzE]
        simp [frzE]
      · exact frzS_pureL (base := hpC t b ft fb r y) (k := 2) (hpC_pure hyp)
  have hlt : i = l.length := by simp at hc4; omega
  subst hlt
  have hordT : ordered 0 l = true := by rw [hord, List.drop_length]; rfl
  simp
  refine h12 _ _ _ ?_
  refine h10 _ _ _ ?_
  clear h10 h12 h13 h15
  refine ab_seq_k fun K21 h21 => ?_
  simp
  refine h21 _ _ _ ?_
  clear h21 K21
  refine ab_seq_k fun K22 h22 => ?_
  refine ab_seq_k fun K23 h23 => ?_
  simp
  refine h23 _ _ _ ?_
  clear h23 K23
  refine ab_block_k fun K24 h24 => ?_
  refine ab_loop_k (fun m env σ => ∃ i : Nat, i + m = l.length ∧ (l.take i).any (fun p => decide (scaleP t b r p.1 p.2 = 0)) = false ∧ env = [(8, .p 2 0 0), (13, .i .i64 (sumOf t b r (l.take i))), (49, slL l fl), (50, .i .i64 l.length), (51, .i .i64 i)] ∧ σ = hpC t b ft fb r y) l.length
    ⟨0, by omega, by simp, by simp [sumOf], rfl⟩ ?_
  rintro m env σ ⟨i, hi, hno, rfl, rfl⟩ K25 h25
  rw [ic24_1]
  refine ab_seq_k fun K26 h26 => ?_
  simp
  refine h26 _ _ _ ?_
  clear h26 K26
  refine ab_seq_k fun K27 h27 => ?_
  refine ab_cond_of rfl (fun hc4 => ?_) (fun hc4 => ?_)
  · have hlt : i < l.length := by simp at hc4; omega
    have hget : l[i]? = some l[i] := List.getElem?_eq_getElem hlt
    obtain ⟨e1, -, -⟩ := lsV_get hget
    have htake : l.take (i + 1) = l.take i ++ [l[i]] := by rw [List.take_add_one, hget]; rfl
    have hmem : l[i] ∈ l := List.getElem_mem hlt
    generalize hx : l[i] = p at *
    have hle : i * 2 + 2 ≤ l.length * 2 := by omega
    obtain ⟨a1, a2, a3⟩ := isLog_iff.1 (hlogs p hmem)
    have hs := sumOf_le (b := b) hr tv (l := l.take i) (fun q hq => hlogs q (List.mem_of_mem_take hq))
    have hs2 := sumOf_le (b := b) hr tv (l := [p]) (fun q hq => by simp at hq; subst hq; exact hlogs _ hmem)
    simp only [sumOf, List.length_singleton, List.length_take] at hs hs2
    have hmin : ((min i l.length : Nat) : Int) ≤ 60 := by omega
    simp
    refine h27 _ _ _ ?_
    refine ab_seq_k fun K28 h28 => ?_
    refine ab_block_k fun K29 h29 => ?_
    refine ab_seq_k fun K30 h30 => ?_
    simp [hpC, hlt, hle, e1]
    refine h30 _ _ _ ?_
    clear h30 K30
    refine ab_seq_k fun K31 h31 => ?_
    simp
    rw [← hy]
    refine callK_of (FSpec.frame (scale_ok (t := t) (ft := ft) (b := b) (fb := fb) (kn := knownK t b r) (x := p.1) (y := p.2)) (by simp) rfl) ?_
    rw [look_known hr a1 a2 a3]
    simp
    refine h31 _ _ _ ?_
    clear h31 K31
    refine ab_seq_k fun K32 h32 => ?_
    refine ab_seq_k fun K33 h33 => ?_
    simp
    refine h33 _ _ _ ?_
    clear h33 K33
    refine ab_cond_of rfl (fun hc5 => quit ?_) (fun hc5 => ?_)
    · have hz : scaleP t b r p.1 p.2 = 0 := by simpa using hc5
      have : l.any (fun p => decide (scaleP t b r p.1 p.2 = 0)) = true := by rw [List.any_eq_true]; exact ⟨p, hmem, by simp [hz]⟩
      simp only [cutP, hc, hlen, hall, hordT, this, if_true, if_false, ne_eq, not_true_eq_false, Bool.true_eq_false]
    · have hz : ¬ scaleP t b r p.1 p.2 = 0 := by simpa using hc5
      simp [wrap64 (x := sumOf t b r (l.take i) + scaleP t b r p.1 p.2) (by omega) (by omega)]
      refine h32 _ _ _ ?_
      simp [wrap64 (x := sumOf t b r (l.take i) + scaleP t b r p.1 p.2) (by omega) (by omega)]
      refine h29 _ _ _ ?_
      refine h28 _ _ _ ?_
      simp [wrap64 (x := (i : Int) + 1) (by omega) (by omega)]
      refine h25 _ _ _ (againF (m - 1) 3 3 (by omega) (by omega) (by simp) ⟨i + 1, by omega, ?_, ?_, ?_⟩)
      · rw [htake, List.any_append, hno]; simp [hz]
      · rw [keepO_some, keep_frzE, htake, sumOf_append]
        simp [frzE, sumOf]
      · rw [hy]
        exact frzS_pureL (base := hpC t b ft fb r y) (k := 2) (hpC_pure hyp)
  have hlt : i = l.length := by simp at hc4; omega
  subst hlt
  rw [List.take_length] at hno
  simp
  refine h24 _ _ _ ?_
  refine h22 _ _ _ ?_
  refine ab_seq_k fun K34 h34 => ?_
  simp
  refine h34 _ _ _ ?_
  simp
  have : cutP t b r l = (sumOf t b r l, 0) := by
    simp only [cutP, hc, hlen, hall, hordT, hno, if_true, if_false, ne_eq, not_true_eq_false, Bool.true_eq_false, Bool.false_eq_true]
  exact fin_of 1 (by simp [rs24, this, pairV])
end Go.Ab
