/- The document's test of a plain book, of one. -/
import Derived.Test.YtgaijhpekajflaaUS
set_option linter.unusedVariables false
set_option linter.unusedSimpArgs false
set_option maxHeartbeats 8000000
set_option maxRecDepth 100000
namespace Go.Ab
open Go Go.Proofs

theorem isPlain44 {N : Nat} {D X : List Db} {f g : Bool} (hc : checkBook N D = 0) (hP : PlainB N D X) : FSpec Try.prog 44 [bookV N D f, bookV N X g] [] (.b true) [] := by
  obtain ⟨⟨n1, n2⟩, hlen, hD, hnd⟩ := book_ok hc
  obtain ⟨-, hlenX, hX, hndX⟩ := book_ok hP.ok
  have hN : N ≤ 10 := by omega
  refine fn44.spec0 mixed noIt_ok ?_
  rw [ic44]
  have G1 := fun σ => FSpec.frame (σ := σ) (refBook (n := N) (D := X) (f := g) (by omega)) (by simp) rfl
  rw [hP.ok] at G1
  have G2 := fun σ => FSpec.frame (σ := σ) (short42 (N := N) (D := X) (f := g) hN hX (by omega)) (by simp) rfl
  have hsh : shortN (owB X) N = 0 := by unfold shortN; rw [hP.no]; rfl
  rw [hsh] at G2
  refine ab_seq_k fun K1 h1 => ?_
  simp
  refine h1 _ _ _ ?_
  clear h1 K1
  refine ab_seq_k fun K2 h2 => ?_
  refine ab_seq_k fun K3 h3 => ?_
  simp [take_bookC, get0_bookC]
  refine callK_of (G1 _) ?_
  simp [take_bookC, get0_bookC]
  refine callK_of (G2 _) ?_
  simp [take_bookC, get0_bookC]
  refine h3 _ _ _ ?_
  clear h3 K3
  refine ab_cond_of rfl (fun h => by simp at h) (fun _ => ?_)
  simp
  refine h2 _ _ _ ?_
  clear h2 K2 G1 G2
  refine ab_seq_k fun K5 h5 => ?_
  refine ab_seq_k fun K6 h6 => ?_
  simp
  refine h6 _ _ _ ?_
  clear h6 K6
  refine ab_block_k fun K7 h7 => ?_
  refine ab_loop_k (fun m env σ => ∃ i : Nat, i + m = X.length ∧ env = [(2, .p 0 0 0), (3, .p 1 0 0), (5, .i .i64 i)] ∧ σ[0]? = some (O.row 0 (bookC N D f)) ∧ σ[1]? = some (O.row 0 (bookC N X g))) X.length ⟨0, by omega, by simp, rfl, rfl⟩ ?_
  rintro m env σ ⟨i, hi, rfl, s0, s1⟩ K8 h8
  obtain ⟨s0l, s0'⟩ := List.getElem?_eq_some_iff.1 s0
  obtain ⟨s1l, s1'⟩ := List.getElem?_eq_some_iff.1 s1
  rw [ic44_1]
  refine ab_seq_k fun K9 h9 => ?_
  refine ab_seq_k fun K10 h10 => ?_
  simp [s1, s1', get1_bookC]
  refine h10 _ _ _ ?_
  clear h10 K10
  refine ab_cond_of rfl (fun hcc => ?_) (fun hcc => ?_)
  · have hil : i < X.length := by simpa using hcc
    obtain ⟨d, hd⟩ : ∃ d, X[i]? = some d := ⟨_, List.getElem?_eq_getElem hil⟩
    have hdm := List.mem_of_getElem? hd
    obtain ⟨z1, z2, z3, z4⟩ := lsD_get hd
    have hm3 : min 3 (X.length * 3 - i * 3) = 3 := by omega
    have hle : i * 3 + 3 ≤ X.length * 3 := by omega
    simp
    refine h9 _ _ _ ?_
    clear h9 K9
    refine ab_seq_k fun K11 h11 => ?_
    refine ab_block_k fun K12 h12 => ?_
    refine ab_seq_k fun K13 h13 => ?_
    simp [s1, s1', get1_bookC, z1, hm3, hle, hil]
    refine h13 _ _ _ ?_
    clear h13 K13
    have t0 := app_get (g := [O.row 0 [V.i IntKind.i64 d.fst, V.i IntKind.i64 d.snd.fst, V.i IntKind.i64 d.snd.snd]]) s0
    have t1 := app_get (g := [O.row 0 [V.i IntKind.i64 d.fst, V.i IntKind.i64 d.snd.fst, V.i IntKind.i64 d.snd.snd]]) s1
    have tr : (σ ++ [O.row 0 [V.i IntKind.i64 d.fst, V.i IntKind.i64 d.snd.fst, V.i IntKind.i64 d.snd.snd]])[σ.length]? = some (O.row 0 [V.i IntKind.i64 d.fst, V.i IntKind.i64 d.snd.fst, V.i IntKind.i64 d.snd.snd]) := by simp
    clear s0 s1 s0' s1' s0l s1l
    generalize hri : σ.length = ri at *
    generalize σ ++ [O.row 0 [V.i IntKind.i64 d.fst, V.i IntKind.i64 d.snd.fst, V.i IntKind.i64 d.snd.snd]] = U at *
    obtain ⟨t0l, t0'⟩ := List.getElem?_eq_some_iff.1 t0
    obtain ⟨t1l, t1'⟩ := List.getElem?_eq_some_iff.1 t1
    obtain ⟨trl, tr'⟩ := List.getElem?_eq_some_iff.1 tr
    refine ab_seq_k fun K14 h14 => ?_
    refine ab_seq_k fun K15 h15 => ?_
    have hgo : ∀ env, get env 76 = .b false → get env 2 = .p 0 0 0 → get env 3 = .p 1 0 0 → get env 5 = .i .i64 i → get env 6 = .p ri 0 0 → K15 (some 0) env U := by
      intro env w76 w2 w3 w5 w6
      refine h15 _ _ _ ?_
      refine ab_cond_of (by rw [ev_t]; exact w76) (fun h => by cases h) (fun _ => ?_)
      simp
      refine h14 _ _ _ ?_
      clear h14 h15 K14 K15
      refine ab_seq_k fun K17 h17 => ?_
      simp [w2, w3, w5, w6]
      refine h17 _ _ _ ?_
      clear h17 K17
      refine ab_seq_k fun K18 h18 => ?_
      refine ab_seq_k fun K19 h19 => ?_
      simp
      refine h19 _ _ _ ?_
      clear h19 K19
      refine ab_block_k fun K20 h20 => ?_
      have hq : (D.any fun e => decide (e.1 = d.1) && decide (e.2.1 = d.2.1) && decide (d.2.2 ≤ e.2.2)) = true := by
        obtain ⟨e, he, e1, e2, e3⟩ := hP.le d hdm
        exact List.any_eq_true.2 ⟨e, he, by simp [e1, e2, e3]⟩
      refine ab_loop_k (fun m env σ => ∃ k : Nat, k + m = D.length ∧ env = [(2, .p 0 0 0), (3, .p 1 0 0), (5, .i .i64 i), (6, .p ri 0 0), (7, .b ((D.take k).any fun e => decide (e.1 = d.1) && decide (e.2.1 = d.2.1) && decide (d.2.2 ≤ e.2.2))), (8, .i .i64 k)] ∧ σ = U) D.length ⟨0, by omega, by simp, rfl⟩ ?_
      rintro m1 env σ' ⟨k, hk, rfl, hσ'⟩ K21 h21
      rw [hσ']
      clear hσ' σ'
      rw [ic44_0]
      refine ab_seq_k fun K22 h22 => ?_
      refine ab_seq_k fun K23 h23 => ?_
      simp [t0, t0', get1_bookC]
      refine h23 _ _ _ ?_
      clear h23 K23
      refine ab_cond_of rfl (fun hck => ?_) (fun hck => ?_)
      · have hkl : k < D.length := by simpa using hck
        obtain ⟨e, he⟩ : ∃ e, D[k]? = some e := ⟨_, List.getElem?_eq_getElem hkl⟩
        obtain ⟨y1, y2, y3, y4⟩ := lsD_get he
        obtain ⟨y2l, y2'⟩ := List.getElem?_eq_some_iff.1 y2
        obtain ⟨y3l, y3'⟩ := List.getElem?_eq_some_iff.1 y3
        obtain ⟨y4l, y4'⟩ := List.getElem?_eq_some_iff.1 y4
        have htk : (D.take (k + 1)).any (fun e => decide (e.1 = d.1) && decide (e.2.1 = d.2.1) && decide (d.2.2 ≤ e.2.2)) = ((D.take k).any (fun e => decide (e.1 = d.1) && decide (e.2.1 = d.2.1) && decide (d.2.2 ≤ e.2.2)) || (decide (e.1 = d.1) && decide (e.2.1 = d.2.1) && decide (d.2.2 ≤ e.2.2))) := by
          rw [List.take_add_one, he, List.any_append]; simp
        generalize hA : (D.take k).any (fun e => decide (e.1 = d.1) && decide (e.2.1 = d.2.1) && decide (d.2.2 ≤ e.2.2)) = A at *
        simp
        refine h22 _ _ _ ?_
        clear h22 K22
        refine ab_seq_k fun K24 h24 => ?_
        refine ab_block_k fun K25 h25 => ?_
        have hend : ∀ env, get env 7 = .b (A || (decide (e.1 = d.1) && decide (e.2.1 = d.2.1) && decide (d.2.2 ≤ e.2.2))) → get env 2 = .p 0 0 0 → get env 3 = .p 1 0 0 → get env 5 = .i .i64 i → get env 6 = .p ri 0 0 → get env 8 = .i .i64 k → K25 (some 0) env U := by
          intro env w7 w2 w3 w5 w6 w8
          refine h25 _ _ _ ?_
          refine h24 _ _ _ ?_
          simp [w2, w3, w5, w6, w7, w8, wrap64 (x := (k : Int) + 1) (by omega) (by omega)]
          exact h21 _ _ _ (again (m1 - 1) (by omega) ⟨k + 1, by omega, by simp [htk], rfl⟩)
        cases A with
        | true =>
          simp [abDs_consU, drU, recheck_cons, recheck_nil, rcK, IS.dst]
          exact hend _ rfl rfl rfl rfl rfl rfl
        | false =>
          by_cases e1 : e.1 = d.1
          · by_cases e2 : e.2.1 = d.2.1
            · simp [abDs_consU, drU, recheck_cons, recheck_nil, rcK, IS.dst, t0, t0', tr, tr', get1_bookC, hkl, y2, y2', y3, y3', y4, y4', e1, e2]
              exact hend _ (by simp [e1, e2]) rfl rfl rfl rfl rfl
            · simp [abDs_consU, drU, recheck_cons, recheck_nil, rcK, IS.dst, t0, t0', tr, tr', get1_bookC, hkl, y2, y2', y3, y3', y4, y4', e1, e2]
              exact hend _ (by simp [e2]) rfl rfl rfl rfl rfl
          · simp [abDs_consU, drU, recheck_cons, recheck_nil, rcK, IS.dst, t0, t0', tr, tr', get1_bookC, hkl, y2, y2', y3, y3', y4, y4', e1]
            exact hend _ (by simp [e1]) rfl rfl rfl rfl rfl
      · have hkl : k = D.length := by simp at hck; omega
        rw [hkl, List.take_length, hq]
        simp
        refine h20 _ _ _ ?_
        refine h18 _ _ _ ?_
        refine ab_seq_k fun K26 h26 => ?_
        simp
        refine h26 _ _ _ ?_
        clear h26 K26
        refine ab_cond_of rfl (fun h => by simp at h) (fun _ => ?_)
        simp
        refine h12 _ _ _ ?_
        refine h11 _ _ _ ?_
        simp [wrap64 (x := (i : Int) + 1) (by omega) (by omega)]
        exact h8 _ _ _ (again (m - 1) (by omega) ⟨i + 1, by omega, by simp, t0, t1⟩)
    cases i with
    | zero =>
      simp [abDs_consU, drU, recheck_cons, recheck_nil, rcK, IS.dst]
      exact hgo _ rfl rfl rfl rfl rfl
    | succ i =>
      obtain ⟨e, he⟩ : ∃ e, X[i]? = some e := ⟨_, List.getElem?_eq_getElem (by omega)⟩
      have hlt : ltD e d := by
        obtain ⟨q1, q1'⟩ := List.getElem?_eq_some_iff.1 he
        obtain ⟨q2, q2'⟩ := List.getElem?_eq_some_iff.1 hd
        have := List.pairwise_iff_getElem.1 hP.srt i (i + 1) q1 q2 (by omega)
        rw [q1', q2'] at this
        exact this
      obtain ⟨y1, y2, y3, y4⟩ := lsD_get he
      obtain ⟨y2l, y2'⟩ := List.getElem?_eq_some_iff.1 y2
      obtain ⟨y3l, y3'⟩ := List.getElem?_eq_some_iff.1 y3
      have w1 : IntKind.i64.wrap (((i + 1 : Nat) : Int) - 1) = (i : Int) := by rw [wrap64 (by omega) (by omega)]; omega
      have w1' : IntKind.i64.wrap ((i : Int) + 1 - 1) = (i : Int) := by rw [wrap64 (by omega) (by omega)]; omega
      have hpos : (0 : Int) < (i : Int) + 1 := by omega
      have hil' : i < X.length := by omega
      have hn1 : ¬ d.1 < e.1 := by rcases hlt with h | h <;> omega
      by_cases hde : d.1 = e.1
      · have hn2 : ¬ d.2.1 < e.2.1 := by rcases hlt with h | h <;> omega
        have hee : ¬ e.1 < e.1 := by omega
        simp [abDs_consU, drU, recheck_cons, recheck_nil, rcK, IS.dst, hpos, t1, t1', tr, tr', get1_bookC, w1', wrap64 (x := (i : Int)) (by omega) (by omega), hil', y2, y2', y3, y3', hde, hn2]
        refine hgo _ ?_ ?_ ?_ ?_ ?_ <;> rfl
      · simp [abDs_consU, drU, recheck_cons, recheck_nil, rcK, IS.dst, hpos, t1, t1', tr, tr', get1_bookC, w1', wrap64 (x := (i : Int)) (by omega) (by omega), hil', y2, y2', y3, y3', hn1, hde]
        refine hgo _ ?_ ?_ ?_ ?_ ?_ <;> rfl
  · simp
    refine h7 _ _ _ ?_
    refine h5 _ _ _ ?_
    clear h5 h7 h8 h9
    have G3 := fun σ => FSpec.frame (σ := σ) (bal47 (n := (N : Int)) (M := 1000000) (D := D) (f := f) (by omega) (by omega) hD (by omega) rfl hN) (by simp) (by simp)
    have G4 := fun σ => FSpec.frame (σ := σ) (bal47 (n := (N : Int)) (M := 1000000) (D := X) (f := g) (by omega) (by omega) hX (by omega) rfl hN) (by simp) (by simp)
    have hrow : rowF N (balF X) = rowF N (balF D) := by
      apply List.ext_getElem?
      intro k
      by_cases hk : k < N
      · rw [rowF_get hk, rowF_get hk, hP.bal k hk]
      · rw [List.getElem?_eq_none (by simp; omega), List.getElem?_eq_none (by simp; omega)]
    rw [hrow] at G4
    refine ab_seq_k fun K28 h28 => ?_
    simp [abDs_consU, drU, recheck_cons, recheck_nil, rcK, IS.dst, s0, s0', take_bookC]
    refine callK_of (G3 _) ?_
    simp [abDs_consU, drU, recheck_cons, recheck_nil, rcK, IS.dst, s1, s1', take_bookC]
    refine callK_of (G4 _) ?_
    simp [abDs_consU, drU, recheck_cons, recheck_nil, rcK, IS.dst]
    refine h28 _ _ _ ?_
    clear h28 K28
    have hFs := bal_small hD hlen
    refine ab_seq_k fun K29 h29 => ?_
    refine ab_seq_k fun K30 h30 => ?_
    simp
    refine h30 _ _ _ ?_
    clear h30 K30
    refine ab_block_k fun K31 h31 => ?_
    refine ab_loop_k (fun m env σ' => ∃ k : Nat, k + m = N ∧ env = [(9, sl (rowF N (balF D)) false), (10, sl (rowF N (balF D)) false), (11, .i .i64 k)] ∧ σ' = σ) N ⟨0, by omega, by simp, rfl⟩ ?_
    rintro m1 env σ' ⟨k, hk, rfl, hσ'⟩ K32 h32
    rw [hσ']
    clear hσ' σ'
    rw [ic44_2]
    refine ab_seq_k fun K33 h33 => ?_
    refine ab_seq_k fun K34 h34 => ?_
    simp
    refine h34 _ _ _ ?_
    clear h34 K34
    refine ab_cond_of rfl (fun hck => ?_) (fun hck => ?_)
    · have hkN : k < N := by simpa using hck
      simp
      refine h33 _ _ _ ?_
      clear h33 K33
      refine ab_seq_k fun K35 h35 => ?_
      refine ab_block_k fun K36 h36 => ?_
      refine ab_seq_k fun K37 h37 => ?_
      simp [abDs_consU, drU, recheck_cons, recheck_nil, rcK, IS.dst, hkN, rowF_get hkN]
      refine h37 _ _ _ ?_
      refine ab_cond_of rfl (fun h => by simp at h) (fun _ => ?_)
      simp
      refine h36 _ _ _ ?_
      refine h35 _ _ _ ?_
      simp [wrap64 (x := (k : Int) + 1) (by omega) (by omega)]
      exact h32 _ _ _ (again (m1 - 1) (by omega) ⟨k + 1, by omega, by simp, rfl⟩)
    · simp
      refine h31 _ _ _ ?_
      refine h29 _ _ _ ?_
      refine ab_seq_k fun K38 h38 => ?_
      simp
      refine h38 _ _ _ ?_
      clear h38 K38
      simp
      exact fin_of 1 (by simp [rs44])
end Go.Ab
