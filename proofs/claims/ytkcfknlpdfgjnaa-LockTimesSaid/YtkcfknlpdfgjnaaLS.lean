/- Rule, of the program: the sorting. -/
import Derived.Test.YtkcfknlpdfgjnaaLR
set_option linter.unusedVariables false
set_option linter.unusedSimpArgs false
set_option maxHeartbeats 4000000
namespace Go.Ab
open Go Go.Proofs

theorem cmpA_ok {T : Tw} {ft : Bool} {room a b : Int} {σ : List O} (hs : σ[0]? = some (.row 0 (towC T ft room))) (ha0 : 0 ≤ a) (ha1 : a < (T.length : Int)) (hb0 : 0 ≤ b) (hb1 : b < (T.length : Int)) :
    FSpec Try.prog 63 [.i .i64 a, .i .i64 b, .p 0 0 0] σ (.i .i64 (cmp (raft T a).1 (raft T b).1)) σ := by
  refine fn63.spec mixed noIt_ok ?_
  rw [ic63]
  obtain ⟨hr1, hr2⟩ := raft_get ha0 ha1
  obtain ⟨hs1, hs2⟩ := raft_get hb0 hb1
  obtain ⟨z1, z2, z3⟩ := lsV_get hr1
  obtain ⟨y1, y2, y3⟩ := lsV_get hs1
  obtain ⟨hz2, z2'⟩ := List.getElem?_eq_some_iff.1 z2
  obtain ⟨hy2, y2'⟩ := List.getElem?_eq_some_iff.1 y2
  obtain ⟨hsl, hs'⟩ := List.getElem?_eq_some_iff.1 hs
  have hcm := fun x y => FSpec.frame (σ := σ) (compare (x := x) (y := y)) (by simp) rfl
  refine ab_seq_k fun K1 h1 => ?_
  simp
  refine h1 _ _ _ ?_
  clear h1 K1
  refine ab_seq_k fun K2 h2 => ?_
  simp [abDs_consU, drU, recheck_cons, recheck_nil, rcK, IS.dst, hs, hs', get0_towC, ha0, ha1, hb0, hb1, z2, z2', y2, y2']
  refine callK_of (hcm _ _) ?_
  simp [abDs_consU, drU, recheck_cons, recheck_nil, rcK, IS.dst]
  refine h2 _ _ _ ?_
  simp
  exact fin_all (by simp [rs63])
theorem cmpB_ok {T : Tw} {ft : Bool} {room a b : Int} {σ : List O} (hs : σ[0]? = some (.row 0 (towC T ft room))) (ha0 : 0 ≤ a) (ha1 : a < (T.length : Int)) (hb0 : 0 ≤ b) (hb1 : b < (T.length : Int)) :
    FSpec Try.prog 65 [.i .i64 a, .i .i64 b, .p 0 0 0] σ (.i .i64 (cmp (raft T b).2 (raft T a).2)) σ := by
  refine fn65.spec mixed noIt_ok ?_
  rw [ic65]
  obtain ⟨hr1, hr2⟩ := raft_get ha0 ha1
  obtain ⟨hs1, hs2⟩ := raft_get hb0 hb1
  obtain ⟨z1, z2, z3⟩ := lsV_get hr1
  obtain ⟨y1, y2, y3⟩ := lsV_get hs1
  obtain ⟨hz3, z3'⟩ := List.getElem?_eq_some_iff.1 z3
  obtain ⟨hy3, y3'⟩ := List.getElem?_eq_some_iff.1 y3
  obtain ⟨hsl, hs'⟩ := List.getElem?_eq_some_iff.1 hs
  have hcm := fun x y => FSpec.frame (σ := σ) (compare (x := x) (y := y)) (by simp) rfl
  refine ab_seq_k fun K1 h1 => ?_
  simp
  refine h1 _ _ _ ?_
  clear h1 K1
  refine ab_seq_k fun K2 h2 => ?_
  simp [abDs_consU, drU, recheck_cons, recheck_nil, rcK, IS.dst, hs, hs', get0_towC, ha0, ha1, hb0, hb1, z3, z3', y3, y3']
  refine callK_of (hcm _ _) ?_
  simp [abDs_consU, drU, recheck_cons, recheck_nil, rcK, IS.dst]
  refine h2 _ _ _ ?_
  simp
  exact fin_all (by simp [rs65])

theorem sort_ok {l : List Int} {σ : List O} {id ver g : Nat} {cap : List V} {c : Int → Int → Int} {lt : Int → Int → Bool} (hid : σ[id]? = some (.row ver (ints l))) (hl : l.length ≤ 12) (hl1 : 1 ≤ l.length) (hlt : ∀ a b, lt a b = decide (c a b < 0))
    (hg : ∀ (a b : Int) (l' : List Int), a ∈ l → b ∈ l → FSpec Try.prog g ([.i .i64 a, .i .i64 b] ++ cap) (σ.set id (.row ver (ints l'))) (.i .i64 (c a b)) (σ.set id (.row ver (ints l')))) :
    FSpec Try.prog 84 [.s id ver 0 l.length 1, .i .i64 0, .i .i64 l.length, .f (.func g) [] cap] σ (.tup []) (σ.set id (.row ver (ints (sortB lt l)))) := by
  refine fn84.spec mixed noIt_ok ?_
  rw [ic84]
  have hil0 := (List.getElem?_eq_some_iff.1 hid).1
  have hs1 : ∀ c, (σ.set id c)[id]? = some c := fun c => List.getElem?_set_self hil0
  have hst : σ = σ.set id (.row ver (ints l)) := by
    apply List.ext_getElem?
    intro j
    by_cases hj : j = id
    · subst hj; rw [hs1, hid]
    · rw [List.getElem?_set_ne (fun e => hj e.symm)]
  refine ab_seq_k fun K1 h1 => ?_
  simp
  refine h1 _ _ _ ?_
  clear h1 K1
  refine ab_block_k fun K2 h2 => ?_
  refine ab_loop_k (fun m env σ' => ∃ i : Nat, i + m = l.length ∧ 1 ≤ i ∧ env = [(0, .s id ver 0 l.length 1), (1, .i .i64 0), (2, .i .i64 l.length), (3, .f (.func g) [] cap), (8, .i .i64 i)] ∧ σ' = σ.set id (.row ver (ints (sortB lt (l.take i) ++ l.drop i)))) (l.length - 1) ⟨1, by omega, by omega, by simp [wrap64 (x := 1) (by omega) (by omega)], ?_⟩ ?_
  · have : sortB lt (l.take 1) ++ l.drop 1 = l := by
      cases l with
      | nil => rfl
      | cons x r => rfl
    rw [this]; exact hst
  rintro m env σ' ⟨i, hi, hi1, rfl, rfl⟩ K3 h3
  rw [ic84_1]
  refine ab_seq_k fun K4 h4 => ?_
  refine ab_seq_k fun K5 h5 => ?_
  simp
  refine h5 _ _ _ ?_
  clear h5 K5
  refine ab_cond_of rfl (fun hc => ?_) (fun hc => ?_)
  · have hil : i < l.length := by simpa using hc
    have hx : l[i]? = some l[i] := List.getElem?_eq_getElem hil
    have hdr : l.drop i = l[i] :: l.drop (i + 1) := List.drop_eq_getElem_cons hil
    have htk : l.take (i + 1) = l.take i ++ [l[i]] := by rw [List.take_add_one, hx]; rfl
    have hxm : l[i] ∈ l := List.getElem_mem hil
    have hSm : ∀ y ∈ sortB lt (l.take i), y ∈ l := fun y hy => List.mem_of_mem_take (sortB_mem.1 hy)
    have hSl : (sortB lt (l.take i)).length = i := by rw [sortB_len, List.length_take]; omega
    have hnext : sortB lt (l.take (i + 1)) = insB lt (sortB lt (l.take i)) l[i] := by rw [htk, sortB_snoc]
    have hRl : (l.drop (i + 1)).length + i + 1 = l.length := by rw [List.length_drop]; omega
    rw [hdr]
    generalize hSS : sortB lt (l.take i) = S at *
    generalize hRR : l.drop (i + 1) = R at *
    generalize l[i] = x at *
    have hst2 : S ++ x :: R = atJ S x i ++ R := by
      have := atJ_end (l := S) (x := x)
      rw [hSl] at this
      rw [this]; simp
    rw [hst2]
    simp
    refine h4 _ _ _ ?_
    clear h4 K4
    refine ab_seq_k fun K6 h6 => ?_
    refine ab_block_k fun K7 h7 => ?_
    refine ab_seq_k fun K8 h8 => ?_
    simp
    refine h8 _ _ _ ?_
    clear h8 K8
    refine ab_block_k fun K9 h9 => ?_
    refine ab_loop_k (fun m env σ' => ∃ j : Nat, j = m ∧ j ≤ i ∧ (∀ y ∈ S.drop j, lt x y = true) ∧ env = [(0, .s id ver 0 l.length 1), (1, .i .i64 0), (2, .i .i64 l.length), (3, .f (.func g) [] cap), (8, .i .i64 i), (9, .i .i64 j)] ∧ σ' = σ.set id (.row ver (ints (atJ S x j ++ R)))) i ⟨i, rfl, Nat.le_refl _, by rw [← hSl]; simp, by simp, by simp [ints]⟩ ?_
    rintro m' env' σ' ⟨j, rfl, hji, hpre, rfl, rfl⟩ K10 h10
    rw [ic84_0]
    have hfin : ∀ env, get env 0 = .s id ver 0 l.length 1 → get env 1 = .i .i64 0 → get env 2 = .i .i64 l.length → get env 3 = .f (.func g) [] cap → get env 8 = .i .i64 i → (∀ y, 0 < j → S[j - 1]? = some y → ¬ lt x y = true) → K9 (some 0) env (σ.set id (.row ver (ints (atJ S x j ++ R)))) := by
      intro env w0 w1 w2 w3 w8 hst
      refine h9 _ _ _ ?_
      refine h7 _ _ _ ?_
      refine h6 _ _ _ ?_
      simp [w0, w1, w2, w3, w8, wrap64 (x := (i : Int) + 1) (by omega) (by omega)]
      refine h3 _ _ _ (again (m - 1) (by omega) ⟨i + 1, by omega, by omega, by simp, ?_⟩)
      rw [hnext, insB_at hpre hst (by omega), hRR]
      simp [atJ, ints]
    refine ab_seq_k fun K11 h11 => ?_
    refine ab_seq_k fun K12 h12 => ?_
    by_cases hj0 : j = 0
    · subst hj0
      simp [abDs_consU, drU, recheck_cons, recheck_nil, rcK, IS.dst]
      refine h12 _ _ _ ?_
      refine ab_cond_of rfl (fun hc => by cases hc) (fun hc => ?_)
      simp
      exact hfin _ rfl rfl rfl rfl rfl (fun y h => by omega)
    obtain ⟨j, rfl⟩ : ∃ j', j = j' + 1 := ⟨j - 1, by omega⟩
    have hjl : j < S.length := by omega
    have hy : S[j]? = some S[j] := List.getElem?_eq_getElem hjl
    have hym : S[j] ∈ l := hSm _ (List.getElem_mem hjl)
    generalize hyy : S[j] = y at hy hym
    have hal : (atJ S x (j + 1)).length = i + 1 := by rw [← hSl]; exact atJ_len (by omega)
    have g1 : (atJ S x (j + 1) ++ R)[j + 1]? = some x := by rw [List.getElem?_append_left (by omega)]; exact atJ_get (by omega)
    have g2 : (atJ S x (j + 1) ++ R)[j]? = some y := by rw [List.getElem?_append_left (by omega), atJ_prev hjl, hy]
    have hsw : ((atJ S x (j + 1) ++ R).set (j + 1) y).set j x = atJ S x j ++ R := by
      rw [List.set_append_left (h := by omega), List.set_append_left (h := by rw [List.length_set]; omega), atJ_swap hy]
    have hgg := hg x y (atJ S x (j + 1) ++ R) hxm hym
    have hAl : (atJ S x (j + 1) ++ R).length = l.length := by rw [List.length_append]; omega
    generalize hA : atJ S x (j + 1) ++ R = A at *
    obtain ⟨g1l, g1'⟩ := List.getElem?_eq_some_iff.1 g1
    obtain ⟨g2l, g2'⟩ := List.getElem?_eq_some_iff.1 g2
    have hpos : 0 < (j : Int) + 1 := by omega
    have hji' : j + 1 < l.length := by omega
    have hji'' : j < l.length := by omega
    have hjz : (j : Int) + 1 < l.length := by omega
    have hjz' : (j : Int) < l.length := by omega
    have hj0' : (0 : Int) ≤ (j : Int) + 1 := by omega
    have hwj := wrap64 (x := (j : Int)) (by omega) (by omega)
    simp [abDs_consU, drU, recheck_cons, recheck_nil, rcK, IS.dst, hpos, g1, g1', g2, g2', hji', hji'', hjz, hjz', hwj, hj0', hs1]
    refine callK_of hgg ?_
    simp [abDs_consU, drU, recheck_cons, recheck_nil, rcK, IS.dst]
    refine h12 _ _ _ ?_
    clear h12 K12
    refine ab_cond_of rfl (fun hc2 => ?_) (fun hc2 => ?_)
    · have hs : lt x y = true := by rw [hlt]; simpa using hc2
      simp
      refine h11 _ _ _ ?_
      clear h11 K11
      refine ab_seq_k fun K19 h19 => ?_
      refine ab_block_k fun K20 h20 => ?_
      simp [abDs_consU, drU, recheck_cons, recheck_nil, rcK, IS.dst, hpos, g1, g1', g2, g2', hji', hji'', hjz, hjz', hwj, hj0', hs1]
      refine ⟨by omega, by omega, ?_⟩
      rw [ints_set, ints_set, hsw]
      refine h20 _ _ _ ?_
      refine h19 _ _ _ ?_
      simp [wrap64 (x := (j : Int) + 1 - 1) (by omega) (by omega)]
      refine h10 _ _ _ (again j (by omega) ⟨j, rfl, by omega, fun z hz => ?_, ?_, by simp [ints]⟩)
      · rw [List.drop_eq_getElem_cons hjl, List.mem_cons] at hz
        rcases hz with rfl | hz
        · rw [hyy]; exact hs
        · exact hpre z hz
      · simp [hwj]
    · have hs : ¬ lt x y = true := by rw [hlt]; simpa using hc2
      simp
      refine hfin _ rfl rfl rfl rfl rfl (fun z _ hz => ?_)
      simp only [Nat.add_sub_cancel] at hz
      rw [hy] at hz; cases hz
      exact hs
  · have hil : i = l.length := by simp at hc; omega
    subst hil
    rw [List.take_length, List.drop_length, List.append_nil]
    simp
    refine h2 _ _ _ ?_
    exact fin_all (by simp [rs84])

theorem sort84_nil {σ : List O} {g : Nat} {cap : List V} : FSpec Try.prog 84 [.ss [] 0 true, .i .i64 0, .i .i64 0, .f (.func g) [] cap] σ (.tup []) σ := by
  refine fn84.spec mixed noIt_ok ?_
  rw [ic84]
  refine ab_seq_k fun K1 h1 => ?_
  simp
  refine h1 _ _ _ ?_
  clear h1 K1
  refine ab_block_k fun K2 h2 => ?_
  refine ab_loop_k (fun m env σ' => env = [(0, .ss [] 0 true), (1, .i .i64 0), (2, .i .i64 0), (3, .f (.func g) [] cap), (8, .i .i64 1)] ∧ σ' = σ) 0 ⟨by simp [wrap64 (x := 1) (by omega) (by omega)], rfl⟩ ?_
  rintro m env σ' ⟨rfl, rfl⟩ K3 h3
  rw [ic84_1]
  refine ab_seq_k fun K4 h4 => ?_
  refine ab_seq_k fun K5 h5 => ?_
  simp
  refine h5 _ _ _ ?_
  clear h5 K5
  refine ab_cond_of rfl (fun hc => by cases hc) (fun hc => ?_)
  simp
  refine h2 _ _ _ ?_
  exact fin_all (by simp [rs84])
theorem stable77 {σ σ1 : List O} {v : V} {n g : Nat} {cap : List V} (hn : n ≤ 12) (h : FSpec Try.prog 84 [v, .i .i64 0, .i .i64 n, .f (.func g) [] cap] σ (.tup []) σ1) (hle : σ.length ≤ σ1.length) : FSpec Try.prog 77 [v, .i .i64 n, .f (.func g) [] cap] σ (.tup []) σ1 := by
  refine fn77.spec mixed noIt_ok ?_
  rw [ic77]
  refine ab_seq_k fun K1 h1 => ?_
  simp
  refine h1 _ _ _ ?_
  clear h1 K1
  refine ab_seq_k fun K2 h2 => ?_
  simp
  refine h2 _ _ _ ?_
  clear h2 K2
  refine ab_seq_k fun K3 h3 => ?_
  refine ab_block_k fun K4 h4 => ?_
  refine ab_loop_k (fun m env σ' => env = [(0, v), (1, .i .i64 n), (2, .f (.func g) [] cap), (6, .i .i64 20), (7, .i .i64 0), (8, .i .i64 20)] ∧ σ' = σ) 0 ⟨by simp, rfl⟩ ?_
  rintro m env σ' ⟨rfl, rfl⟩ K5 h5
  rw [ic77_0]
  refine ab_seq_k fun K6 h6 => ?_
  refine ab_seq_k fun K7 h7 => ?_
  simp
  refine h7 _ _ _ ?_
  clear h7 K7
  refine ab_cond_of rfl (fun hc => by simp at hc; omega) (fun hc => ?_)
  simp
  refine h4 _ _ _ ?_
  refine h3 _ _ _ ?_
  refine ab_seq_k fun K8 h8 => ?_
  simp
  refine callK_of h ?_
  simp
  refine h8 _ _ _ ?_
  clear h8 K8
  refine ab_block_k fun K9 h9 => ?_
  refine ab_loop_k (fun m env σ' => env = [(0, v), (1, .i .i64 n), (2, .f (.func g) [] cap), (6, .i .i64 20)] ∧ σ' = σ1) 0 ⟨by simp, rfl⟩ ?_
  rintro m env σ' ⟨rfl, rfl⟩ K10 h10
  rw [ic77_2]
  refine ab_seq_k fun K11 h11 => ?_
  refine ab_seq_k fun K12 h12 => ?_
  simp
  refine h12 _ _ _ ?_
  clear h12 K12
  refine ab_cond_of rfl (fun hc => by simp at hc; omega) (fun hc => ?_)
  simp
  refine h9 _ _ _ ?_
  exact fin_all (by simp [rs77])
theorem sort62 {σ σ1 : List O} {v : V} {n g : Nat} {cap : List V} (hn : n ≤ 12) (hv : ∀ C : Ct, C (.i .i64 n) σ → lenC v σ C) (h : FSpec Try.prog 84 [v, .i .i64 0, .i .i64 n, .f (.func g) [] cap] σ (.tup []) σ1) (hle : σ.length ≤ σ1.length) : FSpec Try.prog 62 [v, .f (.func g) [] cap] σ (.tup []) σ1 := by
  refine fn62.spec mixed noIt_ok ?_
  rw [ic62]
  simp
  refine hv _ ?_
  simp
  refine callK_of (stable77 hn h hle) ?_
  simp
  exact fin_all (by simp [rs62])
end Go.Ab
