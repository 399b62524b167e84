/- Plain books: the walk of Plain. -/
import Derived.Test.YtgaijhpekajflaaUR
set_option linter.unusedVariables false
set_option linter.unusedSimpArgs false
set_option maxHeartbeats 8000000
set_option maxRecDepth 100000
namespace Go.Ab
open Go Go.Proofs

def plainV (n : Int) (D : List Db) : V := if checkBook n D ≠ 0 then .tup [bookV 0 [] true, .i .i64 (checkBook n D)] else .tup [bookV n (plainD n.toNat D) ((plainD n.toNat D).length == 0), .i .i64 0]
theorem frz_book {k : Nat} {n e : Int} {v : V} {m : Nat} {X : List Db} {σ : List O} (h : Gr k 3 σ v m (lsD X)) (hm : X.length = m) : frz 4 0 σ (.tup [.agg [.i .i64 n, v], .i .i64 e]) = .tup [bookV n X (m == 0), .i .i64 e] := by
  have e1 : frz 3 0 σ (.agg [.i .i64 n, v]) = bookV n X (m == 0) := by
    rw [frz_agg2 (frz_pure rfl) (frz_G h (by simp))]
    subst hm; rfl
  rw [frz]
  split
  · rename_i hp
    simp only [V.pure, pureL, Bool.and_eq_true] at hp
    have : frz 3 0 σ (.agg [.i .i64 n, v]) = .agg [.i .i64 n, v] := frz_pure (by simp only [V.pure, pureL, Bool.and_eq_true]; exact hp.1)
    rw [← e1, this]
  · simp only [List.map_cons, List.map_nil, e1]
    rw [frz_pure rfl]
theorem plainF_nil {N k : Nat} {F : Ow} (h : circF (edF F) N = []) : plainF N k F = F := by
  cases k with
  | zero => rfl
  | succ k => simp only [plainF, if_pos h]
theorem plain41 {n : Int} {D : List Db} {f : Bool} (hl : (D.length : Int) < 9223372036854775808) : FSpec Try.prog 41 [bookV n D f] [] (plainV n D) [] := by
  refine fn41.spec0 mixed noIt_ok ?_
  rw [ic41]
  have G := fun σ => FSpec.frame (σ := σ) (checkBook_ok (n := n) (D := D) (f := f) hl) (by simp) rfl
  refine ab_seq_k fun K1 h1 => ?_
  simp
  refine h1 _ _ _ ?_
  clear h1 K1
  refine ab_seq_k fun K2 h2 => ?_
  refine ab_seq_k fun K3 h3 => ?_
  simp [take_bookC]
  refine callK_of (G _) ?_
  simp [take_bookC]
  refine h3 _ _ _ ?_
  clear h3 K3
  refine ab_seq_k fun K4 h4 => ?_
  by_cases hc : checkBook n D = 0
  case neg =>
    simp [hc]
    refine h4 _ _ _ ?_
    refine ab_cond_of rfl (fun _ => ?_) (fun h => by simp at h)
    refine ab_seq_k fun K5 h5 => ?_
    simp
    refine h5 _ _ _ ?_
    clear h5 K5
    simp
    exact fin_of 1 (by simp [rs41, plainV, hc, bookC, slD, lsD])
  simp [hc]
  refine h4 _ _ _ ?_
  clear h4 K4
  refine ab_cond_of rfl (fun h => by simp at h) (fun _ => ?_)
  simp
  refine h2 _ _ _ ?_
  clear h2 K2
  obtain ⟨N, rfl, hN1, hN, hlen, hD⟩ := book_nat hc
  obtain ⟨-, -, -, hnd⟩ := book_ok hc
  obtain ⟨hO, -⟩ := ow_ok hD hnd
  have hPl := plain_ok hc
  have hpl : plainD N D = lstD (plainF N 40000000 (owF D)) N N := rfl
  have hv : plainV N D = .tup [bookV N (plainD N D) ((plainD N D).length == 0), .i .i64 0] := by unfold plainV; rw [if_neg (by simp [hc]), Int.toNat_natCast]
  have hblen := (plainB_ok hc).len
  rw [hv]
  generalize hQ : plainD N D = Q at *
  generalize hGG : plainF N 40000000 (owF D) = G' at *
  refine ab_seq_k fun K6 h6 => ?_
  simp [take_bookC]
  refine callK_of (newOwed74 hD hnd hlen) ?_
  simp
  refine h6 _ _ _ ?_
  clear h6 K6 G
  have htot : totO N (owF D) ≤ 40000000 := by
    rw [← totD_owF hD]
    have := sum_b (by omega) hD
    omega
  refine ab_seq_k fun K7 h7 => ?_
  refine ab_block_k fun K8 h8 => ?_
  refine ab_loop_k (fun m env σ => ∃ (E : List Ent) (F : Ow), OwOK N E D.length F ∧ totO N F ≤ m ∧ plainF N m F = G' ∧ env = [(1, .p 0 0 0), (2, .p 1 0 0), (5, .m 3)] ∧
    σ = [O.row 0 (bookC N D f), O.row 0 [.i .i64 0, .ss [] 0 true], O.row 0 (bookC N D f), O.map (mpV E) D.length]) 40000000 ⟨_, owF D, hO, htot, hGG, by simp, rfl⟩ ?_
  clear hO htot
  rintro m env σ ⟨E, F, hO, htot, hpF, rfl, rfl⟩ K9 h9
  have hOG : OwG N F := ⟨hO.nn, hO.lt⟩
  rw [ic41_2]
  refine ab_block_k fun K10 h10 => ?_
  refine ab_seq_k fun K11 h11 => ?_
  simp [get0_bookC]
  refine callK_of (circle73 (σ := [O.row 0 (bookC N D f), O.row 0 [.i .i64 0, .ss [] 0 true], O.row 0 (bookC N D f), O.map (mpV E) D.length]) (id := 3) hN1 hN hO rfl) ?_
  simp
  refine h11 _ _ _ ?_
  clear h11 K11
  have hcok := (circ_spec (edF_lt hOG)).ok
  have hgood : circF (edF F) N ≠ [] → ∀ {k : Nat}, k ≤ (circF (edF F) N).length → OwG N (payTo F (circF (edF F) N) (lessC F (circF (edF F) N)) k) := fun h0 k hk => payTo_G hOG hcok h0 hk
  have hless := fun (h0 : circF (edF F) N ≠ []) => less_pos hOG hcok h0
  have hredt := fun (h0 : circF (edF F) N ≠ []) => tot_red hOG hcok h0
  have hcE : (plainF N m F = if circF (edF F) N = [] then F else plainF N (m - 1) (redF F (circF (edF F) N))) ∨ m = 0 := by
    cases m with
    | zero => exact .inr rfl
    | succ k => exact .inl rfl
  have hcN := fun h => plainF_nil (N := N) (k := m) (F := F) h
  generalize hcc : circF (edF F) N = c at *
  refine ab_seq_k fun K12 h12 => ?_
  refine ab_seq_k fun K13 h13 => ?_
  simp [resV]
  refine h13 _ _ _ ?_
  clear h13 K13
  by_cases hc0 : c = []
  · -- plain
    have hFG : F = G' := by rw [← hpF, hcN hc0]
    subst hFG
    refine ab_cond_of rfl (fun _ => ?_) (fun h => by simp [hc0] at h)
    simp
    refine h8 _ _ _ ?_
    refine h7 _ _ _ ?_
    clear h7 h8 h9 h10 h12
    refine ab_seq_k fun K14 h14 => ?_
    simp [get0_bookC]
    refine h14 _ _ _ ?_
    clear h14 K14
    refine ab_seq_k fun K15 h15 => ?_
    refine ab_seq_k fun K16 h16 => ?_
    simp [get0_bookC]
    refine h16 _ _ _ ?_
    clear h16 K16
    refine ab_block_k fun K17 h17 => ?_
    refine ab_loop_k (fun m env σ => ∃ (i : Nat) (v : V), i + m = N ∧ env = [(1, .p 0 0 0), (2, .p 1 0 0), (5, .m 3), (10, .p 4 0 0), (89, .i .i64 N), (90, .i .i64 i)] ∧ σ[0]? = some (O.row 0 (bookC N D f)) ∧ σ[1]? = some (O.row 0 [.i .i64 0, .ss [] 0 true]) ∧ σ[3]? = some (O.map (mpV E) D.length) ∧
      σ[4]? = some (O.row 0 [.i .i64 N, v]) ∧ Gr 5 3 σ v (lstD F N i).length (lsD (lstD F N i))) N ⟨0, .ss [] 0 true, by omega, by simp, rfl, rfl, rfl, rfl, by simpa [lstD, lsD] using Gr.nil⟩ ?_
    rintro m1 env σ ⟨i, v, hi, rfl, s0, s1, s3, s4, hv4⟩ K18 h18
    obtain ⟨s0l, s0'⟩ := List.getElem?_eq_some_iff.1 s0
    obtain ⟨s1l, s1'⟩ := List.getElem?_eq_some_iff.1 s1
    obtain ⟨s4l, s4'⟩ := List.getElem?_eq_some_iff.1 s4
    rw [ic41_4]
    refine ab_seq_k fun K19 h19 => ?_
    simp
    refine h19 _ _ _ ?_
    clear h19 K19
    refine ab_seq_k fun K20 h20 => ?_
    refine ab_cond_of rfl (fun hci => ?_) (fun hci => ?_)
    · have hiN : i < N := by simpa using hci
      simp
      refine h20 _ _ _ ?_
      clear h20 K20
      refine ab_seq_k fun K21 h21 => ?_
      refine ab_block_k fun K22 h22 => ?_
      refine ab_seq_k fun K23 h23 => ?_
      simp
      refine h23 _ _ _ ?_
      clear h23 K23
      refine ab_seq_k fun K24 h24 => ?_
      simp [s0, s0', get0_bookC]
      refine h24 _ _ _ ?_
      clear h24 K24
      refine ab_block_k fun K25 h25 => ?_
      refine ab_loop_k (fun m env σ => ∃ (j : Nat) (v : V), j + m = N ∧ env = [(1, .p 0 0 0), (2, .p 1 0 0), (5, .m 3), (10, .p 4 0 0), (11, .i .i64 i), (89, .i .i64 N), (90, .i .i64 i), (94, .i .i64 N), (95, .i .i64 j)] ∧ σ[0]? = some (O.row 0 (bookC N D f)) ∧ σ[1]? = some (O.row 0 [.i .i64 0, .ss [] 0 true]) ∧ σ[3]? = some (O.map (mpV E) D.length) ∧
        σ[4]? = some (O.row 0 [.i .i64 N, v]) ∧ Gr 5 3 σ v (lstD F N i ++ rowD F i j).length (lsD (lstD F N i ++ rowD F i j))) N ⟨0, v, by omega, by simp, s0, s1, s3, s4, by simpa [rowD] using hv4⟩ ?_
      clear s0 s1 s3 s4 hv4 s0l s1l s4l s0' s1' s4'
      rintro m2 env σ ⟨j, v, hj, rfl, s0, s1, s3, s4, hv4⟩ K26 h26
      obtain ⟨s4l, s4'⟩ := List.getElem?_eq_some_iff.1 s4
      rw [ic41_3]
      refine ab_seq_k fun K27 h27 => ?_
      simp
      refine h27 _ _ _ ?_
      clear h27 K27
      refine ab_seq_k fun K28 h28 => ?_
      refine ab_cond_of rfl (fun hcj => ?_) (fun hcj => ?_)
      · have hjN : j < N := by simpa using hcj
        simp
        refine h28 _ _ _ ?_
        clear h28 K28
        refine ab_seq_k fun K29 h29 => ?_
        refine ab_block_k fun K30 h30 => ?_
        refine ab_seq_k fun K31 h31 => ?_
        simp
        refine h31 _ _ _ ?_
        clear h31 K31
        refine ab_seq_k fun K32 h32 => ?_
        simp
        refine lkpC_ok (k := [(i : Int), (j : Int)]) hO.ok s3 ?_ rfl
        rw [hO.lk]
        have hrs : lstD F N i ++ rowD F i (j + 1) = (lstD F N i ++ rowD F i j) ++ if F i j = 0 then [] else [((i : Int), (j : Int), F i j)] := by simp only [rowD]; rw [List.append_assoc]
        by_cases hF0 : F i j = 0
        · rw [if_pos hF0] at hrs
          rw [if_pos hF0]
          simp
          refine h32 _ _ _ ?_
          refine ab_seq_k fun K33 h33 => ?_
          simp
          refine h33 _ _ _ ?_
          refine ab_cond_of rfl (fun h => by simp at h) (fun _ => ?_)
          simp
          refine h30 _ _ _ ?_
          refine h29 _ _ _ ?_
          simp [wrap64 (x := (j : Int) + 1) (by omega) (by omega)]
          exact h26 _ _ _ (again (m2 - 1) (by omega) ⟨j + 1, v, by omega, by simp, s0, s1, s3, s4, by rw [hrs, List.append_nil]; exact hv4⟩)
        · rw [if_neg hF0] at hrs
          rw [if_neg hF0]
          have hbl : (lstD F N i ++ rowD F i j).length < 1000 := by
            have h1 : ((lstD F N i ++ rowD F i j).map pr).Nodup := by
              have : (lstD F N (i + 1)).Pairwise ltD := lstD_sorted
              simp only [lstD] at this
              have h2 : (lstD F N i ++ rowD F i j).Pairwise ltD := by
                rw [List.pairwise_append] at this ⊢
                refine ⟨this.1, rowD_sorted, fun a ha b hb => this.2.2 a ha b ?_⟩
                obtain ⟨y, hy, h⟩ := rowD_mem.1 hb
                exact rowD_mem.2 ⟨y, by omega, h⟩
              refine List.pairwise_map.2 (h2.imp fun {d e} h hpr => ?_)
              simp [pr] at hpr
              rcases h with h | h <;> omega
            have h3 := nodup_sub (m := (owE D).map (·.2.1)) h1 (fun x hx => by
              obtain ⟨d, hd, rfl⟩ := List.mem_map.1 hx
              obtain ⟨a, b, hab, hF1, rfl⟩ : ∃ a b : Nat, a < N ∧ F a b ≠ 0 ∧ d = ((a : Int), (b : Int), F a b) := by
                rcases List.mem_append.1 hd with hd | hd
                · obtain ⟨a, b, q1, q2, q3, q4⟩ := lstD_mem.1 hd
                  exact ⟨a, b, by omega, q3, q4⟩
                · obtain ⟨b, q1, q2, q3⟩ := rowD_mem.1 hd
                  exact ⟨i, b, hiN, q2, q3⟩
              have hle := hPl.le a b
              have hnn := (hO.nn a b).1
              obtain ⟨e, he, e1, e2, -⟩ := owF_pos hD hnd (a := a) (b := b) (by omega)
              rw [(ow_ok hD hnd).2]
              exact List.mem_map.2 ⟨e, he, by simp [pr, e1, e2]⟩)
            rw [(ow_ok hD hnd).2] at h3
            simp at h3 ⊢
            omega
          simp
          refine h32 _ _ _ ?_
          clear h32 K32
          refine ab_seq_k fun K33 h33 => ?_
          simp
          refine h33 _ _ _ ?_
          refine ab_cond_of rfl (fun _ => ?_) (fun h => by simp at h)
          simp [s4, s4']
          refine appG hv4 (by omega) (by omega) (by simp) rfl ?_
          intro v' σ2 gx gg
          have t0 := gg.lt hv4 (j := 0) (by omega) (by omega)
          have t1 := gg.lt hv4 (j := 1) (by omega) (by omega)
          have t3 := gg.lt hv4 (j := 3) (by omega) (by omega)
          have t4 := gg.lt hv4 (j := 4) (by omega) (by omega)
          rw [s0] at t0
          rw [s1] at t1
          rw [s3] at t3
          rw [s4] at t4
          obtain ⟨t4l, t4'⟩ := List.getElem?_eq_some_iff.1 t4
          simp [t4, t4']
          refine ⟨gx.one, ?_⟩
          refine h30 _ _ _ ?_
          refine h29 _ _ _ ?_
          simp [wrap64 (x := (j : Int) + 1) (by omega) (by omega)]
          have ex : lsD (lstD F N i ++ rowD F i j) ++ [V.i IntKind.i64 (i : Int), V.i IntKind.i64 (j : Int), V.i IntKind.i64 (F i j)] = lsD (lstD F N i ++ rowD F i (j + 1)) := by rw [hrs, lsD_append (l := lstD F N i ++ rowD F i j)]; rfl
          rw [ex] at gx
          have hlr : (lstD F N i ++ rowD F i j).length + 1 = (lstD F N i ++ rowD F i (j + 1)).length := by rw [hrs]; simp only [List.length_append, List.length_cons, List.length_nil]
          rw [hlr] at gx
          refine h26 _ _ _ (again (m2 - 1) (by omega) ⟨j + 1, v', by omega, by simp, ?_, ?_, ?_, List.getElem?_set_self t4l, gx.setlt (by omega)⟩)
          · rw [List.getElem?_set_ne (by omega)]; exact t0
          · rw [List.getElem?_set_ne (by omega)]; exact t1
          · rw [List.getElem?_set_ne (by omega)]; exact t3
      · have hjN : N = j := by simp at hcj; omega
        subst hjN
        simp
        refine h25 _ _ _ ?_
        refine h22 _ _ _ ?_
        refine h21 _ _ _ ?_
        simp [wrap64 (x := (i : Int) + 1) (by omega) (by omega)]
        exact h18 _ _ _ (again (m1 - 1) (by omega) ⟨i + 1, v, by omega, by simp, s0, s1, s3, s4, hv4⟩)
    · have hiN : N = i := by simp at hci; omega
      subst hiN
      rw [← hpl] at hv4
      simp
      refine h17 _ _ _ ?_
      refine h15 _ _ _ ?_
      refine ab_seq_k fun K34 h34 => ?_
      simp [s4, s4', s1, s1', hv4.one]
      refine h34 _ _ _ ?_
      clear h34 K34
      have u1 : (σ.set 1 (O.row 0 [.i .i64 N, v]))[1]? = some (O.row 0 [.i .i64 N, v]) := List.getElem?_set_self s1l
      have hvU := hv4.setlt (i := 1) (o := O.row 0 [.i .i64 N, v]) (by omega)
      generalize σ.set 1 (O.row 0 [.i .i64 N, v]) = U at *
      obtain ⟨u1l, u1'⟩ := List.getElem?_eq_some_iff.1 u1
      simp
      refine fin_of 4 ?_
      simp [-frz, rs41, u1, u1']
      exact frz_book hvU rfl
  -- a circle is paid
  refine ab_cond_of rfl (fun h => by simp [hc0] at h) (fun _ => ?_)
  simp
  refine h12 _ _ _ ?_
  clear h12 K12 h7 h8
  have hcl := hcok.le
  have hcpos := List.length_pos_iff.2 hc0
  have hl1 := hless hc0
  have hrt := hredt hc0
  have hredG := tot_nn (hgood hc0 (Nat.le_refl _))
  have hm0 : m ≠ 0 := by
    intro h
    subst h
    unfold redF at hrt
    simp at htot
    omega
  have hpF2 : plainF N (m - 1) (redF F c) = G' := by
    rcases hcE with h | h
    · rw [hpF, if_neg hc0] at h; exact h.symm
    · exact absurd h hm0
  have hedge := fun {i : Nat} (hi : i < c.length) => circ_edge hcok hi
  have hwA : ∀ i, i < c.length → (wI c)[i]? = some ((eA c i : Nat) : Int) := fun i hi => by
    unfold eA wI
    rw [List.getD_eq_getElem?_getD, List.getElem?_map, List.getElem?_eq_getElem hi]; rfl
  have hwB : ∀ i, i < c.length → (wI c)[(i + 1) % c.length]? = some ((eB c i : Nat) : Int) := fun i hi => by
    have hm : (i + 1) % c.length < c.length := Nat.mod_lt _ (by omega)
    unfold eB wI
    rw [List.getD_eq_getElem?_getD, List.getElem?_map, List.getElem?_eq_getElem hm]; rfl
  have hn1 : (c.length : Int) - 1 = ((c.length - 1 : Nat) : Int) := by omega
  have a1 := hwA (c.length - 1) (by omega)
  have a2 := hwB (c.length - 1) (by omega)
  rw [show c.length - 1 + 1 = c.length by omega, Nat.mod_self] at a2
  obtain ⟨a1l, a1'⟩ := List.getElem?_eq_some_iff.1 a1
  obtain ⟨a2l, a2'⟩ := List.getElem?_eq_some_iff.1 a2
  have hlk0 := hO.lk (eA c (c.length - 1)) (eB c (c.length - 1))
  rw [if_neg (hedge (show c.length - 1 < c.length by omega)).1] at hlk0
  have hFb := fun a b => hO.nn a b
  refine ab_seq_k fun K14 h14 => ?_
  have hcl1 : c.length - 1 < c.length := by omega
  simp [abDs_consU, drU, recheck_cons, recheck_nil, rcK, IS.dst, resV, wrap64 (x := (c.length : Int) - 1) (by omega) (by omega), hn1, wrap64 (x := ((c.length - 1 : Nat) : Int)) (by omega) (by omega), a1, a1', a2, a2', hcl1, hcpos, hc0]
  refine lkpC_ok (σ := [O.row 0 (bookC N D f), O.row 0 [.i .i64 0, .ss [] 0 true], O.row 0 (bookC N D f), O.map (mpV E) D.length]) (id := 3) (k := [((eA c (c.length - 1) : Nat) : Int), ((eB c (c.length - 1) : Nat) : Int)]) hO.ok rfl ?_ rfl
  rw [hlk0]
  simp [abDs_consU, drU, recheck_cons, recheck_nil, rcK, IS.dst]
  refine h14 _ _ _ ?_
  clear h14 K14
  refine ab_seq_k fun K15 h15 => ?_
  refine ab_seq_k fun K16 h16 => ?_
  simp [resV, hc0]
  refine ⟨by omega, ?_⟩
  refine h16 _ _ _ ?_
  clear h16 K16
  refine ab_block_k fun K17 h17 => ?_
  refine ab_loop_k (fun m env σ => ∃ i : Nat, i + m = c.length - 1 ∧ env = [(1, .p 0 0 0), (2, .p 1 0 0), (5, .m 3), (6, sl (wI c) false), (7, .i .i64 (lessK F c i)), (44, .i .i64 (c.length - 1 : Nat)), (45, .i .i64 i)] ∧
    σ = [O.row 0 (bookC N D f), O.row 0 [.i .i64 0, .ss [] 0 true], O.row 0 (bookC N D f), O.map (mpV E) D.length]) (c.length - 1) ⟨0, by omega, ?_, rfl⟩ ?_
  · have e : lessK F c 0 = F (eA c (c.length - 1)) (eB c (c.length - 1)) := rfl
    simp [e, hc0]
  rintro m1 env σ ⟨i, hi, rfl, rfl⟩ K18 h18
  rw [ic41_0]
  refine ab_seq_k fun K19 h19 => ?_
  simp
  refine h19 _ _ _ ?_
  clear h19 K19
  refine ab_seq_k fun K20 h20 => ?_
  refine ab_cond_of rfl (fun hci => ?_) (fun hci => ?_)
  · have hil : i < c.length - 1 := by have := of_decide_eq_true hci; omega
    have hilc : i < c.length := by omega
    have hil1 : i + 1 < c.length := by omega
    have b1 := hwA i hilc
    have b2 := hwB i hilc
    rw [Nat.mod_eq_of_lt hil1] at b2
    obtain ⟨b1l, b1'⟩ := List.getElem?_eq_some_iff.1 b1
    obtain ⟨b2l, b2'⟩ := List.getElem?_eq_some_iff.1 b2
    have hlk1 := hO.lk (eA c i) (eB c i)
    rw [if_neg (hedge hilc).1] at hlk1
    have hnx : lessK F c (i + 1) = min (lessK F c i) (F (eA c i) (eB c i)) := rfl
    simp
    refine h20 _ _ _ ?_
    clear h20 K20
    refine ab_seq_k fun K21 h21 => ?_
    refine ab_block_k fun K22 h22 => ?_
    refine ab_seq_k fun K23 h23 => ?_
    simp
    refine h23 _ _ _ ?_
    clear h23 K23
    have b2w : (((i : Int) + 1).toNat) = i + 1 := by omega
    simp [abDs_consU, drU, recheck_cons, recheck_nil, rcK, IS.dst, wrap64 (x := (i : Int) + 1) (by omega) (by omega), b1, b1', b2, b2', hilc, hil1, b2w]
    refine ⟨by omega, by omega, ?_⟩
    refine lkpC_ok (σ := [O.row 0 (bookC N D f), O.row 0 [.i .i64 0, .ss [] 0 true], O.row 0 (bookC N D f), O.map (mpV E) D.length]) (id := 3) (k := [((eA c i : Nat) : Int), ((eB c i : Nat) : Int)]) hO.ok rfl ?_ rfl
    rw [hlk1]
    simp [abDs_consU, drU, recheck_cons, recheck_nil, rcK, IS.dst]
    refine h22 _ _ _ ?_
    refine h21 _ _ _ ?_
    simp [wrap64 (x := (i : Int) + 1) (by omega) (by omega)]
    exact h18 _ _ _ (again (m1 - 1) (by omega) ⟨i + 1, by omega, by simp [hnx], rfl⟩)
  have hil : i = c.length - 1 := by have := of_decide_eq_false hci; omega
  subst hil
  have hlc : lessK F c (c.length - 1) = lessC F c := rfl
  rw [hlc]
  have hrd : redF F c = payTo F c (lessC F c) c.length := rfl
  have hstepP := fun {k : Nat} (hk : k < c.length) => payTo_succ (F := F) (l := lessC F c) hcok.nd hk
  have hpz : payTo F c (lessC F c) 0 = F := payTo_zero
  have hlel := fun {k : Nat} (hk : k < c.length) => lessC_le (F := F) hk
  generalize lessC F c = l at *
  simp
  refine h17 _ _ _ ?_
  refine h15 _ _ _ ?_
  clear h15 h17 h18 h20 hci
  refine ab_seq_k fun K30 h30 => ?_
  simp
  refine h30 _ _ _ ?_
  clear h30 K30
  refine ab_block_k fun K31 h31 => ?_
  refine ab_loop_k (fun m env σ => ∃ (i : Nat) (E : List Ent), i + m = c.length ∧ OwOK N E D.length (payTo F c l i) ∧ env = [(1, .p 0 0 0), (2, .p 1 0 0), (5, .m 3), (6, sl (wI c) false), (7, .i .i64 l), (64, .i .i64 c.length), (65, .i .i64 i)] ∧
    σ = [O.row 0 (bookC N D f), O.row 0 [.i .i64 0, .ss [] 0 true], O.row 0 (bookC N D f), O.map (mpV E) D.length]) c.length ⟨0, E, by omega, by rw [hpz]; exact hO, by simp, rfl⟩ ?_
  clear hO hlk0
  rintro m1 env σ ⟨i, E, hi, hO, rfl, rfl⟩ K32 h32
  rw [ic41_1]
  refine ab_seq_k fun K33 h33 => ?_
  simp
  refine h33 _ _ _ ?_
  clear h33 K33
  refine ab_seq_k fun K34 h34 => ?_
  refine ab_cond_of rfl (fun hci => ?_) (fun hci => ?_)
  · have hilc : i < c.length := by simpa using hci
    have b1 := hwA i hilc
    have b2 := hwB i hilc
    have hmod : (i + 1) % c.length < c.length := Nat.mod_lt _ (by omega)
    have kt : ((i : Int) + 1).tmod c.length = (((i + 1) % c.length : Nat) : Int) := by rw [Int.tmod_eq_emod_of_nonneg (by omega), Int.natCast_emod, Int.natCast_add]; rfl
    have hc0' : ¬ ((c.length : Int) = 0) := by omega
    have kw := wrap64 (x := (((i + 1) % c.length : Nat) : Int)) (by omega) (by omega)
    obtain ⟨b1l, b1'⟩ := List.getElem?_eq_some_iff.1 b1
    obtain ⟨p1, p2⟩ := hstepP hilc
    have hed := hedge hilc
    have hle := hlel hilc
    generalize (i + 1) % c.length = j at *
    obtain ⟨b2l, b2'⟩ := List.getElem?_eq_some_iff.1 b2
    simp
    refine h34 _ _ _ ?_
    clear h34 K34
    refine ab_seq_k fun K35 h35 => ?_
    refine ab_block_k fun K36 h36 => ?_
    refine ab_seq_k fun K37 h37 => ?_
    simp
    refine h37 _ _ _ ?_
    clear h37 K37
    simp [abDs_consU, drU, recheck_cons, recheck_nil, rcK, IS.dst, wrap64 (x := (i : Int) + 1) (by omega) (by omega), b1, b1', b2, b2', hilc, hmod, kt, kw, hc0, hc0']
    have hpay := pay75 (s := l) (σ := [O.row 0 (bookC N D f), O.row 0 [.i .i64 0, .ss [] 0 true], O.row 0 (bookC N D f), O.map (mpV E) D.length]) (id := 3) hO (a := eA c i) (b := eB c i) (by rw [p2]; exact hed.1) (by omega) (by rw [p2]; exact hle) rfl
    have hok2 := pay_ok (s := l) hO (a := eA c i) (b := eB c i) (by rw [p2]; exact hed.1) (by omega) (by rw [p2]; exact hle)
    rw [p2] at hpay hok2
    rw [← p1] at hok2
    refine callK_of hpay ?_
    simp [abDs_consU, drU, recheck_cons, recheck_nil, rcK, IS.dst]
    refine h36 _ _ _ ?_
    refine h35 _ _ _ ?_
    simp [wrap64 (x := (i : Int) + 1) (by omega) (by omega)]
    exact h32 _ _ _ (again (m1 - 1) (by omega) ⟨i + 1, _, by omega, hok2, by simp, rfl⟩)
  · have hil : i = c.length := by simp at hci; omega
    subst hil
    rw [← hrd] at hO
    simp
    refine h31 _ _ _ ?_
    refine h10 _ _ _ ?_
    exact h9 _ _ _ (again (m - 1) (by omega) ⟨E, _, hO, by omega, hpF2, by simp, rfl⟩)
end Go.Ab
