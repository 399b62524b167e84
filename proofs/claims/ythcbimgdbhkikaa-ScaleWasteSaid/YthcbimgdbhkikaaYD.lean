/- The law ScaleWaste: it returns true. -/
import Derived.Test.YthcbimgdbhkikaaYC
import Derived.Test.YthcbimgdbhkikaaY3
import Derived.Test.YthcbimgdbhkikaaY6
set_option linter.unusedVariables false
set_option linter.unusedSimpArgs false
set_option maxHeartbeats 4000000
namespace Go.Ab
open Go Go.Proofs

structure HpY (σ : List O) (t b : List Int) (ft fb : Bool) (r : Ru) (v : V) : Prop where
  h0 : σ[0]? = some (.row 0 [sl t ft, sl b fb])
  h1 : σ[1]? = some (.row 0 r.cells)
  h2 : σ[2]? = some (.row 0 [sl t ft, v])

theorem scaleWaste {t b : List Int} {ft fb : Bool} {r : Ru} {x : Int} (ht : (t.length : Int) < 9223372036854775808) (hb : (b.length : Int) < 9223372036854775808) (hbb : ∀ x ∈ b, -9223372036854775808 ≤ x ∧ x < 9223372036854775808) (hx : 0 ≤ x) (hx2 : x < 256) :
    FSpec Try.prog 14 [.agg [sl t ft, sl b fb], .agg r.cells, .i .u8 x] [] (.b true) [] := by
  refine fn14.spec0 mixed noIt_ok ?_
  rw [ic14]
  have h7 : List.take 7 r.cells = r.cells := rfl
  have l7 : r.cells.length = 7 := rfl
  refine ab_seq_k fun K1 h1 => ?_
  simp
  refine h1 _ _ _ ?_
  clear h1 K1
  refine ab_seq_k fun K2 h2 => ?_
  refine ab_seq_k fun K3 h3 => ?_
  simp [h7, l7]
  refine callK_of (FSpec.frame (fine_ok (t := t) (b := b) (ft := ft) (fb := fb) (r := r) ht hb hbb) (by simp) rfl) ?_
  by_cases hf : fineP t b r = true
  · simp [hf]
    refine h3 _ _ _ ?_
    clear h3
    refine ab_cond_of rfl (fun h => by cases h) (fun _ => ?_)
    simp
    refine h2 _ _ _ ?_
    clear h2 K2 K3
    obtain ⟨n, F⟩ := fine_of ft fb hf hbb
    have ok := F.ok
    have n61 := ok.n61
    have n2 := ok.n2
    have hlong : ∀ σ, FSpec Try.prog 43 [.agg [sl t ft, sl b fb]] σ (.i .i64 ((t.length : Int) - 1)) σ := fun σ =>
      FSpec.frame (refLong (ts := ints t) (n := t.length) (ft := ft) (x := sl b fb) (by omega)) (by simp) rfl
    have m1 := Int.emod_nonneg x (show (t.length : Int) - 1 ≠ 0 by omega)
    have m2 := Int.emod_lt_of_pos x (show (0 : Int) < (t.length : Int) - 1 by omega)
    have tx : Int.tmod x ((t.length : Int) - 1) = x % ((t.length : Int) - 1) := Int.tmod_eq_emod_of_nonneg hx
    obtain ⟨a, ha⟩ : ∃ a : Nat, (a : Int) = x % ((t.length : Int) - 1) := ⟨(x % ((t.length : Int) - 1)).toNat, by omega⟩
    have ha2 : a < t.length - 1 := by omega
    have hne : ¬ (t.length : Int) - 1 = 0 := by omega
    refine ab_seq_k fun K5 h5 => ?_
    simp [tx, hne, wrap64 (x := x) (by omega) (by omega)]
    refine callK_of (hlong _) ?_
    simp [tx, hne, wrap64 (x := x) (by omega) (by omega)]
    refine h5 _ _ _ ?_
    clear h5 K5
    rw [← ha]
    have hlog : ∀ {x y : Int} σ, FSpec Try.prog 46 [.i .i64 x, .i .i64 y] σ (.agg [.i .i64 x, .i .i64 y]) σ := fun σ => FSpec.frame log46 rfl rfl
    have hfeet : ∀ f j : Nat, f < j → j ≤ t.length - 1 → ∃ v : Int, ∀ σ, FSpec Try.prog 18 [.agg [sl t ft, sl b fb], .agg r.cells, .agg [.i .i64 f, .i .i64 j]] σ (.tup [.i .i64 v, .i .i64 (if 0 < scN t b r f j then 0 else 18)]) σ := by
      intro f j hfj hj
      have hl : isLog t.length f j = true := isLog_iff.2 ⟨by omega, by omega, by omega⟩
      have h0 := (scN_bounds (t := t) (b := b) ok.r ok.tv (i := f) (j := j)).1
      refine ⟨(feetP t b r f j).1, fun σ => ?_⟩
      have := FSpec.frame (σ := σ) (feet_ok (ft := ft) (fb := fb) (r := r) (x := f) (y := j) F.sz) (by simp) (by simp [pairV])
      have e : (feetP t b r f j).2 = if 0 < scN t b r f j then 0 else 18 := by
        unfold feetP
        rw [if_neg (by simp [F.E]), if_neg (by simp [hl])]
        unfold scN at h0 ⊢
        by_cases hz : scaleP t b r f j = 0
        · rw [if_pos hz, if_neg (by omega)]
        · rw [if_neg hz, if_pos (by omega)]
      rw [pairV, e] at this
      exact this
    generalize hLd : t.length - 1 = L at *
    have hLi : (t.length : Int) - 1 = L := by omega
    rw [hLi] at hlong
    generalize hsd : scN t b r = sc at *
    refine ab_seq_k fun K6 h6 => ?_
    simp
    refine h6 _ _ _ ?_
    clear h6 K6
    refine ab_seq_k fun K7 h7' => ?_
    refine ab_seq_k fun K8 h8 => ?_
    simp
    refine h8 _ _ _ ?_
    clear h8 K8
    refine ab_block_k fun K9 h9 => ?_
    refine ab_loop_k (fun m env σ => ∃ f : Nat, f + m = a + 1 ∧ env = [(3, .p 0 0 0), (4, .p 1 0 0), (7, .i .i64 a), (8, .b (usedA sc a L f)), (9, .i .i64 f)] ∧ σ = [.row 0 [sl t ft, sl b fb], .row 0 r.cells]) (a + 1) ⟨0, by omega, by simp [usedA], rfl⟩ ?_
    rintro m env σ ⟨f, hfm, rfl, rfl⟩ K10 h10
    rw [ic14_1]
    refine ab_seq_k fun K11 h11 => ?_
    refine ab_seq_k fun K12 h12 => ?_
    simp
    refine h12 _ _ _ ?_
    clear h12 K12
    refine ab_cond_of rfl (fun hc => ?_) (fun hc => ?_)
    · have hfa : f ≤ a := by simp at hc; omega
      simp
      refine h11 _ _ _ ?_
      clear h11 K11
      refine ab_seq_k fun K13 h13 => ?_
      refine ab_block_k fun K14 h14 => ?_
      refine ab_seq_k fun K15 h15 => ?_
      simp [wrap64 (x := (a : Int) + 1) (by omega) (by omega)]
      refine h15 _ _ _ ?_
      clear h15 K15
      refine ab_block_k fun K16 h16 => ?_
      refine ab_loop_k (fun m env σ => ∃ d : Nat, d + m = L - a ∧ env = [(3, .p 0 0 0), (4, .p 1 0 0), (7, .i .i64 a), (8, .b (usedA sc a L f || usedR sc a f d)), (9, .i .i64 f), (10, .i .i64 ((a : Int) + 1 + d))] ∧ σ = [.row 0 [sl t ft, sl b fb], .row 0 r.cells]) (L - a) ⟨0, by omega, by simp [usedR], rfl⟩ ?_
      rintro m2 env σ ⟨d, hd, rfl, rfl⟩ K17 h17
      rw [ic14_0]
      refine ab_seq_k fun K18 h18 => ?_
      refine ab_seq_k fun K19 h19 => ?_
      simp
      refine callK_of (hlong _) ?_
      simp
      refine h19 _ _ _ ?_
      clear h19 K19
      refine ab_cond_of rfl (fun hc2 => ?_) (fun hc2 => ?_)
      · have hdl : a + 1 + d ≤ L := by simp at hc2; omega
        obtain ⟨vf, hft⟩ := hfeet f (a + 1 + d) (by omega) hdl
        rw [show ((a + 1 + d : Nat) : Int) = (a : Int) + 1 + d by omega] at hft
        have hstep : (usedA sc a L f || usedR sc a f (d + 1)) = (usedA sc a L f || usedR sc a f d || decide (0 < sc f (a + 1 + d))) := by rw [usedR_succ, Bool.or_assoc]
        simp
        refine h18 _ _ _ ?_
        clear h18 K18
        refine ab_seq_k fun K20 h20 => ?_
        refine ab_block_k fun K21 h21 => ?_
        refine ab_seq_k fun K22 h22 => ?_
        simp [h7, l7]
        refine callK_of (hlog _) ?_
        simp [h7, l7]
        refine callK_of (hft _) ?_
        simp [h7, l7]
        refine h22 _ _ _ ?_
        clear h22 K22
        refine ab_seq_k fun K23 h23 => ?_
        refine ab_seq_k fun K24 h24 => ?_
        have c1 : ∀ env σ v, get env 3 = .p 0 0 0 → get env 4 = .p 1 0 0 → get env 7 = .i .i64 a → get env 8 = .b v → get env 9 = .i .i64 f → get env 10 = .i .i64 ((a : Int) + 1 + d) → v = (usedA sc a L f || usedR sc a f (d + 1)) → σ = [.row 0 [sl t ft, sl b fb], .row 0 r.cells] → K21 (some 0) env σ := by
          rintro env σ v w3 w4 w7 w8 w9 w10 hv rfl
          refine h21 _ _ _ ?_
          refine h20 _ _ _ ?_
          simp [w3, w4, w7, w8, w9, w10, wrap64 (x := (a : Int) + 1 + d + 1) (by omega) (by omega)]
          exact h17 _ _ _ (again (m2 - 1) (by omega) ⟨d + 1, by omega, by simp [hv]; omega, rfl⟩)
        by_cases hpos : 0 < sc f (a + 1 + d)
        · simp [hpos]
          refine h24 _ _ _ ?_
          refine ab_cond_of rfl (fun h => by cases h) (fun _ => ?_)
          simp
          refine h23 _ _ _ ?_
          cases hu : (usedA sc a L f || usedR sc a f d) with
          | true =>
            simp
            exact c1 _ _ true rfl rfl rfl rfl rfl rfl (by rw [hstep, hu]; rfl) rfl
          | false =>
            simp
            exact c1 _ _ true rfl rfl rfl rfl rfl rfl (by rw [hstep, hu]; simp [hpos]) rfl
        · simp [hpos]
          refine h24 _ _ _ ?_
          refine ab_cond_of rfl (fun h => by cases h) (fun _ => ?_)
          simp
          refine h23 _ _ _ ?_
          cases hu : (usedA sc a L f || usedR sc a f d) with
          | true =>
            simp
            exact c1 _ _ true rfl rfl rfl rfl rfl rfl (by rw [hstep, hu]; rfl) rfl
          | false =>
            simp
            exact c1 _ _ false rfl rfl rfl rfl rfl rfl (by rw [hstep, hu]; simp [hpos]) rfl
      · have hdl : d = L - a := by simp at hc2; omega
        subst hdl
        simp
        refine h16 _ _ _ ?_
        refine h14 _ _ _ ?_
        refine h13 _ _ _ ?_
        simp [wrap64 (x := (f : Int) + 1) (by omega) (by omega)]
        exact h10 _ _ _ (again (m - 1) (by omega) ⟨f + 1, by omega, by simp [usedA_succ], rfl⟩)
    · have hfa : f = a + 1 := by simp at hc; omega
      subst hfa
      simp
      refine h9 _ _ _ ?_
      refine h7' _ _ _ ?_
      clear h7' h9 h10 h11 K7 K9 K10 K11
      -- what follows from it
      have hwaste := waste_same (a := a) ok
      rw [hsd, hLd] at hwaste
      have hle := add_le (t := t) (b := b) (r := r) (a := a)
      rw [hLd] at hle
      have hin : ∀ q ∈ cutL t b r, q.1 ≤ a → (a : Int) < q.2 → usedA sc a L (a + 1) = true := by
        intro q hq h1 h2
        obtain ⟨g1, g2⟩ := F.good.log q hq
        obtain ⟨a1, a2, a3⟩ := isLog_iff.1 g1
        have h0 := scaleP_nonneg (t := t) (b := b) (x := q.1) (y := q.2) ok.r
        refine usedA_iff.2 ⟨q.1.toNat, q.2.toNat, by omega, by omega, by omega, ?_⟩
        rw [← hsd]
        unfold scN
        rw [show ((q.1.toNat : Nat) : Int) = q.1 by omega, show ((q.2.toNat : Nat) : Int) = q.2 by omega]
        omega
      generalize usedA sc a L (a + 1) = used at *
      have hcheck : checkStem t (addB b a L) = 0 := by rw [← hLd]; exact addB_check (openE_iff.1 F.E).1
      have hEx : openE t (addB b a L) [r] = 0 := openE_iff.2 ⟨hcheck, (openE_iff.1 F.E).2⟩
      have hszx : Sz t (addB b a L) := ⟨by omega, by have := addB_len (b := b) (a := (a : Int)) (k := L); omega, fun x hx => by obtain ⟨a1, a2, a3⟩ := addB_mem.1 hx; omega⟩
      refine ab_seq_k fun K25 h25 => ?_
      simp
      refine h25 _ _ _ ?_
      clear h25 K25
      refine ab_seq_k fun K26 h26 => ?_
      refine ab_seq_k fun K27 h27 => ?_
      simp
      refine h27 _ _ _ ?_
      clear h27 K27
      refine ab_block_k fun K28 h28 => ?_
      refine ab_loop_k (fun m env σ => ∃ (i : Nat) (v : V), i + m = L ∧ env = [(3, .p 0 0 0), (4, .p 1 0 0), (7, .i .i64 a), (8, .b used), (13, .p 2 0 0), (14, .i .i64 i)] ∧ HpY σ t b ft fb r v ∧ Gr 3 1 σ v (addB b a i).length (ints (addB b a i))) L
        ⟨0, .ss [] 0 true, by omega, by simp, ⟨by simp, by simp, by simp⟩, by simpa [addB, ints] using Gr.nil⟩ ?_
      rintro m env σ ⟨i, v, hi, rfl, hp, hv⟩ K29 h29
      rw [ic14_3]
      have p0 := hp.h0
      have p1 := hp.h1
      have p2 := hp.h2
      have hσ3 : 3 ≤ σ.length := by have := (List.getElem?_eq_some_iff.1 p2).1; omega
      refine ab_seq_k fun K30 h30 => ?_
      refine ab_seq_k fun K31 h31 => ?_
      simp [p0]
      refine callK_of (hlong _) ?_
      simp [p0]
      refine h31 _ _ _ ?_
      clear h31 K31
      refine ab_cond_of rfl (fun hc => ?_) (fun hc => ?_)
      · have hiL : i < L := by simpa using hc
        simp
        refine h30 _ _ _ ?_
        clear h30 K30
        refine ab_seq_k fun K32 h32 => ?_
        refine ab_block_k fun K33 h33 => ?_
        refine ab_seq_k fun K34 h34 => ?_
        simp
        refine h34 _ _ _ ?_
        clear h34 K34
        refine ab_seq_k fun K35 h35 => ?_
        refine ab_seq_k fun K36 h36 => ?_
        simp
        refine h36 _ _ _ ?_
        clear h36 K36
        refine ab_block_k fun K37 h37 => ?_
        refine ab_loop_k (fun m env σ' => ∃ (k : Nat), k + m = b.length ∧ env = [(3, .p 0 0 0), (4, .p 1 0 0), (7, .i .i64 a), (8, .b used), (13, .p 2 0 0), (14, .i .i64 i), (15, .b (decide ((i : Int) = a) || (b.take k).any fun f => decide (f = (i : Int)))), (16, .i .i64 k)] ∧ σ' = σ) b.length ⟨0, by omega, by simp, rfl⟩ ?_
        rintro m2 env σ' ⟨k, hk, rfl, rfl⟩ K38 h38
        rw [ic14_2]
        refine ab_seq_k fun K39 h39 => ?_
        refine ab_seq_k fun K40 h40 => ?_
        simp [p0]
        refine h40 _ _ _ ?_
        clear h40 K40
        refine ab_cond_of rfl (fun hc2 => ?_) (fun hc2 => ?_)
        · have hkb : k < b.length := by simpa using hc2
          obtain ⟨y, hy⟩ : ∃ y, b[k]? = some y := ⟨_, List.getElem?_eq_getElem hkb⟩
          obtain ⟨hy1, hy2⟩ := List.getElem?_eq_some_iff.1 hy
          have hbl := F.sz.b1
          have hstep : (decide ((i : Int) = a) || (b.take (k + 1)).any fun f => decide (f = (i : Int))) = (decide ((i : Int) = a) || ((b.take k).any fun f => decide (f = (i : Int)))|| decide (y = (i : Int))) := by
            rw [List.take_add_one, hy]; simp [Bool.or_assoc]
          simp
          refine h39 _ _ _ ?_
          clear h39 K39
          refine ab_seq_k fun K41 h41 => ?_
          refine ab_block_k fun K42 h42 => ?_
          have c1 : ∀ env w, get env 3 = .p 0 0 0 → get env 4 = .p 1 0 0 → get env 7 = .i .i64 a → get env 8 = .b used → get env 13 = .p 2 0 0 → get env 14 = .i .i64 i → get env 15 = .b w → get env 16 = .i .i64 k → w = (decide ((i : Int) = a) || (b.take (k + 1)).any fun f => decide (f = (i : Int))) → K42 (some 0) env σ' := by
            rintro env w w3 w4 w7 w8 w13 w14 w15 w16 hw
            refine h42 _ _ _ ?_
            refine h41 _ _ _ ?_
            simp [w3, w4, w7, w8, w13, w14, w15, w16, wrap64 (x := (k : Int) + 1) (by omega) (by omega)]
            exact h38 _ _ _ (again (m2 - 1) (by omega) ⟨k + 1, by omega, by simp [hw], rfl⟩)
          cases hu : (decide ((i : Int) = a) || (b.take k).any fun f => decide (f = (i : Int))) with
          | true =>
            simp
            exact c1 _ true rfl rfl rfl rfl rfl rfl rfl rfl (by rw [hstep, hu]; rfl)
          | false =>
            simp [p0, hkb, hy, hy2]
            exact c1 _ _ rfl rfl rfl rfl rfl rfl rfl rfl (by rw [hstep, hu]; rfl)
        · have hkb : k = b.length := by simp at hc2; omega
          subst hkb
          rw [List.take_length]
          simp
          refine h37 _ _ _ ?_
          refine h35 _ _ _ ?_
          refine ab_seq_k fun K43 h43 => ?_
          simp
          refine h43 _ _ _ ?_
          clear h43 K43
          have hsucc := addB_succ (b := b) (a := (a : Int)) (k := i)
          have hnext : ∀ env σ2 v2, get env 3 = .p 0 0 0 → get env 4 = .p 1 0 0 → get env 7 = .i .i64 a → get env 8 = .b used → get env 13 = .p 2 0 0 → get env 14 = .i .i64 i → HpY σ2 t b ft fb r v2 → Gr 3 1 σ2 v2 (addB b a (i + 1)).length (ints (addB b a (i + 1))) → K33 (some 0) env σ2 := by
            intro env σ2 v2 w3 w4 w7 w8 w13 w14 hq hv2
            refine h33 _ _ _ ?_
            refine h32 _ _ _ ?_
            simp [w3, w4, w7, w8, w13, w14, wrap64 (x := (i : Int) + 1) (by omega) (by omega)]
            exact h29 _ _ _ (again (m - 1) (by omega) ⟨i + 1, v2, by omega, by simp, hq, hv2⟩)
          refine ab_cond_of rfl (fun hc3 => ?_) (fun hc3 => ?_)
          · have hc4 : (decide ((i : Int) = a) || b.any fun f => decide (f = (i : Int))) = true := by simpa using hc3
            rw [if_pos hc4] at hsucc
            simp [p2]
            have hbl : (addB b a i).length ≤ i := addB_len
            refine appG hv hσ3 (by omega) (by simp) (by simp) ?_
            intro v' σ2 hv' hg
            have r0 := (hg.lt hv (j := 0) (by omega) hσ3).trans p0
            have r1 := (hg.lt hv (j := 1) (by omega) hσ3).trans p1
            have r2 := (hg.lt hv (j := 2) (by omega) hσ3).trans p2
            have hone := hv'.one
            have hl2 := (List.getElem?_eq_some_iff.1 r2).1
            simp [r2, hone]
            refine hnext _ _ v' rfl rfl rfl rfl rfl rfl ⟨?_, ?_, ?_⟩ ?_
            · rw [List.getElem?_set_ne (by omega)]; exact r0
            · rw [List.getElem?_set_ne (by omega)]; exact r1
            · exact List.getElem?_set_self hl2
            · rw [hsucc, List.length_append]
              have : ints (addB b a i ++ [(i : Int)]) = ints (addB b a i) ++ [.i .i64 i] := by simp [ints]
              rw [this]
              exact hv'.setlt (by omega)
          · have hc4 : (decide ((i : Int) = a) || b.any fun f => decide (f = (i : Int))) = false := by simpa using hc3
            rw [hc4, if_neg (by simp), List.append_nil] at hsucc
            simp
            exact hnext _ _ v rfl rfl rfl rfl rfl rfl hp (by rw [hsucc]; exact hv)
      · have hiL : i = L := by simp at hc; omega
        subst hiL
        simp
        refine h28 _ _ _ ?_
        refine h26 _ _ _ ?_
        clear h26 h28 h29 h30 K26 K28 K29 K30
        have hfz : ∀ σ, Gr 3 1 σ v (addB b a i).length (ints (addB b a i)) → List.map (frz 3 0 σ) [.agg [sl t ft, v], .agg r.cells] = [.agg [sl t ft, sl (addB b a i) ((addB b a i).length == 0)], .agg r.cells] := by
          intro σ hv
          have e1 : frz 3 0 σ (.agg [sl t ft, v]) = .agg [sl t ft, sl (addB b a i) ((addB b a i).length == 0)] := frz_agg2 (frz_pure (by simp)) (frz_G hv (by simp))
          have e2 : frz 3 0 σ (.agg r.cells) = .agg r.cells := frz_pure (by simp)
          simp only [List.map_cons, List.map_nil, e1, e2]
        have hbx : FSpec Try.prog 26 [.agg [sl t ft, v], .agg r.cells] σ (.tup [.i .i64 (restN t (addB b a i) r allL 0), .i .i64 0]) σ := by
          refine FSpec.frozen 3 ?_ (by simp)
          rw [hfz σ hv]
          have := best_ok (ft := ft) (fb := ((addB b a i).length == 0)) (r := r) hszx
          simpa [bestP, hEx, pairV] using this
        have hcx : FSpec Try.prog 32 [.agg [sl t ft, v], .agg r.cells] σ (pairV (countP t (addB b a i) r)) σ := by
          refine FSpec.frozen 3 ?_ (by simp [pairV])
          rw [hfz σ hv]
          exact count32 (ft := ft) (fb := ((addB b a i).length == 0)) (r := r) hszx
        have hcc := FSpec.frame (σ := σ) (count32 (ft := ft) (fb := fb) (r := r) F.sz) (by simp) (by simp [pairV])
        have hcp : used = false → countP t (addB b a i) r = countP t b r := by
          intro h
          unfold countP
          rw [(hwaste h).2, hEx, F.E]
        rw [← F.en] at hwaste hle
        generalize restN t (addB b a i) r allL 0 = nx at *
        generalize countP t (addB b a i) r = cx at *
        generalize countP t b r = cp at *
        have hFc := F.cut σ
        have hlen := F.good.len
        generalize cutL t b r = c at *
        refine ab_seq_k fun K44 h44 => ?_
        simp [p0, p1, h7, l7]
        refine callK_of (F.best _) ?_
        simp [p0, p1, h7, l7]
        refine h44 _ _ _ ?_
        clear h44 K44
        refine ab_seq_k fun K45 h45 => ?_
        simp [p2, p1, h7, l7]
        refine callK_of (hbx) ?_
        simp [p2, p1, h7, l7]
        refine h45 _ _ _ ?_
        clear h45 K45
        refine ab_seq_k fun K46 h46 => ?_
        simp [p0, p1, h7, l7, pairV]
        refine callK_of (hcc) ?_
        simp [p0, p1, h7, l7, pairV]
        refine h46 _ _ _ ?_
        clear h46 K46
        refine ab_seq_k fun K47 h47 => ?_
        simp [p2, p1, h7, l7, pairV]
        refine callK_of (hcx) ?_
        simp [p2, p1, h7, l7, pairV]
        refine h47 _ _ _ ?_
        clear h47 K47
        refine ab_seq_k fun K48 h48 => ?_
        simp [p0, p1, h7, l7]
        refine callK_of (hFc) ?_
        simp [p0, p1, h7, l7]
        refine h48 _ _ _ ?_
        clear h48 K48
        refine ab_seq_k fun K49 h49 => ?_
        refine ab_seq_k fun K50 h50 => ?_
        have c1 : ∀ env, get env 7 = .i .i64 a → get env 8 = .b used → get env 17 = .i .i64 n → get env 19 = .i .i64 nx → get env 25 = slL c c.isEmpty → get env 165 = .b false → K50 (some 0) env σ := by
          intro env w7 w8 w17 w19 w25 w
          refine h50 _ _ _ ?_
          refine ab_cond_of w (fun h => by cases h) (fun _ => ?_)
          simp
          refine h49 _ _ _ ?_
          clear h49 h50 K49 K50
          refine ab_seq_k fun K51 h51 => ?_
          refine ab_seq_k fun K52 h52 => ?_
          simp [w7, w8, w17, w19, w25]
          refine h52 _ _ _ ?_
          clear h52 K52
          refine ab_block_k fun K53 h53 => ?_
          refine ab_loop_k (fun m env σ => ∃ k : Nat, k + m = c.length ∧ env = [(7, .i .i64 a), (8, .b used), (17, .i .i64 n), (19, .i .i64 nx), (25, slL c c.isEmpty), (27, .i .i64 k)]) c.length ⟨0, by omega, by simp⟩ ?_
          rintro m2 env σ2 ⟨k, hk, rfl⟩ K54 h54
          rw [ic14_4]
          refine ab_seq_k fun K55 h55 => ?_
          refine ab_seq_k fun K56 h56 => ?_
          simp
          refine h56 _ _ _ ?_
          clear h56 K56
          refine ab_cond_of rfl (fun hc2 => ?_) (fun hc2 => ?_)
          · have hkl : k < c.length := by simpa using hc2
            obtain ⟨q, hq⟩ : ∃ q, c[k]? = some q := ⟨_, List.getElem?_eq_getElem hkl⟩
            obtain ⟨y1, y2, y3⟩ := lsV_get hq
            obtain ⟨hy2, y2'⟩ := List.getElem?_eq_some_iff.1 y2
            obtain ⟨hy3, y3'⟩ := List.getElem?_eq_some_iff.1 y3
            have hinq := hin q (List.mem_of_getElem? hq)
            simp
            refine h55 _ _ _ ?_
            clear h55 K55
            refine ab_seq_k fun K57 h57 => ?_
            refine ab_block_k fun K58 h58 => ?_
            have hn : ∀ env, get env 7 = .i .i64 a → get env 8 = .b used → get env 17 = .i .i64 n → get env 19 = .i .i64 nx → get env 25 = slL c c.isEmpty → get env 27 = .i .i64 k → K58 (some 0) env σ2 := by
              intro env w7 w8 w17 w19 w25 w27
              refine h58 _ _ _ ?_
              refine h57 _ _ _ ?_
              simp [w7, w8, w17, w19, w25, w27, wrap64 (x := (k : Int) + 1) (by omega) (by omega)]
              exact h54 _ _ _ (again (m2 - 1) (by omega) ⟨k + 1, by omega, by simp⟩)
            refine ab_seq_k fun K59 h59 => ?_
            by_cases hq1 : q.1 ≤ (a : Int)
            · by_cases hq2 : (a : Int) < q.2
              · have hu := hinq hq1 hq2
                simp [hkl, y2, y2', y3, y3', hq1, hq2, hu]
                refine h59 _ _ _ ?_
                refine ab_cond_of rfl (fun h => by cases h) (fun _ => ?_)
                simp
                exact hn _ rfl (by rw [hu]; rfl) rfl rfl rfl rfl
              · simp [hkl, y2, y2', y3, y3', hq1, hq2]
                refine h59 _ _ _ ?_
                refine ab_cond_of rfl (fun h => by cases h) (fun _ => ?_)
                simp
                exact hn _ rfl rfl rfl rfl rfl rfl
            · simp [hkl, y2, y2', y3, y3', hq1]
              refine h59 _ _ _ ?_
              refine ab_cond_of rfl (fun h => by cases h) (fun _ => ?_)
              simp
              exact hn _ rfl rfl rfl rfl rfl rfl
          · simp
            refine h53 _ _ _ ?_
            refine h51 _ _ _ ?_
            refine ab_seq_k fun K60 h60 => ?_
            simp [hle]
            refine callK_of (works0) ?_
            simp [hle]
            refine h60 _ _ _ ?_
            clear h60 K60
            simp
            exact fin_of 1 (by simp [rs14])
        cases hu : used with
        | true =>
          simp
          exact c1 _ rfl (by rw [hu]; rfl) rfl rfl rfl rfl
        | false =>
          have e1 := (hwaste hu).1
          have e2 := hcp hu
          simp [e1, e2]
          exact c1 _ rfl (by rw [hu]; rfl) rfl (by rw [e1]; rfl) rfl rfl
  · have hf' : fineP t b r = false := by simpa using hf
    simp [hf']
    refine h3 _ _ _ ?_
    refine ab_cond_of rfl (fun _ => ?_) (fun h => by cases h)
    refine ab_seq_k fun K4 h4 => ?_
    simp
    refine callK_of (works0) ?_
    simp
    refine h4 _ _ _ ?_
    clear h4 K4
    simp
    exact fin_of 1 (by simp [rs14])
end Go.Ab
