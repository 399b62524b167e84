/- newHeap: the walk. -/
import Derived.Test.YtgndegccjhdmmaaGreatJI
set_option linter.unusedVariables false
set_option linter.unusedSimpArgs false
set_option maxHeartbeats 4000000
set_option maxRecDepth 100000
namespace Go.Ab
open Go Go.Proofs

def JOK (J : List Lg) : Prop := 1 ≤ J.length ∧ J.length ≤ 12 ∧ ∀ p ∈ J, (∀ x ∈ p.2.1, 0 ≤ x ∧ x < (12 : Nat)) ∧ p.2.1.length ≤ 1000000
theorem JOK.small {J : List Lg} (h : JOK J) : SmallB J (byB J) := by
  refine ⟨by simp [byB], fun x hx => ?_⟩
  unfold byB at hx
  obtain ⟨p, hp, rfl⟩ := List.mem_map.1 hx
  have := setB_lt (h.2.2 p hp).1
  omega
theorem byB_take {J : List Lg} {i : Nat} {p : Lg} (h : J[i]? = some p) : us ((byB J).take (i + 1)) = us ((byB J).take i) ++ [.i .u16 (setB p.2.1)] := by
  have : (byB J)[i]? = some (setB p.2.1) := by unfold byB; rw [List.getElem?_map, h]; rfl
  rw [List.take_add_one, this]
  simp [us]
abbrev heapV (J : List Lg) (f : Bool) : V := hpV J f (byB J) (J.length == 0) (stV (left J) (2 ^ J.length))

theorem newHeap96 {J : List Lg} {f : Bool} {W : Nat} (hJ : JOK J) (hW : 2 ^ J.length = W) : FSpec Tryz.prog 96 [jamV J f] [] (hpV J f (byB J) (J.length == 0) (stV (left J) W)) [] := by
  have hsm := hJ.small
  obtain ⟨hN1, hN, hby⟩ := hJ
  have hpw := pow12 hN
  rw [hW] at hpw
  refine fn96.spec0 mixed itT_ok ?_
  rw [ic96]
  refine ab_seq_k fun K1 h1 => ?_
  simp
  refine h1 _ _ _ ?_
  clear h1 K1
  refine ab_seq_k fun K2 h2 => ?_
  simp
  refine h2 _ _ _ ?_
  clear h2 K2
  refine ab_seq_k fun K3 h3 => ?_
  refine ab_seq_k fun K4 h4 => ?_
  simp
  refine h4 _ _ _ ?_
  clear h4 K4
  refine ab_block_k fun K5 h5 => ?_
  refine ab_loop_k (fun m env σ => ∃ (i : Nat) (b : V), i + m = J.length ∧ env = [(1, .p 0 0 0), (3, .p 3 0 0), (17, slJ J f), (18, .i .i64 J.length), (19, .i .i64 i)] ∧ HpH J f i b [] 0 σ) J.length ⟨0, .ss [] 0 true, by omega, by simp, ⟨rfl, rfl, rfl, rfl, Gr.nil⟩⟩ ?_
  rintro m env σ ⟨i, b, hi, rfl, hH⟩ K6 h6
  rw [ic96_0]
  refine ab_seq_k fun K7 h7 => ?_
  simp
  refine h7 _ _ _ ?_
  clear h7 K7
  refine ab_seq_k fun K8 h8 => ?_
  refine ab_cond_of rfl (fun hc => ?_) (fun hc => ?_)
  · have hil : i < J.length := by simpa using hc
    obtain ⟨p, hp⟩ : ∃ p, J[i]? = some p := ⟨_, List.getElem?_eq_getElem hil⟩
    obtain ⟨e1, -, -⟩ := lgV_get hp
    obtain ⟨hb1, hb2⟩ := hby p (List.mem_of_getElem? hp)
    have hle : i * 2 + 2 ≤ J.length * 2 := by omega
    have hm2 : min 2 (J.length * 2 - i * 2) = 2 := by omega
    have hbt := byB_take hp
    simp
    refine h8 _ _ _ ?_
    clear h8 K8
    refine ab_seq_k fun K9 h9 => ?_
    refine ab_block_k fun K10 h10 => ?_
    refine ab_seq_k fun K11 h11 => ?_
    simp [hil, hle, e1, hm2]
    refine h11 _ _ _ ?_
    clear h11 K11
    have q0 := hH.app (g := [O.row 0 [V.i .i64 p.1, sl p.2.1 p.2.2]])
    have qL : (σ ++ [O.row 0 [V.i .i64 p.1, sl p.2.1 p.2.2]])[σ.length]? = some (O.row 0 [V.i .i64 p.1, sl p.2.1 p.2.2]) := by simp
    generalize σ ++ [O.row 0 [V.i .i64 p.1, sl p.2.1 p.2.2]] = U at *
    generalize σ.length = L at *
    clear hH σ
    obtain ⟨qj, qm, ql, qx, qg⟩ := q0
    obtain ⟨hqx, qx'⟩ := List.getElem?_eq_some_iff.1 qx
    obtain ⟨hql, ql'⟩ := List.getElem?_eq_some_iff.1 ql
    obtain ⟨hqL, qL'⟩ := List.getElem?_eq_some_iff.1 qL
    have hset := fun σ => FSpec.frame (σ := σ) (setOf64 (l := p.2.1) (f := p.2.2) hb1 hb2) (by simp) rfl
    simp [abDs_consU, drU, recheck_cons, recheck_nil, rcK, IS.dst, qx, qx', ql, ql', qL, qL']
    refine callK_of (hset _) ?_
    simp [abDs_consU, drU, recheck_cons, recheck_nil, rcK, IS.dst, qx, qx', ql, ql', qL, qL']
    refine appG qg (by omega) (by omega) (by omega) rfl ?_
    intro v' σ' hv' hgr
    have hbid : ∀ k, k < 4 → idOf b ≠ some k := fun k hk e => by have := (qg.id_ge e).1; omega
    have rx := hgr.get (hbid 3 (by omega)) qx
    have rl := hgr.get (hbid 2 (by omega)) ql
    have rj := hgr.get (hbid 0 (by omega)) qj
    have rm := hgr.get (hbid 1 (by omega)) qm
    obtain ⟨hrx, rx'⟩ := List.getElem?_eq_some_iff.1 rx
    obtain ⟨hrl, rl'⟩ := List.getElem?_eq_some_iff.1 rl
    simp [abDs_consU, drU, recheck_cons, recheck_nil, rcK, IS.dst, rx, rx', rl, rl']
    refine ⟨hv'.one, h10 _ _ _ (h9 _ _ _ ?_)⟩
    simp [wrap64 (x := (i : Int) + 1) (by omega) (by omega)]
    refine h6 _ _ _ (again (m - 1) (by omega) ⟨i + 1, v', by omega, by simp, ?_, ?_, List.getElem?_set_self hrl, ?_, ?_⟩)
    · rw [List.getElem?_set_ne (by omega)]; exact rj
    · rw [List.getElem?_set_ne (by omega)]; exact rm
    · rw [List.getElem?_set_ne (by omega)]; exact rx
    · rw [hbt]; exact hv'.setlt (by omega)
  · have hil : i = J.length := by simp at hc; omega
    subst hil
    simp
    refine h5 _ _ _ (h3 _ _ _ ?_)
    clear h3 h5 h6 h8 K3 K5 K6 K8
    refine ab_seq_k fun K12 h12 => ?_
    refine ab_seq_k fun K13 h13 => ?_
    obtain ⟨qj, qm, ql, qx, qg⟩ := hH
    obtain ⟨hqx, qx'⟩ := List.getElem?_eq_some_iff.1 qx
    simp [qx, qx']
    refine callK_of (sets91 rfl) ?_
    simp
    refine h13 _ _ _ ?_
    clear h13 K13
    refine ab_block_k fun K14 h14 => ?_
    have hqx4 : 3 < σ.length := hqx
    clear qx' hqx
    generalize hic : σ.length = ic at *
    refine ⟨W, XSet, SetAt J f ic (.p 2 0 0), sets_it hN hW, fun i σ2 => HpH J f J.length b (entsTo (left J) i) i σ2 ∧ σ2[ic]? = some (.row 0 [.p 2 0 0]), fun i σ2 ⟨h, h4⟩ => ⟨h4, .inr ⟨_, _, _, rfl, h.l⟩⟩, ⟨⟨app_get qj, app_get qm, app_get ql, app_get qx, qg.app⟩, by rw [← hic]; simp⟩, ?_, ?_⟩
    · rintro i x σ2 g hi ⟨rfl, rfl⟩ ⟨hq, hq4⟩
      refine ⟨rfl, ?_⟩
      generalize hKR : roundK _ _ _ = KR
      rw [List.append_nil]
      simp
      rw [ic96_2]
      have ez : List.replicate 12 (V.i .i64 0) = ints (rowF 12 (fun _ => 0)) := rfl
      have hEp : ∀ e ∈ entsTo (left J) i, e.2.2.pure = true := fun e he => by obtain ⟨s, -, rfl⟩ := entsTo_mem.1 he; rfl
      have hi16 : i < 65536 := by omega
      have hwav := waves63m (keys := i) hq hEp hsm hN hi16
      have hlf : left J i = leftTo (wr J (byB J) i J.length) J.length := rfl
      generalize wr J (byB J) i J.length = w at *
      obtain ⟨rj, rm, rl, rx, rg⟩ := hq
      obtain ⟨hrx, rx'⟩ := List.getElem?_eq_some_iff.1 rx
      refine ab_block_k fun K16 h16 => ?_
      refine ab_seq_k fun K17 h17 => ?_
      simp
      refine h17 _ _ _ ?_
      clear h17 K17
      refine ab_seq_k fun K18 h18 => ?_
      simp [-List.reduceReplicate, ez, rx, rx']
      refine callK_of hwav ?_
      simp [-List.reduceReplicate, ez, rx, rx']
      refine h18 _ _ _ ?_
      clear h18 K18 hwav
      have eR : ints (rowF 12 w) ++ List.drop 12 (ints (rowF 12 fun _ => 0)) = ints (rowF 12 w) := rfl
      rw [eR]
      have u0 := HpH.app (g := [O.row 0 (ints (rowF 12 w))]) ⟨rj, rm, rl, rx, rg⟩
      have u4 := app_get (g := [O.row 0 (ints (rowF 12 w))]) hq4
      have uL : (σ2 ++ [O.row 0 (ints (rowF 12 w))])[σ2.length]? = some (O.row 0 (ints (rowF 12 w))) := by simp
      have hicL : ic < σ2.length := (List.getElem?_eq_some_iff.1 hq4).1
      clear rx' hrx rj rm rl rx rg hq4 eR
      generalize σ2.length = L at *
      generalize σ2 ++ [O.row 0 (ints (rowF 12 w))] = U at *
      obtain ⟨uj, um, ul, ux, ug⟩ := u0
      obtain ⟨huj, uj'⟩ := List.getElem?_eq_some_iff.1 uj
      obtain ⟨huL, uL'⟩ := List.getElem?_eq_some_iff.1 uL
      obtain ⟨hux, ux'⟩ := List.getElem?_eq_some_iff.1 ux
      obtain ⟨hul, ul'⟩ := List.getElem?_eq_some_iff.1 ul
      obtain ⟨hum, -⟩ := List.getElem?_eq_some_iff.1 um
      refine ab_seq_k fun K20 h20 => ?_
      refine ab_seq_k fun K21 h21 => ?_
      simp [uj, uj']
      refine h21 _ _ _ ?_
      clear h21 K21
      refine ab_block_k fun K22 h22 => ?_
      refine ab_loop_k (fun m env σ => ∃ n : Nat, n + m = J.length ∧ env = [(3, .p 3 0 0), (6, .i .u16 i), (7, .i .u16 (leftTo w n)), (8, .p L 0 0), (44, .i .i64 J.length), (45, .i .i64 n)] ∧ σ = U) J.length ⟨0, by omega, by simp [leftTo], rfl⟩ ?_
      rintro m env σ ⟨n, hn, rfl, rfl⟩ K23 h23
      rw [ic96_1]
      refine ab_seq_k fun K24 h24 => ?_
      simp
      refine h24 _ _ _ ?_
      clear h24 K24
      refine ab_seq_k fun K25 h25 => ?_
      refine ab_cond_of rfl (fun hc => ?_) (fun hc => ?_)
      · have hnl : n < J.length := by simpa using hc
        have hn12 : n < 12 := by omega
        have hlt := leftTo_lt (w := w) (n := n) (by omega)
        simp
        refine h25 _ _ _ ?_
        clear h25 K25
        refine ab_seq_k fun K26 h26 => ?_
        refine ab_block_k fun K27 h27 => ?_
        refine ab_seq_k fun K28 h28 => ?_
        simp
        refine h28 _ _ _ ?_
        clear h28 K28
        have hend : ∀ env, get env 3 = .p 3 0 0 → get env 6 = .i .u16 i → get env 7 = .i .u16 (leftTo w (n + 1)) → get env 8 = .p L 0 0 → get env 44 = .i .i64 J.length → get env 45 = .i .i64 n → K27 (some 0) env σ := by
          intro env w3 w6 w7 w8 w44 w45
          refine h27 _ _ _ (h26 _ _ _ ?_)
          simp [w3, w6, w7, w8, w44, w45, wrap64 (x := (n : Int) + 1) (by omega) (by omega)]
          exact h23 _ _ _ (again (m - 1) (by omega) ⟨n + 1, by omega, by simp, rfl⟩)
        clear h26 h27 h23
        have hwn := rowF_get (n := 12) (f := w) hn12
        have hls : leftTo w (n + 1) = if w n < 0 then leftTo w n ||| 2 ^ n else leftTo w n := rfl
        refine ab_seq_k fun K29 h29 => ?_
        simp [uL, uL', hn12, hwn]
        refine ⟨by omega, h29 _ _ _ ?_⟩
        clear h29 K29
        by_cases hneg : w n < 0
        · refine ab_cond_of rfl (fun _ => ?_) (fun h => by simp [hneg] at h)
          rw [if_pos hneg] at hls
          have hp : 2 ^ n < 2 ^ 16 := Nat.pow_lt_pow_right (by omega) (by omega)
          have e3 := shl_nat' (m := n) (by omega)
          have e4 := or_nat (a := leftTo w n) (b := 2 ^ n) hlt hp
          generalize 2 ^ n = q at *
          simp [e3]
          rw [e4, ← hls]
          exact hend _ rfl rfl rfl rfl rfl rfl
        · refine ab_cond_of rfl (fun h => by simp [hneg] at h) (fun _ => ?_)
          rw [if_neg hneg] at hls
          simp
          exact hend _ rfl rfl (by rw [hls]; rfl) rfl rfl rfl
      · have hnl : n = J.length := by simp at hc; omega
        subst hnl
        rw [← hlf]
        simp
        refine h22 _ _ _ (h20 _ _ _ ?_)
        clear h20 h22 h23 h25
        simp [ux, ux', ul, ul']
        refine msetK_new (n := 1) (k := [(i : Int)]) entsTo_ok um rfl entsTo_none ?_
        rw [← entsTo_succ]
        simp
        refine h16 _ _ _ ?_
        rw [← hKR]
        refine ⟨rfl, .inl ⟨⟨?_, List.getElem?_set_self hum, ?_, ?_, ug.setlt (by omega)⟩, ?_⟩⟩
        · rw [List.getElem?_set_ne (by omega)]; exact uj
        · rw [List.getElem?_set_ne (by omega)]; exact ul
        · rw [List.getElem?_set_ne (by omega)]; exact ux
        · rw [List.getElem?_set_ne (by omega)]; exact u4
    · rintro σ2 ⟨hq, hq4⟩
      refine h14 _ _ _ (h12 _ _ _ ?_)
      clear h12 h14 hsm hq4
      have hbB : (byB J).length = J.length := by simp [byB]
      generalize left J = F at *
      generalize hE : entsTo F W = E at hq
      have hEok : MapOK 1 E W := by rw [← hE]; exact entsTo_ok
      have hEm : ∀ e ∈ E, ∃ s, s < W ∧ e = entS F s := fun e he => entsTo_mem.1 (by rw [hE]; exact he)
      obtain ⟨qj, qm, ql, qx, qg⟩ := hq
      obtain ⟨hqx, qx'⟩ := List.getElem?_eq_some_iff.1 qx
      obtain ⟨hql, ql'⟩ := List.getElem?_eq_some_iff.1 ql
      refine ab_seq_k fun K20 h20 => ?_
      refine ab_seq_k fun K21 h21 => ?_
      simp [qx, qx', ql, ql']
      refine rng_K qm ?_
      simp
      refine h21 _ _ _ ?_
      clear h21 K21
      have hbI : idOf b ≠ some σ2.length := fun e => by have := (qg.id_ge e).2; omega
      have hI4 : 4 ≤ σ2.length := by omega
      refine ab_block_k fun K22 h22 => ?_
      have qi0 : (σ2 ++ [O.it 1 W [] W])[σ2.length]? = some (.it 1 W [] W) := by simp
      have e0 : (E.filter (leftE F [])) = E := by rw [List.filter_eq_self]; intro e _; simp [leftE]
      have qH : HpH J f J.length b (E.filter (leftE F [])) W (σ2 ++ [O.it 1 W [] W]) := by rw [e0]; exact ⟨app_get qj, app_get qm, app_get ql, app_get qx, qg.app⟩
      clear e0 qj qm ql qx qg qx' ql' hqx hql
      generalize σ2 ++ [O.it 1 W [] W] = U at *
      generalize σ2.length = I at *
      clear σ2
      refine ab_loop_k (fun m env σ => ∃ seen : List Nat, (E.filter fun e => decide (e.1 ∉ seen)).length = m ∧ env = [(3, .p 3 0 0), (68, .p I 0 0)] ∧ HpH J f J.length b (E.filter (leftE F seen)) W σ ∧ σ[I]? = some (.it 1 W seen W)) _
        ⟨[], rfl, by simp, qH, qi0⟩ ?_
      clear qH qi0 U
      rintro m env σ ⟨seen, hm, rfl, ⟨qj, qm, ql, qx, qg⟩, qi⟩ K23 h23
      obtain ⟨hqx, qx'⟩ := List.getElem?_eq_some_iff.1 qx
      obtain ⟨hql, ql'⟩ := List.getElem?_eq_some_iff.1 ql
      obtain ⟨hqi, -⟩ := List.getElem?_eq_some_iff.1 qi
      have hFok := hEok.filter (p := leftE F seen)
      rw [ic96_3]
      refine ab_seq_k fun K24 h24 => ?_
      simp
      refine nxt_K qi qm ?_ ?_ ?_
      · intro e he
        unfold mpV at he
        obtain ⟨x, hx, rfl⟩ := List.mem_map.1 he
        exact hFok.lt x hx
      · intro hall
        simp
        refine h24 _ _ _ ?_
        refine ab_seq_k fun K25 h25 => ?_
        refine ab_cond_of rfl (fun h => by cases h) (fun _ => ?_)
        simp
        refine h22 _ _ _ (h20 _ _ _ ?_)
        clear h20 h22 h23 h24 h25
        have hev : (E.filter (leftE F seen)) = stuckE F W := by
          unfold stuckE
          rw [hE]
          refine List.filter_congr fun e he => ?_
          unfold leftE at hall ⊢
          cases hg : goodE F e with
          | true => simp
          | false =>
            by_cases hs : e.1 ∈ seen
            · simp [hs]
            · exfalso
              exact hs (hall _ (List.mem_map.2 ⟨e, List.mem_filter.2 ⟨he, by simp [hs]⟩, rfl⟩))
        rw [hev] at qm
        have hevp : ∀ e ∈ stuckE F W, e.2.2.pure = true := fun e he => by
          obtain ⟨s, -, rfl⟩ := entsTo_mem.1 (List.mem_filter.1 he).1
          rfl
        rw [List.take_of_length_le (by omega)] at qg
        refine ab_seq_k fun K26 h26 => ?_
        simp [qx, qx']
        refine h26 _ _ _ ?_
        simp
        refine fin_of 4 ?_
        simp [-frz, rs96]
        have h1 := frz_mp (k := 1) (n := 0) qm (Nat.zero_le _) hevp
        have h2 := frz_G' (kk := 1) qg (by simp)
        rw [frz_hp (k := 2) ql, h1, h2]
        show V.sp (hpC J f (.ss (us (byB J)) J.length _) (stV F W)) 0 = V.sp (hpC J f (.ss (us (byB J)) (byB J).length _) (stV F W)) 0
        rw [hbB]
      · intro e he hns
        unfold mpV at he
        obtain ⟨e2, he2, rfl⟩ := List.mem_map.1 he
        clear he
        have he := he2
        clear he2
        simp only at hns
        obtain ⟨hef, hep⟩ := List.mem_filter.1 he
        obtain ⟨s, hs, rfl⟩ := hEm e2 hef
        have hns2 : s ∉ seen := hns
        have hfs := find_stamp hFok he
        simp only [entS] at hfs
        have uj : (σ.set I (O.it 1 W (seen ++ [s]) W))[0]? = some (.row 0 [slJ J f]) := by rw [List.getElem?_set_ne (by omega)]; exact qj
        have ux : (σ.set I (O.it 1 W (seen ++ [s]) W))[3]? = some (.row 0 [.p 2 0 0]) := by rw [List.getElem?_set_ne (by omega)]; exact qx
        have ul : (σ.set I (O.it 1 W (seen ++ [s]) W))[2]? = some (.row 0 (hpC J f b (.m 1))) := by rw [List.getElem?_set_ne (by omega)]; exact ql
        have um : (σ.set I (O.it 1 W (seen ++ [s]) W))[1]? = some (.map (mpV (E.filter (leftE F seen))) W) := by rw [List.getElem?_set_ne (by omega)]; exact qm
        have ui : (σ.set I (O.it 1 W (seen ++ [s]) W))[I]? = some (.it 1 W (seen ++ [s]) W) := List.getElem?_set_self hqi
        have ug : Gr 4 1 (σ.set I (O.it 1 W (seen ++ [s]) W)) b J.length (us ((byB J).take J.length)) := qg.set hbI
        simp [entS]
        generalize σ.set I (O.it 1 W (seen ++ [s]) W) = U at *
        refine h24 _ _ _ ?_
        clear h24 K24
        refine ab_seq_k fun K25 h25 => ?_
        refine ab_cond_of rfl (fun _ => ?_) (fun h => by cases h)
        simp
        refine h25 _ _ _ ?_
        clear h25 K25
        refine ab_block_k fun K26 h26 => ?_
        refine ab_seq_k fun K27 h27 => ?_
        simp
        refine ent_K ui um hfs ?_
        simp
        refine h27 _ _ _ ?_
        clear h27 K27
        have hm' : (E.filter fun e => decide (e.1 ∉ seen ++ [s])).length < m := by
          rw [← hm]
          have e : (E.filter fun e => decide (e.1 ∉ seen ++ [s])) = (E.filter fun e => decide (e.1 ∉ seen)).filter fun e => !decide (e.1 = s) := by
            rw [List.filter_filter]
            refine List.filter_congr (fun p _ => ?_)
            rw [Bool.eq_iff_iff]
            simp
            exact And.comm
          rw [e, List.length_filter_lt_length_iff_exists]
          exact ⟨_, List.mem_filter.2 ⟨hef, decide_eq_true hns2⟩, by simp [entS]⟩
        have vr : (U ++ [O.row 0 [V.i .u16 (s : Int)]])[U.length]? = some (O.row 0 [V.i .u16 (s : Int)]) := by simp
        have v0 : HpH J f J.length b (E.filter (leftE F seen)) W (U ++ [O.row 0 [V.i .u16 (s : Int)]]) := ⟨app_get uj, app_get um, app_get ul, app_get ux, ug.app⟩
        have vi := app_get (g := [O.row 0 [V.i .u16 (s : Int)]]) ui
        clear uj um ul ux ug ui qi qj qm ql qx qg qx' ql' hqx hql hqi σ
        generalize U ++ [O.row 0 [V.i .u16 (s : Int)]] = V' at *
        generalize U.length = ri at *
        clear U
        obtain ⟨vj, vm, vl, vx, vg⟩ := v0
        obtain ⟨hvx, vx'⟩ := List.getElem?_eq_some_iff.1 vx
        obtain ⟨hvl, vl'⟩ := List.getElem?_eq_some_iff.1 vl
        obtain ⟨hvr, vr'⟩ := List.getElem?_eq_some_iff.1 vr
        obtain ⟨hvm, -⟩ := List.getElem?_eq_some_iff.1 vm
        have hdone : ∀ env V'' E'', get env 3 = .p 3 0 0 → get env 68 = .p I 0 0 → E'' = (E.filter (leftE F (seen ++ [s]))) → HpH J f J.length b E'' W V'' → V''[I]? = some (.it 1 W (seen ++ [s]) W) → K26 (some 0) env V'' := by
          rintro env V'' E'' w3 w68 rfl a0 a4
          refine h26 _ _ _ (h23 _ _ _ (again _ hm' ⟨seen ++ [s], rfl, ?_, a0, a4⟩))
          simp [w3, w68]
        clear h26 h23
        have hgd : ∀ v, goodE F (s, [(s : Int)], v) = decide (F s ≠ 0) := fun v => rfl
        have huniq : ∀ p ∈ E, p.1 = s → p = entS F s := fun p hp h => by
          obtain ⟨s', hs', rfl⟩ := hEm p hp
          have : s' = s := h
          rw [this]
        refine ab_seq_k fun K28 h28 => ?_
        simp
        refine h28 _ _ _ ?_
        clear h28 K28
        by_cases hz : F s = 0
        · refine ab_cond_of rfl (fun _ => ?_) (fun h => by simp [hz] at h)
          obtain ⟨j, s', hj, hfi⟩ := lk_some (lk_at hFok (List.mem_iff_getElem?.1 he).choose_spec)
          simp [abDs_consU, drU, recheck_cons, recheck_nil, rcK, IS.dst, vx, vx', vl, vl', vr, vr']
          refine mdelK_old (n := 1) (k := [(s : Int)]) (v := .u) hFok vm hfi rfl ?_
          simp [abDs_consU, drU, recheck_cons, recheck_nil, rcK, IS.dst]
          refine hdone _ _ _ rfl rfl ?_ ⟨by rw [List.getElem?_set_ne (by omega)]; exact vj, List.getElem?_set_self hvm, by rw [List.getElem?_set_ne (by omega)]; exact vl, by rw [List.getElem?_set_ne (by omega)]; exact vx, vg.setlt (by omega)⟩ (by rw [List.getElem?_set_ne (by omega)]; exact vi)
          rw [erase_filter hFok hfi, List.filter_filter]
          refine List.filter_congr fun p hp => ?_
          by_cases hps : p.1 = s
          · rw [huniq p hp hps]
            simp [leftE, hgd, hz, entS]
          · have hk : ¬ p.2.1 = [(s : Int)] := fun h => by
              obtain ⟨s', hs', rfl⟩ := hEm p hp
              simp [entS] at h hps
              omega
            simp [leftE, hk, hps, entS]
        · refine ab_cond_of rfl (fun h => by simp at h; omega) (fun _ => ?_)
          simp
          refine hdone _ _ _ rfl rfl ?_ ⟨vj, vm, vl, vx, vg⟩ vi
          refine List.filter_congr fun p hp => ?_
          by_cases hps : p.1 = s
          · rw [huniq p hp hps]
            simp [leftE, hgd, hz, entS]
          · simp [leftE, hps]
end Go.Ab
