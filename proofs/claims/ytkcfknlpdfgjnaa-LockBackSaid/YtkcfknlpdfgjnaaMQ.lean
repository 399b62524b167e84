/- The law LockBack. -/
import Derived.Test.YtkcfknlpdfgjnaaMO
set_option linter.unusedVariables false
set_option linter.unusedSimpArgs false
set_option maxHeartbeats 4000000
set_option maxRecDepth 100000
namespace Go.Ab
open Go Go.Proofs

theorem turnT_take {T : Tw} {i : Nat} {p : Int × Int} (h : T[i]? = some p) : turnT (T.take (i + 1)) = turnT (T.take i) ++ [(p.2, p.1)] := by
  rw [List.take_add_one, h]; simp [turnT]
theorem turned46 {T : Tw} {ft : Bool} {room : Int} (hn7 : T.length ≤ 7) : FSpec Try.prog 46 [towV T ft room] [] (towV (turnT T) T.isEmpty room) [] := by
  refine fn46.spec0 mixed noIt_ok ?_
  rw [ic46]
  refine ab_seq_k fun K1 h1 => ?_
  simp
  refine h1 _ _ _ ?_
  clear h1 K1
  refine ab_seq_k fun K2 h2 => ?_
  simp [get1_towC]
  refine h2 _ _ _ ?_
  clear h2 K2
  refine ab_seq_k fun K3 h3 => ?_
  refine ab_seq_k fun K4 h4 => ?_
  simp
  refine h4 _ _ _ ?_
  clear h4 K4
  refine ab_block_k fun K5 h5 => ?_
  refine ab_loop_k (fun m env σ => ∃ (i : Nat) (v : V), i + m = T.length ∧ env = [(1, .p 0 0 0), (2, .p 1 0 0), (3, .p 2 0 0), (4, .i .i64 i)] ∧ σ[0]? = some (.row 0 (towC T ft room)) ∧ σ[1]? = some (.row 0 [.ss [] 0 true, .i .i64 0]) ∧ σ[2]? = some (.row 0 [v, .i .i64 room]) ∧ Gr 3 2 σ v i (lsV (turnT (T.take i)))) T.length ⟨0, .ss [] 0 true, by omega, by simp, rfl, rfl, rfl, by simpa [turnT, lsV] using Gr.nil⟩ ?_
  rintro m env σ ⟨i, v, hi, rfl, s0, s1, s2, hv⟩ K6 h6
  have hσ3 : 3 ≤ σ.length := by have := (List.getElem?_eq_some_iff.1 s2).1; omega
  obtain ⟨hs0, s0'⟩ := List.getElem?_eq_some_iff.1 s0
  obtain ⟨hs2, s2'⟩ := List.getElem?_eq_some_iff.1 s2
  rw [ic46_0]
  refine ab_seq_k fun K7 h7 => ?_
  refine ab_seq_k fun K8 h8 => ?_
  simp [s0, s0', get0_towC]
  refine h8 _ _ _ ?_
  clear h8 K8
  refine ab_cond_of rfl (fun hc => ?_) (fun hc => ?_)
  · have hil : i < T.length := by simpa using hc
    obtain ⟨p, hp⟩ : ∃ p, T[i]? = some p := ⟨_, List.getElem?_eq_getElem hil⟩
    obtain ⟨z1, z2, z3⟩ := lsV_get hp
    obtain ⟨hz2, z2'⟩ := List.getElem?_eq_some_iff.1 z2
    obtain ⟨hz3, z3'⟩ := List.getElem?_eq_some_iff.1 z3
    simp
    refine h7 _ _ _ ?_
    clear h7 K7
    refine ab_seq_k fun K9 h9 => ?_
    refine ab_block_k fun K10 h10 => ?_
    simp [abDs_consU, drU, recheck_cons, recheck_nil, rcK, IS.dst, s0, s0', s2, s2', get0_towC, hil, z2, z2', z3, z3']
    refine appG hv hσ3 (by omega) (by simp) rfl ?_
    intro v' σ' hg1 hg2
    have e : lsV (turnT (T.take i)) ++ [V.i IntKind.i64 p.2, V.i IntKind.i64 p.1] = lsV (turnT (T.take (i + 1))) := by rw [turnT_take hp, lsV_append]; rfl
    rw [e] at hg1
    have t0 := s0
    have t1 := s1
    have t2 := s2
    rw [← hg2.lt hv (by omega) hσ3] at t0 t1 t2
    obtain ⟨ht2, t2'⟩ := List.getElem?_eq_some_iff.1 t2
    simp [abDs_consU, drU, recheck_cons, recheck_nil, rcK, IS.dst, t2, t2']
    refine ⟨hg1.one, h10 _ _ _ ?_⟩
    refine h9 _ _ _ ?_
    simp [wrap64 (x := (i : Int) + 1) (by omega) (by omega)]
    refine h6 _ _ _ (again (m - 1) (by omega) ⟨i + 1, v', by omega, by simp, ?_, ?_, ?_, hg1.setlt (by omega)⟩)
    · rw [List.getElem?_set_ne (by omega)]; exact t0
    · rw [List.getElem?_set_ne (by omega)]; exact t1
    · rw [List.getElem?_set_self ht2]
  · have hil : i = T.length := by simp at hc; omega
    subst hil
    rw [List.take_length] at hv
    simp
    refine h5 _ _ _ ?_
    refine h3 _ _ _ ?_
    obtain ⟨hs1, s1'⟩ := List.getElem?_eq_some_iff.1 s1
    have hv1 := hv.one
    refine ab_seq_k fun K20 h20 => ?_
    simp [s2, s2', s1, s1']
    refine h20 _ _ _ ?_
    clear h20 K20
    simp
    refine fin_of 3 ?_
    have w1 : (σ.set 1 (O.row 0 [v, V.i IntKind.i64 room]))[1]? = some (.row 0 [v, .i .i64 room]) := List.getElem?_set_self hs1
    have hv2 := hv.setlt (i := 1) (o := O.row 0 [v, V.i IntKind.i64 room]) (by omega)
    have hf := frz_G hv2 pure_lsV
    generalize σ.set 1 (O.row 0 [v, V.i IntKind.i64 room]) = W at *
    obtain ⟨hw1, w1'⟩ := List.getElem?_eq_some_iff.1 w1
    have he : (T.length == 0) = T.isEmpty := by cases T <;> rfl
    rw [he] at hf
    simp [-frz, rs46, w1, w1', hw1]
    rw [frz_agg2 hf (b := .i .i64 room) (b' := .i .i64 room) (by simp)]
    show V.agg [.ss (lsV (turnT T)) T.length _, _] = .agg [.ss (lsV (turnT T)) (turnT T).length _, _]
    rw [turnT_len]

theorem lockBack {T : Tw} {ft fb : Bool} {room : Int} {by_ : List Int} {x y : Int} (hl : (T.length : Int) < 9223372036854775808) (hb : (by_.length : Int) < 9223372036854775808) (hb2 : ∀ x ∈ by_, 0 ≤ x ∧ x < 256) (hx0 : 0 ≤ x) (hx1 : x < 256) (hy0 : 0 ≤ y) (hy1 : y < 65536) :
    FSpec Try.prog 10 [towV T ft room, slB by_ fb, .i .u8 x, .i .u16 y] [] (.b true) [] := by
  refine fn10.spec0 mixed noIt_ok ?_
  rw [ic10]
  have hfi := fun σ => FSpec.frame (σ := σ) (fine40 (T := T) (ft := ft) (room := room) hl) (by simp) rfl
  refine ab_seq_k fun K1 h1 => ?_
  simp
  refine h1 _ _ _ ?_
  clear h1 K1
  refine ab_seq_k fun K2 h2 => ?_
  refine ab_seq_k fun K3 h3 => ?_
  simp [take_towC]
  refine callK_of (hfi _) ?_
  have hret : ∀ env σ, get env 34 = .b true → K3 (some 0) env σ := by
    intro env σ w
    refine h3 _ _ _ ?_
    refine ab_cond_of w (fun _ => ?_) (fun h => by cases h)
    refine ab_seq_k fun K4 h4 => ?_
    simp
    refine callK_of (wk _) ?_
    simp
    refine h4 _ _ _ ?_
    clear h4 K4
    simp
    exact fin_of 1 (by simp [rs10])
  by_cases hct0 : ¬ checkTow T room = 0
  · have hf : fineB T room = false := by simp [fineB, hct0]
    simp [hf]
    exact hret _ _ rfl
  replace hct0 : checkTow T room = 0 := Classical.not_not.1 hct0
  have hf : fineB T room = true := by simp [fineB, hct0]
  by_cases hg2 : (20 : Int) < by_.length
  · simp [hf, hg2]
    exact hret _ _ rfl
  simp [hf, hg2]
  refine h3 _ _ _ ?_
  clear h3 hret K3
  refine ab_cond_of rfl (fun h => by cases h) (fun _ => ?_)
  simp
  refine h2 _ _ _ ?_
  clear h2 K2
  obtain ⟨n1, n7, tb, r0, r7⟩ := tow_len hct0
  have hl9 : (T.length : Int) < 1000000000 := by omega
  have hgiv := orderBy_ord (by_ := by_) (n := T.length)
  obtain ⟨g1, g2, g3⟩ := isOrd_spec hgiv
  obtain ⟨R, hR⟩ : ∃ R : Nat, (R : Int) = room := ⟨room.toNat, by omega⟩
  have hct1 : checkTow (turnT T) room = 0 := check_ok (TB.turn tb) (by simp; omega) (by simp; omega) r0 r7
  have hte : T.isEmpty = false := by cases T with
    | nil => simp at n1
    | cons a l => rfl
  have G5 := fun σ => FSpec.frame (σ := σ) (turned46 (T := T) (ft := ft) (room := room) n7) (by simp) (by simp)
  rw [hte] at G5
  have G6 := fun σ => FSpec.frame (σ := σ) (order41 (T := T) (ft := ft) (fb := fb) (room := room) (by_ := by_) n1 n7 (by omega) (fun x hx => by have := hb2 x hx; omega)) (by simp) (by simp)
  have G7 := fun σ => FSpec.frame (σ := σ) (time_ok (T := T) (ft := ft) (fo := false) (room := room) (o := orderBy by_ T.length) hl9 (by omega)) (by simp) (by simp [pairV])
  have G8 := time_ok (T := turnT T) (ft := false) (fo := false) (room := room) (o := (orderBy by_ T.length).reverse) (by simpa using hl9) (by simp; omega)
  have htp : timeP T room (orderBy by_ T.length) = (timeR T room (orderBy by_ T.length), 0) := by simp [timeP, timeR, ordE, hct0, hgiv]
  have htp2 : timeP (turnT T) room (orderBy by_ T.length).reverse = (timeR T room (orderBy by_ T.length), 0) := by
    have h := time_turn (T := T) (R := R) (o := orderBy by_ T.length) tb
    rw [hR] at h
    have h2 := isOrd_rev hgiv
    rw [← h]
    simp [timeP, timeR, ordE, hct1, h2]
  rw [htp] at G7
  rw [htp2] at G8
  have G9 := fun σ => FSpec.frame (σ := σ) (prgBest (T := T) (ft := ft) (room := room) hl9) (by simp) (by simp [pairV])
  have GA := fun σ => FSpec.frame (σ := σ) (prgBest (T := turnT T) (ft := false) (room := room) (by simpa using hl9)) (by simp) (by simp [pairV])
  have hbp : bestP T room = (bestT T room, 0) := by simp [bestP, hct0, bestT]
  have hbp2 : bestP (turnT T) room = (bestT T room, 0) := by
    have h := best_turn (T := T) (R := R) tb
    rw [hR] at h
    rw [← h]
    simp [bestP, hct1, bestT]
  rw [hbp] at G9
  rw [hbp2] at GA
  have hkx : 1 + x % 2 = 1 ∨ 1 + x % 2 = 2 := by omega
  have hty0 : 0 ≤ y % 1001 := by omega
  have hty1 : y % 1001 ≤ 1000 := by omega
  have hxa : x.tmod 2 = x % 2 := Int.tmod_eq_emod_of_nonneg hx0
  have hya : y.tmod 1001 = y % 1001 := Int.tmod_eq_emod_of_nonneg hy0
  generalize y % 1001 = t at *
  generalize hk1 : 1 + x % 2 = k1 at *
  have hk1w : IntKind.i64.wrap (1 + x % 2) = k1 := by rw [wrap64 (by omega) (by omega)]; exact hk1
  have hk2w : IntKind.i64.wrap (3 - k1) = 3 - k1 := wrap64 (by omega) (by omega)
  have GB := fun σ => FSpec.frame (σ := σ) (prgBound (T := T) (ft := ft) (room := room) (lock := k1) (t := t) hl9) (by simp) (by simp [pairV])
  have GC := fun σ => FSpec.frame (σ := σ) (prgBound (T := turnT T) (ft := false) (room := room) (lock := 3 - k1) (t := t) (by simpa using hl9)) (by simp) (by simp [pairV])
  have hbd : boundP (turnT T) room (3 - k1) t = boundP T room k1 t := by
    unfold boundP boundE
    rw [bound_turn hkx, hct0, hct1]
    rcases hkx with rfl | rfl <;> simp
  rw [hbd] at GC
  generalize boundP T room k1 t = bp at *
  generalize bestT T room = bt at *
  generalize timeR T room (orderBy by_ T.length) = ta at *
  generalize orderBy by_ T.length = o at *
  refine ab_seq_k fun K5 h5 => ?_
  simp [take_towC]
  refine callK_of (G5 _) ?_
  simp [take_towC]
  refine h5 _ _ _ ?_
  clear h5 K5
  refine ab_seq_k fun K6 h6 => ?_
  simp [take_towC]
  refine callK_of (G6 _) ?_
  simp [take_towC]
  refine h6 _ _ _ ?_
  clear h6 K6
  refine ab_seq_k fun K7 h7 => ?_
  simp
  refine h7 _ _ _ ?_
  clear h7 K7
  refine ab_seq_k fun K8 h8 => ?_
  refine ab_seq_k fun K9 h9 => ?_
  simp [g1, wrap64 (x := (T.length : Int) - 1) (by omega) (by omega)]
  refine h9 _ _ _ ?_
  clear h9 K9
  refine ab_block_k fun K10 h10 => ?_
  have hrl : o.reverse.length = T.length := by simp [g1]
  refine ab_loop_k (fun m env σ => ∃ (i : Nat) (v : V), i + m = T.length ∧ env = [(2, .i .u8 x), (3, .i .u16 y), (4, .p 0 0 0), (9, .p 1 0 0), (10, sl o false), (11, v), (12, .i .i64 ((T.length : Int) - 1 - i))] ∧ σ[0]? = some (.row 0 (towC T ft room)) ∧ σ[1]? = some (.row 0 (towC (turnT T) false room)) ∧ Gr 2 1 σ v (o.reverse.take i).length (ints (o.reverse.take i))) T.length ⟨0, .ss [] 0 true, by omega, by simp, rfl, rfl, by simpa [ints] using Gr.nil⟩ ?_
  rintro m env σ ⟨i, v, hi, rfl, s0, s1, hv⟩ K11 h11
  have hσ2 : 2 ≤ σ.length := by have := (List.getElem?_eq_some_iff.1 s1).1; omega
  rw [ic10_0]
  refine ab_seq_k fun K12 h12 => ?_
  refine ab_seq_k fun K13 h13 => ?_
  simp
  refine h13 _ _ _ ?_
  clear h13 K13
  refine ab_cond_of rfl (fun hc => ?_) (fun hc => ?_)
  · have hil : i < T.length := by have := of_decide_eq_true hc; omega
    have hx2 := o_some (o := o.reverse) (j := i) (by omega)
    have hx3 : o[T.length - 1 - i]? = some (o.reverse.getD i 0) := by
      rw [← hx2, List.getElem?_reverse (by omega), g1]
    have hz : ((T.length : Int) - 1 - i).toNat = T.length - 1 - i := by omega
    have hz0 : 0 ≤ (T.length : Int) - 1 - i := by omega
    have hz1 : (T.length : Int) - 1 - i < o.length := by omega
    have hzl : T.length - 1 - i < o.length := by omega
    have htk : o.reverse.take (i + 1) = o.reverse.take i ++ [o.reverse.getD i 0] := by rw [List.take_add_one, hx2]; rfl
    have hvl : (o.reverse.take i).length = i := by rw [List.length_take]; omega
    generalize o.reverse.getD i 0 = u at *
    obtain ⟨hxl, hx4⟩ := List.getElem?_eq_some_iff.1 hx3
    simp
    refine h12 _ _ _ ?_
    clear h12 K12
    refine ab_seq_k fun K14 h14 => ?_
    refine ab_block_k fun K15 h15 => ?_
    simp [hz, hz0, hz1, hzl, hx3, hx4]
    refine ⟨by omega, ?_⟩
    refine appG hv hσ2 (by omega) (by simp) rfl ?_
    intro v' σ' hg1 hg2
    have e : ints (o.reverse.take i) ++ [V.i IntKind.i64 u] = ints (o.reverse.take (i + 1)) := by rw [htk]; simp [ints]
    rw [e] at hg1
    have hvl2 : (o.reverse.take i).length + 1 = (o.reverse.take (i + 1)).length := by rw [htk]; simp
    rw [hvl2] at hg1
    simp
    refine h15 _ _ _ ?_
    refine h14 _ _ _ ?_
    simp [wrap64 (x := (T.length : Int) - 1 - i - 1) (by omega) (by omega)]
    refine h11 _ _ _ (again (m - 1) (by omega) ⟨i + 1, v', by omega, by simp; omega, ?_, ?_, hg1⟩)
    · rw [hg2.lt hv (by omega) hσ2]; exact s0
    · rw [hg2.lt hv (by omega) hσ2]; exact s1
  · have hil : i = T.length := by have := of_decide_eq_false hc; omega
    subst hil
    have hto : o.reverse.take T.length = o.reverse := List.take_of_length_le (by omega)
    rw [hto] at hv
    have hfz : frz 2 0 σ v = sl o.reverse false := by
      have h := frz_G hv pure_ints
      have : (o.reverse.length == 0) = false := by rw [hrl, beq_eq_false_iff_ne]; omega
      rw [h, this]
    simp
    refine h10 _ _ _ ?_
    refine h8 _ _ _ ?_
    clear h8 h10 h11 h12
    obtain ⟨hs0, s0'⟩ := List.getElem?_eq_some_iff.1 s0
    obtain ⟨hs1, s1'⟩ := List.getElem?_eq_some_iff.1 s1
    have GF : FSpec Try.prog 19 [towV (turnT T) false room, v] σ (pairV (ta, 0)) σ := by
      refine FSpec.frozen 2 ?_ rfl
      have h1 : frz 2 0 σ (towV (turnT T) false room) = towV (turnT T) false room := frz_pure (by simp)
      simp only [List.map_cons, List.map_nil, hfz, h1]
      exact G8
    refine ab_seq_k fun K20 h20 => ?_
    simp [wrap64 (x := x) (by omega) (by omega), wrap64 (x := y) (by omega) (by omega), hxa, hya, hk1w]
    refine h20 _ _ _ ?_
    clear h20 K20
    refine ab_seq_k fun K21 h21 => ?_
    simp [s0, s0', take_towC, pairV]
    refine callK_of (G7 _) ?_
    simp [s0, s0', take_towC, pairV]
    refine h21 _ _ _ ?_
    clear h21 K21
    refine ab_seq_k fun K22 h22 => ?_
    simp [s1, s1', take_towC, pairV]
    refine callK_of (GF) ?_
    simp [s1, s1', take_towC, pairV]
    refine h22 _ _ _ ?_
    clear h22 K22
    refine ab_seq_k fun K23 h23 => ?_
    simp [s0, s0', take_towC, pairV]
    refine callK_of (G9 _) ?_
    simp [s0, s0', take_towC, pairV]
    refine h23 _ _ _ ?_
    clear h23 K23
    refine ab_seq_k fun K24 h24 => ?_
    simp [s1, s1', take_towC, pairV]
    refine callK_of (GA _) ?_
    simp [s1, s1', take_towC, pairV]
    refine h24 _ _ _ ?_
    clear h24 K24
    refine ab_seq_k fun K25 h25 => ?_
    simp [s0, s0', take_towC, pairV]
    refine callK_of (GB _) ?_
    simp [s0, s0', take_towC, pairV]
    refine h25 _ _ _ ?_
    clear h25 K25
    refine ab_seq_k fun K26 h26 => ?_
    simp [s1, s1', take_towC, pairV, hk2w]
    refine callK_of (GC _) ?_
    simp [s1, s1', take_towC, pairV, hk2w]
    refine h26 _ _ _ ?_
    clear h26 K26
    refine ab_seq_k fun K27 h27 => ?_
    simp
    refine callK_of (wk _) ?_
    simp
    refine h27 _ _ _ ?_
    clear h27 K27
    simp
    exact fin_of 1 (by simp [rs10])
end Go.Ab
